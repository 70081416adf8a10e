/- The walk of race.right. -/
import Derived.Test.YtfldajplclahfaaRsSpec
import Derived.Test.YtfldajplclahfaaRcAt
import Derived.Test.YtfldajplclahfaaGRdT
namespace Go.Proofs.Ytfldajplclahfaa
open Go.RowKit
set_option linter.unusedVariables false
theorem infoI3 : (Try.prog.info? 3).map (fun i => (i.zero, i.size, i.bytes)) = some (some (.int .i64 0), 1, 8) := by kernel_rfl
noncomputable def goodB (t : Tm) (o : List Int) : Bool := @decide (GoodO t o) (Classical.propDecidable _)
theorem goodB_true {t : Tm} {o : List Int} (h : GoodO t o) : goodB t o = true := by unfold goodB; exact @decide_eq_true _ (Classical.propDecidable _) h
theorem goodB_false {t : Tm} {o : List Int} (h : ¬ GoodO t o) : goodB t o = false := by unfold goodB; exact @decide_eq_false _ (Classical.propDecidable _) h
def encZ (x : Int) : Value := .int .i64 x
set_option maxHeartbeats 4000000 in
set_option maxRecDepth 100000 in
theorem right_any (t : Tm) (o : List Int) (w : World) (S So : Blocks) (V U : Value) (hS : Sub S (Upto w.heap.size)) (r : RdT w S t V) (hSo : Sub So (Upto w.heap.size)) (ro : RdI w So o U) (hl : t.count ≤ 1048576) :
    Calls Try.prog 26 #[V, U] w fun e w' => e = .returned (.bool (goodB t o)) ∧ Below w.heap.size w w' := by
  obtain ⟨i0, hi, hz0, hz1, hz2⟩ := info_parts infoI3
  obtain ⟨k, c, wb, lb, kids, v, et, rfl, h1, h2, h3, h4⟩ := id r
  obtain ⟨A1, n1, rfl, _⟩ := h4.form
  obtain ⟨Ao, co, rfl, hol, hom, _⟩ := ro.form
  unfold maxLen at hom
  have bel : Below w.heap.size w (w.alloc (.cells #[.int .i64 k, .int .i64 c, .bool wb, .int .i64 lb, .slice A1 kids.length n1] 26)) := (Below.refl _ _).alloc (Nat.le_refl _) _
  have BEL := Lib.hid bel
  have RA := Lib.hid (r.go bel hS)
  have RO := Lib.hid (ro.keep Flat.keeps (Sub.refl _) (same_of_below bel hSo))
  have HS := Lib.hid (hS.trans (Sub.upto bel.size))
  have HSO := Lib.hid (hSo.trans (Sub.upto bel.size))
  have BX := Lib.hid (Blk.made w [.int .i64 k, .int .i64 c, .bool wb, .int .i64 lb, .slice A1 kids.length n1] 26 (base := 0) (Nat.zero_le _))
  unfold tmV
  clear h4 bel r ro et h1 h2 h3 hS hSo
  go_enter Try.func26, Try.ntmps26
  go_upto_region 1 with (fail)
  have hbs := BEL.out.size
  generalize (w.alloc (.cells #[.int .i64 k, .int .i64 c, .bool wb, .int .i64 lb, .slice A1 kids.length n1] 26)) = W at *
  have x0 := BX.out.cell 0 _ rfl; have x1 := BX.out.cell 1 _ rfl; have x2 := BX.out.cell 2 _ rfl; have x3 := BX.out.cell 3 _ rfl; have x4 := BX.out.cell 4 _ rfl
  go_wp2_with fail
  refine (marks_any t W S _ HS.out RA.out hl).mono ?_
  rintro e w1 ⟨y, rfl, hy, hb⟩
  have HY := Lib.hid hy
  obtain ⟨T, hT, hy2⟩ := hy
  obtain ⟨B, capB, rfl, hlb, hbm, -⟩ := hy2.form
  rw [Tm.marks_len] at hlb HY ⊢
  unfold maxLen at hbm
  have B1 := Lib.hid (BEL.out.trans (hb.mono BEL.out.size))
  have RO1 := Lib.hid (RO.out.keep Flat.keeps (Sub.refl _) (same_of_below hb HSO.out))
  have HSO1 := Lib.hid (HSO.out.trans (Sub.upto hb.size))
  clear hb hy2 hT x0 x1 x2 x3 x4 BX RA HS HSO RO BEL
  obtain ⟨n, hn⟩ : ∃ n, n = t.count := ⟨_, rfl⟩
  have HN := Lib.hid hn
  rw [← hn] at hl hlb HY ⊢
  clear hn
  have hmk := fun w => run_make1 (P := Try.prog) 34 3 i0 _ Try.underlying34 hi hz0 hz1 rfl n (by rw [hz2]; omega) (by omega) w
  go_upto_region 3 with (fail)
  clear hmk
  have bel : Below w1.heap.size w1 (w1.alloc (.cells (Array.replicate n (.int .i64 0)) 3)) := (Below.refl _ _).alloc (Nat.le_refl _) _
  have BG := Lib.hid (Blk.madeN w1 n (.int .i64 0) 3 (base := 0) (Nat.zero_le _))
  have B2 := Lib.hid (B1.out.trans (bel.mono B1.out.size))
  have RO2 := Lib.hid (RO1.out.keep Flat.keeps (Sub.refl _) (same_of_below bel HSO1.out))
  have HM := Lib.hid (show ∀ q, q < n → ∃ b off, B = some ⟨b, off, none⟩ ∧ b < w1.heap.size ∧ (w1.alloc (.cells (Array.replicate n (.int .i64 0)) 3)).cell? ⟨b, off + q * 2, none⟩ = some (.int .i64 (q : Int)) ∧ (w1.alloc (.cells (Array.replicate n (.int .i64 0)) 3)).cell? ⟨b, off + q * 2 + 1, none⟩ = some (.int .i64 (t.p q : Int)) from fun q hq => by
    have hm : t.marks[q]? = some ((q : Int), (t.p q : Int)) := by have := zipP_get 0 _ _ _ (Tm.p_get t (show q < t.count by rw [← HN.out]; exact hq)); rw [Nat.zero_add] at this; exact this
    obtain ⟨b, off, h1, h2, h0, h3⟩ := Fr.at1P HY.out hm
    exact ⟨b, off, h1, h2, (bel.cell (p := ⟨b, off + q * 2, none⟩) h2).trans h0, (bel.cell (p := ⟨b, off + q * 2 + 1, none⟩) h2).trans h3⟩)
  have HSO2 := Lib.hid (show Sub So (Upto w1.heap.size) from HSO1.out)
  obtain ⟨g, hg⟩ : ∃ g, g = w1.heap.size := ⟨_, rfl⟩
  rw [← hg] at BG HSO2 HM ⊢
  have HG := Lib.hid (show w.heap.size ≤ g ∧ (∀ b, Upto w1.heap.size b → b < g) from ⟨by rw [hg]; exact B1.out.size, fun b hb => by rw [hg]; exact hb⟩)
  clear hg bel B1 RO1 HY HSO1
  generalize w1.alloc (.cells (Array.replicate n (.int .i64 0)) 3) = w2 at *
  by_cases hlen : o.length = n
  rotate_left
  · have hne : ((o.length : Int) == (n : Int)) = false := by simp; omega
    have hgb := Lib.hid (goodB_false (show ¬ GoodO t o from fun h => hlen (by rw [h.1.1, HN.out])))
    go_wp2
    go_ret
    exact ⟨by rw [hgb.out]; rfl, B2.out⟩
  have HLN := Lib.hid hlen
  clear hlen
  rw [HLN.out]
  go_wp2_with fail
  go_loopw [25] (fun u wr => ∃ q : Nat, q ≤ n ∧ u = .int .i64 q ∧ Hid (OkQ n o q) ∧ Hid (Blk 0 wr g ((atS n o q).map encZ)) ∧ Hid (But (Is g) w2 wr)) (fun u _ => n - (intOf u).toNat)
  case atStart => exact ⟨0, by omega, rfl, Lib.hid (OkQ.zero _ _), by simpa [atS, encZ] using BG, Lib.hid (But.refl _ _)⟩
  case round =>
    clear BG
    obtain ⟨q, hq, rfl, HQ, BG, HB⟩ := hrel
    by_cases hlt : q < n
    · skip
      have hqo : q < o.length := by rw [HLN.out]; exact hlt
      obtain ⟨bo, oo, rfl, hbo, hok, hc0⟩ := RdI.at1 RO2.out (q := q) hqo
      have hbg : bo < g := HSO2.out _ hbo
      have z0 := HB.out.cell (p := ⟨bo, oo + q, none⟩) (fun e => by have h : bo = g := e; omega) hc0
      have hxo : o[q]? = some (o[q]'hqo) := List.getElem?_eq_getElem hqo
      obtain ⟨x, hx⟩ : ∃ x, x = o[q]'hqo := ⟨_, rfl⟩
      rw [← hx] at z0 hok hxo
      have HXO := Lib.hid hxo
      clear hx hxo hc0 hqo
      have q0 : (0 : Int) ≤ (q : Int) := by omega
      have q1 : (q : Int) < (n : Int) := by omega
      have hgl := BG.out.lt
      have HRET := Lib.hid (show ∀ wx, But (Is g) w2 wx → Below w.heap.size w wx from fun wx h => B2.out.trans (h.below B2.out.size (fun z hz => by have h : z = g := hz; have := HG.out.1; omega)))
      by_cases hx0 : x < 0
      · have hgb := Lib.hid (goodB_false (show ¬ GoodO t o from fun h => OkL.not HXO.out (.inl hx0) h.1))
        go_wp2
        go_ret
        exact ⟨by rw [hgb.out]; rfl, HRET.out _ HB.out⟩
      · by_cases hxn : x < (n : Int)
        · obtain ⟨m, rfl⟩ : ∃ m : Nat, x = (m : Int) := ⟨x.toNat, by omega⟩
          have hmn : m < n := by omega
          by_cases hex : ∃ k, k < q ∧ oA o k = m
          · obtain ⟨k', hk1, hk2⟩ := hex
            have hav := BG.out.mapAt (atS_at HQ.out k' hk1)
            rw [hk2] at hav
            unfold encZ at hav
            have hgb := Lib.hid (goodB_false (show ¬ GoodO t o from fun h => OkL.not HXO.out (.inr (.inr ⟨k', hk1, by rw [(oA_lt HQ.out hk1).2, hk2]⟩)) h.1))
            have hkp : (k' : Int) + 1 > 0 := by omega
            have hkq : (0 : Int) < (k' : Int) + 1 := by omega
            clear hk2
            go_wp2
            go_ret
            exact ⟨by rw [hgb.out]; rfl, HRET.out _ HB.out⟩
          · have hav := BG.out.mapAt (atS_zero (o := o) (q := q) hmn (fun k hk e => hex ⟨k, hk, e⟩))
            unfold encZ at hav
            have hfr := BG.out.fr m
            have hoq : oA o q = m := by unfold oA; rw [HXO.out]; simp
            have HNX := Lib.hid (show OkQ n o (q + 1) from HQ.out.succ HXO.out (by omega) hxn (fun k hk e => hex ⟨k, hk, by rw [e]; simp⟩))
            have HBN := Lib.hid (show Blk 0 (wr.setCell ⟨g, m, none⟩ (.int .i64 ((q : Int) + 1))) g ((atS n o (q + 1)).map encZ) by
              have h := BG.out.mapSet (q := m) (by rw [atS_len]; exact hmn) ((q : Int) + 1)
              unfold atS
              rw [hoq]
              exact h)
            have HBB := Lib.hid (show But (Is g) w2 (wr.setCell ⟨g, m, none⟩ (.int .i64 ((q : Int) + 1))) from HB.out.setCell (p := ⟨g, m, none⟩) rfl _)
            have hqw : IntKind.i64.wrap ((q : Int) + 1) = (q : Int) + 1 := IntWalk.i64_in _ (by omega)
            have hqw2 : wrap64 ((q : Int) + 1) = (q : Int) + 1 := IntWalk.wrap64_in _ (by omega)
            clear hex hoq HQ HB BG
            go_wp2
            go_roundw
            case rel => exact ⟨q + 1, hlt, by go_num, HNX, HBN, HBB⟩
            case measure => clear hqw hqw2; simp [intOf]; omega
        · have hxn2 : x ≥ (n : Int) := by omega
          have hxn3 : ¬ x < (n : Int) := by omega
          have hgb := Lib.hid (goodB_false (show ¬ GoodO t o from fun h => OkL.not HXO.out (.inr (.inl (by rw [← HN.out]; omega))) h.1))
          go_wp2
          go_ret
          exact ⟨by rw [hgb.out]; rfl, HRET.out _ HB.out⟩
    · have hqe : q = n := by omega
      subst hqe
      have HOK := Lib.hid (HQ.out.whole HLN.out)
      have B3 := Lib.hid (show Below w.heap.size w wr from B2.out.trans (HB.out.below B2.out.size (fun z hz => by have h : z = g := hz; have := HG.out.1; omega)))
      have HM3 := Lib.hid (show ∀ i, i < q → ∃ b off, B = some ⟨b, off, none⟩ ∧ b < g ∧ wr.cell? ⟨b, off + i * 2, none⟩ = some (.int .i64 (i : Int)) ∧ wr.cell? ⟨b, off + i * 2 + 1, none⟩ = some (.int .i64 (t.p i : Int)) from fun i hi => by
        obtain ⟨b, off, h1, h2, h3, h4⟩ := HM.out i hi
        exact ⟨b, off, h1, h2, HB.out.cell (fun e => by have h : b = g := e; omega) h3, HB.out.cell (fun e => by have h : b = g := e; omega) h4⟩)
      clear HQ HB HM RO2
      obtain ⟨W3, hW3⟩ : ∃ W3 : World, W3 = wr := ⟨_, rfl⟩
      subst hW3
      have HBA := Lib.hid (show ∀ i, i < q → ∃ a : Int, (atS q o q)[i]? = some a ∧ W3.cell? ⟨g, i, none⟩ = some (.int .i64 a) from fun i hi => by
        have hl : i < (atS q o q).length := by rw [atS_len]; exact hi
        exact ⟨_, List.getElem?_eq_getElem hl, BG.out.mapAt (List.getElem?_eq_getElem hl)⟩)
      have hg3 := BG.out.lt
      clear BG HG
      obtain ⟨n, hnq⟩ : ∃ n, n = q := ⟨_, rfl⟩
      subst hnq
      go_wp2_with fail
      go_loopw [53] (fun u wr => ∃ i : Nat, i ≤ n ∧ u = .int .i64 i ∧ Hid (∀ i' j, i' < i → i' < j → j < n → t.p i' < t.p j → ∀ a b, (atS n o n)[i']? = some a → (atS n o n)[j]? = some b → a ≤ b) ∧ Hid (Below W3.heap.size W3 wr)) (fun u _ => n - (intOf u).toNat)
      case atStart => exact ⟨0, Nat.zero_le _, rfl, Lib.hid (fun i' j h => absurd h (Nat.not_lt_zero _)), Lib.hid (Below.refl _ _)⟩
      case round =>
        obtain ⟨i, hin, rfl, HP, HB⟩ := hrel
        by_cases hlt : i < n
        · skip
          obtain ⟨bx, off, rfl, hbx, x0, x1⟩ := HM3.out i hlt
          have y0 := (HB.out.cell (p := ⟨bx, off + i * 2, none⟩) (by dsimp only; omega)).trans x0
          have y1 := (HB.out.cell (p := ⟨bx, off + i * 2 + 1, none⟩) (by dsimp only; omega)).trans x1
          obtain ⟨ai, hai, hci⟩ := HBA.out i hlt
          have HAI := Lib.hid hai
          clear x0 x1 hai
          have ba := Lib.hid (Blk.made wr [.int .i64 (i : Int), .int .i64 (t.p i : Int)] 30 (base := 0) (Nat.zero_le _))
          have bb : Below wr.heap.size wr (wr.alloc (.cells #[.int .i64 (i : Int), .int .i64 (t.p i : Int)] 30)) := (Below.refl _ _).alloc (Nat.le_refl _) _
          have HB2 := Lib.hid (HB.out.trans (bb.mono HB.out.size))
          have i0 : (0 : Int) ≤ (i : Int) := by omega
          have i1 : (i : Int) < (n : Int) := by omega
          by_cases hcp : capB = i + 1
          · subst hcp
            have hin1 : i + 1 = n := by omega
            have HP2 := Lib.hid (show ∀ i' j, i' < i + 1 → i' < j → j < n → t.p i' < t.p j → ∀ a b, (atS n o n)[i']? = some a → (atS n o n)[j]? = some b → a ≤ b from fun i' j h1 h2 h3 h4 => by
              rcases Nat.lt_or_ge i' i with h5 | h5
              · exact HP.out i' j h5 h2 h3 h4
              · omega)
            go_upto_region 16 with (fail)
            obtain ⟨y, hy⟩ : ∃ y, y = wr.heap.size := ⟨_, rfl⟩
            rw [← hy] at ba ⊢
            clear hy bb HB
            generalize wr.alloc (.cells #[.int .i64 (i : Int), .int .i64 (t.p i : Int)] 30) = W9 at *
            clear y0 y1 hci
            go_loopw [63] (fun u wi => ∃ q : Nat, q ≤ 0 ∧ u = .int .i64 q ∧ Hid (Below W3.heap.size W3 wi)) (fun u _ => 0 - (intOf u).toNat)
            case atStart => exact ⟨0, Nat.le_refl _, rfl, HB2⟩
            case round =>
              clear HB2 ba
              obtain ⟨q, hq0, rfl, HB⟩ := hrel
              have hno : ¬ (q : Int) < ((n - (i + 1) : Nat) : Int) := by omega
              go_wp2
              go_roundw
              case rel => exact ⟨i + 1, hlt, by go_num, HP2, HB⟩
              case measure => simp [intOf]; omega
          · have HYP := Lib.hid (show ∀ q, q < n - (i + 1) → ∃ b2, wr.cell? ⟨bx, off + (i + 1) * 2 + q * 2, none⟩ = some (.int .i64 ((i + 1 + q : Nat) : Int)) ∧ wr.cell? ⟨bx, off + (i + 1) * 2 + q * 2 + 1, none⟩ = some (.int .i64 (t.p (i + 1 + q) : Int)) ∧ b2 = bx from fun q hq => by
              obtain ⟨b', off', e, h2, h3, h4⟩ := HM3.out (i + 1 + q) (by omega)
              injection e with e
              injection e with e1 e2
              subst e1 e2
              have z0 := (HB.out.cell (p := ⟨bx, off + (i + 1 + q) * 2, none⟩) (by dsimp only; omega)).trans h3
              have z1 := (HB.out.cell (p := ⟨bx, off + (i + 1 + q) * 2 + 1, none⟩) (by dsimp only; omega)).trans h4
              rw [show off + (i + 1 + q) * 2 = off + (i + 1) * 2 + q * 2 by omega] at z0 z1
              exact ⟨bx, z0, z1, rfl⟩)
            have HBX := Lib.hid (show bx < wr.heap.size by have := HB.out.size; omega)
            have HCI := Lib.hid (show wr.cell? ⟨g, i, none⟩ = some (.int .i64 ai) from (HB.out.cell (p := ⟨g, i, none⟩) hg3).trans hci)
            have HGW := Lib.hid (show g < wr.heap.size by have := HB.out.size; omega)
            go_upto_region 16 with (fail)
            have HBB := Lib.hid bb
            obtain ⟨y, hy⟩ : ∃ y, y = wr.heap.size := ⟨_, rfl⟩
            have HYS := Lib.hid hy
            rw [← hy] at ba ⊢
            clear hy bb HB
            have HW9 := Lib.hid (show ∀ p : Addr, p.block < y → (wr.alloc (.cells #[.int .i64 (i : Int), .int .i64 (t.p i : Int)] 30)).cell? p = wr.cell? p from fun p hp => HBB.out.cell (by rw [← HYS.out]; exact hp))
            rw [← HYS.out] at HBX HGW
            clear HBB
            generalize wr.alloc (.cells #[.int .i64 (i : Int), .int .i64 (t.p i : Int)] 30) = W9 at *
            clear y0 y1 hci
            go_loopw [63] (fun u wi => ∃ q : Nat, q ≤ n - (i + 1) ∧ u = .int .i64 q ∧ Hid (∀ j, j < q → t.p i < t.p (i + 1 + j) → ∀ b, (atS n o n)[i + 1 + j]? = some b → ai ≤ b) ∧ Hid (Below W9.heap.size W9 wi)) (fun u _ => n - (i + 1) - (intOf u).toNat)
            case atStart => exact ⟨0, Nat.zero_le _, rfl, Lib.hid (fun j h => absurd h (Nat.not_lt_zero _)), Lib.hid (Below.refl _ _)⟩
            case round =>
              obtain ⟨q, hqn, rfl, HQ, HB⟩ := hrel
              have HBF := Lib.hid (HB2.out.trans (HB.out.mono HB2.out.size))
              have HRET := Lib.hid (show Below w.heap.size w wr from B3.out.trans (HBF.out.mono B3.out.size))
              have hyl := ba.out.lt
              by_cases hltj : q < n - (i + 1)
              · obtain ⟨_, z0, z1, _⟩ := HYP.out q hltj
                have y0 := (HB.out.cell (p := ⟨bx, off + (i + 1) * 2 + q * 2, none⟩) (by have := HBX.out; dsimp only; omega)).trans ((HW9.out _ (by have := HBX.out; exact this)).trans z0)
                have y1 := (HB.out.cell (p := ⟨bx, off + (i + 1) * 2 + q * 2 + 1, none⟩) (by have := HBX.out; dsimp only; omega)).trans ((HW9.out _ (by have := HBX.out; exact this)).trans z1)
                obtain ⟨bj, hbj, hcj⟩ := HBA.out (i + 1 + q) (by omega)
                have HBJ := Lib.hid hbj
                have c0 := HCI.out
                have a1 := (ba.out.below HB.out).cell 1 _ rfl
                have c1 := (HB.out.cell (p := ⟨g, i, none⟩) (by have := HGW.out; dsimp only; omega)).trans ((HW9.out ⟨g, i, none⟩ HGW.out).trans c0)
                have c2 := (HBF.out.cell (p := ⟨g, i + 1 + q, none⟩) hg3).trans hcj
                have hbxw : bx < wr.heap.size := by have := HBX.out; have := HB.out.size; omega
                have hgw : g < wr.heap.size := by have := HGW.out; have := HB.out.size; omega
                have hyw : y < wr.heap.size := by have := HB.out.size; omega
                have ei : ((i + 1 + q : Nat) : Int) = (i : Int) + 1 + (q : Int) := by omega
                rw [ei] at y0
                have q0 : (0 : Int) ≤ (q : Int) := by omega
                have q1 : (q : Int) < ((n - (i + 1) : Nat) : Int) := by omega
                have iq0 : (0 : Int) ≤ (i : Int) + 1 + (q : Int) := by omega
                have iq1 : (i : Int) + 1 + (q : Int) < (n : Int) := by omega
                have inat : ((i : Int) + 1 + (q : Int)).toNat = i + 1 + q := by omega
                obtain ⟨pi, hpi⟩ : ∃ z, z = t.p i := ⟨_, rfl⟩
                obtain ⟨pj, hpj⟩ : ∃ z, z = t.p (i + 1 + q) := ⟨_, rfl⟩
                rw [← hpi] at a1
                rw [← hpj] at y1
                have HPI := Lib.hid hpi
                have HPJ := Lib.hid hpj
                clear hpi hpj z0 z1 hbj hcj c0 ei hltj
                have HJ := Lib.hid (Blk.made wr [.int .i64 ((i : Int) + 1 + (q : Int)), .int .i64 (pj : Int)] 30 (base := 0) (Nat.zero_le _))
                have bj2 : Below wr.heap.size wr (wr.alloc (.cells #[.int .i64 ((i : Int) + 1 + (q : Int)), .int .i64 (pj : Int)] 30)) := (Below.refl _ _).alloc (Nat.le_refl _) _
                have c1 := (bj2.cell (p := ⟨g, i, none⟩) hgw).trans c1
                have c2 := (bj2.cell (p := ⟨g, i + 1 + q, none⟩) hgw).trans c2
                have a1 := (bj2.cell (p := ⟨y, 1, none⟩) hyw).trans a1
                have HBFN := Lib.hid (HBF.out.trans (bj2.mono HBF.out.size))
                have HBN := Lib.hid (HB.out.trans (bj2.mono HB.out.size))
                have HRETN := Lib.hid (HRET.out.trans (bj2.mono HRET.out.size))
                go_upto_region 18 with (fail)
                clear y0 y1 bj2 hbxw hgw hyw
                generalize (wr.alloc (.cells #[.int .i64 ((i : Int) + 1 + (q : Int)), .int .i64 (pj : Int)] 30)) = WJ at *
                have j1 := HJ.out.cell 1 _ rfl
                by_cases hp : pi < pj
                · have hpI : (pi : Int) < (pj : Int) := by omega
                  by_cases ha : bj < ai
                  · have ha2 : ai > bj := ha
                    have hgb := Lib.hid (goodB_false (show ¬ GoodO t o from fun h => h.2 ((conf_iff h.1).2 ⟨i, i + 1 + q, by omega, by rw [← HN.out]; omega, by rw [← HPI.out, ← HPJ.out]; exact hp, ai, bj, by rw [← HN.out]; exact HAI.out, by rw [← HN.out]; exact HBJ.out, ha⟩)))
                    go_quiet (fail)
                    go_wp2
                    go_ret
                    exact ⟨by rw [hgb.out]; rfl, below_drewN HRETN.out _⟩
                  · have ha2 : ¬ ai > bj := ha
                    have HQN := Lib.hid (show ∀ j, j < q + 1 → t.p i < t.p (i + 1 + j) → ∀ b, (atS n o n)[i + 1 + j]? = some b → ai ≤ b from fun j hj h1 b h2 => by
                      rcases Nat.lt_or_ge j q with h3 | h3
                      · exact HQ.out j h3 h1 b h2
                      · have : j = q := by omega
                        subst this
                        rw [HBJ.out] at h2
                        injection h2 with h2
                        omega)
                    go_quiet (fail)
                    go_wp2
                    go_roundw
                    case rel => exact ⟨q + 1, by omega, by go_num, HQN, Lib.hid (below_drewN HBN.out _)⟩
                    case measure => simp [intOf]; omega
                · have hpI : ¬ (pi : Int) < (pj : Int) := by omega
                  have HQN := Lib.hid (show ∀ j, j < q + 1 → t.p i < t.p (i + 1 + j) → ∀ b, (atS n o n)[i + 1 + j]? = some b → ai ≤ b from fun j hj h1 b h2 => by
                    rcases Nat.lt_or_ge j q with h3 | h3
                    · exact HQ.out j h3 h1 b h2
                    · have : j = q := by omega
                      subst this
                      rw [← HPI.out, ← HPJ.out] at h1
                      exact absurd h1 hp)
                  go_quiet (fail)
                  go_wp2
                  go_roundw
                  case rel => exact ⟨q + 1, by omega, by go_num, HQN, Lib.hid (below_drewN HBN.out _)⟩
                  case measure => simp [intOf]; omega
              · have hqe : q = n - (i + 1) := by omega
                subst hqe
                have HP2 := Lib.hid (show ∀ i' j, i' < i + 1 → i' < j → j < n → t.p i' < t.p j → ∀ a b, (atS n o n)[i']? = some a → (atS n o n)[j]? = some b → a ≤ b from fun i' j h1 h2 h3 h4 a b h5 h6 => by
                  rcases Nat.lt_or_ge i' i with h7 | h7
                  · exact HP.out i' j h7 h2 h3 h4 a b h5 h6
                  · have : i' = i := by omega
                    subst this
                    rw [HAI.out] at h5
                    injection h5 with h5
                    subst h5
                    have e : i' + 1 + (j - (i' + 1)) = j := by omega
                    exact HQ.out (j - (i' + 1)) (by omega) (by rw [e]; exact h4) b (by rw [e]; exact h6))
                go_wp2
                go_roundw
                case rel => exact ⟨i + 1, hlt, by go_num, HP2, HBF⟩
                case measure => simp [intOf]; omega
        · have hie : i = n := by omega
          subst hie
          have hgb := Lib.hid (goodB_true (show GoodO t o from ⟨by rw [← HN.out]; exact HOK.out, fun h => by
            obtain ⟨i', j, h1, h2, h3, a, b, h4, h5, h6⟩ := (conf_iff (by rw [← HN.out]; exact HOK.out)).1 h
            rw [← HN.out] at h2 h4 h5
            have := HP.out i' j (by omega) h1 h2 h3 a b h4 h5
            omega⟩))
          have HFIN := Lib.hid (B3.out.trans (HB.out.mono B3.out.size))
          go_wp2
          go_ret
          exact ⟨by rw [hgb.out]; rfl, HFIN.out⟩
end Go.Proofs.Ytfldajplclahfaa
