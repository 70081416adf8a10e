/- The walk of race.See. -/
import Derived.Test.YtfldajplclahfaaRs1
import Derived.Test.YtfldajplclahfaaGSrtI
import Derived.Test.YtfldajplclahfaaRowZ
namespace Go.Proofs.Ytfldajplclahfaa
open Go.RowKit
set_option linter.unusedVariables false
theorem zeroI (w : World) : (zeroValue 3).run Try.prog w = .ok (.int .i64 0) w := by kernel_rfl
noncomputable def seeL (t : Tm) (o : List Int) : List Int := if goodB t o = true then seeS t o t.count else []
noncomputable def seeE (t : Tm) (o : List Int) : Int := if goodB t o = true then 0 else 1
theorem goodB_of {t : Tm} {o : List Int} (h : goodB t o = true) : GoodO t o := by unfold goodB at h; exact @of_decide_eq_true _ (Classical.propDecidable _) h
def lastF (t : Tm) (o : List Int) (q : Nat) : Int → Value := fun c => .int .i64 (lastW t o c q + 1)
theorem lastW_succ (t : Tm) (o : List Int) (c : Int) (k : Nat) : lastW t o c (k + 1) = if (t.lf (oA o k)).write && decide ((t.lf (oA o k)).cell = c) then ((oA o k : Nat) : Int) else lastW t o c k := rfl
theorem lastF_yes {t : Tm} {o : List Int} {q : Nat} (h : (t.lf (oA o q)).write = true) : updV (lastF t o q) (t.lf (oA o q)).cell (.int .i64 (((oA o q : Nat) : Int) + 1)) = lastF t o (q + 1) := by
  funext x
  unfold updV lastF
  rw [lastW_succ, h, Bool.true_and]
  by_cases e : x = (t.lf (oA o q)).cell
  · rw [if_pos e, decide_eq_true e.symm]; rfl
  · rw [if_neg e, decide_eq_false (fun h => e h.symm)]; rfl
theorem lastF_no {t : Tm} {o : List Int} {q : Nat} (h : (t.lf (oA o q)).write = false) : lastF t o q = lastF t o (q + 1) := by
  funext x
  unfold lastF
  rw [lastW_succ, h, Bool.false_and]; rfl
theorem lastF_zero (t : Tm) (o : List Int) : lastF t o 0 = fun _ => .int .i64 0 := by funext x; simp [lastF, lastW]
theorem seeS_in {t : Tm} {o : List Int} (h : OkQ t.count o t.count) (hn : t.count ≤ 1048576) : ∀ q, q ≤ t.count → ∀ x ∈ seeS t o q, inI x := by
  intro q
  induction q with
  | zero => intro _ x hx; simp only [seeS, List.mem_replicate] at hx; rw [hx.2]; unfold inI; omega
  | succ q ih =>
    intro hq x hx
    unfold seeS at hx
    rcases List.mem_or_eq_of_mem_set hx with h1 | h1
    · exact ih (by omega) x h1
    · have := lastW_bd h (t.lf (oA o q)).cell q (by omega)
      subst h1; unfold inI; omega
theorem RowZ.ofBlk {w : World} {base g : Nat} {l : List Int} (h : Blk base w g (l.map encZ)) : RowZ w g l := ⟨h.lt, h.fr, fun q hq => h.mapAt (List.getElem?_eq_getElem hq)⟩
set_option maxHeartbeats 4000000 in
set_option maxRecDepth 100000 in
theorem see_any (t : Tm) (o : List Int) (w : World) (S So : Blocks) (V U : Value) (hS : Sub S (Upto w.heap.size)) (r : RdT w S t V) (hSo : Sub So (Upto w.heap.size)) (ro : RdI w So o U) (hl : t.count ≤ 1048576) :
    Calls Try.prog 12 #[V, U] w fun e w' => ∃ x, e = .returned (.tuple #[x, .int .i64 (seeE t o)]) ∧ RdI w' (Plus Nowhere w.heap.size w'.heap.size) (seeL t o) x ∧ Below w.heap.size w w' := by
  obtain ⟨i0, hi, hz0, hz1, hz2⟩ := info_parts infoI3
  obtain ⟨k, c, wb, lb, kids, v, et, rfl, h1, h2, h3, h4⟩ := id r
  obtain ⟨A1, n1, rfl, _⟩ := h4.form
  obtain ⟨Ao, co, rfl, hol, hom, _⟩ := ro.form
  unfold maxLen at hom
  have bel : Below w.heap.size w (w.alloc (.cells #[.int .i64 k, .int .i64 c, .bool wb, .int .i64 lb, .slice A1 kids.length n1] 26)) := (Below.refl _ _).alloc (Nat.le_refl _) _
  have BEL := Lib.hid bel
  have RA := Lib.hid (r.go bel hS)
  have RO := Lib.hid (ro.keep Flat.keeps (Sub.refl _) (same_of_below bel hSo))
  have HS := Lib.hid (hS.trans (Sub.upto bel.size))
  have HSO := Lib.hid (hSo.trans (Sub.upto bel.size))
  have BX := Lib.hid (Blk.made w [.int .i64 k, .int .i64 c, .bool wb, .int .i64 lb, .slice A1 kids.length n1] 26 (base := 0) (Nat.zero_le _))
  unfold tmV
  clear h4 bel r ro et h1 h2 h3 hS hSo
  go_enter Try.func12, Try.ntmps12
  go_upto_region 1 with (fail)
  have hbs := BEL.out.size
  generalize (w.alloc (.cells #[.int .i64 k, .int .i64 c, .bool wb, .int .i64 lb, .slice A1 kids.length n1] 26)) = W at *
  have x0 := BX.out.cell 0 _ rfl; have x1 := BX.out.cell 1 _ rfl; have x2 := BX.out.cell 2 _ rfl; have x3 := BX.out.cell 3 _ rfl; have x4 := BX.out.cell 4 _ rfl
  go_wp2_with fail
  refine (right_any t o W S So _ _ HS.out RA.out HSO.out RO.out hl).mono ?_
  rintro e w1 ⟨rfl, hb⟩
  have RA1 := Lib.hid (RA.out.go hb HS.out)
  have RO1 := Lib.hid (RO.out.keep Flat.keeps (Sub.refl _) (same_of_below hb HSO.out))
  have BX1 := Lib.hid (BX.out.below hb)
  have B1 := Lib.hid (BEL.out.trans (hb.mono BEL.out.size))
  have HS1 := Lib.hid (HS.out.trans (Sub.upto hb.size))
  have HSO1 := Lib.hid (HSO.out.trans (Sub.upto hb.size))
  clear hb x0 x1 x2 x3 x4 RA RO BX BEL HS HSO
  cases hgb : goodB t o with
  | false =>
    have HL := Lib.hid (show seeL t o = [] ∧ seeE t o = 1 from ⟨by unfold seeL; rw [hgb]; rfl, by unfold seeE; rw [hgb]; rfl⟩)
    clear hgb
    go_wp2
    go_ret2
    exact ⟨_, by rw [HL.out.2]; rfl, by rw [HL.out.1]; exact RdL.nil (by simp [maxLen]), B1.out⟩
  | true =>
    have HL := Lib.hid (show seeL t o = seeS t o t.count ∧ seeE t o = 0 from ⟨by unfold seeL; rw [hgb]; rfl, by unfold seeE; rw [hgb]; rfl⟩)
    have HQ := Lib.hid (goodB_of hgb).1.okq
    have HLN := Lib.hid (goodB_of hgb).1.1
    clear hgb
    have x0 := BX1.out.cell 0 _ rfl; have x1 := BX1.out.cell 1 _ rfl; have x2 := BX1.out.cell 2 _ rfl; have x3 := BX1.out.cell 3 _ rfl; have x4 := BX1.out.cell 4 _ rfl
    go_wp2_with fail
    refine (leaves_any t w1 S _ HS1.out RA1.out hl).mono ?_
    rintro e wl ⟨xl, rfl, hxl, hbl⟩
    have hcl : t.leaves.length = t.count := rfl
    have HX := Lib.hid (show Fr encAcc okAcc 3 24 wl t.leaves xl from Fr.of hxl (Sub.plus_upto (Sub.nowhere _)))
    obtain ⟨A, cap, rfl, hlc, hcm, -⟩ := hxl.form
    unfold maxLen at hcm
    rw [hcl] at hlc HX ⊢
    have BL := Lib.hid (B1.out.trans (hbl.mono B1.out.size))
    have ROL := Lib.hid (RO1.out.keep Flat.keeps (Sub.refl _) (same_of_below hbl HSO1.out))
    have HSOL := Lib.hid (HSO1.out.trans (Sub.upto hbl.size))
    clear hxl hbl x0 x1 x2 x3 x4 RA1 RO1 BX1 B1 HS1 HSO1 hcl
    obtain ⟨n, hn⟩ : ∃ n, n = t.count := ⟨_, rfl⟩
    have HN := Lib.hid hn
    rw [← hn] at hl hlc HX HQ HLN HL ⊢
    clear hn
    rw [HLN.out]
    have hmk := fun w => run_make1 (P := Try.prog) 34 3 i0 _ Try.underlying34 hi hz0 hz1 rfl n (by rw [hz2]; omega) (by omega) w
    have hmm := @run_makeMap Try.prog
    go_upto_region 6 with (fail)
    clear hmk hmm
    have bel : Below wl.heap.size wl ((wl.alloc (.cells (Array.replicate n (.int .i64 0)) 3)).alloc (.map #[] 0)) := ((Below.refl _ _).alloc (Nat.le_refl _) _).alloc (by simp) _
    have BG := Lib.hid ((Blk.madeN wl n (.int .i64 0) 3 (base := 0) (Nat.zero_le _)).below ((Below.refl (wl.alloc (.cells (Array.replicate n (.int .i64 0)) 3)).heap.size _).alloc (Nat.le_refl _) (.map #[] 0)))
    have BM := Lib.hid (show OwnM Try.prog ((wl.alloc (.cells (Array.replicate n (.int .i64 0)) 3)).alloc (.map #[] 0)) 3 (.int .i64 0) (wl.heap.size + 1) 0 (fun _ => .int .i64 0) from by have h := OwnM.made (P := Try.prog) (k := 3) (z := .int .i64 0) (wl.alloc (.cells (Array.replicate n (.int .i64 0)) 3)); rw [World.size_alloc] at h; exact h)
    have B2 := Lib.hid (BL.out.trans (bel.mono BL.out.size))
    have RO2 := Lib.hid (ROL.out.keep Flat.keeps (Sub.refl _) (same_of_below bel HSOL.out))
    have HLV := Lib.hid (show ∀ m, m < n → ∃ b off, A = some ⟨b, off, none⟩ ∧ b < wl.heap.size ∧ okAcc (t.lf m) ∧ (((wl.alloc (.cells (Array.replicate n (.int .i64 0)) 3)).alloc (.map #[] 0))).cell? ⟨b, off + m * 3, none⟩ = some (.int .i64 (t.lf m).cell) ∧ (((wl.alloc (.cells (Array.replicate n (.int .i64 0)) 3)).alloc (.map #[] 0))).cell? ⟨b, off + m * 3 + 1, none⟩ = some (.bool (t.lf m).write) ∧ (((wl.alloc (.cells (Array.replicate n (.int .i64 0)) 3)).alloc (.map #[] 0))).cell? ⟨b, off + m * 3 + 2, none⟩ = some (.int .i64 (t.lf m).label) from fun m hm => by
      obtain ⟨b, off, h1, h2, h3, e0, e1, e2⟩ := accsF_at HX.out (q := m) (by rw [← HN.out]; exact hm)
      exact ⟨b, off, h1, h2, h3, (bel.cell (p := ⟨b, _, none⟩) h2).trans e0, (bel.cell (p := ⟨b, _, none⟩) h2).trans e1, (bel.cell (p := ⟨b, _, none⟩) h2).trans e2⟩)
    obtain ⟨g, hg⟩ : ∃ g, g = wl.heap.size := ⟨_, rfl⟩
    have HSO2 := Lib.hid (show Sub So (Upto g) by rw [hg]; exact HSOL.out)
    have HGW := Lib.hid (show w.heap.size ≤ g by rw [hg]; exact BL.out.size)
    rw [← hg] at BG BM HLV ⊢
    clear hg bel BL ROL HX HSOL
    generalize ((wl.alloc (.cells (Array.replicate n (.int .i64 0)) 3)).alloc (.map #[] 0)) = w2 at *
    have BG0 := Lib.hid (show Blk 0 w2 g ((seeS t o 0).map encZ) by rw [show seeS t o 0 = List.replicate n 0 by rw [HN.out]; rfl]; simpa [encZ] using BG.out)
    have BM0 := Lib.hid (show OwnM Try.prog w2 3 (.int .i64 0) (g + 1) 0 (lastF t o 0) by rw [lastF_zero]; exact BM.out)
    clear BG BM
    go_wp2_with fail
    go_loopw [24] (fun u wr => ∃ q : Nat, q ≤ n ∧ u = .int .i64 q ∧ Hid (Blk 0 wr g ((seeS t o q).map encZ)) ∧ Hid (OwnM Try.prog wr 3 (.int .i64 0) (g + 1) q (lastF t o q)) ∧ Hid (But (Is2 g (g + 1)) w2 wr)) (fun u _ => n - (intOf u).toNat)
    case atStart => exact ⟨0, Nat.zero_le _, rfl, BG0, BM0, Lib.hid (But.refl _ _)⟩
    case round =>
      clear BG0 BM0
      obtain ⟨q, hq, rfl, BG, BM, HB⟩ := hrel
      by_cases hlt : q < n
      · skip
        have hqo : q < o.length := by rw [HLN.out]; exact hlt
        obtain ⟨bo, oo, rfl, hbo, -, hc0⟩ := RdI.at1 RO2.out (q := q) hqo
        have hbg : bo < g := HSO2.out _ hbo
        have hNG : ∀ b, b < g → ¬ Is2 g (g + 1) b := fun b hb e => by rcases e with e | e <;> omega
        have z0 := HB.out.cell (p := ⟨bo, oo + q, none⟩) (hNG _ hbg) hc0
        obtain ⟨hml, hmo⟩ := oA_lt HQ.out hlt
        rw [List.getElem?_eq_getElem hqo] at hmo
        have hmo2 := Option.some.inj hmo
        rw [hmo2] at z0
        obtain ⟨bl, ol, rfl, hblg, hokl, e0, e1, e2⟩ := HLV.out _ hml
        have f0 := HB.out.cell (p := ⟨bl, _, none⟩) (hNG _ hblg) e0
        have f1 := HB.out.cell (p := ⟨bl, _, none⟩) (hNG _ hblg) e1
        have f2 := HB.out.cell (p := ⟨bl, _, none⟩) (hNG _ hblg) e2
        have hsv : seeS t o (q + 1) = (seeS t o q).set (oA o q) (lastW t o (t.lf (oA o q)).cell q) := rfl
        have hlw := lastW_bd (by rw [← HN.out]; exact HQ.out) (t.lf (oA o q)).cell q (by rw [← HN.out]; omega)
        have hLY := Lib.hid (fun h => lastF_yes (t := t) (o := o) (q := q) h)
        have hLO := Lib.hid (fun h => lastF_no (t := t) (o := o) (q := q) h)
        have hfc : lastF t o q (t.lf (oA o q)).cell = .int .i64 (lastW t o (t.lf (oA o q)).cell q + 1) := rfl
        obtain ⟨m, hm⟩ : ∃ m, m = oA o q := ⟨_, rfl⟩
        rw [← hm] at hml z0 f0 f1 f2 hsv hlw hLY hLO hfc hokl
        obtain ⟨ce, hce⟩ : ∃ z, z = (t.lf m).cell := ⟨_, rfl⟩
        obtain ⟨wv, hwv⟩ : ∃ x, x = (t.lf m).write := ⟨_, rfl⟩
        obtain ⟨la, hla⟩ : ∃ x, x = (t.lf m).label := ⟨_, rfl⟩
        have hci : inI (t.lf m).cell := hokl.1
        rw [← hce] at f0 hsv hlw hLY hfc hci
        rw [← hwv] at f1 hLY hLO
        rw [← hla] at f2
        obtain ⟨lw, hlwe⟩ : ∃ x, x = lastW t o ce q := ⟨_, rfl⟩
        rw [← hlwe] at hsv hlw hfc
        rw [← HN.out] at hlw
        have HSV := Lib.hid hsv
        have HFC := Lib.hid hfc
        have hlw1 : -1 ≤ lw := by omega
        have hlw2 : lw < (n : Int) := by omega
        clear hsv hfc hm hce hwv hla hlwe hmo hmo2 hc0 e0 e1 e2 hqo hlw hokl hNG
        have bb : Below wr.heap.size wr (wr.alloc (.cells #[.int .i64 ce, .bool wv, .int .i64 la] 23)) := (Below.refl _ _).alloc (Nat.le_refl _) _
        have BA := Lib.hid (Blk.made wr [.int .i64 ce, .bool wv, .int .i64 la] 23 (base := 0) (Nat.zero_le _))
        have BG2 := Lib.hid (BG.out.below bb)
        have BM2 := Lib.hid (BM.out.below bb)
        have HB2 := Lib.hid (HB.out.trans (But.of_below bb))
        have hgl := BG.out.lt
        have hml2 := BM.out.lt
        have q0 : (0 : Int) ≤ (q : Int) := by omega
        have q1 : (q : Int) < (n : Int) := by omega
        have m0 : (0 : Int) ≤ (m : Int) := by omega
        have m1 : (m : Int) < (n : Int) := by omega
        go_upto_region 10 with (fail)
        obtain ⟨y, hy⟩ : ∃ y, y = wr.heap.size := ⟨_, rfl⟩
        rw [← hy] at BA ⊢
        have HYG := Lib.hid (show g < y ∧ g + 1 < y by omega)
        clear hy bb f0 f1 f2 z0 BG BM HB hgl hml2
        generalize (wr.alloc (.cells #[.int .i64 ce, .bool wv, .int .i64 la] 23)) = W9 at *
        have a0 := BA.out.cell 0 _ rfl
        have a1 := BA.out.cell 1 _ rfl
        have hyl := BA.out.lt
        have hg9 := BG2.out.lt
        have gfr := BG2.out.fr m
        obtain ⟨old, hold⟩ : ∃ x, (seeS t o q)[m]? = some x := ⟨_, List.getElem?_eq_getElem (by rw [seeS_len, ← HN.out]; exact hml)⟩
        have gce := BG2.out.mapAt hold
        unfold encZ at gce
        clear hold
        have hlwp : lw + 1 - 1 = lw := by omega
        have HS1 := Lib.hid (show But (Is g) W9 (W9.setCell ⟨g, m, none⟩ (.int .i64 lw)) from (But.refl _ _).setCell (T := Is g) (p := ⟨g, m, none⟩) (show Is g g from rfl) _)
        have BGN := Lib.hid (show Blk 0 (W9.setCell ⟨g, m, none⟩ (.int .i64 lw)) g ((seeS t o (q + 1)).map encZ) by rw [HSV.out]; exact BG2.out.mapSet (q := m) (by rw [seeS_len, ← HN.out]; exact hml) lw)
        have BMN := Lib.hid (show OwnM Try.prog (W9.setCell ⟨g, m, none⟩ (.int .i64 lw)) 3 (.int .i64 0) (g + 1) q (lastF t o q) from BM2.out.but HS1.out (fun e => by have h : g + 1 = g := e; omega))
        have BAN := Lib.hid (show Blk 0 (W9.setCell ⟨g, m, none⟩ (.int .i64 lw)) y [.int .i64 ce, .bool wv, .int .i64 la] from BA.out.but HS1.out (fun e => by have h : y = g := e; have := HYG.out; omega))
        have HBN := Lib.hid (show But (Is2 g (g + 1)) w2 (W9.setCell ⟨g, m, none⟩ (.int .i64 lw)) from HB2.out.trans (HS1.out.sub (fun b h => .inl h)))
        have b0 := BAN.out.cell 0 _ rfl
        have b1 := BAN.out.cell 1 _ rfl
        have hqm : q < maxLen := by unfold maxLen; omega
        clear BG2 HB2 BA
        cases wv with
        | true =>
          have HLY := Lib.hid (hLY.out rfl)
          clear hLY hLO
          go_wp2_with (first | (at_lookup; refine wpList_look rfl _ _ 56 rfl 3 ce Try.underlying3 Try.underlying56 (zeroI _) rfl BM2.out rfl hci ?_; rw [HFC.out]; (try rw [hlwp])) | (at_mapUpdate; refine wpList_put rfl _ _ _ 56 rfl 3 ce (.int .i64 ((m : Int) + 1)) Try.underlying3 Try.underlying56 rfl BMN.out rfl rfl hci hqm ?_))
          intro w6 ho6 hg6
          rw [HLY.out] at ho6
          have BG6 := Lib.hid (BGN.out.but (But.of_grown hg6) (fun e => by have h := Option.some.inj e; omega))
          have HB6 := Lib.hid (HBN.out.trans ((But.of_grown hg6).sub (fun b hb => .inr (Option.some.inj hb).symm)))
          have BM6 := Lib.hid ho6
          clear ho6 hg6 BGN BMN BAN HBN b0 b1
          go_wp2
          go_roundw
          case rel => exact ⟨q + 1, hlt, by go_num, BG6, BM6, HB6⟩
          case measure => simp [intOf]; omega
        | false =>
          have HLO := Lib.hid (hLO.out rfl)
          clear hLY hLO
          rw [HLO.out] at BMN
          go_wp2_with (at_lookup; refine wpList_look rfl _ _ 56 rfl 3 ce Try.underlying3 Try.underlying56 (zeroI _) rfl BM2.out rfl hci ?_; rw [HFC.out]; (try rw [hlwp]))
          go_roundw
          case rel => exact ⟨q + 1, hlt, by go_num, BGN, Lib.hid (BMN.out.more (Nat.le_succ _)), HBN⟩
          case measure => simp [intOf]; omega
      · have hqe : q = n := by omega
        subst hqe
        have hsl : (seeS t o q).length = q := by rw [seeS_len, ← HN.out]
        have hrd := (RowZ.ofBlk BG.out).rd (c := q) (by omega) (by unfold maxLen; omega) (by rw [HN.out]; exact seeS_in (by rw [← HN.out]; exact HQ.out) (by rw [← HN.out]; exact hl) _ (Nat.le_refl _)) (by omega)
        rw [hsl] at hrd
        have hgl := BG.out.lt
        have HR := Lib.hid (show RdI wr (Plus Nowhere w.heap.size wr.heap.size) (seeL t o) (.slice (some ⟨g, 0, none⟩) q q) by rw [HL.out.1]; exact hrd.keep Flat.keeps (fun b hb => by have h : b = g := hb; have := HGW.out; exact .inr ⟨by omega, by omega⟩) (Same.refl _ _))
        have HF := Lib.hid (show Below w.heap.size w wr from B2.out.trans (HB.out.below B2.out.size (fun b hb => by have := HGW.out; rcases hb with h | h <;> omega)))
        clear hrd hsl BG BM HB
        go_wp2
        go_ret2
        exact ⟨_, by rw [HL.out.2]; rfl, HR.out, HF.out⟩
end Go.Proofs.Ytfldajplclahfaa
