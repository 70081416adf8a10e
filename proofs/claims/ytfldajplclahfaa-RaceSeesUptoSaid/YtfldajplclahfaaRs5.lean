/- The walk of the reference's OApart. -/
import Derived.Test.YtfldajplclahfaaRs4
namespace Go.Proofs.Ytfldajplclahfaa
open Go.RowKit
set_option linter.unusedVariables false
/-- one of the two passes -/
def passL (t : Tm) (a b : Nat) (e : Bool) (q : Nat) : List Int := if e then earlyL t a b q else lateL t a b q
theorem passL_succ (t : Tm) (a b : Nat) (e : Bool) (q : Nat) : passL t a b e (q + 1) = if !decide (q = a) && !decide (q = b) && (earlyB t a b q == e) then passL t a b e q ++ [(q : Int)] else passL t a b e q := by
  unfold passL
  cases e
  · simp only [Bool.false_eq_true, if_false]
    rw [lateL_succ]
    cases earlyB t a b q <;> rfl
  · simp only [if_true]
    rw [earlyL_succ]
    cases earlyB t a b q <;> rfl
theorem passL_len (t : Tm) (a b : Nat) (e : Bool) (q : Nat) : (passL t a b e q).length ≤ q := by
  unfold passL; split
  · exact earlyL_len _ _ _ _
  · exact lateL_len _ _ _ _
theorem passL_zero (t : Tm) (a b : Nat) (e : Bool) : passL t a b e 0 = [] := by unfold passL; split <;> rfl
/-- behind p of the two passes -/
def preP (t : Tm) (a b n : Nat) (x y : Int) : Nat → List Int
  | 0 => []
  | 1 => earlyL t a b n ++ [x, y]
  | _ => earlyL t a b n ++ [x, y] ++ lateL t a b n
theorem preP_len (t : Tm) (a b n : Nat) (x y : Int) (p : Nat) : (preP t a b n x y p).length ≤ 2 * n + 2 := by
  have h1 := earlyL_len t a b n
  have h2 := lateL_len t a b n
  match p with
  | 0 => simp [preP]
  | 1 => simp [preP]; omega
  | _ + 2 => simp [preP]; omega
theorem two_lit (w : World) (x y : Int) (hx : inI x) (hy : inI y) : RdI (w.alloc (.cells #[.int .i64 x, .int .i64 y] 3)) (Is w.heap.size) [x, y] (.slice (some ⟨w.heap.size, 0, none⟩) 2 2) :=
  (RowZ.ofBlk (l := [x, y]) ((Blk.made w [.int .i64 x, .int .i64 y] 3 (base := 0) (Nat.zero_le _)))).rd (c := 2) (by simp) (by simp [maxLen]) (fun z hz => by simp only [List.mem_cons, List.not_mem_nil, or_false] at hz; rcases hz with h | h <;> (rw [h]; assumption)) (by simp)
set_option maxHeartbeats 4000000 in
set_option maxRecDepth 100000 in
theorem oapart_any (t : Tm) (i j : Int) (w : World) (S : Blocks) (V : Value) (hS : Sub S (Upto w.heap.size)) (r : RdT w S t V) (hl : t.count ≤ 1048576) (hii : inI i) (hij : inI j) :
    Calls Try.prog 15 #[V, .int .i64 i, .int .i64 j] w fun e w' => ∃ x y, e = .returned (.tuple #[x, y, .int .i64 (apE t i j)]) ∧ RdI w' (Plus Nowhere w.heap.size w'.heap.size) (apL t i j i j) x ∧ RdI w' (Plus Nowhere w.heap.size w'.heap.size) (apL t i j j i) y ∧ Below w.heap.size w w' := by
  obtain ⟨i0, hi, hz0, hz1, hz2⟩ := info_parts infoInt
  obtain ⟨k, c, wb, lb, kids, v, et, rfl, h1, h2, h3, h4⟩ := id r
  obtain ⟨A1, n1, rfl, _⟩ := h4.form
  have bel : Below w.heap.size w (w.alloc (.cells #[.int .i64 k, .int .i64 c, .bool wb, .int .i64 lb, .slice A1 kids.length n1] 26)) := (Below.refl _ _).alloc (Nat.le_refl _) _
  have BEL := Lib.hid bel
  have RA := Lib.hid (r.go bel hS)
  have HS := Lib.hid (hS.trans (Sub.upto bel.size))
  have BX := Lib.hid (Blk.made w [.int .i64 k, .int .i64 c, .bool wb, .int .i64 lb, .slice A1 kids.length n1] 26 (base := 0) (Nat.zero_le _))
  unfold tmV
  clear h4 bel r et h1 h2 h3 hS
  go_enter Try.func15, Try.ntmps15
  go_upto_region 1 with (fail)
  have hbs := BEL.out.size
  obtain ⟨X, hX⟩ : ∃ X, X = w.heap.size := ⟨_, rfl⟩
  rw [← hX] at BX ⊢
  clear hX
  generalize (w.alloc (.cells #[.int .i64 k, .int .i64 c, .bool wb, .int .i64 lb, .slice A1 kids.length n1] 26)) = W at *
  have x0 := BX.out.cell 0 _ rfl; have x1 := BX.out.cell 1 _ rfl; have x2 := BX.out.cell 2 _ rfl; have x3 := BX.out.cell 3 _ rfl; have x4 := BX.out.cell 4 _ rfl
  go_wp2_with fail
  refine (dls_all t W S _ HS.out RA.out hl).mono ?_
  rintro e w1 ⟨xl, rfl, hxl, hb⟩
  have hcl : t.leaves.length = t.count := rfl
  obtain ⟨A, cap, rfl⟩ := hxl.form
  rw [hcl]
  have B1 := Lib.hid (BEL.out.trans (hb.mono BEL.out.size))
  have HR := Lib.hid (show ∀ wx, Below w1.heap.size w1 wx → Sub S (Upto wx.heap.size) ∧ RdT wx S t (.agg #[.int .i64 k, .int .i64 c, .bool wb, .int .i64 lb, .slice A1 kids.length n1]) ∧ Blk 0 wx X [.int .i64 k, .int .i64 c, .bool wb, .int .i64 lb, .slice A1 kids.length n1] from fun wx h =>
    have h2 := hb.trans (h.mono hb.size)
    ⟨HS.out.trans (Sub.upto h2.size), RA.out.go h2 HS.out, BX.out.below h2⟩)
  clear hb hxl x0 x1 x2 x3 x4 BX RA HS BEL hcl
  obtain ⟨n, hn⟩ : ∃ n, n = t.count := ⟨_, rfl⟩
  have HN := Lib.hid hn
  have HAO := Lib.hid (fun h => apE_out (t := t) (i := i) (j := j) h)
  have HAB := Lib.hid (fun h h2 => apE_bad (t := t) (i := i) (j := j) h h2)
  have HAK := Lib.hid (fun h h2 => apE_ok (t := t) (i := i) (j := j) h h2)
  rw [← hn] at hl HAO HAB HAK ⊢
  clear hn
  have HBADR := Lib.hid (show ∀ (e : Int) wx, apE t i j = e → e ≠ 0 → Below w.heap.size w wx → ∃ x y, Ending.returned (.tuple #[.slice none 0 0, .slice none 0 0, .int .i64 e]) = .returned (.tuple #[x, y, .int .i64 (apE t i j)]) ∧ RdI wx (Plus Nowhere w.heap.size wx.heap.size) (apL t i j i j) x ∧ RdI wx (Plus Nowhere w.heap.size wx.heap.size) (apL t i j j i) y ∧ Below w.heap.size w wx from fun e wx he h0 hb => by
    have h1 : apE t i j ≠ 0 := by rw [he]; exact h0
    exact ⟨_, _, by rw [he], by rw [apL_bad h1]; exact RdL.nil (by simp [maxLen]), by rw [apL_bad h1]; exact RdL.nil (by simp [maxLen]), hb⟩)
  by_cases hlow : i < 0 ∨ j < 0
  · have HE := Lib.hid (HAO.out (hlow.elim .inl (fun h => .inr (.inl h))))
    rcases Int.lt_or_le i j with hc1 | hc1
    · have hi0 : i < 0 := by omega
      clear hlow
      go_wp2
      go_ret3
      exact HBADR.out 7 _ HE.out (by omega) B1.out
    · have hj0 : j < 0 := by omega
      have hc2 : ¬ i < j := by omega
      clear hlow
      go_wp2
      all_goals go_ret3
      all_goals exact HBADR.out 7 _ HE.out (by omega) B1.out
  by_cases hhi : (n : Int) ≤ i ∨ (n : Int) ≤ j
  · have HE := Lib.hid (HAO.out (hhi.elim (fun h => .inr (.inr (.inl h))) (fun h => .inr (.inr (.inr h)))))
    have hi0 : ¬ i < 0 := by omega
    have hj0 : ¬ j < 0 := by omega
    rcases Int.lt_or_le i j with hc1 | hc1
    · have hjn : j ≥ (n : Int) := by omega
      have hc3 : ¬ j < i := by omega
      clear hlow hhi
      go_wp2
      all_goals go_ret3
      all_goals exact HBADR.out 7 _ HE.out (by omega) B1.out
    · have hjn : i ≥ (n : Int) := by omega
      have hc2 : ¬ i < j := by omega
      clear hlow hhi
      go_wp2
      all_goals go_ret3
      all_goals exact HBADR.out 7 _ HE.out (by omega) B1.out
  have HIN := Lib.hid (show ¬ (i < 0 ∨ j < 0 ∨ (n : Int) ≤ i ∨ (n : Int) ≤ j) by omega)
  obtain ⟨a, rfl⟩ : ∃ a : Nat, i = (a : Int) := ⟨i.toNat, by omega⟩
  obtain ⟨b, rfl⟩ : ∃ a : Nat, j = (a : Int) := ⟨j.toNat, by omega⟩
  have han : a < n := by omega
  have hbn : b < n := by omega
  have hmin : ¬ min (a : Int) (b : Int) < 0 := by omega
  have hmax : ¬ (n : Int) ≤ max (a : Int) (b : Int) := by omega
  have hmax2 : ¬ max (a : Int) (b : Int) ≥ (n : Int) := by omega
  clear hlow hhi
  have hR1 := HR.out w1 (Below.refl _ _)
  have x0 := hR1.2.2.cell 0 _ rfl; have x1 := hR1.2.2.cell 1 _ rfl; have x2 := hR1.2.2.cell 2 _ rfl; have x3 := hR1.2.2.cell 3 _ rfl; have x4 := hR1.2.2.cell 4 _ rfl
  by_cases hab : a = b
  · subst hab
    have HE := Lib.hid (HAB.out HIN.out (.inl rfl))
    go_wp2
    go_ret3
    exact HBADR.out 1 _ HE.out (by omega) B1.out
  have hab2 : ((a : Int) == (b : Int)) = false := by simp; omega
  go_upto_region 4 with (fail)
  obtain ⟨bad, hbad⟩ : ∃ x, x = (befB t (a : Int) (b : Int) || befB t (b : Int) (a : Int)) := ⟨_, rfl⟩
  have HBAD := Lib.hid hbad
  clear hbad hmin hmax hmax2
  go_cut [43] (fun x wx => x = .bool bad ∧ Hid (Below w1.heap.size w1 wx))
  case first =>
    skip
    have CB1 := dbs_all t (a : Int) (b : Int) w1 S _ hR1.1 hR1.2.1 (by rw [← HN.out]; exact hl)
    cases h1 : befB t (a : Int) (b : Int) with
    | true =>
      have HBT := Lib.hid (show bad = true by rw [HBAD.out, h1]; rfl)
      rw [h1] at CB1
      clear h1
      go_wp2_with fail
      refine CB1.mono ?_
      rintro e w2 ⟨rfl, hb2⟩
      have HB2 := Lib.hid hb2
      clear hb2 CB1 x0 x1 x2 x3 x4 hR1
      go_wp2
      go_meet
      exact ⟨by rw [HBT.out], HB2⟩
    | false =>
      have HBT := Lib.hid (show bad = befB t (b : Int) (a : Int) by rw [HBAD.out, h1]; rfl)
      rw [h1] at CB1
      clear h1
      go_wp2_with fail
      refine CB1.mono ?_
      rintro e w2 ⟨rfl, hb2⟩
      have HB2 := Lib.hid hb2
      have hR2 := HR.out w2 hb2
      clear hb2 CB1 x0 x1 x2 x3 x4 hR1
      have x0 := hR2.2.2.cell 0 _ rfl; have x1 := hR2.2.2.cell 1 _ rfl; have x2 := hR2.2.2.cell 2 _ rfl; have x3 := hR2.2.2.cell 3 _ rfl; have x4 := hR2.2.2.cell 4 _ rfl
      have CB2 := dbs_all t (b : Int) (a : Int) w2 S _ hR2.1 hR2.2.1 (by rw [← HN.out]; exact hl)
      go_wp2_with fail
      refine CB2.mono ?_
      rintro e w3 ⟨rfl, hb3⟩
      have HB3 := Lib.hid (HB2.out.trans (hb3.mono HB2.out.size))
      clear hb3 CB2 x0 x1 x2 x3 x4 hR2
      go_wp2
      go_meet
      exact ⟨by rw [HBT.out], HB3⟩
  case rest =>
  obtain ⟨rfl, HB0⟩ := hcut
  clear x0 x1 x2 x3 x4 hR1
  have HBW := Lib.hid (B1.out.trans (HB0.out.mono B1.out.size))
  cases bad with
  | true =>
    have HE := Lib.hid (HAB.out HIN.out (.inr (by have h := HBAD.out; rw [eq_comm, Bool.or_eq_true] at h; exact h)))
    go_wp2
    go_ret3
    exact HBADR.out 1 _ HE.out (by omega) HBW.out
  | false =>
    have HE := Lib.hid (HAK.out HIN.out (fun h => by
      have hb := HBAD.out
      rcases h with h | h | h
      · omega
      · rw [h] at hb; cases hb
      · rw [h, Bool.or_true] at hb; cases hb))
    have HL := Lib.hid (show ∀ x y : Int, apL t (a : Int) (b : Int) x y = preP t a b n x y 2 from fun x y => by unfold apL; rw [if_pos HE.out, Int.toNat_natCast, Int.toNat_natCast, HN.out]; rfl)
    clear HBADR HAO HAB HAK
    have b1 : Below wc.heap.size wc ((wc.alloc (.cells #[] 3)).alloc (.cells #[] 3)) := ((Below.refl _ _).alloc (Nat.le_refl _) _).alloc (by simp) _
    have hse : (((wc.alloc (.cells #[] 3)).alloc (.cells #[] 3))).heap.size = wc.heap.size + 1 + 1 := by simp
    have o1 : OwnI 3 ((wc.alloc (.cells #[] 3)).alloc (.cells #[] 3)) w1.heap.size Nowhere [] (.slice (some ⟨wc.heap.size, 0, none⟩) 0 0) := (OwnL.empty wc HB0.out.size).keep Flat.keeps ((Below.refl _ _).alloc (Nat.le_refl _) _)
    have o2 : OwnI 3 ((wc.alloc (.cells #[] 3)).alloc (.cells #[] 3)) w1.heap.size Nowhere [] (.slice (some ⟨wc.heap.size + 1, 0, none⟩) 0 0) := by
      have h := OwnL.empty (rd := Flat encI inI) (size := 1) (E := 3) (S := Nowhere) (base := w1.heap.size) (wc.alloc (.cells #[] 3)) (by have := HB0.out.size; simp; omega)
      simpa using h
    have b2 : Below (((wc.alloc (.cells #[] 3)).alloc (.cells #[] 3))).heap.size ((wc.alloc (.cells #[] 3)).alloc (.cells #[] 3)) (((wc.alloc (.cells #[] 3)).alloc (.cells #[] 3)).alloc (.cells #[.bool true, .bool false] 4)) := (Below.refl _ _).alloc (Nat.le_refl _) _
    have bz := Blk.made ((wc.alloc (.cells #[] 3)).alloc (.cells #[] 3)) [.bool true, .bool false] 4 (base := 0) (Nat.zero_le _)
    rw [hse] at bz
    have O1 := Lib.hid (o1.keep Flat.keeps b2)
    have O2 := Lib.hid (o2.keep Flat.keeps b2)
    have BZ := Lib.hid bz
    have HB1 := Lib.hid (HB0.out.trans ((b1.trans (b2.mono b1.size)).mono HB0.out.size))
    clear b1 b2 o1 o2 bz hse
    go_upto_region 8 with (fail)
    obtain ⟨g, hg⟩ : ∃ g, g = wc.heap.size := ⟨_, rfl⟩
    rw [← hg] at O1 O2 BZ ⊢
    have HGW := Lib.hid (show w1.heap.size ≤ g by rw [hg]; exact HB0.out.size)
    clear hg
    generalize (((wc.alloc (.cells #[] 3)).alloc (.cells #[] 3)).alloc (.cells #[.bool true, .bool false] 4)) = W2 at *
    have hbz0 := BZ.out.cell 0 _ rfl
    have hbz1 := BZ.out.cell 1 _ rfl
    have hgl := BZ.out.lt
    have HZ := Lib.hid (show (∀ p, p < 2 → W2.cell? ⟨g + 1 + 1, p, none⟩ = some (.bool (decide (p = 0)))) from fun p hp => by
      match p, hp with
      | 0, _ => exact hbz0
      | 1, _ => exact hbz1)
    clear hbz0 hbz1 BZ
    go_loopw [10, 11, 48] (fun ra rb u wr => ∃ p : Nat, p ≤ 2 ∧ u = .int .i64 p ∧ Hid (OwnI 3 wr w1.heap.size Nowhere (preP t a b n a b p) ra) ∧ Hid (OwnI 3 wr w1.heap.size Nowhere (preP t a b n b a p) rb) ∧ Hid (∀ k, ra.ownBlock = some k → rb.ownBlock ≠ some k) ∧ Hid (∀ k, (ra.ownBlock = some k ∨ rb.ownBlock = some k) → k ≠ g + 1 + 1) ∧ Hid (But (fun x => w1.heap.size ≤ x ∧ x ≠ g + 1 + 1) W2 wr)) (fun _ _ u _ => 2 - (intOf u).toNat)
    case atStart => exact ⟨0, Nat.zero_le _, rfl, O1, O2, Lib.hid (fun k h1 h2 => by simp only [Value.ownBlock, Option.some.injEq] at h1 h2; omega), Lib.hid (fun k h => by rcases h with h | h <;> (simp only [Value.ownBlock, Option.some.injEq] at h; omega)), Lib.hid (But.refl _ _)⟩
    case round =>
      clear O1 O2
      obtain ⟨p, hp, rfl, HA, HBE, HD, HNG, HBT⟩ := hrel
      have HF1 := Lib.hid (show Below w1.heap.size w1 wr from HB1.out.trans (HBT.out.below HB1.out.size (fun x hx => hx.1)))
      by_cases hlt : p < 2
      · skip
        have hz := HBT.out.cell (p := ⟨g + 1 + 1, p, none⟩) (fun h => h.2 rfl) (HZ.out p hlt)
        have p0 : (0 : Int) ≤ (p : Int) := by omega
        have p1 : (p : Int) < 2 := by omega
        obtain ⟨eb, heb⟩ : ∃ x, x = decide (p = 0) := ⟨_, rfl⟩
        rw [← heb] at hz
        have HEB := Lib.hid heb
        clear heb
        obtain ⟨W3, hW3⟩ : ∃ x, x = wr := ⟨_, rfl⟩
        subst hW3
        have A0 := Lib.hid (show OwnI 3 W3 w1.heap.size Nowhere (preP t a b n a b p ++ passL t a b eb 0) u10 by rw [passL_zero, List.append_nil]; exact HA.out)
        have B0 := Lib.hid (show OwnI 3 W3 w1.heap.size Nowhere (preP t a b n b a p ++ passL t a b eb 0) u11 by rw [passL_zero, List.append_nil]; exact HBE.out)
        clear HA HBE
        go_upto_region 11 with (fail)
        go_loopw [10, 11, 53] (fun ra rb u wi => ∃ q : Nat, q ≤ n ∧ u = .int .i64 q ∧ Hid (OwnI 3 wi w1.heap.size Nowhere (preP t a b n a b p ++ passL t a b eb q) ra) ∧ Hid (OwnI 3 wi w1.heap.size Nowhere (preP t a b n b a p ++ passL t a b eb q) rb) ∧ Hid (∀ k, ra.ownBlock = some k → rb.ownBlock ≠ some k) ∧ Hid (∀ k, (ra.ownBlock = some k ∨ rb.ownBlock = some k) → k ≠ g + 1 + 1) ∧ Hid (But (fun x => w1.heap.size ≤ x ∧ x ≠ g + 1 + 1) W2 wi)) (fun _ _ u _ => n - (intOf u).toNat)
        case atStart => exact ⟨0, Nat.zero_le _, rfl, A0, B0, HD, HNG, HBT⟩
        case round =>
          clear A0 B0 HD HNG HBT hz
          obtain ⟨q, hq, rfl, HA, HBE, HD, HNG, HBT⟩ := hrel
          have HF2 := Lib.hid (show Below w1.heap.size w1 wr from HB1.out.trans (HBT.out.below HB1.out.size (fun x hx => hx.1)))
          have HGS := Lib.hid (show g + 1 + 1 < wr.heap.size from Nat.lt_of_lt_of_le hgl HBT.out.size)
          by_cases hltq : q < n
          · skip
            have q0 : (0 : Int) ≤ (q : Int) := by omega
            have q1 : (q : Int) < (n : Int) := by omega
            have HPS := Lib.hid (passL_succ t a b eb q)
            obtain ⟨cnd, hcnd⟩ : ∃ x, x = (!decide (q = a) && !decide (q = b) && (earlyB t a b q == eb)) := ⟨_, rfl⟩
            rw [← hcnd] at HPS
            have HCND := Lib.hid hcnd
            clear hcnd
            have HEB2 := Lib.hid (show earlyB t a b q = (befB t (q : Int) (a : Int) || befB t (q : Int) (b : Int)) by
              unfold earlyB
              rw [befB_n (by rw [← HN.out]; exact hltq) (by rw [← HN.out]; exact han), befB_n (by rw [← HN.out]; exact hltq) (by rw [← HN.out]; exact hbn)])
            rw [HEB2.out] at HCND
            have hR1 := HR.out wr HF2.out
            have x0 := hR1.2.2.cell 0 _ rfl; have x1 := hR1.2.2.cell 1 _ rfl; have x2 := hR1.2.2.cell 2 _ rfl; have x3 := hR1.2.2.cell 3 _ rfl; have x4 := hR1.2.2.cell 4 _ rfl
            go_upto_region 13 with (fail)
            go_cut [77] (fun x wx => x = .bool cnd ∧ Hid (Below wr.heap.size wr wx))
            case first =>
              skip
              by_cases hqa : q = a
              · subst hqa
                have HX := Lib.hid (show cnd = false by rw [HCND.out]; simp)
                clear HCND HPS
                go_wp2
                go_meet
                exact ⟨by rw [HX.out], Lib.hid (Below.refl _ _)⟩
              · have hqa2 : ((q : Int) == (a : Int)) = false := by simp; omega
                by_cases hqb : q = b
                · subst hqb
                  have HX := Lib.hid (show cnd = false by rw [HCND.out]; simp)
                  clear HCND HPS
                  go_wp2
                  go_meet
                  exact ⟨by rw [HX.out], Lib.hid (Below.refl _ _)⟩
                · have hqb2 : ((q : Int) == (b : Int)) = false := by simp; omega
                  rw [decide_eq_false hqa, decide_eq_false hqb] at HCND
                  have hqaM : ((q : Int) != (a : Int)) = true := by simp; omega
                  have hqbM : ((q : Int) != (b : Int)) = true := by simp; omega
                  have CB1 := dbs_all t (q : Int) (a : Int) wr S _ hR1.1 hR1.2.1 (by rw [← HN.out]; exact hl)
                  cases h1 : befB t (q : Int) (a : Int) with
                  | true =>
                    have HX := Lib.hid (show cnd = (true == eb) by rw [HCND.out, h1]; rfl)
                    rw [h1] at CB1
                    clear h1
                    go_wp2_with fail
                    refine CB1.mono ?_
                    rintro e w2 ⟨rfl, hb2⟩
                    have HB2 := Lib.hid hb2
                    clear hb2 CB1 x0 x1 x2 x3 x4 hR1 HCND HPS
                    cases eb
                    all_goals
                      go_wp2
                      go_meet
                      exact ⟨by rw [HX.out]; first | rfl | simp [hqaM, hqbM], HB2⟩
                  | false =>
                    obtain ⟨e2, he2⟩ : ∃ z, z = befB t (q : Int) (b : Int) := ⟨_, rfl⟩
                    have HX := Lib.hid (show cnd = (e2 == eb) by rw [HCND.out, h1, he2]; rfl)
                    rw [h1] at CB1
                    clear h1
                    go_wp2_with fail
                    refine CB1.mono ?_
                    rintro e w2 ⟨rfl, hb2⟩
                    have HB2 := Lib.hid hb2
                    have hR2 := HR.out w2 (HF2.out.trans (hb2.mono HF2.out.size))
                    clear hb2 CB1 x0 x1 x2 x3 x4 hR1
                    have x0 := hR2.2.2.cell 0 _ rfl; have x1 := hR2.2.2.cell 1 _ rfl; have x2 := hR2.2.2.cell 2 _ rfl; have x3 := hR2.2.2.cell 3 _ rfl; have x4 := hR2.2.2.cell 4 _ rfl
                    have CB2 := dbs_all t (q : Int) (b : Int) w2 S _ hR2.1 hR2.2.1 (by rw [← HN.out]; exact hl)
                    rw [← he2] at CB2
                    clear he2
                    go_wp2_with fail
                    refine CB2.mono ?_
                    rintro e w3 ⟨rfl, hb3⟩
                    have HB3 := Lib.hid (HB2.out.trans (hb3.mono HB2.out.size))
                    clear hb3 CB2 x0 x1 x2 x3 x4 hR2 HCND HPS
                    cases eb <;> cases e2
                    all_goals
                      go_wp2
                      go_meet
                      exact ⟨by rw [HX.out]; first | rfl | simp [hqaM, hqbM], HB3⟩
            case rest =>
              obtain ⟨rfl, HBX⟩ := hcut
              clear x0 x1 x2 x3 x4 hR1 HCND HEB2
              have HA2 := Lib.hid (HA.out.keep Flat.keeps HBX.out)
              have HL2 := Lib.hid (HBE.out.keep Flat.keeps HBX.out)
              have HBT2 := Lib.hid (HBT.out.trans (But.of_below HBX.out))
              have HSZ := Lib.hid (show w1.heap.size ≤ wc.heap.size from Nat.le_trans HF2.out.size HBX.out.size)
              have HGC := Lib.hid (show g + 1 + 1 < wc.heap.size from Nat.lt_of_lt_of_le HGS.out HBX.out.size)
              have HLEN := Lib.hid (show ∀ x y : Int, (preP t a b n x y p ++ passL t a b eb q).length ≤ 4194304 from fun x y => by have h1 := preP_len t a b n x y p; have h2 := passL_len t a b eb q; rw [List.length_append]; omega)
              clear HA HBE HBX HF2 HGS HBT
              cases cnd with
              | false =>
                have HPN := Lib.hid (show passL t a b eb (q + 1) = passL t a b eb q by rw [HPS.out]; rfl)
                go_wp2
                go_roundw
                case rel => exact ⟨q + 1, hltq, by go_num, Lib.hid (by rw [HPN.out]; exact HA2.out), Lib.hid (by rw [HPN.out]; exact HL2.out), HD, HNG, HBT2⟩
                case measure => simp [intOf]; omega
              | true =>
                have HPN := Lib.hid (show ∀ x y : Int, preP t a b n x y p ++ passL t a b eb (q + 1) = (preP t a b n x y p ++ passL t a b eb q) ++ [(q : Int)] from fun x y => by rw [HPS.out, if_pos rfl, List.append_assoc])
                have HPNA := Lib.hid (HPN.out (a : Int) (b : Int))
                have HPNB := Lib.hid (HPN.out (b : Int) (a : Int))
                have HLE1 := Lib.hid (HLEN.out (a : Int) (b : Int))
                have HLE2 := Lib.hid (HLEN.out (b : Int) (a : Int))
                obtain ⟨la, hla⟩ : ∃ z, z = preP t a b n a b p ++ passL t a b eb q := ⟨_, rfl⟩
                rw [← hla] at HPNA HLE1 HA2
                obtain ⟨lb2, hlb⟩ : ∃ z, z = preP t a b n b a p ++ passL t a b eb q := ⟨_, rfl⟩
                rw [← hlb] at HPNB HLE2 HL2
                clear hla hlb HPN HLEN
                go_wp2_with (at_builtin; refine wpList_append_one rfl _ _ 34 rfl i0 _ Try.underlying34 hi hz0 hz1 hz2 rfl (by decide) Flat.keeps HA2.out (x := (q : Int)) (cs := [Value.int .i64 (q : Int)]) (Tx := Nowhere) ?d0 rfl rfl rfl (Sub.nowhere _) (Sub.nowhere _) not_nowhere ?d1 ?d2 ?d3 ?d4 ?_)
                case d0 => exact ⟨rfl, by unfold inI; omega⟩
                case d1 => simp [Value.oneCell']
                case d2 => have := HLE1.out; unfold maxLen; omega
                case d3 => have := HLE1.out; omega
                try (case d4 => exact HSZ.out)
                intro v3 w3 ho3 hg3 hn3
                have HO3 := Lib.hid (show OwnI 3 w3 w1.heap.size Nowhere (preP t a b n a b p ++ passL t a b eb (q + 1)) v3 by rw [HPNA.out]; exact ho3)
                have HL3 := Lib.hid (HL2.out.but (But.of_grown hg3) (fun k hk h => HD.out k h hk))
                have HD3 := Lib.hid (two_rows HD.out (fun k h => (HL2.out.lt k h).2) hn3)
                have HS3 := Lib.hid (show wc.heap.size ≤ w3.heap.size from (But.of_grown hg3).size)
                have HN3 := Lib.hid (show ∀ k, v3.ownBlock = some k → w1.heap.size ≤ k ∧ k ≠ g + 1 + 1 from fun k h => ⟨(ho3.lt k h).1, by
                  rcases hn3 with e | e
                  · rw [e] at h; exact HNG.out k (.inl h)
                  · rw [e] at h; injection h with h; have := HGC.out; omega⟩)
                have HBT3 := Lib.hid (HBT2.out.trans ((But.of_grown hg3).sub (fun k hk => ⟨(HA2.out.lt k hk).1, HNG.out k (.inl hk)⟩)))
                have HSZ3 := Lib.hid (Nat.le_trans HSZ.out HS3.out)
                clear ho3 hg3 hn3 HA2 HL2 HBT2
                go_wp2_with (at_builtin; refine wpList_append_one rfl _ _ 34 rfl i0 _ Try.underlying34 hi hz0 hz1 hz2 rfl (by decide) Flat.keeps HL3.out (x := (q : Int)) (cs := [Value.int .i64 (q : Int)]) (Tx := Nowhere) ?d0 rfl rfl rfl (Sub.nowhere _) (Sub.nowhere _) not_nowhere ?d1 ?d2 ?d3 ?d4 ?_)
                case d0 => exact ⟨rfl, by unfold inI; omega⟩
                case d1 => simp [Value.oneCell']
                case d2 => have := HLE2.out; unfold maxLen; omega
                case d3 => have := HLE2.out; omega
                try (case d4 => exact HSZ3.out)
                intro v4 w4 ho4 hg4 hn4
                have HO4 := Lib.hid (show OwnI 3 w4 w1.heap.size Nowhere (preP t a b n b a p ++ passL t a b eb (q + 1)) v4 by rw [HPNB.out]; exact ho4)
                have HA4 := Lib.hid (HO3.out.but (But.of_grown hg4) (fun k hk h => HD3.out k hk h))
                have HD4 := Lib.hid (show ∀ k, v3.ownBlock = some k → v4.ownBlock ≠ some k from fun k h1 h2 => two_rows (fun k h h' => HD3.out k h' h) (fun k h => (HO3.out.lt k h).2) hn4 k h2 h1)
                have HN4 := Lib.hid (show ∀ k, (v3.ownBlock = some k ∨ v4.ownBlock = some k) → k ≠ g + 1 + 1 from fun k h => by
                  rcases h with h | h
                  · exact (HN3.out k h).2
                  · rcases hn4 with e | e
                    · rw [e] at h; exact HNG.out k (.inr h)
                    · rw [e] at h; injection h with h; have := HGC.out; have := HS3.out; omega)
                have HBT4 := Lib.hid (HBT3.out.trans ((But.of_grown hg4).sub (fun k hk => ⟨(HL3.out.lt k hk).1, HNG.out k (.inr hk)⟩)))
                clear ho4 hg4 hn4 HO3 HL3 HBT3
                go_wp2_with fail
                go_roundw
                case rel => exact ⟨q + 1, hltq, by go_num, HA4, HO4, HD4, HN4, HBT4⟩
                case measure => simp [intOf]; omega
          · have hqe : q = n := by omega
            subst hqe
            have HSZ := Lib.hid HF2.out.size
            have HPL := Lib.hid (show ∀ x y : Int, (preP t a b q x y p).length ≤ 2097160 from fun x y => by have := preP_len t a b q x y p; omega)
            have HPQ := Lib.hid (passL_len t a b eb q)
            cases eb with
            | false =>
              have hp1 : p = 1 := by
                have h := HEB.out
                rw [eq_comm, decide_eq_false_iff_not] at h
                omega
              subst hp1
              have HA2 := Lib.hid (show OwnI 3 wr w1.heap.size Nowhere (preP t a b q a b (1 + 1)) u10 from HA.out)
              have HL2 := Lib.hid (show OwnI 3 wr w1.heap.size Nowhere (preP t a b q b a (1 + 1)) u11 from HBE.out)
              clear HA HBE
              go_wp2
              go_roundw
              case rel => exact ⟨1 + 1, by omega, by go_num, HA2, HL2, HD, HNG, HBT⟩
              case measure => simp [intOf]
            | true =>
              have hp1 : p = 0 := by
                have h := HEB.out
                rw [eq_comm, decide_eq_true_iff] at h
                exact h
              subst hp1
              have HEL := Lib.hid (earlyL_len t a b q)
              have HA2 := Lib.hid (show OwnI 3 wr w1.heap.size Nowhere (earlyL t a b q) u10 from HA.out)
              have HL2 := Lib.hid (show OwnI 3 wr w1.heap.size Nowhere (earlyL t a b q) u11 from HBE.out)
              clear HA HBE HPL HPQ
              have bel := (Below.refl wr.heap.size wr).alloc (Nat.le_refl _) (.cells #[.int .i64 (a : Int), .int .i64 (b : Int)] 3)
              have HO := Lib.hid (HA2.out.keep Flat.keeps bel)
              have HX := Lib.hid ((two_lit wr (a : Int) (b : Int) (by unfold inI; omega) (by unfold inI; omega)).bare Nowhere)
              have HSB := Lib.hid (show w1.heap.size ≤ wr.heap.size + 1 from Nat.le_trans HSZ.out (Nat.le_succ _))
              have HBL := Lib.hid bel
              clear bel
              obtain ⟨la, hla⟩ : ∃ z, z = earlyL t a b q := ⟨_, rfl⟩
              have HLA := Lib.hid hla
              rw [← hla] at HO HEL HA2 HL2
              clear hla
              go_wp2_with (at_builtin; refine wpList_append_list rfl _ _ 34 rfl i0 _ Try.underlying34 hi hz0 hz1 hz2 rfl (by decide) Flat.keeps HO.out HX.out rfl rfl (Sub.nowhere _) (Sub.nowhere _) not_nowhere oneI ?c3 ?c4 ?c5 ?_)
              case c3 => have := HEL.out; (try simp only [List.length_cons, List.length_nil]); unfold maxLen; omega
              case c4 => have := HEL.out; (try simp only [List.length_cons, List.length_nil]); omega
              case c5 => first | exact HSB.out | simpa using HSB.out
              intro v3 w3 ho3 hg3 hn3
              have HO3 := Lib.hid ho3
              have bg1 := (But.of_below HBL.out (T := fun x => u10.ownBlock = some x)).trans (But.of_grown hg3)
              have HL3 := Lib.hid (HL2.out.but bg1 (fun k hk h => HD.out k h hk))
              have HS3 := Lib.hid bg1.size
              have HD3 := Lib.hid (show ∀ k, v3.ownBlock = some k → u11.ownBlock ≠ some k from fun k hk h => by
                rcases hn3 with e | e
                · rw [e] at hk; exact HD.out k hk h
                · rw [e] at hk; injection hk with hk; have h1 := (HL2.out.lt k h).2; have h2 := HBL.out.size; omega)
              have HN3 := Lib.hid (show ∀ k, v3.ownBlock = some k → w1.heap.size ≤ k ∧ k ≠ g + 1 + 1 from fun k h => ⟨(ho3.lt k h).1, by
                rcases hn3 with e | e
                · rw [e] at h; exact HNG.out k (.inl h)
                · rw [e] at h; injection h with h; have h1 := HGS.out; have h2 := HBL.out.size; omega⟩)
              have HBT3 := Lib.hid (HBT.out.trans (bg1.sub (fun k hk => ⟨(HA2.out.lt k hk).1, HNG.out k (.inl hk)⟩)))
              clear ho3 hg3 hn3 HO HX HA2 HL2 HBT bg1
              have bel := (Below.refl w3.heap.size w3).alloc (Nat.le_refl _) (.cells #[.int .i64 (b : Int), .int .i64 (a : Int)] 3)
              have HO := Lib.hid (HL3.out.keep Flat.keeps bel)
              have HX := Lib.hid ((two_lit w3 (b : Int) (a : Int) (by unfold inI; omega) (by unfold inI; omega)).bare Nowhere)
              have HSB2 := Lib.hid (show w1.heap.size ≤ w3.heap.size + 1 from Nat.le_trans HSZ.out (Nat.le_trans HS3.out (Nat.le_succ _)))
              have HBL2 := Lib.hid bel
              clear bel HBL
              go_wp2_with (at_builtin; refine wpList_append_list rfl _ _ 34 rfl i0 _ Try.underlying34 hi hz0 hz1 hz2 rfl (by decide) Flat.keeps HO.out HX.out rfl rfl (Sub.nowhere _) (Sub.nowhere _) not_nowhere oneI ?c3 ?c4 ?c5 ?_)
              case c3 => have := HEL.out; (try simp only [List.length_cons, List.length_nil]); unfold maxLen; omega
              case c4 => have := HEL.out; (try simp only [List.length_cons, List.length_nil]); omega
              case c5 => first | exact HSB2.out | simpa using HSB2.out
              intro v4 w4 ho4 hg4 hn4
              have bg2 := (But.of_below HBL2.out (T := fun x => u11.ownBlock = some x)).trans (But.of_grown hg4)
              have HA4 := Lib.hid (show OwnI 3 w4 w1.heap.size Nowhere (preP t a b q a b (0 + 1)) v3 by
                show OwnI 3 w4 w1.heap.size Nowhere (earlyL t a b q ++ [(a : Int), (b : Int)]) v3
                rw [← HLA.out]; exact HO3.out.but bg2 (fun k hk h => HD3.out k hk h))
              have HO4 := Lib.hid (show OwnI 3 w4 w1.heap.size Nowhere (preP t a b q b a (0 + 1)) v4 by
                show OwnI 3 w4 w1.heap.size Nowhere (earlyL t a b q ++ [(b : Int), (a : Int)]) v4
                rw [← HLA.out]; exact ho4)
              have HD4 := Lib.hid (show ∀ k, v3.ownBlock = some k → v4.ownBlock ≠ some k from fun k h1 h2 => by
                rcases hn4 with e | e
                · rw [e] at h2; exact HD3.out k h1 h2
                · rw [e] at h2; injection h2 with h2; have h3 := (HO3.out.lt k h1).2; have h4 := HBL2.out.size; omega)
              have HN4 := Lib.hid (show ∀ k, (v3.ownBlock = some k ∨ v4.ownBlock = some k) → k ≠ g + 1 + 1 from fun k h => by
                rcases h with h | h
                · exact (HN3.out k h).2
                · rcases hn4 with e | e
                  · rw [e] at h; exact HNG.out k (.inr h)
                  · rw [e] at h; injection h with h; have h1 := HGS.out; have h2 := HBL2.out.size; have h3 := HS3.out; omega)
              have HBT4 := Lib.hid (HBT3.out.trans (bg2.sub (fun k hk => ⟨(HL3.out.lt k hk).1, HNG.out k (.inr hk)⟩)))
              clear ho4 hg4 hn4 HO HX HO3 HL3 HBT3 bg2 HBL2
              go_wp2_with fail
              go_roundw
              case rel => exact ⟨0 + 1, by omega, by go_num, HA4, HO4, HD4, HN4, HBT4⟩
              case measure => simp [intOf]
      · have hpe : p = 2 := by omega
        subst hpe
        have HL1 := Lib.hid (preP_len t a b n a b 2)
        have HL2 := Lib.hid (preP_len t a b n b a 2)
        obtain ⟨l3, hl3⟩ : ∃ l, l = preP t a b n a b 2 := ⟨_, rfl⟩
        have HL30 := Lib.hid hl3
        rw [← hl3] at HA HL1
        obtain ⟨l4, hl4⟩ : ∃ l, l = preP t a b n b a 2 := ⟨_, rfl⟩
        have HL40 := Lib.hid hl4
        rw [← hl4] at HBE HL2
        clear hl3 hl4
        obtain ⟨A3, c3, rfl⟩ := HA.out.form
        obtain ⟨A4, c4, rfl⟩ := HBE.out.form
        have HFW := Lib.hid (B1.out.trans (HF1.out.mono B1.out.size))
        have hsw := Lib.hid B1.out.size
        go_wp2
        go_ret3
        refine ⟨_, _, by rw [HE.out]; rfl, ?_, ?_, HFW.out⟩
        · rw [HL.out, ← HL30.out]
          exact HA.out.toRd (bytes := 8) Flat.keeps (by have := HL1.out; omega) (Sub.nowhere _) (fun b h1 h2 => .inr ⟨by have := hsw.out; omega, h2⟩)
        · rw [HL.out, ← HL40.out]
          exact HBE.out.toRd (bytes := 8) Flat.keeps (by have := HL2.out; omega) (Sub.nowhere _) (fun b h1 h2 => .inr ⟨by have := hsw.out; omega, h2⟩)
end Go.Proofs.Ytfldajplclahfaa
