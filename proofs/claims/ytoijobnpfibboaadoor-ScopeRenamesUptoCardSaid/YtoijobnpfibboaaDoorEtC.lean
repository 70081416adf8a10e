/- The walk of the reference's EClean. -/
import Derived.Test.YtoijobnpfibboaaDoorEtW
namespace Go.Proofs.YtoijobnpfibboaaDoor
open Go.RowKit
set_option linter.unusedVariables false
def ECs (t : Ex) : Prop := ∀ (w : World) (S : Blocks) (V : Value), Sub S (Upto w.heap.size) → RdE w S t V →
  Calls Tryd.prog 19 #[V] w fun e w' => ∃ U, e = .returned U ∧ RdE w' (Plus S w.heap.size w'.heap.size) (clean t) U ∧ Below w.heap.size w w'
set_option maxHeartbeats 2000000 in
set_option maxRecDepth 100000 in
theorem ecl_two (t a b : Ex) (ht : t.two = some (a, b)) (iha : ECs a) (ihb : ECs b) : ECs t := by
  intro w S V hS r
  obtain ⟨k, c, s, args, v, rfl, rfl, hk, hc, hs, hargs⟩ := id r
  obtain ⟨hkk, r', hr'⟩ := Ex.two_kind ht
  simp only [Ex.kind, Ex.args] at hkk hr'
  subst hr'
  obtain ⟨A, cap, rfl, hcl, hcm, _⟩ := hargs.form
  obtain ⟨b0, off, k0, c0, s0, v0, rfl, hsb, x0, x1, x2, x3, ra⟩ := RdExs.arg hargs (q := 0) (by simp)
  obtain ⟨b0', off', k1, c1, s1, v1, hA, hsb', y0, y1, y2, y3, rb⟩ := RdExs.arg hargs (q := 1) (by simp)
  injection hA with hA
  injection hA with e1 e2
  subst e1 e2
  simp only [List.getElem_cons_zero, List.getElem_cons_succ] at ra rb
  rw [Nat.zero_mul, Nat.add_zero] at x0 x1 x2 x3
  rw [Nat.one_mul] at y0 y1 y2 y3
  have hl2 : 2 ≤ (a :: b :: r').length := by simp
  have bel : Below w.heap.size w ((w.alloc (.cells #[.int .i64 k, .int .i64 c, .string s, .slice (some ⟨b0, off, none⟩) (a :: b :: r').length cap] 29)).alloc (.cells #[.int .i64 0, .int .i64 0, .string noS, .slice none 0 0] 29)) := ((Below.refl _ _).alloc (Nat.le_refl _) _).alloc (by simp) _
  have RA := Lib.hid (r.go bel hS)
  have BEL := Lib.hid bel
  have HT := Lib.hid ht
  have HW := Lib.hid (clean_two ht)
  have HK := Lib.hid hk
  have HBX := Lib.hid ((Blk.made w [.int .i64 k, .int .i64 c, .string s, .slice (some ⟨b0, off, none⟩) (a :: b :: r').length cap] 29 (base := 0) (Nat.zero_le _)).below ((Below.refl _ _).alloc (Nat.le_refl _) (.cells #[.int .i64 0, .int .i64 0, .string noS, .slice none 0 0] 29)))
  have HBR := Lib.hid (Blk.made (w.alloc (.cells #[.int .i64 k, .int .i64 c, .string s, .slice (some ⟨b0, off, none⟩) (a :: b :: r').length cap] 29)) [.int .i64 0, .int .i64 0, .string noS, .slice none 0 0] 29 (base := 0) (Nat.zero_le _))
  rw [World.size_alloc] at HBR
  have HS := Lib.hid hS
  have RVa := Lib.hid ra
  have RVb := Lib.hid rb
  have IHa := Lib.hid iha
  have IHb := Lib.hid ihb
  have hb0 : b0 < w.heap.size := hS _ hsb
  obtain ⟨A1, m1, n1, rfl⟩ := ra.slice
  obtain ⟨A2, m2, n2, rfl⟩ := rb.slice
  unfold maxLen at hcm
  unfold exV
  clear hargs r bel hk hc hs hS ra rb iha ihb ht
  generalize hn : (a :: b :: r').length = n at *
  go_enter Tryd.func19, Tryd.ntmps19
  go_wp2_with fail
  refine (two_yes _ a b HT.out _ S _ RA.out).mono ?_
  rintro e w1 ⟨rfl, bb1⟩
  have BX1 := HBX.out.below bb1
  have BR1 := HBR.out.below bb1
  have hz1 := BEL.out.size
  have hz2 := bb1.size
  have hzl : w.heap.size + 1 < w1.heap.size := BR1.lt
  have hzx : w.heap.size < w1.heap.size := BX1.lt
  have kx0 := BX1.cell 0 _ rfl
  have kx3 := BX1.cell 3 _ rfl
  have kr0 := BR1.cell 0 _ rfl; have kr1 := BR1.cell 1 _ rfl; have kr2 := BR1.cell 2 _ rfl; have kr3 := BR1.cell 3 _ rfl
  have fr0 := BR1.fr 0; have fr1 := BR1.fr 1; have fr2 := BR1.fr 2; have fr3 := BR1.fr 3
  have BEL1 := Lib.hid (BEL.out.trans (bb1.mono hz1))
  have WRa := Lib.hid (RVa.out.go BEL1.out HS.out)
  have WRb := Lib.hid (RVb.out.go BEL1.out HS.out)
  have f0 := (BEL1.out.cell (p := ⟨b0, off, none⟩) hb0).trans x0
  have f1 := (BEL1.out.cell (p := ⟨b0, off + 1, none⟩) hb0).trans x1
  have f2 := (BEL1.out.cell (p := ⟨b0, off + 2, none⟩) hb0).trans x2
  have f3 := (BEL1.out.cell (p := ⟨b0, off + 3, none⟩) hb0).trans x3
  have f4 := (BEL1.out.cell (p := ⟨b0, off + 4, none⟩) hb0).trans y0
  have f5 := (BEL1.out.cell (p := ⟨b0, off + 4 + 1, none⟩) hb0).trans y1
  have f6 := (BEL1.out.cell (p := ⟨b0, off + 4 + 2, none⟩) hb0).trans y2
  have f7 := (BEL1.out.cell (p := ⟨b0, off + 4 + 3, none⟩) hb0).trans y3
  have hbl : b0 < w1.heap.size := by omega
  have HSW := Lib.hid (HS.out.trans (Sub.upto (show w.heap.size ≤ w1.heap.size by omega)))
  have HNR := Lib.hid (show ¬ S (w.heap.size + 1) from fun h => by have := HS.out _ h; unfold Upto at this; omega)
  clear bb1 BEL RA HBX BX1 HBR BR1 RVa RVb x0 x1 x2 x3 y0 y1 y2 y3
  have hneb : b0 ≠ w.heap.size + 1 := by omega
  have hnex : w.heap.size ≠ w.heap.size + 1 := by omega
  have hn0 : (0 : Int) < (n : Int) := by omega
  have hn00 : 0 < n := by omega
  have hn1 : (1 : Int) < (n : Int) := by omega
  have hn2 : 1 < n := by omega
  have HWP := Lib.hid (fun w' h => Stay.size h : ∀ w', Stay w1 w' → w1.heap.size ≤ w'.heap.size)
  go_upto_region 2 with (fail)
  go_region_held3 (fun w' => StayX (w.heap.size + 1) w1 w') (first | assumption | exact StayX.of_stay (Stay.mk (Kept.start _)) | ((repeat (with_reducible first | refine StayX.set ?_ _ | refine StayX.drew ?_ | refine StayX.alloc ?_ _)); assumption))
    (first
      | ((go_at_call_of 19 (Value.agg #[.int .i64 k0, .int .i64 c0, .string s0, .slice A1 m1 n1]); refine (IHa.out _ S _ (HSW.out.trans (Sub.upto (HWP.out _ (by first | assumption | exact Stay.mk (Kept.start _))))) (WRa.out.keep (Sub.refl _) (Same.sub (Stay.same (by first | assumption | exact Stay.mk (Kept.start _))) HSW.out))).mono ?_; rintro e wa1 ⟨U1, rfl, hu1, hb1⟩; have hp1 : FrP w1.heap.size S wa1 (clean a) U1 := FrP.of hu1 (HWP.out _ (by first | assumption | exact Stay.mk (Kept.start _))) (HSW.out.trans (Sub.upto (Nat.le_trans (HWP.out _ (by first | assumption | exact Stay.mk (Kept.start _))) hb1.size))); obtain ⟨A3, n3, rfl⟩ := hp1.form; have hst1 : Stay w1 wa1 := Stay.step hb1 (by first | assumption | exact Stay.mk (Kept.start _)); have hr1 : StayX (w.heap.size + 1) w1 wa1 := StayX.of_stay hst1; have HLS := Lib.hid hst1; have hRl : w.heap.size + 1 < wa1.heap.size := Nat.lt_of_lt_of_le hzl (HWP.out _ hst1); have hc0 := (hst1.1 ⟨w.heap.size + 1, 0, none⟩ hzl).trans kr0; have hc1 := (hst1.1 ⟨w.heap.size + 1, 1, none⟩ hzl).trans kr1; have hc2 := (hst1.1 ⟨w.heap.size + 1, 2, none⟩ hzl).trans kr2; have hc3 := (hst1.1 ⟨w.heap.size + 1, 3, none⟩ hzl).trans kr3; have hf0 := (hst1.2.1 ⟨w.heap.size + 1, 0, none⟩ hzl).trans fr0; have hf1 := (hst1.2.1 ⟨w.heap.size + 1, 1, none⟩ hzl).trans fr1; have hf2 := (hst1.2.1 ⟨w.heap.size + 1, 2, none⟩ hzl).trans fr2; have hf3 := (hst1.2.1 ⟨w.heap.size + 1, 3, none⟩ hzl).trans fr3))
      | ((go_at_call_of 19 (Value.agg #[.int .i64 k1, .int .i64 c1, .string s1, .slice A2 m2 n2]); refine (IHb.out _ S _ (HSW.out.trans (Sub.upto (HWP.out _ (by first | assumption | exact Stay.mk (Kept.start _))))) (WRb.out.keep (Sub.refl _) (Same.sub (Stay.same (by first | assumption | exact Stay.mk (Kept.start _))) HSW.out))).mono ?_; rintro e wb1 ⟨U2, rfl, hu2, hb2⟩; have hp2 : FrP w1.heap.size S wb1 (clean b) U2 := FrP.of hu2 (HWP.out _ (by first | assumption | exact Stay.mk (Kept.start _))) (HSW.out.trans (Sub.upto (Nat.le_trans (HWP.out _ (by first | assumption | exact Stay.mk (Kept.start _))) hb2.size))); obtain ⟨A4, n4, rfl⟩ := hp2.form; have hst2 : Stay w1 wb1 := Stay.step hb2 (by first | assumption | exact Stay.mk (Kept.start _)); have hr2 : StayX (w.heap.size + 1) w1 wb1 := StayX.of_stay hst2; have HLS := Lib.hid hst2; have hRl : w.heap.size + 1 < wb1.heap.size := Nat.lt_of_lt_of_le hzl (HWP.out _ hst2); have hc0 := (hst2.1 ⟨w.heap.size + 1, 0, none⟩ hzl).trans kr0; have hc1 := (hst2.1 ⟨w.heap.size + 1, 1, none⟩ hzl).trans kr1; have hc2 := (hst2.1 ⟨w.heap.size + 1, 2, none⟩ hzl).trans kr2; have hc3 := (hst2.1 ⟨w.heap.size + 1, 3, none⟩ hzl).trans kr3; have hf0 := (hst2.2.1 ⟨w.heap.size + 1, 0, none⟩ hzl).trans fr0; have hf1 := (hst2.2.1 ⟨w.heap.size + 1, 1, none⟩ hzl).trans fr1; have hf2 := (hst2.2.1 ⟨w.heap.size + 1, 2, none⟩ hzl).trans fr2; have hf3 := (hst2.2.1 ⟨w.heap.size + 1, 3, none⟩ hzl).trans fr3)))
  all_goals (
    rename_i hheld
    clear hheld
    try clear hst1
    try clear hst2
    try clear hr1
    try clear hr2
    go_wp2
    first
      | (obtain ⟨W9, hW9, d0, d1, d2, d3, hp9, hb9⟩ := fin_two HK.out HLS.out hzl HNR.out hc0 hc1 hc2 hc3 (wl := wb1) (FrP.via hb2 hp1) hp2
         show bodyPost _ _ _ _ _ ((set4 wb1 (w.heap.size + 1) _ _ _ _).alloc _)
         rw [← hW9]
         refine bodyPost_ret (v := .agg #[.int .i64 k, .int .i64 0, .string noS, .slice (some ⟨wb1.heap.size, 0, none⟩) 2 2]) (by simp [results, Tryd.results19, go_sem, d0, d1, d2, d3]) rfl ⟨_, rfl, ?_, ?_⟩
         · rw [HW.out]
           exact hp9.rd (by omega)
         · exact hb9 _ _ (by omega) (BEL1.out.trans (HLS.out.below.mono BEL1.out.size)))
      | (obtain ⟨W9, hW9, d0, d1, d2, d3, hp9, hb9⟩ := fin_two HK.out HLS.out hzl HNR.out hc0 hc1 hc2 hc3 (wl := wa1) hp1 (FrP.via hb1 hp2)
         show bodyPost _ _ _ _ _ ((set4 wa1 (w.heap.size + 1) _ _ _ _).alloc _)
         rw [← hW9]
         refine bodyPost_ret (v := .agg #[.int .i64 k, .int .i64 0, .string noS, .slice (some ⟨wa1.heap.size, 0, none⟩) 2 2]) (by simp [results, Tryd.results19, go_sem, d0, d1, d2, d3]) rfl ⟨_, rfl, ?_, ?_⟩
         · rw [HW.out]
           exact hp9.rd (by omega)
         · exact hb9 _ _ (by omega) (BEL1.out.trans (HLS.out.below.mono BEL1.out.size))))
set_option maxHeartbeats 1000000 in
set_option maxRecDepth 100000 in
theorem ecl_one (t : Ex) (ht : t.two = none) : ECs t := by
  intro w S V hS r
  obtain ⟨k, c, s, args, v, rfl, rfl, hk, hc, hs, hargs⟩ := id r
  obtain ⟨A, cap, rfl, _, hcm, _⟩ := hargs.form
  have bel : Below w.heap.size w ((w.alloc (.cells #[.int .i64 k, .int .i64 c, .string s, .slice A args.length cap] 29)).alloc (.cells #[.int .i64 0, .int .i64 0, .string noS, .slice none 0 0] 29)) := ((Below.refl _ _).alloc (Nat.le_refl _) _).alloc (by simp) _
  have RA := Lib.hid (r.go bel hS)
  have BEL := Lib.hid bel
  have HS := Lib.hid hS
  have HNK := Lib.hid (And.intro hk (And.intro hc hs))
  have HSU := Lib.hid (hS.trans (Sub.upto bel.size))
  have HBX := Lib.hid ((Blk.made w [.int .i64 k, .int .i64 c, .string s, .slice A args.length cap] 29 (base := 0) (Nat.zero_le _)).below ((Below.refl _ _).alloc (Nat.le_refl _) (.cells #[.int .i64 0, .int .i64 0, .string noS, .slice none 0 0] 29)))
  have HBR := Lib.hid (Blk.made (w.alloc (.cells #[.int .i64 k, .int .i64 c, .string s, .slice A args.length cap] 29)) [.int .i64 0, .int .i64 0, .string noS, .slice none 0 0] 29 (base := 0) (Nat.zero_le _))
  simp only [World.size_alloc] at HBR
  have HT := Lib.hid ht
  have HW := Lib.hid (clean_none ht)
  unfold maxLen at hcm
  unfold exV
  clear hargs r bel hk hc hs hS ht
  go_enter Tryd.func19, Tryd.ntmps19
  go_wp2_with fail
  refine (two_no _ HT.out _ S _ RA.out).mono ?_
  rintro e w1 ⟨rfl, bb1⟩
  have HBX1 := Lib.hid (HBX.out.below bb1)
  have kxl := HBX1.out.lt
  have kx0 := HBX1.out.cell 0 _ rfl; have kx1 := HBX1.out.cell 1 _ rfl; have kx2 := HBX1.out.cell 2 _ rfl; have kx3 := HBX1.out.cell 3 _ rfl
  have HBR1 := Lib.hid (HBR.out.below bb1)
  have krl := HBR1.out.lt
  have kr0 := HBR1.out.cell 0 _ rfl; have kr1 := HBR1.out.cell 1 _ rfl; have kr2 := HBR1.out.cell 2 _ rfl; have kr3 := HBR1.out.cell 3 _ rfl
  have fr0 := HBR1.out.fr 0; have fr1 := HBR1.out.fr 1; have fr2 := HBR1.out.fr 2; have fr3 := HBR1.out.fr 3
  have HB := Lib.hid (BEL.out.trans (bb1.mono BEL.out.size))
  have hne : w.heap.size ≠ w.heap.size + 1 := by omega
  clear bb1 RA HSU
  by_cases h2 : k = 2
  · subst h2
    have HX := Lib.hid (show clean (.mk 2 c s args) = nameE s by rw [HW.out]; rfl)
    go_wp2
    refine bodyPost_ret (v := .agg #[.int .i64 2, .int .i64 0, .string s, .slice none 0 0]) (by simp [results, Tryd.results19, go_sem, kr0, kr1, kr2, kr3]) rfl ⟨_, rfl, ?_, ?_⟩
    · show RdE (set4 w1 (w.heap.size + 1) _ _ _ _) _ _ _
      rw [HX.out]
      exact RdE.leaf _ _ (by decide) (by decide) HNK.out.2.2
    · show Below _ _ (set4 w1 (w.heap.size + 1) _ _ _ _)
      exact set4_below (HB.out) (by omega)
  · by_cases h1 : k = 1
    · subst h1
      clear h2
      have HX := Lib.hid (show clean (.mk 1 c s args) = numE c by rw [HW.out]; rfl)
      go_wp2
      refine bodyPost_ret (v := .agg #[.int .i64 1, .int .i64 c, .string noS, .slice none 0 0]) (by simp [results, Tryd.results19, go_sem, kr0, kr1, kr2, kr3]) rfl ⟨_, rfl, ?_, ?_⟩
      · show RdE (set4 w1 (w.heap.size + 1) _ _ _ _) _ _ _
        rw [HX.out]
        exact RdE.leaf _ _ (by decide) HNK.out.2.1 (by decide)
      · show Below _ _ (set4 w1 (w.heap.size + 1) _ _ _ _)
        exact set4_below (HB.out) (by omega)
    · have HX := Lib.hid (show clean (.mk k c s args) = numE 0 by rw [HW.out]; simp [Ex.kind, h1, h2])
      have g1 : (k == 1) = false := by simpa using h1
      have g2 : (k == 2) = false := by simpa using h2
      clear h1 h2
      go_wp2
      refine bodyPost_ret (v := .agg #[.int .i64 1, .int .i64 0, .string noS, .slice none 0 0]) (by simp [results, Tryd.results19, go_sem, kr0, kr1, kr2, kr3]) rfl ⟨_, rfl, ?_, ?_⟩
      · show RdE (set4 w1 (w.heap.size + 1) _ _ _ _) _ _ _
        rw [HX.out]
        exact RdE.leaf _ _ (by decide) (by decide) (by decide)
      · show Below _ _ (set4 w1 (w.heap.size + 1) _ _ _ _)
        exact set4_below (HB.out) (by omega)
theorem ecl_all (t : Ex) : ECs t := Ex.ind ecl_one ecl_two t
end Go.Proofs.YtoijobnpfibboaaDoor
