/- Texts merged: EtC, Rn4, ScW, RnRow, Rn5, RnBack, Rn3. -/
import Derived.Test.YtnpgpcnkdocknaaGreatDoorGEtW
import Derived.Test.YtnpgpcnkdocknaaGreatDoorGPqSpec
import Derived.Test.YtnpgpcnkdocknaaGreatDoorGBlk
import Derived.Laws.Strings
import Derived.Test.YtnpgpcnkdocknaaGreatDoorGPq2
import Derived.Test.YtnpgpcnkdocknaaGreatDoorGAppZ
import Derived.Test.YtnpgpcnkdocknaaGreatDoorStW
import Derived.RangeFuncNested
import Derived.RangeFuncBound
import Derived.RangeFuncCalls
import Derived.RangeFuncLeaves
import Derived.Shelf.Abstract
import Derived.OwnWalkIn
import Derived.TacticsInMore
import Derived.LoopNIn
import Derived.LoopIn
import Derived.IntWalk
namespace Go.Proofs.YtnpgpcnkdocknaaGreatDoor
open Go.RowKit
set_option linter.unusedVariables false
def ECs (t : Ex) : Prop := ∀ (w : World) (S : Blocks) (V : Value), Sub S (Upto w.heap.size) → RdE w S t V →
 Calls Tryz.prog 60 #[V] w fun e w' => ∃ U, e = .returned U ∧ RdE w' (Plus S w.heap.size w'.heap.size) (clean t) U ∧ Below w.heap.size w w'
set_option maxHeartbeats 2000000 in
set_option maxRecDepth 100000 in
theorem ecl_two (t a b : Ex) (ht : t.two = some (a, b)) (iha : ECs a) (ihb : ECs b) : ECs t := by
 intro w S V hS r
 obtain ⟨k, c, s, args, v, rfl, rfl, hk, hc, hs, hargs⟩ := id r
 obtain ⟨hkk, r', hr'⟩ := Ex.two_kind ht
 simp only [Ex.kind, Ex.args] at hkk hr'
 subst hr'
 obtain ⟨A, cap, rfl, hcl, hcm, _⟩ := hargs.form
 obtain ⟨b0, off, k0, c0, s0, v0, rfl, hsb, x0, x1, x2, x3, ra⟩ := RdExs.arg hargs (q := 0) (by simp)
 obtain ⟨b0', off', k1, c1, s1, v1, hA, hsb', y0, y1, y2, y3, rb⟩ := RdExs.arg hargs (q := 1) (by simp)
 injection hA with hA
 injection hA with e1 e2
 subst e1 e2
 simp only [List.getElem_cons_zero, List.getElem_cons_succ] at ra rb
 rw [Nat.zero_mul, Nat.add_zero] at x0 x1 x2 x3
 rw [Nat.one_mul] at y0 y1 y2 y3
 have hl2 : 2 ≤ (a :: b :: r').length := by simp
 have bel : Below w.heap.size w ((w.alloc (.cells #[.int .i64 k, .int .i64 c, .string s, .slice (some ⟨b0, off, none⟩) (a :: b :: r').length cap] 80)).alloc (.cells #[.int .i64 0, .int .i64 0, .string noS, .slice none 0 0] 80)) := ((Below.refl _ _).alloc (Nat.le_refl _) _).alloc (by simp) _
 have RA := hid (r.go bel hS)
 have BEL := hid bel
 have HT := hid ht
 have HW := hid (clean_two ht)
 have HK := hid hk
 have HBX := hid ((Blk.made w [.int .i64 k, .int .i64 c, .string s, .slice (some ⟨b0, off, none⟩) (a :: b :: r').length cap] 80 (base := 0) (Nat.zero_le _)).below ((Below.refl _ _).alloc (Nat.le_refl _) (.cells #[.int .i64 0, .int .i64 0, .string noS, .slice none 0 0] 80)))
 have HBR := hid (Blk.made (w.alloc (.cells #[.int .i64 k, .int .i64 c, .string s, .slice (some ⟨b0, off, none⟩) (a :: b :: r').length cap] 80)) [.int .i64 0, .int .i64 0, .string noS, .slice none 0 0] 80 (base := 0) (Nat.zero_le _))
 rw [World.size_alloc] at HBR
 have HS := hid hS
 have RVa := hid ra
 have RVb := hid rb
 have IHa := hid iha
 have IHb := hid ihb
 have hb0 : b0 < w.heap.size := hS _ hsb
 obtain ⟨A1, m1, n1, rfl⟩ := ra.slice
 obtain ⟨A2, m2, n2, rfl⟩ := rb.slice
 unfold maxLen at hcm
 unfold exV
 clear hargs r bel hk hc hs hS ra rb iha ihb ht
 generalize hn : (a :: b :: r').length = n at *
 go_enter Tryz.func60, Tryz.ntmps60
 go_wp2_with fail
 refine (two_yes _ a b HT.out _ S _ RA.out).mono ?_
 rintro e w1 ⟨rfl, bb1⟩
 have BX1 := HBX.out.below bb1
 have BR1 := HBR.out.below bb1
 have hz1 := BEL.out.size
 have hz2 := bb1.size
 have hzl : w.heap.size + 1 < w1.heap.size := BR1.lt
 have hzx : w.heap.size < w1.heap.size := BX1.lt
 have kx0 := BX1.cell 0 _ rfl
 have kx3 := BX1.cell 3 _ rfl
 have kr0 := BR1.cell 0 _ rfl; have kr1 := BR1.cell 1 _ rfl; have kr2 := BR1.cell 2 _ rfl; have kr3 := BR1.cell 3 _ rfl
 have fr0 := BR1.fr 0; have fr1 := BR1.fr 1; have fr2 := BR1.fr 2; have fr3 := BR1.fr 3
 have BEL1 := hid (BEL.out.trans (bb1.mono hz1))
 have WRa := hid (RVa.out.go BEL1.out HS.out)
 have WRb := hid (RVb.out.go BEL1.out HS.out)
 have f0 := (BEL1.out.cell (p := ⟨b0, off, none⟩) hb0).trans x0
 have f1 := (BEL1.out.cell (p := ⟨b0, off + 1, none⟩) hb0).trans x1
 have f2 := (BEL1.out.cell (p := ⟨b0, off + 2, none⟩) hb0).trans x2
 have f3 := (BEL1.out.cell (p := ⟨b0, off + 3, none⟩) hb0).trans x3
 have f4 := (BEL1.out.cell (p := ⟨b0, off + 4, none⟩) hb0).trans y0
 have f5 := (BEL1.out.cell (p := ⟨b0, off + 4 + 1, none⟩) hb0).trans y1
 have f6 := (BEL1.out.cell (p := ⟨b0, off + 4 + 2, none⟩) hb0).trans y2
 have f7 := (BEL1.out.cell (p := ⟨b0, off + 4 + 3, none⟩) hb0).trans y3
 have hbl : b0 < w1.heap.size := by omega
 have HSW := hid (HS.out.trans (Sub.upto (show w.heap.size ≤ w1.heap.size by omega)))
 have HNR := hid (show ¬ S (w.heap.size + 1) from fun h => by have := HS.out _ h; unfold Upto at this; omega)
 clear bb1 BEL RA HBX BX1 HBR BR1 RVa RVb x0 x1 x2 x3 y0 y1 y2 y3
 have hneb : b0 ≠ w.heap.size + 1 := by omega
 have hnex : w.heap.size ≠ w.heap.size + 1 := by omega
 have hn0 : (0 : Int) < (n : Int) := by omega
 have hn00 : 0 < n := by omega
 have hn1 : (1 : Int) < (n : Int) := by omega
 have hn2 : 1 < n := by omega
 have HWP := hid (fun w' h => Stay.size h : ∀ w', Stay w1 w' → w1.heap.size ≤ w'.heap.size)
 go_upto_region 2 with (fail)
 go_region_held3 (fun w' => StayX (w.heap.size + 1) w1 w') (first | assumption | exact StayX.of_stay (Stay.mk (Kept.start _)) | ((repeat (with_reducible first | refine StayX.set ?_ _ | refine StayX.drew ?_ | refine StayX.alloc ?_ _)); assumption))
  (first
   | ((go_at_call_of 60 (Value.agg #[.int .i64 k0, .int .i64 c0, .string s0, .slice A1 m1 n1]); refine (IHa.out _ S _ (HSW.out.trans (Sub.upto (HWP.out _ (by first | assumption | exact Stay.mk (Kept.start _))))) (WRa.out.keep (Sub.refl _) (Same.sub (Stay.same (by first | assumption | exact Stay.mk (Kept.start _))) HSW.out))).mono ?_; rintro e wa1 ⟨U1, rfl, hu1, hb1⟩; have hp1 : FrP w1.heap.size S wa1 (clean a) U1 := FrP.of hu1 (HWP.out _ (by first | assumption | exact Stay.mk (Kept.start _))) (HSW.out.trans (Sub.upto (Nat.le_trans (HWP.out _ (by first | assumption | exact Stay.mk (Kept.start _))) hb1.size))); obtain ⟨A3, n3, rfl⟩ := hp1.form; have hst1 : Stay w1 wa1 := Stay.step hb1 (by first | assumption | exact Stay.mk (Kept.start _)); have hr1 : StayX (w.heap.size + 1) w1 wa1 := StayX.of_stay hst1; have HLS := hid hst1; have hRl : w.heap.size + 1 < wa1.heap.size := Nat.lt_of_lt_of_le hzl (HWP.out _ hst1); have hc0 := (hst1.1 ⟨w.heap.size + 1, 0, none⟩ hzl).trans kr0; have hc1 := (hst1.1 ⟨w.heap.size + 1, 1, none⟩ hzl).trans kr1; have hc2 := (hst1.1 ⟨w.heap.size + 1, 2, none⟩ hzl).trans kr2; have hc3 := (hst1.1 ⟨w.heap.size + 1, 3, none⟩ hzl).trans kr3; have hf0 := (hst1.2.1 ⟨w.heap.size + 1, 0, none⟩ hzl).trans fr0; have hf1 := (hst1.2.1 ⟨w.heap.size + 1, 1, none⟩ hzl).trans fr1; have hf2 := (hst1.2.1 ⟨w.heap.size + 1, 2, none⟩ hzl).trans fr2; have hf3 := (hst1.2.1 ⟨w.heap.size + 1, 3, none⟩ hzl).trans fr3))
   | ((go_at_call_of 60 (Value.agg #[.int .i64 k1, .int .i64 c1, .string s1, .slice A2 m2 n2]); refine (IHb.out _ S _ (HSW.out.trans (Sub.upto (HWP.out _ (by first | assumption | exact Stay.mk (Kept.start _))))) (WRb.out.keep (Sub.refl _) (Same.sub (Stay.same (by first | assumption | exact Stay.mk (Kept.start _))) HSW.out))).mono ?_; rintro e wb1 ⟨U2, rfl, hu2, hb2⟩; have hp2 : FrP w1.heap.size S wb1 (clean b) U2 := FrP.of hu2 (HWP.out _ (by first | assumption | exact Stay.mk (Kept.start _))) (HSW.out.trans (Sub.upto (Nat.le_trans (HWP.out _ (by first | assumption | exact Stay.mk (Kept.start _))) hb2.size))); obtain ⟨A4, n4, rfl⟩ := hp2.form; have hst2 : Stay w1 wb1 := Stay.step hb2 (by first | assumption | exact Stay.mk (Kept.start _)); have hr2 : StayX (w.heap.size + 1) w1 wb1 := StayX.of_stay hst2; have HLS := hid hst2; have hRl : w.heap.size + 1 < wb1.heap.size := Nat.lt_of_lt_of_le hzl (HWP.out _ hst2); have hc0 := (hst2.1 ⟨w.heap.size + 1, 0, none⟩ hzl).trans kr0; have hc1 := (hst2.1 ⟨w.heap.size + 1, 1, none⟩ hzl).trans kr1; have hc2 := (hst2.1 ⟨w.heap.size + 1, 2, none⟩ hzl).trans kr2; have hc3 := (hst2.1 ⟨w.heap.size + 1, 3, none⟩ hzl).trans kr3; have hf0 := (hst2.2.1 ⟨w.heap.size + 1, 0, none⟩ hzl).trans fr0; have hf1 := (hst2.2.1 ⟨w.heap.size + 1, 1, none⟩ hzl).trans fr1; have hf2 := (hst2.2.1 ⟨w.heap.size + 1, 2, none⟩ hzl).trans fr2; have hf3 := (hst2.2.1 ⟨w.heap.size + 1, 3, none⟩ hzl).trans fr3)))
 all_goals (
  rename_i hheld
  clear hheld
  try clear hst1
  try clear hst2
  try clear hr1
  try clear hr2
  go_wp2
  first
   | (obtain ⟨W9, hW9, d0, d1, d2, d3, hp9, hb9⟩ := fin_two HK.out HLS.out hzl HNR.out hc0 hc1 hc2 hc3 (wl := wb1) (FrP.via hb2 hp1) hp2
      show bodyPost _ _ _ _ _ ((set4 wb1 (w.heap.size + 1) _ _ _ _).alloc _)
      rw [← hW9]
      refine bodyPost_ret (v := .agg #[.int .i64 k, .int .i64 0, .string noS, .slice (some ⟨wb1.heap.size, 0, none⟩) 2 2]) (by simp [results, Tryz.results60, go_sem, d0, d1, d2, d3]) rfl ⟨_, rfl, ?_, ?_⟩
      ·rw [HW.out]
       exact hp9.rd (by omega)
      ·exact hb9 _ _ (by omega) (BEL1.out.trans (HLS.out.below.mono BEL1.out.size)))
   | (obtain ⟨W9, hW9, d0, d1, d2, d3, hp9, hb9⟩ := fin_two HK.out HLS.out hzl HNR.out hc0 hc1 hc2 hc3 (wl := wa1) hp1 (FrP.via hb1 hp2)
      show bodyPost _ _ _ _ _ ((set4 wa1 (w.heap.size + 1) _ _ _ _).alloc _)
      rw [← hW9]
      refine bodyPost_ret (v := .agg #[.int .i64 k, .int .i64 0, .string noS, .slice (some ⟨wa1.heap.size, 0, none⟩) 2 2]) (by simp [results, Tryz.results60, go_sem, d0, d1, d2, d3]) rfl ⟨_, rfl, ?_, ?_⟩
      ·rw [HW.out]
       exact hp9.rd (by omega)
      ·exact hb9 _ _ (by omega) (BEL1.out.trans (HLS.out.below.mono BEL1.out.size))))
set_option maxHeartbeats 1000000 in
set_option maxRecDepth 100000 in
theorem ecl_one (t : Ex) (ht : t.two = none) : ECs t := by
 intro w S V hS r
 obtain ⟨k, c, s, args, v, rfl, rfl, hk, hc, hs, hargs⟩ := id r
 obtain ⟨A, cap, rfl, _, hcm, _⟩ := hargs.form
 have bel : Below w.heap.size w ((w.alloc (.cells #[.int .i64 k, .int .i64 c, .string s, .slice A args.length cap] 80)).alloc (.cells #[.int .i64 0, .int .i64 0, .string noS, .slice none 0 0] 80)) := ((Below.refl _ _).alloc (Nat.le_refl _) _).alloc (by simp) _
 have RA := hid (r.go bel hS)
 have BEL := hid bel
 have HS := hid hS
 have HNK := hid (And.intro hk (And.intro hc hs))
 have HSU := hid (hS.trans (Sub.upto bel.size))
 have HBX := hid ((Blk.made w [.int .i64 k, .int .i64 c, .string s, .slice A args.length cap] 80 (base := 0) (Nat.zero_le _)).below ((Below.refl _ _).alloc (Nat.le_refl _) (.cells #[.int .i64 0, .int .i64 0, .string noS, .slice none 0 0] 80)))
 have HBR := hid (Blk.made (w.alloc (.cells #[.int .i64 k, .int .i64 c, .string s, .slice A args.length cap] 80)) [.int .i64 0, .int .i64 0, .string noS, .slice none 0 0] 80 (base := 0) (Nat.zero_le _))
 simp only [World.size_alloc] at HBR
 have HT := hid ht
 have HW := hid (clean_none ht)
 unfold maxLen at hcm
 unfold exV
 clear hargs r bel hk hc hs hS ht
 go_enter Tryz.func60, Tryz.ntmps60
 go_wp2_with fail
 refine (two_no _ HT.out _ S _ RA.out).mono ?_
 rintro e w1 ⟨rfl, bb1⟩
 have HBX1 := hid (HBX.out.below bb1)
 have kxl := HBX1.out.lt
 have kx0 := HBX1.out.cell 0 _ rfl; have kx1 := HBX1.out.cell 1 _ rfl; have kx2 := HBX1.out.cell 2 _ rfl; have kx3 := HBX1.out.cell 3 _ rfl
 have HBR1 := hid (HBR.out.below bb1)
 have krl := HBR1.out.lt
 have kr0 := HBR1.out.cell 0 _ rfl; have kr1 := HBR1.out.cell 1 _ rfl; have kr2 := HBR1.out.cell 2 _ rfl; have kr3 := HBR1.out.cell 3 _ rfl
 have fr0 := HBR1.out.fr 0; have fr1 := HBR1.out.fr 1; have fr2 := HBR1.out.fr 2; have fr3 := HBR1.out.fr 3
 have HB := hid (BEL.out.trans (bb1.mono BEL.out.size))
 have hne : w.heap.size ≠ w.heap.size + 1 := by omega
 clear bb1 RA HSU
 by_cases h2 : k = 2
 ·subst h2
  have HX := hid (show clean (.mk 2 c s args) = nameE s by rw [HW.out]; rfl)
  go_wp2
  refine bodyPost_ret (v := .agg #[.int .i64 2, .int .i64 0, .string s, .slice none 0 0]) (by simp [results, Tryz.results60, go_sem, kr0, kr1, kr2, kr3]) rfl ⟨_, rfl, ?_, ?_⟩
  ·show RdE (set4 w1 (w.heap.size + 1) _ _ _ _) _ _ _
   rw [HX.out]
   exact RdE.leaf _ _ (by decide) (by decide) HNK.out.2.2
  ·show Below _ _ (set4 w1 (w.heap.size + 1) _ _ _ _)
   exact set4_below (HB.out) (by omega)
 ·by_cases h1 : k = 1
  ·subst h1
   clear h2
   have HX := hid (show clean (.mk 1 c s args) = numE c by rw [HW.out]; rfl)
   go_wp2
   refine bodyPost_ret (v := .agg #[.int .i64 1, .int .i64 c, .string noS, .slice none 0 0]) (by simp [results, Tryz.results60, go_sem, kr0, kr1, kr2, kr3]) rfl ⟨_, rfl, ?_, ?_⟩
   ·show RdE (set4 w1 (w.heap.size + 1) _ _ _ _) _ _ _
    rw [HX.out]
    exact RdE.leaf _ _ (by decide) HNK.out.2.1 (by decide)
   ·show Below _ _ (set4 w1 (w.heap.size + 1) _ _ _ _)
    exact set4_below (HB.out) (by omega)
  ·have HX := hid (show clean (.mk k c s args) = numE 0 by rw [HW.out]; simp [Ex.kind, h1, h2])
   have g1 : (k == 1) = false := by simpa using h1
   have g2 : (k == 2) = false := by simpa using h2
   clear h1 h2
   go_wp2
   refine bodyPost_ret (v := .agg #[.int .i64 1, .int .i64 0, .string noS, .slice none 0 0]) (by simp [results, Tryz.results60, go_sem, kr0, kr1, kr2, kr3]) rfl ⟨_, rfl, ?_, ?_⟩
   ·show RdE (set4 w1 (w.heap.size + 1) _ _ _ _) _ _ _
    rw [HX.out]
    exact RdE.leaf _ _ (by decide) (by decide) (by decide)
   ·show Below _ _ (set4 w1 (w.heap.size + 1) _ _ _ _)
    exact set4_below (HB.out) (by omega)
theorem ecl_all (t : Ex) : ECs t := Ex.ind ecl_one ecl_two t
end Go.Proofs.YtnpgpcnkdocknaaGreatDoor
namespace Go.Proofs.YtnpgpcnkdocknaaGreatDoor
open Go.RowKit Go.Shelf
set_option linter.unusedVariables false
theorem RmAt.below {base z m : Nat} {w w' : World} {V : Env} {vo vn : Value} (h : RmAt base z w V m vo vn) (hb : Below w.heap.size w w') : RmAt base z w' V m vo vn :=
 ⟨h.bl.below hb, Nat.lt_of_lt_of_le h.zl hb.size, h.oo.keep Flat.keeps hb, h.on.keep Flat.keeps hb, h.no, h.nn, h.di, fun k hk => .inl hk, fun k hk => .inl hk, But.refl _ _⟩
theorem ret_ex {fn : Func} {R : Ending → World → Prop} {a : Act} {w : World} {T G base : Nat} {k c : Int} {s : Str} {v : Value} (hr : fn.results = #[.cell T 80]) (ht : a.tmps.getD T undef = .pointer (some ⟨G, 0, none⟩)) (hd : a.defers = [])
    (B : Blk base w G [.int .i64 k, .int .i64 c, .string s, v]) (h : R (.returned (.agg #[.int .i64 k, .int .i64 c, .string s, v])) w) : bodyPost Tryz.prog fn R .ret a w := by
 have r0 := B.cell 0 _ rfl; have r1 := B.cell 1 _ rfl; have r2 := B.cell 2 _ rfl; have r3 := B.cell 3 _ rfl
 rw [Array.getD_eq_getD_getElem?] at ht
 exact bodyPost_ret (v := .agg #[.int .i64 k, .int .i64 c, .string s, v]) (by simp [results, hr, ht, go_sem, r0, r1, r2, r3]) hd h
def RXs (V : Env) (t : Ex) : Prop := ∀ (base z m : Nat) (w : World) (S : Blocks) (U vo vn : Value), RmAt base z w V m vo vn → base ≤ w.heap.size → V.length ≤ 1073741000 → Sub S (Upto w.heap.size) → RdE w S t U →
 Calls Tryz.prog 47 #[.pointer (some ⟨z, 0, none⟩), U] w fun e w' => ∃ U', e = .returned U' ∧ RdE w' (Plus Nowhere w.heap.size w'.heap.size) (renE V t) U' ∧ Below w.heap.size w w'
set_option maxHeartbeats 2000000 in
set_option maxRecDepth 100000 in
theorem rx_two (V : Env) (t a b : Ex) (ht : t.two = some (a, b)) (iha : RXs V a) (ihb : RXs V b) : RXs V t := by
 intro base z m w S U vo vn hm hbw hVl hS r
 obtain ⟨k, c, s, args, v, rfl, rfl, hk, hc, hs, hargs⟩ := id r
 obtain ⟨hkk, r', hr'⟩ := Ex.two_kind ht
 simp only [Ex.kind, Ex.args] at hkk hr'
 subst hr'
 obtain ⟨A, cap, rfl, hcl, hcm, _⟩ := hargs.form
 obtain ⟨b0, off, k0, c0, s0, v0, rfl, hsb, x0, x1, x2, x3, ra⟩ := RdExs.arg hargs (q := 0) (by simp)
 obtain ⟨b0', off', k1, c1, s1, v1, hA, hsb', y0, y1, y2, y3, rb⟩ := RdExs.arg hargs (q := 1) (by simp)
 injection hA with hA
 injection hA with e1 e2
 subst e1 e2
 simp only [List.getElem_cons_zero, List.getElem_cons_succ] at ra rb
 rw [Nat.zero_mul, Nat.add_zero] at x0 x1 x2 x3
 rw [Nat.one_mul] at y0 y1 y2 y3
 have hl2 : 2 ≤ (a :: b :: r').length := by simp
 have HRG := hid r
 clear r
 obtain ⟨n, hn⟩ : ∃ n, n = (a :: b :: r').length := ⟨_, rfl⟩
 rw [← hn] at hcl hl2 ⊢
 clear hn hargs
 have bl1 : Below w.heap.size w (w.alloc (.cells #[.pointer (some ⟨z, 0, none⟩)] 108)) := (Below.refl _ _).alloc (Nat.le_refl _) _
 have bl2 : Below w.heap.size w (((w.alloc (.cells #[.pointer (some ⟨z, 0, none⟩)] 108))).alloc (.cells #[.int .i64 k, .int .i64 c, .string s, .slice (some ⟨b0, off, none⟩) n cap] 80)) := bl1.alloc (by simp) _
 have bel : Below w.heap.size w (((((w.alloc (.cells #[.pointer (some ⟨z, 0, none⟩)] 108))).alloc (.cells #[.int .i64 k, .int .i64 c, .string s, .slice (some ⟨b0, off, none⟩) n cap] 80))).alloc (.cells #[.int .i64 0, .int .i64 0, .string noS, .slice none 0 0] 80)) := bl2.alloc (by simp; omega) _
 have HW := hid (renE_two (V := V) ht)
 have HK := hid hk
 have BP := (Blk.made w [.pointer (some ⟨z, 0, none⟩)] 108 (base := 0) (Nat.zero_le _)).below (w' := (((((w.alloc (.cells #[.pointer (some ⟨z, 0, none⟩)] 108))).alloc (.cells #[.int .i64 k, .int .i64 c, .string s, .slice (some ⟨b0, off, none⟩) n cap] 80))).alloc (.cells #[.int .i64 0, .int .i64 0, .string noS, .slice none 0 0] 80))) (((Below.refl _ _).alloc (Nat.le_refl _) _).alloc (by simp) _)
 have BX := (Blk.made (w.alloc (.cells #[.pointer (some ⟨z, 0, none⟩)] 108)) [.int .i64 k, .int .i64 c, .string s, .slice (some ⟨b0, off, none⟩) n cap] 80 (base := 0) (Nat.zero_le _)).below (w' := (((((w.alloc (.cells #[.pointer (some ⟨z, 0, none⟩)] 108))).alloc (.cells #[.int .i64 k, .int .i64 c, .string s, .slice (some ⟨b0, off, none⟩) n cap] 80))).alloc (.cells #[.int .i64 0, .int .i64 0, .string noS, .slice none 0 0] 80))) ((Below.refl _ _).alloc (Nat.le_refl _) _)
 have BR := Blk.made (((w.alloc (.cells #[.pointer (some ⟨z, 0, none⟩)] 108))).alloc (.cells #[.int .i64 k, .int .i64 c, .string s, .slice (some ⟨b0, off, none⟩) n cap] 80)) [.int .i64 0, .int .i64 0, .string noS, .slice none 0 0] 80 (base := 0) (Nat.zero_le _)
 simp only [World.size_alloc] at BX BR
 have BEL := hid bel
 have HS := hid hS
 have WRa := hid (ra.go bel hS)
 have WRb := hid (rb.go bel hS)
 have IHa := hid iha
 have IHb := hid ihb
 have RM := hid (hm.below bel)
 have hb0 : b0 < w.heap.size := hS _ hsb
 have f0 := (bel.cell (p := ⟨b0, off, none⟩) hb0).trans x0
 have f1 := (bel.cell (p := ⟨b0, off + 1, none⟩) hb0).trans x1; have f2 := (bel.cell (p := ⟨b0, off + 2, none⟩) hb0).trans x2; have f3 := (bel.cell (p := ⟨b0, off + 3, none⟩) hb0).trans x3
 have g0 := (bel.cell (p := ⟨b0, off + 4, none⟩) hb0).trans y0
 have g1 := (bel.cell (p := ⟨b0, off + 4 + 1, none⟩) hb0).trans y1; have g2 := (bel.cell (p := ⟨b0, off + 4 + 2, none⟩) hb0).trans y2; have g3 := (bel.cell (p := ⟨b0, off + 4 + 3, none⟩) hb0).trans y3
 obtain ⟨A1, m1, n1, rfl⟩ := ra.slice
 obtain ⟨A2, m2, n2, rfl⟩ := rb.slice
 unfold maxLen at hcm
 unfold exV
 have HBP := hid BP
 have HBX := hid BX
 have HBR := hid BR
 clear HRG bl1 bl2 bel hk hc hs hS ra rb iha ihb ht hm x0 x1 x2 x3 y0 y1 y2 y3 BP BX BR
 go_enter Tryz.func47, Tryz.ntmps47
 go_upto_region 1 with (fail)
 generalize (((((w.alloc (.cells #[.pointer (some ⟨z, 0, none⟩)] 108))).alloc (.cells #[.int .i64 k, .int .i64 c, .string s, .slice (some ⟨b0, off, none⟩) n cap] 80))).alloc (.cells #[.int .i64 0, .int .i64 0, .string noS, .slice none 0 0] 80)) = W at *
 have hsz := BEL.out.size
 obtain ⟨g, hg⟩ : ∃ g, g = w.heap.size := ⟨_, rfl⟩
 rw [← hg] at HBP HBX HBR hb0 ⊢
 have hgW := HBR.out.lt
 have p0 := HBP.out.cell 0 _ rfl
 have q0 := HBX.out.cell 0 _ rfl; have q1 := HBX.out.cell 1 _ rfl; have q2 := HBX.out.cell 2 _ rfl; have q3 := HBX.out.cell 3 _ rfl
 have hn0 : (0 : Int) < (n : Int) := by omega
 have hn00 : 0 < n := by omega
 have hn1 : (1 : Int) < (n : Int) := by omega
 have hn2 : 1 < n := by omega
 have hn3 : (2 : Int) ≤ (n : Int) := by omega
 have hbW : b0 < W.heap.size := by omega
 have hg1 : g + 1 < W.heap.size := by omega
 have hg0 : g < W.heap.size := by omega
 have hgw : w.heap.size ≤ g + 1 + 1 := by omega
 clear hg
 go_upto_region 2 with (fail)
 have HSW := hid (HS.out.trans (Sub.upto hsz))
 have HNR := hid (show ¬ Nowhere (g + 1 + 1) from fun h => h)
 have HBW := hid (Nat.le_trans hbw hsz)
 have HVL := hid hVl
 clear hbw hVl
 refine wp_region_pre 15 (S := (fun w' => Stay W w')) (by kernel_rfl) (by kernel_rfl) (Stay.mk (Kept.start _)) (fun hHeld => ?_)
 simp only [List.take_succ_cons, List.take_zero]
 refine tkA 0 21 ?_
 refine tkA 1 22 ?_
 refine tkA 2 23 ?_
 refine tkA 3 24 ?_
 refine tkA 4 25 ?_
 refine tkA 5 26 ?_
 refine tkA 6 27 ?_
 refine tkA 8 29 ?_
 refine tkA 9 30 ?_
 refine tkA 10 31 ?_
 refine tkA 11 32 ?_
 refine tkA 12 33 ?_
 (try simp only [Act.put, List.setIfInBounds_toArray, List.set_cons_zero, List.set_cons_succ])
 refine wpAnyH_ready (rs := [7]) (by kernel_rfl) (by simp) ?_
 refine AllReadyH.cons rfl (fun K hK => ?_) AllReadyH.nil
 go_simp
 refine (IHa.out base z m _ S _ vo vn (RM.out.below (Stay.below hHeld)) HBW.out HVL.out HSW.out (WRa.out.go (Stay.below hHeld) HSW.out)).mono ?_
 rintro e wa ⟨U1, rfl, hu1, hb1⟩
 have hst1 : Stay W wa := Stay.step hb1 hHeld
 have hp1 : FrP W.heap.size Nowhere wa (renE V a) U1 := FrP.of hu1 (Nat.le_refl _) (Sub.nowhere _)
 obtain ⟨A3, n3, rfl⟩ := hp1.form
 refine hK.out _ _ ?_ (fun hHeld => ?_)
 ·exact hst1
 clear hK K
 (try simp only [Act.put, List.setIfInBounds_toArray, List.set_cons_zero, List.set_cons_succ])
 refine wpAnyH_ready (rs := [13]) (by kernel_rfl) (by simp) ?_
 refine AllReadyH.cons rfl (fun K hK => ?_) AllReadyH.nil
 go_simp
 refine (IHb.out base z m _ S _ vo vn (RM.out.below (Stay.below hst1)) (Nat.le_trans HBW.out (Stay.size hst1)) HVL.out (HSW.out.trans (Sub.upto (Stay.size hst1))) (WRb.out.go (Stay.below hst1) HSW.out)).mono ?_
 rintro e wb ⟨U2, rfl, hu2, hb2⟩
 have hst2 : Stay W wb := Stay.step hb2 hst1
 have hp2 : FrP W.heap.size Nowhere wb (renE V b) U2 := FrP.of hu2 (Stay.size hst1) (Sub.nowhere _)
 obtain ⟨A4, n4, rfl⟩ := hp2.form
 refine hK.out _ _ ?_ (fun hHeld => ?_)
 ·exact hst2
 clear hK K
 (try simp only [Act.put, List.setIfInBounds_toArray, List.set_cons_zero, List.set_cons_succ])
 have hp3 := FrP.mk2 HK.out (Stay.size hst2) rfl (FrP.via hb2 hp1) hp2
 have hst3 := Stay.mk (Kept.alloc (Kept.here hst2) (.cells #[.int .i64 (renE V a).kind, .int .i64 (renE V a).num, .string (renE V a).name, .slice A3 (renE V a).args.length n3, .int .i64 (renE V b).kind, .int .i64 (renE V b).num, .string (renE V b).name, .slice A4 (renE V b).args.length n4] 80))
 refine wpAnyH_ready (rs := [14]) (by kernel_rfl) (by simp) ?_
 refine AllReadyH.cons rfl (fun K hK => ?_) AllReadyH.nil
 go_simp
 skip
 refine hK.out _ _ ?_ (fun hHeld => ?_)
 ·exact hst3
 clear hK K
 (try simp only [Act.put, List.setIfInBounds_toArray, List.set_cons_zero, List.set_cons_succ])
 refine wpAnyH_done (by kernel_rfl) ?_ _
 unfold QPre
 simp only [List.drop_succ_cons, List.drop_zero]
 have HP3 := hid hp3
 have H3 := hid hst3
 clear hp1 hp2 hp3 hst1 hst2 hst3 hHeld hu1 hu2 hb1 hb2 p0 q0 q1 q2 q3 f0 f1 f2 f3 g0 g1 g2 g3
 generalize (wb.alloc (.cells #[.int .i64 (renE V a).kind, .int .i64 (renE V a).num, .string (renE V a).name, .slice A3 (renE V a).args.length n3, .int .i64 (renE V b).kind, .int .i64 (renE V b).num, .string (renE V b).name, .slice A4 (renE V b).args.length n4] 80)) = W5 at *
 have HR5 := hid (HBR.out.below (Stay.below H3.out))
 have r0 := HR5.out.cell 0 _ rfl; have r1 := HR5.out.cell 1 _ rfl; have r2 := HR5.out.cell 2 _ rfl; have r3 := HR5.out.cell 3 _ rfl
 have t0 := HR5.out.fr 0; have t1 := HR5.out.fr 1; have t2 := HR5.out.fr 2; have t3 := HR5.out.fr 3
 go_wp2
 show bodyPost _ _ _ _ _ (set4 W5 (g + 1 + 1) _ _ _ _)
 refine ret_ex Tryz.results47 rfl rfl (set4_blk HR5.out _ _ _ _) ⟨_, rfl, ?_, ?_⟩
 ·rw [HW.out]
  exact (HP3.out.set HNR.out (by omega)).rd (by omega)
 ·exact set4_below (BEL.out.trans ((Stay.below H3.out).mono hsz)) hgw
set_option maxHeartbeats 2000000 in
set_option maxRecDepth 100000 in
theorem rx_leaf (V : Env) (t : Ex) (ht : t.two = none) (h2 : t.kind ≠ 2) : RXs V t := by
 intro base z m w S U vo vn hm hbw hVl hS r
 obtain ⟨k, c, s, args, v, rfl, rfl, hk, hc, hs, hargs⟩ := id r
 obtain ⟨A, cap, rfl, hcl, hcm, _⟩ := hargs.form
 have bl1 : Below w.heap.size w (w.alloc (.cells #[.pointer (some ⟨z, 0, none⟩)] 108)) := (Below.refl _ _).alloc (Nat.le_refl _) _
 have bl2 : Below w.heap.size w (((w.alloc (.cells #[.pointer (some ⟨z, 0, none⟩)] 108))).alloc (.cells #[.int .i64 k, .int .i64 c, .string s, .slice A args.length cap] 80)) := bl1.alloc (by simp) _
 have bel : Below w.heap.size w (((((w.alloc (.cells #[.pointer (some ⟨z, 0, none⟩)] 108))).alloc (.cells #[.int .i64 k, .int .i64 c, .string s, .slice A args.length cap] 80))).alloc (.cells #[.int .i64 0, .int .i64 0, .string noS, .slice none 0 0] 80)) := bl2.alloc (by simp; omega) _
 have HW := hid (renE_none (V := V) ht)
 have HK := hid (And.intro hk (And.intro hc hs))
 have BP := (Blk.made w [.pointer (some ⟨z, 0, none⟩)] 108 (base := 0) (Nat.zero_le _)).below (w' := (((((w.alloc (.cells #[.pointer (some ⟨z, 0, none⟩)] 108))).alloc (.cells #[.int .i64 k, .int .i64 c, .string s, .slice A args.length cap] 80))).alloc (.cells #[.int .i64 0, .int .i64 0, .string noS, .slice none 0 0] 80))) (((Below.refl _ _).alloc (Nat.le_refl _) _).alloc (by simp) _)
 have BX := (Blk.made (w.alloc (.cells #[.pointer (some ⟨z, 0, none⟩)] 108)) [.int .i64 k, .int .i64 c, .string s, .slice A args.length cap] 80 (base := 0) (Nat.zero_le _)).below (w' := (((((w.alloc (.cells #[.pointer (some ⟨z, 0, none⟩)] 108))).alloc (.cells #[.int .i64 k, .int .i64 c, .string s, .slice A args.length cap] 80))).alloc (.cells #[.int .i64 0, .int .i64 0, .string noS, .slice none 0 0] 80))) ((Below.refl _ _).alloc (Nat.le_refl _) _)
 have BR := Blk.made (((w.alloc (.cells #[.pointer (some ⟨z, 0, none⟩)] 108))).alloc (.cells #[.int .i64 k, .int .i64 c, .string s, .slice A args.length cap] 80)) [.int .i64 0, .int .i64 0, .string noS, .slice none 0 0] 80 (base := 0) (Nat.zero_le _)
 simp only [World.size_alloc] at BX BR
 have BEL := hid bel
 have RM := hid (hm.below bel)
 have HNO := hid (Ex.two_none ht)
 unfold maxLen at hcm
 unfold exV
 have HBP := hid BP
 have HBX := hid BX
 have HBR := hid BR
 simp only [Ex.kind] at h2
 have h2b : (k == 2) = false := by simpa using h2
 clear hargs r bl1 bl2 bel hk hc hs hS ht hm BP BX BR h2
 go_enter Tryz.func47, Tryz.ntmps47
 go_upto_region 1 with (fail)
 generalize (((((w.alloc (.cells #[.pointer (some ⟨z, 0, none⟩)] 108))).alloc (.cells #[.int .i64 k, .int .i64 c, .string s, .slice A args.length cap] 80))).alloc (.cells #[.int .i64 0, .int .i64 0, .string noS, .slice none 0 0] 80)) = W at *
 have hsz := BEL.out.size
 obtain ⟨g, hg⟩ : ∃ g, g = w.heap.size := ⟨_, rfl⟩
 rw [← hg] at HBP HBX HBR ⊢
 have hgw : w.heap.size ≤ g + 1 + 1 := by omega
 clear hg
 have hgW := HBR.out.lt
 have q0 := HBX.out.cell 0 _ rfl; have q1 := HBX.out.cell 1 _ rfl; have q2 := HBX.out.cell 2 _ rfl; have q3 := HBX.out.cell 3 _ rfl
 have r0 := HBR.out.cell 0 _ rfl; have r1 := HBR.out.cell 1 _ rfl; have r2 := HBR.out.cell 2 _ rfl; have r3 := HBR.out.cell 3 _ rfl
 have t0 := HBR.out.fr 0; have t1 := HBR.out.fr 1; have t2 := HBR.out.fr 2; have t3 := HBR.out.fr 3
 have hg1 : g + 1 < W.heap.size := by omega
 have hno := HNO.out
 simp only [Ex.kind, Ex.args] at hno
 by_cases h1 : k = 1
 ·subst h1
  clear hno h2b
  have HX := hid (show renE V (.mk 1 c s args) = numE c by rw [HW.out]; rfl)
  go_wp2
  show bodyPost _ _ _ _ _ (set4 W (g + 1 + 1) _ _ _ _)
  refine ret_ex Tryz.results47 rfl rfl (set4_blk HBR.out _ _ _ _) ⟨_, rfl, ?_, ?_⟩
  ·rw [HX.out]; exact RdE.leaf _ _ (by decide) HK.out.2.1 (by decide)
  ·exact set4_below BEL.out hgw
 ·have h1b : (k == 1) = false := by simpa using h1
  have h2c : k ≠ 2 := by simpa using h2b
  have HX := hid (show renE V (.mk k c s args) = numE 0 by rw [HW.out]; simp [Ex.kind, h1, h2c])
  clear h1 h2c
  have h3 : k < 3 ∨ (3 ≤ k ∧ 9 < k) ∨ (3 ≤ k ∧ k ≤ 9 ∧ (args.length : Int) < 2) := by omega
  clear hno
  rcases h3 with h | ⟨h, h'⟩ | ⟨h, h', h''⟩
  all_goals (
   go_wp2
   show bodyPost _ _ _ _ _ (set4 W (g + 1 + 1) _ _ _ _)
   refine ret_ex Tryz.results47 rfl rfl (set4_blk HBR.out _ _ _ _) ⟨_, rfl, ?_, ?_⟩
   ·rw [HX.out]; exact RdE.leaf _ _ (by decide) (by decide) (by decide)
   ·exact set4_below BEL.out hgw)
end Go.Proofs.YtnpgpcnkdocknaaGreatDoor
namespace Go.Proofs.YtnpgpcnkdocknaaGreatDoor
open Go.RowKit
set_option linter.unusedVariables false
theorem OwnL.take {α : Type} {rd : World → Blocks → α → List Value → Prop} {size : Nat} {E : TypeId} {w : World} {base : Nat} {S : Blocks} {l : List α} {A : Option Addr} {n c m : Nat} (h : OwnL rd size E w base S l (.slice A n c)) (hm : m ≤ l.length) : OwnL rd size E w base S (l.take m) (.slice A m c) := by
 obtain ⟨T, css, t1, t2, t3, h1, h2, h3, h4⟩ := h
 have hl : (l.take m).length = m := by simp; omega
 have hfl : ∀ (css : List (List Value)), (∀ cs ∈ css, cs.length = size) → ∀ m, (css.take m).flatten = css.flatten.take (m * size) := by
  intro css
  induction css with
  | nil => intro _ m; simp
  | cons x r ih =>
   intro hs m
   cases m with
   | zero => simp
   | succ m =>
    have hx : x.length = size := hs x (by simp)
    rw [List.take_succ_cons, List.flatten_cons, List.flatten_cons, ih (fun cs h => hs cs (by simp [h]))]
    rw [show (m + 1) * size = x.length + m * size by rw [hx, Nat.succ_mul]; omega, List.take_length_add_append]
 have hcl : (css.take m).flatten.length = m * size := by
  have : ∀ (css : List (List Value)), (∀ cs ∈ css, cs.length = size) → css.flatten.length = css.length * size := by
   intro css
   induction css with
   | nil => intro _; simp
   | cons x r ih => intro hs; rw [List.flatten_cons, List.length_append, ih (fun cs h => hs cs (by simp [h])), hs x (by simp), List.length_cons, Nat.succ_mul]; omega
  rw [this _ (fun cs h => h2 cs (List.mem_of_mem_take h)), List.length_take, Nat.min_eq_left (by rw [h1]; exact hm)]
 refine ⟨T, css.take m, t1, t2, (by cases A <;> exact t3), by simp [h1], fun cs h => h2 cs (List.mem_of_mem_take h), ?_, fun i e cs hi hc => ?_⟩
 ·rw [hl]
  obtain ⟨e, h3⟩ := h3
  refine ⟨hcl, ?_⟩
  rcases h3 with ⟨hv, h0⟩ | ⟨g, cap, cur, hv, hbg, hg, hn, hcap, hsz, htake⟩
  ·injection hv with e1 e2 e3
   subst e1 e3
   left
   have : m = 0 := by omega
   subst this
   exact ⟨rfl, rfl⟩
  ·injection hv with e1 e2 e3
   subst e1 e3
   refine .inr ⟨g, c, cur, rfl, hbg, hg, by omega, hcap, hsz, ?_⟩
   rw [hfl css h2 m, ← htake, List.take_take, Nat.min_eq_left (Nat.mul_le_mul_right _ hm)]
 ·rw [List.getElem?_take] at hi hc
  split at hi
  ·rename_i hlt
   rw [if_pos hlt] at hc
   exact h4 i e cs hi hc
  ·cases hi
theorem OwnL.cap_le {α : Type} {rd : World → Blocks → α → List Value → Prop} {size : Nat} {E : TypeId} {w : World} {base : Nat} {S : Blocks} {l : List α} {A : Option Addr} {n c : Nat} (h : OwnL rd size E w base S l (.slice A n c)) : l.length ≤ c ∧ c ≤ maxLen := by
 obtain ⟨T, css, _, _, _, h1, h2, h3, h4⟩ := h
 rcases h3.2 with ⟨hv, h0⟩ | ⟨g, cap, cur, hv, hbg, hg, hn, hcap, hsz, htake⟩
 ·injection hv with e1 e2 e3
  subst e3
  exact ⟨by omega, by simp [maxLen]⟩
 ·injection hv with e1 e2 e3
  subst e3
  exact ⟨hn, hcap⟩
theorem St.wt_pos (s : St) : 1 ≤ s.wt := by obtain ⟨k, n, a, b, body, els⟩ := s; simp only [St.wt]; omega
theorem wts_app (l m : List St) : St.wts (l ++ m) = St.wts l + St.wts m := by
 induction l with
 | nil => simp [St.wts]
 | cons s r ih => rw [List.cons_append, St.wts, St.wts, ih]; omega
theorem wts_take (l : List St) {q : Nat} (hq : q < l.length) : St.wts (l.take q) + l[q].wt ≤ St.wts l := by
 have h : St.wts l = St.wts (l.take (q + 1)) + St.wts (l.drop (q + 1)) := by rw [← wts_app, List.take_append_drop]
 rw [List.take_succ_eq_append_getElem hq, wts_app, St.wts, St.wts] at h
 omega
theorem RdEx.toE {w : World} {S : Blocks} {e : Ex} {k n : Int} {s : ByteArray} {v : Value} (h : RdEx w S e [.int .i64 k, .int .i64 n, .string s, v]) : RdE w S e (exV k n s v) := by
 obtain ⟨k', n', s', args⟩ := e
 obtain ⟨h1, h2, h3, v', e, h4⟩ := h.open_
 simp only [List.cons.injEq, Value.int.injEq, true_and, Value.string.injEq, and_true] at e
 obtain ⟨rfl, rfl, rfl, rfl⟩ := e
 exact ⟨_, _, _, args, _, rfl, rfl, h1, h2, h3, h4⟩
structure Rnd (base : Nat) (S : Blocks) (d : Nat) (cs : List Value) (a b : Ex) (VA VB : Value) (body els : List St) (v1 v2 : Value) (w : World) : Prop where
 bd : Blk base w d cs
 ra : RdE w S a VA
 rb : RdE w S b VB
 r1 : RdSts w S body v1
 r2 : RdSts w S els v2
theorem Rnd.but {base : Nat} {S T : Blocks} {d : Nat} {cs : List Value} {a b : Ex} {VA VB : Value} {body els : List St} {v1 v2 : Value} {w w' : World} (h : Rnd base S d cs a b VA VB body els v1 v2 w) (hb : But T w w') (hT : ∀ k, T k → base ≤ k) (hd : ¬ T d) (hS : Sub S (Upto base)) : Rnd base S d cs a b VA VB body els v1 v2 w' := by
 have hs : Same S w w' := hb.same (hS.trans (Sub.upto (Nat.le_trans h.bd.ge (Nat.le_of_lt h.bd.lt)))) (fun k hk ht => by have := hT k ht; have := hS k hk; unfold Upto at this; omega)
 exact ⟨h.bd.but hb hd, h.ra.keep (Sub.refl _) hs, h.rb.keep (Sub.refl _) hs, h.r1.keep RdSt.keeps (Sub.refl _) hs, h.r2.keep RdSt.keeps (Sub.refl _) hs⟩
section
variable {α : Type} {rd : World → Blocks → α → List Value → Prop} {size bytes : Nat} {E : TypeId} {w w' : World} {base : Nat} {S S' T : Blocks} {l : List α} {v : Value}
theorem OwnL.butG (h : OwnL rd size E w base S l v) (hr : Keeps rd) (hb : But T w w') (hv : ∀ k, v.ownBlock = some k → ¬ T k) (hS : ∀ k, S k → ¬ T k) : OwnL rd size E w' base S l v := by
 obtain ⟨U, css, t1, t2, t3, h1, h2, h3, h4⟩ := h
 refine ⟨U, css, t1, t2.lift hb.size, t3, h1, h2, ?_, fun i e cs a b => hr _ _ _ _ _ _ (Sub.refl _) (hb.same t2 (fun k hk => hS k (t1 k hk))) (h4 i e cs a b)⟩
 obtain ⟨e, h3⟩ := h3
 refine ⟨e, ?_⟩
 rcases h3 with h3 | ⟨g, cap, cur, rfl, hbg, hg, hn, hcap, hsz, htake⟩
 ·exact .inl h3
 ·refine .inr ⟨g, cap, cur, rfl, hbg, ?_, hn, hcap, hsz, htake⟩
  rw [hb.block g (Array.getElem?_eq_some_iff.1 hg).1 (hv g rfl)]; exact hg
theorem OwnL.toRdB (h : OwnL rd size E w base S l v) (hr : Keeps rd) (hb : l.length * bytes ≤ 140737488355328) (hS : Sub S S') (hB : ∀ k, v.ownBlock = some k → S' k) : RdL rd size bytes w S' l v := by
 obtain ⟨T, css, t1, _, _, h1, h2, h3, h4⟩ := h
 rcases h3.2 with ⟨rfl, h0⟩ | ⟨g, cap, cur, rfl, hbg, hg, hn, hcap, hsz, htake⟩
 ·have hl : l = [] := List.eq_nil_of_length_eq_zero h0
  subst hl
  exact RdL.nil (by simp [maxLen])
 ·refine ⟨_, cap, css, rfl, hn, hcap, hb, h1, ⟨h2, fun _ => ⟨g, 0, rfl, hB g rfl, fun i cs hi j v hv => ?_⟩⟩, fun i e cs a b => hr _ _ _ _ _ _ (t1.trans hS) (Same.refl _ _) (h4 i e cs a b)⟩
  have h := h3.cells (g := g) rfl (i * size + j) v (flatten_at h2 hi hv)
  have hadd : (⟨g, 0, none⟩ : Addr).add (i * size + j) = ⟨g, 0 + (i * size + j), none⟩ := by unfold Addr.add; split <;> simp_all
  rwa [hadd] at h
end
theorem renS_env (s : St) (V : Env) (m : Nat) : ∃ X, (renS s V m).2.1 = X ++ V ∧ X.length ≤ 1 := by
 obtain ⟨k, n, a, b, body, els⟩ := s
 rw [renS]
 split
 ·exact ⟨[(n, vN m)], rfl, by simp⟩
 ·split
  ·exact ⟨[], rfl, by simp⟩
  ·split
   ·exact ⟨[], rfl, by simp⟩
   ·split
    ·exact ⟨[], rfl, by simp⟩
    ·split
     ·exact ⟨[], rfl, by simp⟩
     ·exact ⟨[], rfl, by simp⟩
theorem renP_env (V : Env) (m : Nat) : ∀ (k : Nat) (l : List St), l.length = k → ∃ X, (renP l V m).2.1 = X ++ V ∧ X.length ≤ l.length := by
 intro k
 induction k with
 | zero =>
  intro l hl
  obtain rfl := List.eq_nil_of_length_eq_zero hl
  exact ⟨[], rfl, by simp⟩
 | succ k ih =>
  intro l hl
  rcases List.eq_nil_or_concat l with rfl | ⟨l', s, rfl⟩
  ·simp at hl
  ·rw [List.concat_eq_append] at hl ⊢
   obtain ⟨X, h1, h2⟩ := ih l' (by simpa using hl)
   obtain ⟨Y, h3, h4⟩ := renS_env s (renP l' V m).2.1 (renP l' V m).2.2
   refine ⟨Y ++ X, ?_, by simp; omega⟩
   rw [renP_snoc]
   unfold stepR
   rw [h3, h1, List.append_assoc]
theorem len_wts (l : List St) : l.length ≤ St.wts l := by
 induction l with
 | nil => simp
 | cons s r ih => rw [St.wts]; have := s.wt_pos; simp; omega
theorem renP_len (V : Env) (m : Nat) : ∀ (l : List St), (renP l V m).1.length = l.length := by
 intro l
 rw [(renP_L l V m).1]
 induction l generalizing V m with
 | nil => rw [renL]
 | cons s r ih => rw [renL]; simp only [List.length_cons, ih]
theorem renS_let {k : Int} {s : Str} {a b : Ex} {body els : List St} {V : Env} {m : Nat} (h : k = 1 ∨ k = 2) : renS (.mk k s a b body els) V m = (.mk k (vN m) (renE V a) exZ [] [], (s, vN m) :: V, m + 1) := by rw [renS, if_pos h]
theorem renS_store {s : Str} {a b : Ex} {body els : List St} {V : Env} {m : Nat} : renS (.mk 3 s a b body els) V m = (.mk 3 noS (renE V a) (renE V b) [] [], V, m) := by rw [renS]; simp
theorem renS_blk {k : Int} {s : Str} {a b : Ex} {body els : List St} {V : Env} {m : Nat} (h : k = 4 ∨ k = 5) : renS (.mk k s a b body els) V m = (.mk k noS exZ exZ (renL body V m).1 [], V, (renL body V m).2) := by
 rw [renS, if_neg (by omega), if_neg (by omega), if_pos h]
theorem renS_if {s : Str} {a b : Ex} {body els : List St} {V : Env} {m : Nat} : renS (.mk 6 s a b body els) V m = (.mk 6 noS (renE V a) exZ (renL body V m).1 (renL els V (renL body V m).2).1, V, (renL els V (renL body V m).2).2) := by rw [renS]; simp
theorem renS_for {s : Str} {a b : Ex} {body els : List St} {V : Env} {m : Nat} : renS (.mk 7 s a b body els) V m = (.mk 7 (vN m) (renE V a) (renE V b) (renL body ((s, vN m) :: V) (m + 1)).1 [], V, (renL body ((s, vN m) :: V) (m + 1)).2) := by rw [renS]; simp
theorem renS_other {k : Int} {s : Str} {a b : Ex} {body els : List St} {V : Env} {m : Nat} (h : k < 1 ∨ 7 < k) : renS (.mk k s a b body els) V m = (.mk k noS exZ exZ [] [], V, m) := by
 rw [renS, if_neg (by omega), if_neg (by omega), if_neg (by omega), if_neg (by omega), if_neg (by omega)]
theorem Two.trans {base z : Nat} {w0 w w2 : World} {lo ln lo2 ln2 : List Str} {uo un vo vn vo2 vn2 x0 x1 y0 y1 : Value} {c c2 : Int} (h : Two base z w0 uo un w lo ln vo vn x0 x1 c) (k : Two base z w vo vn w2 lo2 ln2 vo2 vn2 y0 y1 c2) : Two base z w0 uo un w2 lo2 ln2 vo2 vn2 y0 y1 c2 := by
 have hs := h.but.size
 refine ⟨k.bl, h.zl, k.oo, k.on, k.no, k.nn, k.di, fun i hi => ?_, fun i hi => ?_, but_then h.but k.but (fun i hi => ?_)⟩
 ·rcases k.fo i hi with e | e
  ·exact h.fo i e
  ·exact .inr (by omega)
 ·rcases k.fn i hi with e | e
  ·exact h.fn i e
  ·exact .inr (by omega)
 ·rcases hi with hi | hi | hi
  ·exact .inl (.inl hi)
  ·rcases h.fo i hi with e | e
   ·exact .inl (.inr (.inl e))
   ·exact .inr e
  ·rcases h.fn i hi with e | e
   ·exact .inl (.inr (.inr e))
   ·exact .inr e
theorem Two.now {base z : Nat} {w0 w : World} {lo ln : List Str} {uo un vo vn x0 x1 : Value} {c : Int} (h : Two base z w0 uo un w lo ln vo vn x0 x1 c) : Two base z w vo vn w lo ln vo vn x0 x1 c :=
 ⟨h.bl, h.bl.lt, h.oo, h.on, h.no, h.nn, h.di, fun k hk => .inl hk, fun k hk => .inl hk, But.refl _ _⟩
theorem Two.other {base z y : Nat} {w0 w : World} {lo ln : List Str} {uo un vo vn x0 x1 : Value} {c : Int} (h : Two base z w0 uo un w lo ln vo vn x0 x1 c) (hy : w0.heap.size ≤ y) (ho : vo.ownBlock ≠ some y) (hn : vn.ownBlock ≠ some y) {o : Nat} (u : Value) : Two base z w0 uo un (w.setCell ⟨y, o, none⟩ u) lo ln vo vn x0 x1 c := by
 have hset := (But.refl (Is y) w).setCell (p := ⟨y, o, none⟩) rfl u
 have hz := h.zl
 refine ⟨h.bl.but hset (fun e => by have e : z = y := e; omega), h.zl, h.oo.but hset (fun k hk e => ho (by rw [hk, show k = y from e])), h.on.but hset (fun k hk e => hn (by rw [hk, show k = y from e])), h.no, h.nn, h.di, h.fo, h.fn, h.but.setNew (p := ⟨y, o, none⟩) (.inr hy) u⟩
theorem Two.lts {base z : Nat} {w0 w : World} {lo ln : List Str} {uo un vo vn x0 x1 : Value} {c : Int} (h : Two base z w0 uo un w lo ln vo vn x0 x1 c) : ∀ k, RT z vo vn k → base ≤ k ∧ k < w.heap.size := fun k hk => by
 rcases hk with rfl | hk | hk
 ·exact ⟨h.bl.ge, h.bl.lt⟩
 ·exact h.oo.lt k hk
 ·exact h.on.lt k hk
def Nw (n M : Nat) (vo vn : Value) (T : Blocks) : Prop := ∀ k, T k → n ≤ k ∧ k < M ∧ vo.ownBlock ≠ some k ∧ vn.ownBlock ≠ some k
section
variable {base z n M : Nat} {w0 w w2 : World} {lo ln lo2 ln2 : List Str} {uo un vo vn vo2 vn2 x0 x1 : Value} {c c2 : Int} {T T' : Blocks}
theorem Nw.upto (h : Nw n M vo vn T) (hM : M ≤ w.heap.size) : Sub T (Upto w.heap.size) := fun k hk => Nat.lt_of_lt_of_le (h k hk).2.1 hM
theorem Nw.up {M' : Nat} (h : Nw n M vo vn T) (hM : M ≤ M') : Nw n M' vo vn T := fun k hk => ⟨(h k hk).1, Nat.lt_of_lt_of_le (h k hk).2.1 hM, (h k hk).2.2⟩
theorem Nw.low {n' : Nat} (h : Nw n M vo vn T) (hn : n' ≤ n) : Nw n' M vo vn T := fun k hk => ⟨Nat.le_trans hn (h k hk).1, (h k hk).2⟩
theorem Nw.or (h : Nw n M vo vn T) (h' : Nw n M vo vn T') : Nw n M vo vn (Both T T') := fun k hk => hk.elim (h k) (h' k)
theorem Nw.step (h : Nw n M vo vn T) (hM : M ≤ w.heap.size) (k : Two base z w vo vn w2 lo2 ln2 vo2 vn2 x0 x1 c2) : Nw n M vo2 vn2 T := fun i hi => by
 obtain ⟨h1, h2, h3, h4⟩ := h i hi
 refine ⟨h1, h2, fun e => ?_, fun e => ?_⟩
 ·rcases k.fo i e with e | e
  ·exact h3 e
  ·omega
 ·rcases k.fn i e with e | e
  ·exact h4 e
  ·omega
theorem Nw.notRT (h : Nw n M vo vn T) (hz : z < n) : ∀ k, T k → ¬ RT z vo vn k := fun k hk e => by
 obtain ⟨h1, h2, h3, h4⟩ := h k hk
 rcases e with e | e | e
 ·omega
 ·exact h3 e
 ·exact h4 e
theorem Nw.same (h : Nw n M vo vn T) (hM : M ≤ w.heap.size) (hz : z < n) (k : Two base z w vo vn w2 lo2 ln2 vo2 vn2 x0 x1 c2) : Same T w w2 := k.but.same (h.upto hM) (h.notRT hz)
theorem Nw.fresh {m : Nat} (h : Two base z w0 uo un w lo ln vo vn x0 x1 c) (hm : w.heap.size ≤ m) (hn : n ≤ m) (M : Nat) : Nw n M vo vn (Plus Nowhere m M) := fun k hk => by
 have hk : m ≤ k ∧ k < M := hk.elim (fun h => h.elim) id
 exact ⟨by omega, hk.2, fun e => by have := (h.oo.lt k e).2; omega, fun e => by have := (h.on.lt k e).2; omega⟩
end
def ExR (n : Nat) (vo vn : Value) (w : World) (t : Ex) (U : Value) : Prop := ∃ T, Nw n w.heap.size vo vn T ∧ RdE w T t U
def StR (n : Nat) (vo vn : Value) (w : World) (l : List St) (x : Value) : Prop := ∃ T, Nw n w.heap.size vo vn T ∧ RdSts w T l x
section
variable {base z n y : Nat} {w0 w w2 : World} {lo ln lo2 ln2 : List Str} {uo un vo vn vo2 vn2 x0 x1 : Value} {c c2 : Int} {t : Ex} {U x : Value} {l : List St}
theorem ExR.step (h : ExR n vo vn w t U) (hz : z < n) (k : Two base z w vo vn w2 lo2 ln2 vo2 vn2 x0 x1 c2) : ExR n vo2 vn2 w2 t U := by
 obtain ⟨T, hT, r⟩ := h
 exact ⟨T, (hT.step (Nat.le_refl _) k).up k.but.size, r.keep (Sub.refl _) (hT.same (Nat.le_refl _) hz k)⟩
theorem ExR.below (h : ExR n vo vn w t U) (hb : Below w.heap.size w w2) : ExR n vo vn w2 t U := by
 obtain ⟨T, hT, r⟩ := h
 exact ⟨T, hT.up hb.size, r.keep (Sub.refl _) (same_of_below hb (hT.upto (Nat.le_refl _)))⟩
theorem ExR.set (h : ExR n vo vn w t U) (hy : y < n) {o : Nat} (u : Value) : ExR n vo vn (w.setCell ⟨y, o, none⟩ u) t U := by
 obtain ⟨T, hT, r⟩ := h
 exact ⟨T, by rw [size_setCell]; exact hT, r.keep (Sub.refl _) (same_setCell (fun e => by have := (hT _ e).1; simp at this; omega) u)⟩
theorem StR.step (h : StR n vo vn w l x) (hz : z < n) (k : Two base z w vo vn w2 lo2 ln2 vo2 vn2 x0 x1 c2) : StR n vo2 vn2 w2 l x := by
 obtain ⟨T, hT, r⟩ := h
 exact ⟨T, (hT.step (Nat.le_refl _) k).up k.but.size, r.keep RdSt.keeps (Sub.refl _) (hT.same (Nat.le_refl _) hz k)⟩
theorem StR.below (h : StR n vo vn w l x) (hb : Below w.heap.size w w2) : StR n vo vn w2 l x := by
 obtain ⟨T, hT, r⟩ := h
 exact ⟨T, hT.up hb.size, r.keep RdSt.keeps (Sub.refl _) (same_of_below hb (hT.upto (Nat.le_refl _)))⟩
theorem StR.set (h : StR n vo vn w l x) (hy : y < n) {o : Nat} (u : Value) : StR n vo vn (w.setCell ⟨y, o, none⟩ u) l x := by
 obtain ⟨T, hT, r⟩ := h
 exact ⟨T, by rw [size_setCell]; exact hT, r.keep RdSt.keeps (Sub.refl _) (same_setCell (fun e => by have := (hT _ e).1; simp at this; omega) u)⟩
theorem StR.low {n' : Nat} (h : StR n vo vn w l x) (hn : n' ≤ n) : StR n' vo vn w l x := by
 obtain ⟨T, hT, r⟩ := h
 exact ⟨T, hT.low hn, r⟩
theorem StR.nil (n : Nat) (vo vn : Value) (w : World) : StR n vo vn w [] (.slice none 0 0) := ⟨Nowhere, fun _ h => h.elim, RdL.nil (by simp [maxLen])⟩
theorem ExR.zero (n : Nat) (vo vn : Value) (w : World) : ExR n vo vn w exZ (.agg #[.int .i64 0, .int .i64 0, .string noS, .slice none 0 0]) := ⟨Nowhere, fun _ h => h.elim, RdE.leaf _ _ (by decide) (by decide) (by decide)⟩
theorem ExR.form (h : ExR n vo vn w t U) : ∃ A cap, U = .agg #[.int .i64 t.kind, .int .i64 t.num, .string t.name, .slice A t.args.length cap] := by
 obtain ⟨T, _, r⟩ := h
 exact r.form
theorem StR.form (h : StR n vo vn w l x) : ∃ A cap, x = .slice A l.length cap := by
 obtain ⟨T, _, r⟩ := h
 obtain ⟨A, cap, e, _⟩ := r.form
 exact ⟨A, cap, e⟩
end
def OutG (n M : Nat) (vo vn : Value) (w : World) (out : List St) (v : Value) : Prop := ∃ T, Nw n M vo vn T ∧ Nw n M vo vn (fun k => v.ownBlock = some k) ∧ OwnL RdSt 12 82 w n T out v
section
variable {base z n M y : Nat} {w0 w w2 : World} {lo ln lo2 ln2 : List Str} {uo un vo vn vo2 vn2 x0 x1 : Value} {c c2 : Int} {out : List St} {v : Value}
theorem OutG.nil (n : Nat) (vo vn : Value) (w : World) : OutG n M vo vn w [] (.slice none 0 0) := ⟨Nowhere, fun _ h => h.elim, (fun _ h => by simp [Value.ownBlock] at h), OwnL.nil _ _ _⟩
theorem OutG.step (h : OutG n M vo vn w out v) (hM : M ≤ w.heap.size) (hz : z < n) (k : Two base z w vo vn w2 lo2 ln2 vo2 vn2 x0 x1 c2) : OutG n M vo2 vn2 w2 out v := by
 obtain ⟨T, h1, h2, r⟩ := h
 exact ⟨T, h1.step hM k, h2.step hM k, r.butG RdSt.keeps k.but (h2.notRT hz) (h1.notRT hz)⟩
theorem OutG.below (h : OutG n M vo vn w out v) (hM : M ≤ w.heap.size) (hb : Below w.heap.size w w2) : OutG n M vo vn w2 out v := by
 obtain ⟨T, h1, h2, r⟩ := h
 exact ⟨T, h1, h2, r.keep RdSt.keeps hb⟩
theorem OutG.set (h : OutG n M vo vn w out v) (hy : M ≤ y) {o : Nat} (u : Value) : OutG n M vo vn (w.setCell ⟨y, o, none⟩ u) out v := by
 obtain ⟨T, h1, h2, r⟩ := h
 have hset := (But.refl (Is y) w).setCell (p := ⟨y, o, none⟩) rfl u
 exact ⟨T, h1, h2, r.butG RdSt.keeps hset (fun k hk e => by have := (h2 k hk).2.1; have e : k = y := e; omega) (fun k hk e => by have := (h1 k hk).2.1; have e : k = y := e; omega)⟩
theorem OutG.up {M' : Nat} (h : OutG n M vo vn w out v) (hM : M ≤ M') : OutG n M' vo vn w out v := by
 obtain ⟨T, h1, h2, r⟩ := h
 exact ⟨T, h1.up hM, h2.up hM, r⟩
theorem OutG.toR (h : OutG n M vo vn w out v) (hM : M ≤ w.heap.size) (hl : out.length ≤ 1073741824) : StR n vo vn w out v := by
 obtain ⟨T, h1, h2, r⟩ := h
 exact ⟨Both T (fun k => v.ownBlock = some k), (h1.or h2).up hM, r.toRdB RdSt.keeps (by omega) (Sub.left _ _) (fun k hk => .inr hk)⟩
theorem OutG.form (h : OutG n M vo vn w out v) : ∃ A cap, v = .slice A out.length cap := by
 obtain ⟨T, h1, h2, r⟩ := h
 exact r.form
end
structure RS (base z d y M : Nat) (S : Blocks) (w0 : World) (uo un : Value) (a b : Ex) (VA VB : Value) (body els : List St) (v1 v2 : Value) (cs : List Value) (out : List St) (v5 : Value) (W : World) (lo ln : List Str) (vo vn : Value) (c : Int) (ys : List Value) : Prop where
 tw : Two base z w0 uo un W lo ln vo vn vo vn c
 og : OutG w0.heap.size M vo vn W out v5
 rn : Rnd base S d cs a b VA VB body els v1 v2 W
 yb : Blk base W y ys
 dy : d < y
 hM : M ≤ d
 h0 : w0.heap.size ≤ M
 hb : base ≤ w0.heap.size
 sS : Sub S (Upto base)
 nd : ∀ k, RT z vo vn k → k ≠ d ∧ k ≠ y
section
variable {base z d y M : Nat} {S : Blocks} {w0 : World} {uo un : Value} {a b : Ex} {VA VB : Value} {body els : List St} {v1 v2 : Value} {cs : List Value} {out : List St} {v5 : Value} {W W2 : World} {lo ln lo2 ln2 : List Str} {vo vn vo2 vn2 : Value} {c c2 : Int} {ys : List Value}
theorem RS.step (h : RS base z d y M S w0 uo un a b VA VB body els v1 v2 cs out v5 W lo ln vo vn c ys) (k : Two base z W vo vn W2 lo2 ln2 vo2 vn2 vo2 vn2 c2) : RS base z d y M S w0 uo un a b VA VB body els v1 v2 cs out v5 W2 lo2 ln2 vo2 vn2 c2 ys := by
 have h1 := h.yb.lt
 have h2 := h.dy
 have h3 := h.hM
 have h4 := h.h0
 refine ⟨h.tw.trans k, h.og.step (by omega) (by have := h.tw.zl; omega) k, h.rn.but k.but (fun i hi => (h.tw.lts i hi).1) (fun e => (h.nd d e).1 rfl) h.sS, h.yb.but k.but (fun e => (h.nd y e).2 rfl), h.dy, h.hM, h.h0, h.hb, h.sS, fun i hi => ?_⟩
 rcases hi with rfl | hi | hi
 ·exact h.nd _ (.inl rfl)
 ·rcases k.fo i hi with e | e
  ·exact h.nd _ (.inr (.inl e))
  ·omega
 ·rcases k.fn i hi with e | e
  ·exact h.nd _ (.inr (.inr e))
  ·omega
theorem RS.below (h : RS base z d y M S w0 uo un a b VA VB body els v1 v2 cs out v5 W lo ln vo vn c ys) (hb : Below W.heap.size W W2) : RS base z d y M S w0 uo un a b VA VB body els v1 v2 cs out v5 W2 lo ln vo vn c ys := h.step (h.tw.now.below hb)
theorem RS.set (h : RS base z d y M S w0 uo un a b VA VB body els v1 v2 cs out v5 W lo ln vo vn c ys) {i : Nat} (hi : i < ys.length) (u : Value) : RS base z d y M S w0 uo un a b VA VB body els v1 v2 cs out v5 (W.setCell ⟨y, i, none⟩ u) lo ln vo vn c (ys.set i u) := by
 have h2 := h.dy
 have h3 := h.hM
 have h4 := h.h0
 refine ⟨h.tw.other (by omega) (fun e => (h.nd y (.inr (.inl e))).2 rfl) (fun e => (h.nd y (.inr (.inr e))).2 rfl) u, h.og.set (by omega) u, ?_, h.yb.set hi u, h.dy, h.hM, h.h0, h.hb, h.sS, h.nd⟩
 have hset := (But.refl (Is y) W).setCell (p := ⟨y, i, none⟩) rfl u
 have hyb := h.yb.ge
 exact h.rn.but hset (fun k hk => by have hk : k = y := hk; omega) (fun e => by have e : d = y := e; omega) h.sS
end
end Go.Proofs.YtnpgpcnkdocknaaGreatDoor
namespace Go.Proofs.YtnpgpcnkdocknaaGreatDoor
set_option linter.unusedVariables false
theorem back_get {V : Env} {i : Nat} (hi : i < V.length) : ((V.map (·.1)).reverse)[i]? = some (V[V.length - 1 - i]'(by omega)).1 ∧ ((V.map (·.2)).reverse)[i]? = some (V[V.length - 1 - i]'(by omega)).2 := by
 constructor
 ·rw [List.getElem?_reverse (by simpa using hi), List.length_map, List.getElem?_map, List.getElem?_eq_getElem (show V.length - 1 - i < V.length by omega)]; rfl
 ·rw [List.getElem?_reverse (by simpa using hi), List.length_map, List.getElem?_map, List.getElem?_eq_getElem (show V.length - 1 - i < V.length by omega)]; rfl
theorem look_back {V : Env} {s n : Str} {i : Nat} (hi : i < V.length) (hn : ∀ (j : Nat) (x : Str), i < j → ((V.map (·.1)).reverse)[j]? = some x → x ≠ s) (h1 : ((V.map (·.1)).reverse)[i]? = some s) (h2 : ((V.map (·.2)).reverse)[i]? = some n) : look V s = n := by
 have hb := back_get hi
 rw [h1] at hb
 rw [h2] at hb
 have e1 := Option.some.inj hb.1
 have e2 := Option.some.inj hb.2
 rw [e2]
 refine look_hit (q := V.length - 1 - i) (by omega) (fun j hj => ?_) e1.symm
 have hb2 := (back_get (V := V) (i := V.length - 1 - j) (by omega)).1
 have := hn (V.length - 1 - j) _ (by omega) hb2
 simpa only [show V.length - 1 - (V.length - 1 - j) = j by omega] using this
theorem look_all {V : Env} {s : Str} (hn : ∀ (j : Nat) (x : Str), ((V.map (·.1)).reverse)[j]? = some x → x ≠ s) : look V s = s := by
 refine look_miss fun p hp => ?_
 obtain ⟨j, hj, rfl⟩ := List.getElem_of_mem hp
 have hb := (back_get (V := V) (i := V.length - 1 - j) (by omega)).1
 have := hn _ _ hb
 simpa only [show V.length - 1 - (V.length - 1 - j) = j by omega] using this
end Go.Proofs.YtnpgpcnkdocknaaGreatDoor
namespace Go.Proofs.YtnpgpcnkdocknaaGreatDoor
open Go.RowKit Go.Shelf
set_option linter.unusedVariables false
attribute [local go_sem] Oper.semAt_some
def comesF (l : List Str) (k : Nat) : List (Fin l.length) := (List.finRange l.length).reverse.take k
theorem comesF_succ (l : List Str) {m : Nat} (hm : m < l.length) : comesF l (l.length - (m + 1) + 1) = comesF l (l.length - (m + 1)) ++ [⟨m, hm⟩] := by
 unfold comesF
 have hlt : l.length - (m + 1) < (List.finRange l.length).reverse.length := by simp; omega
 rw [List.take_succ_eq_append_getElem hlt, List.getElem_reverse]
 congr 2
 simp only [List.length_finRange, List.getElem_finRange]
 apply Fin.ext
 simp only [Fin.cast_mk]
 omega
theorem comesF_length (l : List Str) {k : Nat} (hk : k ≤ l.length) : (comesF l k).length = k := by simp [comesF, hk]
theorem comesF_mem (l : List Str) {k : Nat} {x : Fin l.length} : x ∈ comesF l k ↔ l.length - k ≤ x.1 := by
 unfold comesF
 constructor
 ·intro h
  obtain ⟨i, hi, e⟩ := List.getElem_of_mem h
  rw [List.getElem_take, List.getElem_reverse] at e
  simp only [List.length_take, List.length_reverse, List.length_finRange] at hi
  rw [← e]
  simp
  omega
 ·intro h
  have hx := x.2
  refine List.mem_iff_getElem.2 ⟨l.length - 1 - x.1, by simp; omega, ?_⟩
  rw [List.getElem_take, List.getElem_reverse]
  apply Fin.ext
  simp
  omega
set_option maxRecDepth 100000 in
set_option maxHeartbeats 2000000 in
theorem backS1_in (F : Fence) (n : Nat) (h7 : F.fn 100) (hro : F.round = none) (hn : 1 ≤ n) (l Bs n₀ : Nat) (A : Option Addr) (cap : Nat) (env : List Str) (S : Blocks) (hS : Sub S (Upto n₀)) (hreach : env.length * 16 ≤ 140737488355328) (J Jx : List (Fin env.length) → World → Prop)
    (hY : ∀ pre x W, J pre W → pre.length < env.length → YieldAt F (n - 1) Tryz.prog l #[.int .i64 (x.1 : Int), .string env[x.1]] W fun e W' =>
     (e = .returned (.bool true) ∧ J (pre ++ [x]) W' ∧ Below n₀ W W') ∨ (e = .returned (.bool false) ∧ Jx (pre ++ [x]) W'))
    (W : World) (hBs : W.cell? ⟨Bs, 0, none⟩ = some (.slice A env.length cap)) (hBn : Bs < n₀) (re : RdSs W S env (.slice A env.length cap)) (h0 : J [] W) :
    CallsIn F n Tryz.prog 100 #[.func (.yield l) #[] #[], .pointer (some ⟨Bs, 0, none⟩)] W fun e W' => (∃ v, e = .returned v) ∧
     ((∃ ys, ys = comesF env env.length ∧ J ys W') ∨ (∃ pre, (∃ k, k ≤ env.length ∧ pre = comesF env k) ∧ Jx pre W')) := by
 refine callsIn_of_wp Tryz.func100 rfl h7 ?_ hro
 simp only [Tryz.ntmps100, List.size_toArray, List.length_cons, List.length_nil, Nat.reduceAdd, Nat.reduceSub, Array.replicate_succ, Array.replicate_zero, List.push_toArray, List.append_toArray, List.nil_append, List.cons_append]
 have hw0 : IntKind.i64.wrap ((env.length : Int) - 1) = (env.length : Int) - 1 := IntWalk.i64_in _ (by omega)
 have hw1 : wrap64 ((env.length : Int) - 1) = (env.length : Int) - 1 := IntWalk.wrap64_in _ (by omega)
 gi_wp2
 gi_loopw [3] (fun i wr => ∃ m : Nat, m ≤ env.length ∧ i = .int .i64 ((m : Int) - 1) ∧ J (comesF env (env.length - m)) wr ∧ Below n₀ W wr)
  (fun i _ => (intOf i + 1).toNat)
 case atStart => exact ⟨env.length, Nat.le_refl _, rfl, by rw [Nat.sub_self]; exact h0, Below.refl _ _⟩
 case round =>
  obtain ⟨m, hm, rfl, hJs, hnx⟩ := hrel
  have hBs' := (hnx.cell (p := ⟨Bs, 0, none⟩) hBn).trans hBs
  cases m with
  | zero =>
   gi_wp2
   go_end0
   exact ⟨⟨_, rfl⟩, .inl ⟨_, rfl, hJs⟩⟩
  | succ m =>
   have hlt : m < env.length := hm
   have ei : ((m + 1 : Nat) : Int) - 1 = (m : Int) := by omega
   rw [ei]
   obtain ⟨b, off, rfl, hb, hok, hc0⟩ := RdSs.at1 re hlt
   have hcx0 := (hnx.cell (p := ⟨b, off + m, none⟩) (hS _ hb)).trans hc0
   obtain ⟨fn, tmps, assign, body, hy, hR⟩ := hY _ ⟨m, hlt⟩ wr hJs (by rw [comesF_length _ (by omega)]; omega)
   dsimp only at hy
   have hm0 : (0 : Int) ≤ (m : Int) := by omega
   have hm1 : (m : Int) < (env.length : Int) := by omega
   have hw2 : IntKind.i64.wrap ((m : Int) - 1) = (m : Int) - 1 := IntWalk.i64_in _ (by omega)
   have hw3 : wrap64 ((m : Int) - 1) = (m : Int) - 1 := IntWalk.wrap64_in _ (by omega)
   gi_wp2
   refine hR.mono ?_
   rintro e W3 (⟨rfl, hJ3, hk3⟩ | ⟨rfl, hJx3⟩)
   ·gi_wp2
    go_roundw
    case rel => exact ⟨m, by omega, rfl, by rw [show env.length - m = env.length - (m + 1) + 1 by omega, comesF_succ env hlt]; exact hJ3, hnx.trans hk3⟩
    case measure => simp [intOf]
   ·gi_wp2
    refine bodyPost_ret (results_none rfl _ _ _) rfl ?_
    exact ⟨⟨_, rfl⟩, .inr ⟨_, ⟨env.length - (m + 1) + 1, by omega, (comesF_succ _ hlt).symm⟩, hJx3⟩⟩
set_option maxHeartbeats 1000000 in
theorem backS_in (F : Fence) (n : Nat) (h6 : F.fn 79) (hro : F.round = none) (A : Option Addr) (len cap : Nat) (w : World) :
    CallsIn F n Tryz.prog 79 #[.slice A len cap] w fun e w' => e = .returned (.func (.func 100) #[] #[.pointer (some ⟨w.heap.size, 0, none⟩)]) ∧ w' = w.alloc (.cells #[.slice A len cap] 37) := by
 refine callsIn_of_wp Tryz.func79 rfl h6 ?_ hro
 simp only [Tryz.ntmps79, List.size_toArray, List.length_cons, List.length_nil, Nat.reduceAdd, Nat.reduceSub, Array.replicate_succ, Array.replicate_zero, List.push_toArray, List.append_toArray, List.nil_append, List.cons_append]
 gi_wp2
 go_ret
 exact ⟨rfl, rfl⟩
theorem backS_stops (F : Fence) (n : Nat) (h7 : F.fn 100) (hro : F.round = none) (hn : 1 ≤ n) (Bs n₀ : Nat) (A : Option Addr) (cap : Nat) (env : List Str) (S : Blocks) (hS : Sub S (Upto n₀)) (w : World) (hBs : Bs < n₀) (hn₀ : n₀ ≤ w.heap.size)
    (hreach : env.length * 16 ≤ 140737488355328) (hc : w.cell? ⟨Bs, 0, none⟩ = some (.slice A env.length cap)) (re : RdSs w S env (.slice A env.length cap)) :
    SeqStopsK F n Tryz.prog 100 #[.pointer (some ⟨Bs, 0, none⟩)] (fun x : Fin env.length => #[Value.int .i64 (x.1 : Int), .string env[x.1]]) (Below n₀) (fun ys => ys = comesF env env.length)
     (fun pre => ∃ k, k ≤ env.length ∧ pre = comesF env k) env.length w := fun l J Jx W hW _ _ hY h0 =>
 backS1_in F n h7 hro hn l Bs n₀ A cap env S hS hreach J Jx hY W ((hW.cell (p := ⟨Bs, 0, none⟩) (Nat.lt_of_lt_of_le hBs hn₀)).trans hc) hBs (re.keep Flat.keeps (Sub.refl _) (same_of_below hW (hS.trans (Sub.upto hn₀)))) h0
end Go.Proofs.YtnpgpcnkdocknaaGreatDoor
