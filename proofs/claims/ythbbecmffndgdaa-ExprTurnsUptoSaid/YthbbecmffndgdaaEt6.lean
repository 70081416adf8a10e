/- The walks of the reference's EClean, EPut and EFold. -/
import Derived.Test.YthbbecmffndgdaaEt3
import Derived.Test.YthbbecmffndgdaaSc2
import Derived.Test.YthbbecmffndgdaaEx6
namespace Go.Proofs.Ythbbecmffndgdaa
open Go.RowKit
set_option linter.unusedVariables false
theorem StayX.drew {R : Nat} {W w' : World} (h : StayX R W w') : StayX R W w'.drew := ⟨h.1, h.2.1, h.2.2.drew⟩
theorem StayX.alloc {R : Nat} {W w' : World} (h : StayX R W w') (o : Obj) : StayX R W (w'.alloc o) := by
  refine ⟨fun p hp hn => ?_, fun p hp => ?_, h.2.2.alloc o⟩
  · rw [World.cell?_alloc_lt w' o p (Nat.lt_of_lt_of_le hp h.2.2.size)]; exact h.1 p hp hn
  · have hb := (Below.refl w'.heap.size w').alloc (Nat.le_refl _) o
    rw [hb.frozen (Nat.lt_of_lt_of_le hp h.2.2.size)]; exact h.2.1 p hp
theorem FrP.set {n : Nat} {S : Blocks} {w : World} {t : Ex} {V : Value} {R : Nat} {u0 u1 u2 u3 : Value} (h : FrP n S w t V) (hR : ¬ S R) (hn : R < n) : FrP n S (set4 w R u0 u1 u2 u3) t V := by
  obtain ⟨T, h1, h2, r⟩ := h
  refine ⟨T, h1.trans (Sub.plus_mono (Nat.le_refl _) (Nat.le_of_eq (set4_size _ _ _ _ _ _).symm)), h2.trans (Sub.upto (Nat.le_of_eq (set4_size _ _ _ _ _ _).symm)), r.keep (Sub.refl _) (set4_same ?_)⟩
  intro hp
  exact (h1 _ hp).elim hR (fun h => by omega)
theorem set4_cells {w : World} {R : Nat} {v0 v1 v2 v3 : Value} (u0 u1 u2 u3 : Value) (h0 : w.cell? ⟨R, 0, none⟩ = some v0) (h1 : w.cell? ⟨R, 1, none⟩ = some v1) (h2 : w.cell? ⟨R, 2, none⟩ = some v2) (h3 : w.cell? ⟨R, 3, none⟩ = some v3) :
    (set4 w R u0 u1 u2 u3).cell? ⟨R, 0, none⟩ = some u0 ∧ (set4 w R u0 u1 u2 u3).cell? ⟨R, 1, none⟩ = some u1 ∧ (set4 w R u0 u1 u2 u3).cell? ⟨R, 2, none⟩ = some u2 ∧ (set4 w R u0 u1 u2 u3).cell? ⟨R, 3, none⟩ = some u3 := by
  unfold set4
  refine ⟨?_, ?_, ?_, ?_⟩
  · rw [World.cell?_setCell_other _ _ _ _ (by simp), World.cell?_setCell_other _ _ _ _ (by simp), World.cell?_setCell_other _ _ _ _ (by simp)]
    exact World.cell?_setCell_same' _ _ _ (by rw [h0]; rfl)
  · rw [World.cell?_setCell_other _ _ _ _ (by simp), World.cell?_setCell_other _ _ _ _ (by simp)]
    exact World.cell?_setCell_same' _ _ _ (by rw [World.cell?_setCell_other _ _ _ _ (by simp), h1]; rfl)
  · rw [World.cell?_setCell_other _ _ _ _ (by simp)]
    exact World.cell?_setCell_same' _ _ _ (by rw [World.cell?_setCell_other _ _ _ _ (by simp), World.cell?_setCell_other _ _ _ _ (by simp), h2]; rfl)
  · exact World.cell?_setCell_same' _ _ _ (by rw [World.cell?_setCell_other _ _ _ _ (by simp), World.cell?_setCell_other _ _ _ _ (by simp), World.cell?_setCell_other _ _ _ _ (by simp), h3]; rfl)
theorem FrP.mk2 {n : Nat} {S : Blocks} {w : World} {k : Int} {a b : Ex} {A1 A2 : Option Addr} {c1 c2 z : Nat} (hk : inI k) (hn : n ≤ w.heap.size) (hz : w.heap.size = z)
    (ha : FrP n S w a (.agg #[.int .i64 a.kind, .int .i64 a.num, .string a.name, .slice A1 a.args.length c1])) (hb : FrP n S w b (.agg #[.int .i64 b.kind, .int .i64 b.num, .string b.name, .slice A2 b.args.length c2])) :
    FrP n S (w.alloc (.cells #[.int .i64 a.kind, .int .i64 a.num, .string a.name, .slice A1 a.args.length c1, .int .i64 b.kind, .int .i64 b.num, .string b.name, .slice A2 b.args.length c2] 38)) (mkE k a b)
      (.agg #[.int .i64 k, .int .i64 0, .string noS, .slice (some ⟨z, 0, none⟩) 2 2]) := by
  subst hz
  obtain ⟨T, h1, h2, ra, rb⟩ := FrP.two_in ha hb
  have hbel := (Below.refl w.heap.size w).alloc (Nat.le_refl _) (.cells #[.int .i64 a.kind, .int .i64 a.num, .string a.name, .slice A1 a.args.length c1, .int .i64 b.kind, .int .i64 b.num, .string b.name, .slice A2 b.args.length c2] 38)
  have hblk := Blk.made w [.int .i64 a.kind, .int .i64 a.num, .string a.name, .slice A1 a.args.length c1, .int .i64 b.kind, .int .i64 b.num, .string b.name, .slice A2 b.args.length c2] 38 (base := 0) (Nat.zero_le _)
  refine ⟨Both T (Is w.heap.size), Sub.both (h1.trans (Sub.plus_mono (Nat.le_refl _) hbel.size)) (fun b hb => by unfold Is at hb; subst hb; exact .inr ⟨hn, by simp⟩), Sub.both (h2.trans (Sub.upto hbel.size)) (fun b hb => by unfold Is at hb; subst hb; simp [Upto]), ?_⟩
  exact RdE.two hk (ra.keep (Sub.left _ _) (same_of_below hbel h2)) (rb.keep (Sub.left _ _) (same_of_below hbel h2)) (.inr rfl) hblk.cell
/-- what the region leaves: the result in its cell, the two behind it -/
theorem fin_two {W wl : World} {S : Blocks} {R : Nat} {k : Int} {a b : Ex} {A1 A2 : Option Addr} {c1 c2 : Nat} {v0 v1 v2 v3 : Value} (hk : inI k) (hst : Stay W wl) (hR : R < W.heap.size) (hS : ¬ S R)
    (h0 : wl.cell? ⟨R, 0, none⟩ = some v0) (h1 : wl.cell? ⟨R, 1, none⟩ = some v1) (h2 : wl.cell? ⟨R, 2, none⟩ = some v2) (h3 : wl.cell? ⟨R, 3, none⟩ = some v3)
    (ha : FrP W.heap.size S wl a (.agg #[.int .i64 a.kind, .int .i64 a.num, .string a.name, .slice A1 a.args.length c1])) (hb : FrP W.heap.size S wl b (.agg #[.int .i64 b.kind, .int .i64 b.num, .string b.name, .slice A2 b.args.length c2])) :
    ∃ W9, W9 = (set4 wl R (.int .i64 k) (.int .i64 0) (.string noS) (.slice (some ⟨wl.heap.size, 0, none⟩) 2 2)).alloc (.cells #[.int .i64 a.kind, .int .i64 a.num, .string a.name, .slice A1 a.args.length c1, .int .i64 b.kind, .int .i64 b.num, .string b.name, .slice A2 b.args.length c2] 38) ∧
      W9.cell? ⟨R, 0, none⟩ = some (.int .i64 k) ∧ W9.cell? ⟨R, 1, none⟩ = some (.int .i64 0) ∧ W9.cell? ⟨R, 2, none⟩ = some (.string noS) ∧ W9.cell? ⟨R, 3, none⟩ = some (.slice (some ⟨wl.heap.size, 0, none⟩) 2 2) ∧
      FrP W.heap.size S W9 (mkE k a b) (.agg #[.int .i64 k, .int .i64 0, .string noS, .slice (some ⟨wl.heap.size, 0, none⟩) 2 2]) ∧ ∀ B w, B ≤ R → Below B w wl → Below B w W9 := by
  refine ⟨_, rfl, ?_⟩
  have hc := set4_cells (.int .i64 k) (.int .i64 0) (.string noS) (.slice (some ⟨wl.heap.size, 0, none⟩) 2 2) h0 h1 h2 h3
  have hlt : R < (set4 wl R (.int .i64 k) (.int .i64 0) (.string noS) (.slice (some ⟨wl.heap.size, 0, none⟩) 2 2)).heap.size := by rw [set4_size]; exact Nat.lt_of_lt_of_le hR hst.size
  refine ⟨(World.cell?_alloc_lt _ _ _ hlt).trans hc.1, (World.cell?_alloc_lt _ _ _ hlt).trans hc.2.1, (World.cell?_alloc_lt _ _ _ hlt).trans hc.2.2.1, (World.cell?_alloc_lt _ _ _ hlt).trans hc.2.2.2, ?_, fun B w hB hb => ?_⟩
  · exact FrP.mk2 hk (by rw [set4_size]; exact hst.size) (set4_size _ _ _ _ _ _) (ha.set hS hR) (hb.set hS hR)
  · have h := set4_below (u0 := .int .i64 k) (u1 := .int .i64 0) (u2 := .string noS) (u3 := .slice (some ⟨wl.heap.size, 0, none⟩) 2 2) hb hB
    exact h.alloc (by omega) _
theorem FrP.rd {n m : Nat} {S : Blocks} {w : World} {t : Ex} {V : Value} (h : FrP n S w t V) (hm : m ≤ n) : RdE w (Plus S m w.heap.size) t V := by
  obtain ⟨T, h1, h2, r⟩ := h
  exact r.keep (h1.trans (Sub.plus_mono hm (Nat.le_refl _))) (Same.refl _ _)
def ECs (t : Ex) : Prop := ∀ (w : World) (S : Blocks) (V : Value), Sub S (Upto w.heap.size) → RdE w S t V →
  Calls Try.prog 43 #[V] w fun e w' => ∃ U, e = .returned U ∧ RdE w' (Plus S w.heap.size w'.heap.size) (clean t) U ∧ Below w.heap.size w w'
def EPs (s : Str) (y : Ex) (t : Ex) : Prop := ∀ (w : World) (S : Blocks) (V VY : Value), Sub S (Upto w.heap.size) → RdE w S t V → RdE w S y VY →
  Calls Try.prog 19 #[V, .string s, VY] w fun e w' => ∃ U, e = .returned U ∧ RdE w' (Plus S w.heap.size w'.heap.size) (put s y t) U ∧ Below w.heap.size w w'
def EFs (t : Ex) : Prop := ∀ (w : World) (S : Blocks) (V : Value), Sub S (Upto w.heap.size) → RdE w S t V → t.wt ≤ 1048576 →
  Calls Try.prog 21 #[V] w fun e w' => ∃ U, e = .returned U ∧ RdE w' (Plus S w.heap.size w'.heap.size) (fold doE t) U ∧ Below w.heap.size w w'
theorem worthN_two : ∀ t a b : Ex, t.two = some (a, b) → t.worth [] = doE t.kind (a.worth []) (b.worth []) := fun t a b h => Ex.worth_two [] h
theorem worthN_one : ∀ t : Ex, t.two = none → t.worth [] = if t.kind = 1 then t.num else 0 := by
  intro t h
  rw [Ex.worth_none [] h]
  have : look [] t.name = 0 := rfl
  rw [this]
  split
  · rfl
  · split <;> rfl
set_option maxHeartbeats 2000000 in
set_option maxRecDepth 100000 in
theorem ecl_two (t a b : Ex) (ht : t.two = some (a, b)) (iha : ECs a) (ihb : ECs b) : ECs t := by
  intro w S V hS r
  obtain ⟨k, c, s, args, v, rfl, rfl, hk, hc, hs, hargs⟩ := id r
  obtain ⟨hkk, r', hr'⟩ := Ex.two_kind ht
  simp only [Ex.kind, Ex.args] at hkk hr'
  subst hr'
  obtain ⟨A, cap, rfl, hcl, hcm, _⟩ := hargs.form
  obtain ⟨b0, off, k0, c0, s0, v0, rfl, hsb, x0, x1, x2, x3, ra⟩ := RdExs.arg hargs (q := 0) (by simp)
  obtain ⟨b0', off', k1, c1, s1, v1, hA, hsb', y0, y1, y2, y3, rb⟩ := RdExs.arg hargs (q := 1) (by simp)
  injection hA with hA
  injection hA with e1 e2
  subst e1 e2
  simp only [List.getElem_cons_zero, List.getElem_cons_succ] at ra rb
  rw [Nat.zero_mul, Nat.add_zero] at x0 x1 x2 x3
  rw [Nat.one_mul] at y0 y1 y2 y3
  have hl2 : 2 ≤ (a :: b :: r').length := by simp
  have bel : Below w.heap.size w ((w.alloc (.cells #[.int .i64 k, .int .i64 c, .string s, .slice (some ⟨b0, off, none⟩) (a :: b :: r').length cap] 38)).alloc (.cells #[.int .i64 0, .int .i64 0, .string noS, .slice none 0 0] 38)) := ((Below.refl _ _).alloc (Nat.le_refl _) _).alloc (by simp) _
  have RA := Lib.hid (r.go bel hS)
  have BEL := Lib.hid bel
  have HT := Lib.hid ht
  have HW := Lib.hid (clean_two ht)
  have HK := Lib.hid hk
  have HBX := Lib.hid ((Blk.made w [.int .i64 k, .int .i64 c, .string s, .slice (some ⟨b0, off, none⟩) (a :: b :: r').length cap] 38 (base := 0) (Nat.zero_le _)).below ((Below.refl _ _).alloc (Nat.le_refl _) (.cells #[.int .i64 0, .int .i64 0, .string noS, .slice none 0 0] 38)))
  have HBR := Lib.hid (Blk.made (w.alloc (.cells #[.int .i64 k, .int .i64 c, .string s, .slice (some ⟨b0, off, none⟩) (a :: b :: r').length cap] 38)) [.int .i64 0, .int .i64 0, .string noS, .slice none 0 0] 38 (base := 0) (Nat.zero_le _))
  rw [World.size_alloc] at HBR
  have HS := Lib.hid hS
  have RVa := Lib.hid ra
  have RVb := Lib.hid rb
  have IHa := Lib.hid iha
  have IHb := Lib.hid ihb
  have hb0 : b0 < w.heap.size := hS _ hsb
  obtain ⟨A1, m1, n1, rfl⟩ := ra.slice
  obtain ⟨A2, m2, n2, rfl⟩ := rb.slice
  unfold maxLen at hcm
  unfold exV
  clear hargs r bel hk hc hs hS ra rb iha ihb ht
  generalize hn : (a :: b :: r').length = n at *
  go_enter Try.func43, Try.ntmps43
  go_wp2_with fail
  refine (two_yes _ a b HT.out _ S _ RA.out).mono ?_
  rintro e w1 ⟨rfl, bb1⟩
  have BX1 := HBX.out.below bb1
  have BR1 := HBR.out.below bb1
  have hz1 := BEL.out.size
  have hz2 := bb1.size
  have hzl : w.heap.size + 1 < w1.heap.size := BR1.lt
  have hzx : w.heap.size < w1.heap.size := BX1.lt
  have kx0 := BX1.cell 0 _ rfl
  have kx3 := BX1.cell 3 _ rfl
  have kr0 := BR1.cell 0 _ rfl; have kr1 := BR1.cell 1 _ rfl; have kr2 := BR1.cell 2 _ rfl; have kr3 := BR1.cell 3 _ rfl
  have fr0 := BR1.fr 0; have fr1 := BR1.fr 1; have fr2 := BR1.fr 2; have fr3 := BR1.fr 3
  have BEL1 := Lib.hid (BEL.out.trans (bb1.mono hz1))
  have WRa := Lib.hid (RVa.out.go BEL1.out HS.out)
  have WRb := Lib.hid (RVb.out.go BEL1.out HS.out)
  have f0 := (BEL1.out.cell (p := ⟨b0, off, none⟩) hb0).trans x0
  have f1 := (BEL1.out.cell (p := ⟨b0, off + 1, none⟩) hb0).trans x1
  have f2 := (BEL1.out.cell (p := ⟨b0, off + 2, none⟩) hb0).trans x2
  have f3 := (BEL1.out.cell (p := ⟨b0, off + 3, none⟩) hb0).trans x3
  have f4 := (BEL1.out.cell (p := ⟨b0, off + 4, none⟩) hb0).trans y0
  have f5 := (BEL1.out.cell (p := ⟨b0, off + 4 + 1, none⟩) hb0).trans y1
  have f6 := (BEL1.out.cell (p := ⟨b0, off + 4 + 2, none⟩) hb0).trans y2
  have f7 := (BEL1.out.cell (p := ⟨b0, off + 4 + 3, none⟩) hb0).trans y3
  have hbl : b0 < w1.heap.size := by omega
  have HSW := Lib.hid (HS.out.trans (Sub.upto (show w.heap.size ≤ w1.heap.size by omega)))
  have HNR := Lib.hid (show ¬ S (w.heap.size + 1) from fun h => by have := HS.out _ h; unfold Upto at this; omega)
  clear bb1 BEL RA HBX BX1 HBR BR1 RVa RVb x0 x1 x2 x3 y0 y1 y2 y3
  have hneb : b0 ≠ w.heap.size + 1 := by omega
  have hnex : w.heap.size ≠ w.heap.size + 1 := by omega
  have hn0 : (0 : Int) < (n : Int) := by omega
  have hn00 : 0 < n := by omega
  have hn1 : (1 : Int) < (n : Int) := by omega
  have hn2 : 1 < n := by omega
  have HWP := Lib.hid (fun w' h => Stay.size h : ∀ w', Stay w1 w' → w1.heap.size ≤ w'.heap.size)
  go_upto_region 2 with (fail)
  go_region_held3 (fun w' => StayX (w.heap.size + 1) w1 w') (first | assumption | exact StayX.of_stay (Stay.mk (Kept.start _)) | ((repeat (with_reducible first | refine StayX.set ?_ _ | refine StayX.drew ?_ | refine StayX.alloc ?_ _)); assumption))
    (first
      | ((go_at_call_of 43 (Value.agg #[.int .i64 k0, .int .i64 c0, .string s0, .slice A1 m1 n1]); refine (IHa.out _ S _ (HSW.out.trans (Sub.upto (HWP.out _ (by first | assumption | exact Stay.mk (Kept.start _))))) (WRa.out.keep (Sub.refl _) (Same.sub (Stay.same (by first | assumption | exact Stay.mk (Kept.start _))) HSW.out))).mono ?_; rintro e wa1 ⟨U1, rfl, hu1, hb1⟩; have hp1 : FrP w1.heap.size S wa1 (clean a) U1 := FrP.of hu1 (HWP.out _ (by first | assumption | exact Stay.mk (Kept.start _))) (HSW.out.trans (Sub.upto (Nat.le_trans (HWP.out _ (by first | assumption | exact Stay.mk (Kept.start _))) hb1.size))); obtain ⟨A3, n3, rfl⟩ := hp1.form; have hst1 : Stay w1 wa1 := Stay.step hb1 (by first | assumption | exact Stay.mk (Kept.start _)); have hr1 : StayX (w.heap.size + 1) w1 wa1 := StayX.of_stay hst1; have HLS := Lib.hid hst1; have hRl : w.heap.size + 1 < wa1.heap.size := Nat.lt_of_lt_of_le hzl (HWP.out _ hst1); have hc0 := (hst1.1 ⟨w.heap.size + 1, 0, none⟩ hzl).trans kr0; have hc1 := (hst1.1 ⟨w.heap.size + 1, 1, none⟩ hzl).trans kr1; have hc2 := (hst1.1 ⟨w.heap.size + 1, 2, none⟩ hzl).trans kr2; have hc3 := (hst1.1 ⟨w.heap.size + 1, 3, none⟩ hzl).trans kr3; have hf0 := (hst1.2.1 ⟨w.heap.size + 1, 0, none⟩ hzl).trans fr0; have hf1 := (hst1.2.1 ⟨w.heap.size + 1, 1, none⟩ hzl).trans fr1; have hf2 := (hst1.2.1 ⟨w.heap.size + 1, 2, none⟩ hzl).trans fr2; have hf3 := (hst1.2.1 ⟨w.heap.size + 1, 3, none⟩ hzl).trans fr3))
      | ((go_at_call_of 43 (Value.agg #[.int .i64 k1, .int .i64 c1, .string s1, .slice A2 m2 n2]); refine (IHb.out _ S _ (HSW.out.trans (Sub.upto (HWP.out _ (by first | assumption | exact Stay.mk (Kept.start _))))) (WRb.out.keep (Sub.refl _) (Same.sub (Stay.same (by first | assumption | exact Stay.mk (Kept.start _))) HSW.out))).mono ?_; rintro e wb1 ⟨U2, rfl, hu2, hb2⟩; have hp2 : FrP w1.heap.size S wb1 (clean b) U2 := FrP.of hu2 (HWP.out _ (by first | assumption | exact Stay.mk (Kept.start _))) (HSW.out.trans (Sub.upto (Nat.le_trans (HWP.out _ (by first | assumption | exact Stay.mk (Kept.start _))) hb2.size))); obtain ⟨A4, n4, rfl⟩ := hp2.form; have hst2 : Stay w1 wb1 := Stay.step hb2 (by first | assumption | exact Stay.mk (Kept.start _)); have hr2 : StayX (w.heap.size + 1) w1 wb1 := StayX.of_stay hst2; have HLS := Lib.hid hst2; have hRl : w.heap.size + 1 < wb1.heap.size := Nat.lt_of_lt_of_le hzl (HWP.out _ hst2); have hc0 := (hst2.1 ⟨w.heap.size + 1, 0, none⟩ hzl).trans kr0; have hc1 := (hst2.1 ⟨w.heap.size + 1, 1, none⟩ hzl).trans kr1; have hc2 := (hst2.1 ⟨w.heap.size + 1, 2, none⟩ hzl).trans kr2; have hc3 := (hst2.1 ⟨w.heap.size + 1, 3, none⟩ hzl).trans kr3; have hf0 := (hst2.2.1 ⟨w.heap.size + 1, 0, none⟩ hzl).trans fr0; have hf1 := (hst2.2.1 ⟨w.heap.size + 1, 1, none⟩ hzl).trans fr1; have hf2 := (hst2.2.1 ⟨w.heap.size + 1, 2, none⟩ hzl).trans fr2; have hf3 := (hst2.2.1 ⟨w.heap.size + 1, 3, none⟩ hzl).trans fr3)))
  all_goals (
    rename_i hheld
    clear hheld
    try clear hst1
    try clear hst2
    try clear hr1
    try clear hr2
    go_wp2
    first
      | (obtain ⟨W9, hW9, d0, d1, d2, d3, hp9, hb9⟩ := fin_two HK.out HLS.out hzl HNR.out hc0 hc1 hc2 hc3 (wl := wb1) (FrP.via hb2 hp1) hp2
         show bodyPost _ _ _ _ _ ((set4 wb1 (w.heap.size + 1) _ _ _ _).alloc _)
         rw [← hW9]
         refine bodyPost_ret (v := .agg #[.int .i64 k, .int .i64 0, .string noS, .slice (some ⟨wb1.heap.size, 0, none⟩) 2 2]) (by simp [results, Try.results43, go_sem, d0, d1, d2, d3]) rfl ⟨_, rfl, ?_, ?_⟩
         · rw [HW.out]
           exact hp9.rd (by omega)
         · exact hb9 _ _ (by omega) (BEL1.out.trans (HLS.out.below.mono BEL1.out.size)))
      | (obtain ⟨W9, hW9, d0, d1, d2, d3, hp9, hb9⟩ := fin_two HK.out HLS.out hzl HNR.out hc0 hc1 hc2 hc3 (wl := wa1) hp1 (FrP.via hb1 hp2)
         show bodyPost _ _ _ _ _ ((set4 wa1 (w.heap.size + 1) _ _ _ _).alloc _)
         rw [← hW9]
         refine bodyPost_ret (v := .agg #[.int .i64 k, .int .i64 0, .string noS, .slice (some ⟨wa1.heap.size, 0, none⟩) 2 2]) (by simp [results, Try.results43, go_sem, d0, d1, d2, d3]) rfl ⟨_, rfl, ?_, ?_⟩
         · rw [HW.out]
           exact hp9.rd (by omega)
         · exact hb9 _ _ (by omega) (BEL1.out.trans (HLS.out.below.mono BEL1.out.size))))
set_option maxHeartbeats 1000000 in
set_option maxRecDepth 100000 in
theorem ecl_one (t : Ex) (ht : t.two = none) : ECs t := by
  intro w S V hS r
  obtain ⟨k, c, s, args, v, rfl, rfl, hk, hc, hs, hargs⟩ := id r
  obtain ⟨A, cap, rfl, _, hcm, _⟩ := hargs.form
  have bel : Below w.heap.size w ((w.alloc (.cells #[.int .i64 k, .int .i64 c, .string s, .slice A args.length cap] 38)).alloc (.cells #[.int .i64 0, .int .i64 0, .string noS, .slice none 0 0] 38)) := ((Below.refl _ _).alloc (Nat.le_refl _) _).alloc (by simp) _
  have RA := Lib.hid (r.go bel hS)
  have BEL := Lib.hid bel
  have HS := Lib.hid hS
  have HNK := Lib.hid (And.intro hk (And.intro hc hs))
  have HSU := Lib.hid (hS.trans (Sub.upto bel.size))
  have HBX := Lib.hid ((Blk.made w [.int .i64 k, .int .i64 c, .string s, .slice A args.length cap] 38 (base := 0) (Nat.zero_le _)).below ((Below.refl _ _).alloc (Nat.le_refl _) (.cells #[.int .i64 0, .int .i64 0, .string noS, .slice none 0 0] 38)))
  have HBR := Lib.hid (Blk.made (w.alloc (.cells #[.int .i64 k, .int .i64 c, .string s, .slice A args.length cap] 38)) [.int .i64 0, .int .i64 0, .string noS, .slice none 0 0] 38 (base := 0) (Nat.zero_le _))
  simp only [World.size_alloc] at HBR
  have HT := Lib.hid ht
  have HW := Lib.hid (clean_none ht)
  unfold maxLen at hcm
  unfold exV
  clear hargs r bel hk hc hs hS ht
  go_enter Try.func43, Try.ntmps43
  go_wp2_with fail
  refine (two_no _ HT.out _ S _ RA.out).mono ?_
  rintro e w1 ⟨rfl, bb1⟩
  have HBX1 := Lib.hid (HBX.out.below bb1)
  have kxl := HBX1.out.lt
  have kx0 := HBX1.out.cell 0 _ rfl; have kx1 := HBX1.out.cell 1 _ rfl; have kx2 := HBX1.out.cell 2 _ rfl; have kx3 := HBX1.out.cell 3 _ rfl
  have HBR1 := Lib.hid (HBR.out.below bb1)
  have krl := HBR1.out.lt
  have kr0 := HBR1.out.cell 0 _ rfl; have kr1 := HBR1.out.cell 1 _ rfl; have kr2 := HBR1.out.cell 2 _ rfl; have kr3 := HBR1.out.cell 3 _ rfl
  have fr0 := HBR1.out.fr 0; have fr1 := HBR1.out.fr 1; have fr2 := HBR1.out.fr 2; have fr3 := HBR1.out.fr 3
  have HB := Lib.hid (BEL.out.trans (bb1.mono BEL.out.size))
  have hne : w.heap.size ≠ w.heap.size + 1 := by omega
  clear bb1 RA HSU
  by_cases h2 : k = 2
  · subst h2
    have HX := Lib.hid (show clean (.mk 2 c s args) = nameE s by rw [HW.out]; rfl)
    go_wp2
    refine bodyPost_ret (v := .agg #[.int .i64 2, .int .i64 0, .string s, .slice none 0 0]) (by simp [results, Try.results43, go_sem, kr0, kr1, kr2, kr3]) rfl ⟨_, rfl, ?_, ?_⟩
    · show RdE (set4 w1 (w.heap.size + 1) _ _ _ _) _ _ _
      rw [HX.out]
      exact RdE.leaf _ _ (by decide) (by decide) HNK.out.2.2
    · show Below _ _ (set4 w1 (w.heap.size + 1) _ _ _ _)
      exact set4_below (HB.out) (by omega)
  · by_cases h1 : k = 1
    · subst h1
      clear h2
      have HX := Lib.hid (show clean (.mk 1 c s args) = numE c by rw [HW.out]; rfl)
      go_wp2
      refine bodyPost_ret (v := .agg #[.int .i64 1, .int .i64 c, .string noS, .slice none 0 0]) (by simp [results, Try.results43, go_sem, kr0, kr1, kr2, kr3]) rfl ⟨_, rfl, ?_, ?_⟩
      · show RdE (set4 w1 (w.heap.size + 1) _ _ _ _) _ _ _
        rw [HX.out]
        exact RdE.leaf _ _ (by decide) HNK.out.2.1 (by decide)
      · show Below _ _ (set4 w1 (w.heap.size + 1) _ _ _ _)
        exact set4_below (HB.out) (by omega)
    · have HX := Lib.hid (show clean (.mk k c s args) = numE 0 by rw [HW.out]; simp [Ex.kind, h1, h2])
      have g1 : (k == 1) = false := by simpa using h1
      have g2 : (k == 2) = false := by simpa using h2
      clear h1 h2
      go_wp2
      refine bodyPost_ret (v := .agg #[.int .i64 1, .int .i64 0, .string noS, .slice none 0 0]) (by simp [results, Try.results43, go_sem, kr0, kr1, kr2, kr3]) rfl ⟨_, rfl, ?_, ?_⟩
      · show RdE (set4 w1 (w.heap.size + 1) _ _ _ _) _ _ _
        rw [HX.out]
        exact RdE.leaf _ _ (by decide) (by decide) (by decide)
      · show Below _ _ (set4 w1 (w.heap.size + 1) _ _ _ _)
        exact set4_below (HB.out) (by omega)
theorem ecl_all (t : Ex) : ECs t := Ex.ind ecl_one ecl_two t
set_option maxHeartbeats 2000000 in
set_option maxRecDepth 100000 in
theorem epu_two (nm : Str) (y t a b : Ex) (ht : t.two = some (a, b)) (iha : EPs nm y a) (ihb : EPs nm y b) : EPs nm y t := by
  intro w S V VY hS r ry
  obtain ⟨Ay, cy, rfl⟩ := ry.form
  obtain ⟨k, c, s, args, v, rfl, rfl, hk, hc, hs, hargs⟩ := id r
  obtain ⟨hkk, r', hr'⟩ := Ex.two_kind ht
  simp only [Ex.kind, Ex.args] at hkk hr'
  subst hr'
  obtain ⟨A, cap, rfl, hcl, hcm, _⟩ := hargs.form
  obtain ⟨b0, off, k0, c0, s0, v0, rfl, hsb, x0, x1, x2, x3, ra⟩ := RdExs.arg hargs (q := 0) (by simp)
  obtain ⟨b0', off', k1, c1, s1, v1, hA, hsb', y0, y1, y2, y3, rb⟩ := RdExs.arg hargs (q := 1) (by simp)
  injection hA with hA
  injection hA with e1 e2
  subst e1 e2
  simp only [List.getElem_cons_zero, List.getElem_cons_succ] at ra rb
  rw [Nat.zero_mul, Nat.add_zero] at x0 x1 x2 x3
  rw [Nat.one_mul] at y0 y1 y2 y3
  have hl2 : 2 ≤ (a :: b :: r').length := by simp
  have bel : Below w.heap.size w (((w.alloc (.cells #[.int .i64 k, .int .i64 c, .string s, .slice (some ⟨b0, off, none⟩) (a :: b :: r').length cap] 38)).alloc (.cells #[.int .i64 y.kind, .int .i64 y.num, .string y.name, .slice Ay y.args.length cy] 38)).alloc (.cells #[.int .i64 0, .int .i64 0, .string noS, .slice none 0 0] 38)) := (((Below.refl _ _).alloc (Nat.le_refl _) _).alloc (by simp) _).alloc (by simp; omega) _
  have RA := Lib.hid (r.go bel hS)
  have BEL := Lib.hid bel
  have HT := Lib.hid ht
  have HW := Lib.hid (put_two (s := nm) (y := y) ht)
  have HK := Lib.hid hk
  have HBX := Lib.hid (((Blk.made w [.int .i64 k, .int .i64 c, .string s, .slice (some ⟨b0, off, none⟩) (a :: b :: r').length cap] 38 (base := 0) (Nat.zero_le _)).below ((Below.refl _ _).alloc (Nat.le_refl _) (.cells #[.int .i64 y.kind, .int .i64 y.num, .string y.name, .slice Ay y.args.length cy] 38))).below ((Below.refl _ _).alloc (Nat.le_refl _) (.cells #[.int .i64 0, .int .i64 0, .string noS, .slice none 0 0] 38)))
  have HBR := Lib.hid (Blk.made ((w.alloc (.cells #[.int .i64 k, .int .i64 c, .string s, .slice (some ⟨b0, off, none⟩) (a :: b :: r').length cap] 38)).alloc (.cells #[.int .i64 y.kind, .int .i64 y.num, .string y.name, .slice Ay y.args.length cy] 38)) [.int .i64 0, .int .i64 0, .string noS, .slice none 0 0] 38 (base := 0) (Nat.zero_le _))
  have HBY := Lib.hid ((Blk.made (w.alloc (.cells #[.int .i64 k, .int .i64 c, .string s, .slice (some ⟨b0, off, none⟩) (a :: b :: r').length cap] 38)) [.int .i64 y.kind, .int .i64 y.num, .string y.name, .slice Ay y.args.length cy] 38 (base := 0) (Nat.zero_le _)).below ((Below.refl _ _).alloc (Nat.le_refl _) (.cells #[.int .i64 0, .int .i64 0, .string noS, .slice none 0 0] 38)))
  simp only [World.size_alloc] at HBR HBY
  have HRY := Lib.hid ry
  have HS := Lib.hid hS
  have RVa := Lib.hid ra
  have RVb := Lib.hid rb
  have IHa := Lib.hid iha
  have IHb := Lib.hid ihb
  have hb0 : b0 < w.heap.size := hS _ hsb
  obtain ⟨A1, m1, n1, rfl⟩ := ra.slice
  obtain ⟨A2, m2, n2, rfl⟩ := rb.slice
  unfold maxLen at hcm
  unfold exV
  clear hargs r bel hk hc hs hS ra rb iha ihb ht ry
  generalize hn : (a :: b :: r').length = n at *
  go_enter Try.func19, Try.ntmps19
  go_wp2_with fail
  refine (two_yes _ a b HT.out _ S _ RA.out).mono ?_
  rintro e w1 ⟨rfl, bb1⟩
  have BX1 := HBX.out.below bb1
  have BR1 := HBR.out.below bb1
  have BY1 := HBY.out.below bb1
  have hyl := BY1.lt
  have ky0 := BY1.cell 0 _ rfl; have ky1 := BY1.cell 1 _ rfl; have ky2 := BY1.cell 2 _ rfl; have ky3 := BY1.cell 3 _ rfl
  have hney : w.heap.size + 1 ≠ w.heap.size + 1 + 1 := by omega
  have hz1 := BEL.out.size
  have hz2 := bb1.size
  have hzl : w.heap.size + 1 + 1 < w1.heap.size := BR1.lt
  have hzx : w.heap.size < w1.heap.size := BX1.lt
  have kx0 := BX1.cell 0 _ rfl
  have kx3 := BX1.cell 3 _ rfl
  have kr0 := BR1.cell 0 _ rfl; have kr1 := BR1.cell 1 _ rfl; have kr2 := BR1.cell 2 _ rfl; have kr3 := BR1.cell 3 _ rfl
  have fr0 := BR1.fr 0; have fr1 := BR1.fr 1; have fr2 := BR1.fr 2; have fr3 := BR1.fr 3
  have BEL1 := Lib.hid (BEL.out.trans (bb1.mono hz1))
  have WRa := Lib.hid (RVa.out.go BEL1.out HS.out)
  have WRb := Lib.hid (RVb.out.go BEL1.out HS.out)
  have WRY := Lib.hid (HRY.out.go BEL1.out HS.out)
  clear BY1 HBY
  have f0 := (BEL1.out.cell (p := ⟨b0, off, none⟩) hb0).trans x0
  have f1 := (BEL1.out.cell (p := ⟨b0, off + 1, none⟩) hb0).trans x1
  have f2 := (BEL1.out.cell (p := ⟨b0, off + 2, none⟩) hb0).trans x2
  have f3 := (BEL1.out.cell (p := ⟨b0, off + 3, none⟩) hb0).trans x3
  have f4 := (BEL1.out.cell (p := ⟨b0, off + 4, none⟩) hb0).trans y0
  have f5 := (BEL1.out.cell (p := ⟨b0, off + 4 + 1, none⟩) hb0).trans y1
  have f6 := (BEL1.out.cell (p := ⟨b0, off + 4 + 2, none⟩) hb0).trans y2
  have f7 := (BEL1.out.cell (p := ⟨b0, off + 4 + 3, none⟩) hb0).trans y3
  have hbl : b0 < w1.heap.size := by omega
  have HSW := Lib.hid (HS.out.trans (Sub.upto (show w.heap.size ≤ w1.heap.size by omega)))
  have HNR := Lib.hid (show ¬ S (w.heap.size + 1 + 1) from fun h => by have := HS.out _ h; unfold Upto at this; omega)
  clear bb1 BEL RA HBX BX1 HBR BR1 RVa RVb x0 x1 x2 x3 y0 y1 y2 y3
  have hneb : b0 ≠ w.heap.size + 1 + 1 := by omega
  have hnex : w.heap.size ≠ w.heap.size + 1 + 1 := by omega
  have hn0 : (0 : Int) < (n : Int) := by omega
  have hn00 : 0 < n := by omega
  have hn1 : (1 : Int) < (n : Int) := by omega
  have hn2 : 1 < n := by omega
  have HWP := Lib.hid (fun w' h => Stay.size h : ∀ w', Stay w1 w' → w1.heap.size ≤ w'.heap.size)
  go_upto_region 2 with (fail)
  go_region_held3 (fun w' => StayX (w.heap.size + 1 + 1) w1 w') (first | assumption | exact StayX.of_stay (Stay.mk (Kept.start _)) | ((repeat (with_reducible first | refine StayX.set ?_ _ | refine StayX.drew ?_ | refine StayX.alloc ?_ _)); assumption))
    (first
      | ((go_at_call_of 19 (Value.agg #[.int .i64 k0, .int .i64 c0, .string s0, .slice A1 m1 n1]); refine (IHa.out _ S _ _ (HSW.out.trans (Sub.upto (HWP.out _ (by first | assumption | exact Stay.mk (Kept.start _))))) (WRa.out.keep (Sub.refl _) (Same.sub (Stay.same (by first | assumption | exact Stay.mk (Kept.start _))) HSW.out)) (WRY.out.keep (Sub.refl _) (Same.sub (Stay.same (by first | assumption | exact Stay.mk (Kept.start _))) HSW.out))).mono ?_; rintro e wa1 ⟨U1, rfl, hu1, hb1⟩; have hp1 : FrP w1.heap.size S wa1 (put nm y a) U1 := FrP.of hu1 (HWP.out _ (by first | assumption | exact Stay.mk (Kept.start _))) (HSW.out.trans (Sub.upto (Nat.le_trans (HWP.out _ (by first | assumption | exact Stay.mk (Kept.start _))) hb1.size))); obtain ⟨A3, n3, rfl⟩ := hp1.form; have hst1 : Stay w1 wa1 := Stay.step hb1 (by first | assumption | exact Stay.mk (Kept.start _)); have hr1 : StayX (w.heap.size + 1 + 1) w1 wa1 := StayX.of_stay hst1; have HLS := Lib.hid hst1; have hRl : w.heap.size + 1 + 1 < wa1.heap.size := Nat.lt_of_lt_of_le hzl (HWP.out _ hst1); have hc0 := (hst1.1 ⟨w.heap.size + 1 + 1, 0, none⟩ hzl).trans kr0; have hc1 := (hst1.1 ⟨w.heap.size + 1 + 1, 1, none⟩ hzl).trans kr1; have hc2 := (hst1.1 ⟨w.heap.size + 1 + 1, 2, none⟩ hzl).trans kr2; have hc3 := (hst1.1 ⟨w.heap.size + 1 + 1, 3, none⟩ hzl).trans kr3; have hf0 := (hst1.2.1 ⟨w.heap.size + 1 + 1, 0, none⟩ hzl).trans fr0; have hf1 := (hst1.2.1 ⟨w.heap.size + 1 + 1, 1, none⟩ hzl).trans fr1; have hf2 := (hst1.2.1 ⟨w.heap.size + 1 + 1, 2, none⟩ hzl).trans fr2; have hf3 := (hst1.2.1 ⟨w.heap.size + 1 + 1, 3, none⟩ hzl).trans fr3))
      | ((go_at_call_of 19 (Value.agg #[.int .i64 k1, .int .i64 c1, .string s1, .slice A2 m2 n2]); refine (IHb.out _ S _ _ (HSW.out.trans (Sub.upto (HWP.out _ (by first | assumption | exact Stay.mk (Kept.start _))))) (WRb.out.keep (Sub.refl _) (Same.sub (Stay.same (by first | assumption | exact Stay.mk (Kept.start _))) HSW.out)) (WRY.out.keep (Sub.refl _) (Same.sub (Stay.same (by first | assumption | exact Stay.mk (Kept.start _))) HSW.out))).mono ?_; rintro e wb1 ⟨U2, rfl, hu2, hb2⟩; have hp2 : FrP w1.heap.size S wb1 (put nm y b) U2 := FrP.of hu2 (HWP.out _ (by first | assumption | exact Stay.mk (Kept.start _))) (HSW.out.trans (Sub.upto (Nat.le_trans (HWP.out _ (by first | assumption | exact Stay.mk (Kept.start _))) hb2.size))); obtain ⟨A4, n4, rfl⟩ := hp2.form; have hst2 : Stay w1 wb1 := Stay.step hb2 (by first | assumption | exact Stay.mk (Kept.start _)); have hr2 : StayX (w.heap.size + 1 + 1) w1 wb1 := StayX.of_stay hst2; have HLS := Lib.hid hst2; have hRl : w.heap.size + 1 + 1 < wb1.heap.size := Nat.lt_of_lt_of_le hzl (HWP.out _ hst2); have hc0 := (hst2.1 ⟨w.heap.size + 1 + 1, 0, none⟩ hzl).trans kr0; have hc1 := (hst2.1 ⟨w.heap.size + 1 + 1, 1, none⟩ hzl).trans kr1; have hc2 := (hst2.1 ⟨w.heap.size + 1 + 1, 2, none⟩ hzl).trans kr2; have hc3 := (hst2.1 ⟨w.heap.size + 1 + 1, 3, none⟩ hzl).trans kr3; have hf0 := (hst2.2.1 ⟨w.heap.size + 1 + 1, 0, none⟩ hzl).trans fr0; have hf1 := (hst2.2.1 ⟨w.heap.size + 1 + 1, 1, none⟩ hzl).trans fr1; have hf2 := (hst2.2.1 ⟨w.heap.size + 1 + 1, 2, none⟩ hzl).trans fr2; have hf3 := (hst2.2.1 ⟨w.heap.size + 1 + 1, 3, none⟩ hzl).trans fr3)))
  all_goals (
    rename_i hheld
    clear hheld
    try clear hst1
    try clear hst2
    try clear hr1
    try clear hr2
    go_wp2
    first
      | (obtain ⟨W9, hW9, d0, d1, d2, d3, hp9, hb9⟩ := fin_two HK.out HLS.out hzl HNR.out hc0 hc1 hc2 hc3 (wl := wb1) (FrP.via hb2 hp1) hp2
         show bodyPost _ _ _ _ _ ((set4 wb1 (w.heap.size + 1 + 1) _ _ _ _).alloc _)
         rw [← hW9]
         refine bodyPost_ret (v := .agg #[.int .i64 k, .int .i64 0, .string noS, .slice (some ⟨wb1.heap.size, 0, none⟩) 2 2]) (by simp [results, Try.results19, go_sem, d0, d1, d2, d3]) rfl ⟨_, rfl, ?_, ?_⟩
         · rw [HW.out]
           exact hp9.rd (by omega)
         · exact hb9 _ _ (by omega) (BEL1.out.trans (HLS.out.below.mono BEL1.out.size)))
      | (obtain ⟨W9, hW9, d0, d1, d2, d3, hp9, hb9⟩ := fin_two HK.out HLS.out hzl HNR.out hc0 hc1 hc2 hc3 (wl := wa1) hp1 (FrP.via hb1 hp2)
         show bodyPost _ _ _ _ _ ((set4 wa1 (w.heap.size + 1 + 1) _ _ _ _).alloc _)
         rw [← hW9]
         refine bodyPost_ret (v := .agg #[.int .i64 k, .int .i64 0, .string noS, .slice (some ⟨wa1.heap.size, 0, none⟩) 2 2]) (by simp [results, Try.results19, go_sem, d0, d1, d2, d3]) rfl ⟨_, rfl, ?_, ?_⟩
         · rw [HW.out]
           exact hp9.rd (by omega)
         · exact hb9 _ _ (by omega) (BEL1.out.trans (HLS.out.below.mono BEL1.out.size))))
set_option maxHeartbeats 1000000 in
set_option maxRecDepth 100000 in
theorem epu_one (nm : Str) (y t : Ex) (ht : t.two = none) : EPs nm y t := by
  intro w S V VY hS r ry
  obtain ⟨Ay, cy, rfl⟩ := ry.form
  obtain ⟨k, c, s, args, v, rfl, rfl, hk, hc, hs, hargs⟩ := id r
  obtain ⟨A, cap, rfl, _, hcm, _⟩ := hargs.form
  have bel : Below w.heap.size w (((w.alloc (.cells #[.int .i64 k, .int .i64 c, .string s, .slice A args.length cap] 38)).alloc (.cells #[.int .i64 y.kind, .int .i64 y.num, .string y.name, .slice Ay y.args.length cy] 38)).alloc (.cells #[.int .i64 0, .int .i64 0, .string noS, .slice none 0 0] 38)) := (((Below.refl _ _).alloc (Nat.le_refl _) _).alloc (by simp) _).alloc (by simp; omega) _
  have RA := Lib.hid (r.go bel hS)
  have BEL := Lib.hid bel
  have HS := Lib.hid hS
  have HNK := Lib.hid (And.intro hk (And.intro hc hs))
  have HSU := Lib.hid (hS.trans (Sub.upto bel.size))
  have HBX := Lib.hid (((Blk.made w [.int .i64 k, .int .i64 c, .string s, .slice A args.length cap] 38 (base := 0) (Nat.zero_le _)).below ((Below.refl _ _).alloc (Nat.le_refl _) (.cells #[.int .i64 y.kind, .int .i64 y.num, .string y.name, .slice Ay y.args.length cy] 38))).below ((Below.refl _ _).alloc (Nat.le_refl _) (.cells #[.int .i64 0, .int .i64 0, .string noS, .slice none 0 0] 38)))
  have HBY := Lib.hid ((Blk.made (w.alloc (.cells #[.int .i64 k, .int .i64 c, .string s, .slice A args.length cap] 38)) [.int .i64 y.kind, .int .i64 y.num, .string y.name, .slice Ay y.args.length cy] 38 (base := 0) (Nat.zero_le _)).below ((Below.refl _ _).alloc (Nat.le_refl _) (.cells #[.int .i64 0, .int .i64 0, .string noS, .slice none 0 0] 38)))
  have HBR := Lib.hid (Blk.made ((w.alloc (.cells #[.int .i64 k, .int .i64 c, .string s, .slice A args.length cap] 38)).alloc (.cells #[.int .i64 y.kind, .int .i64 y.num, .string y.name, .slice Ay y.args.length cy] 38)) [.int .i64 0, .int .i64 0, .string noS, .slice none 0 0] 38 (base := 0) (Nat.zero_le _))
  simp only [World.size_alloc] at HBY HBR
  have HT := Lib.hid ht
  have HRY := Lib.hid ry
  unfold maxLen at hcm
  unfold exV
  clear hargs r bel hk hc hs hS ht ry
  go_enter Try.func19, Try.ntmps19
  go_wp2_with fail
  refine (two_no _ HT.out _ S _ RA.out).mono ?_
  rintro e w1 ⟨rfl, bb1⟩
  have HBX1 := Lib.hid (HBX.out.below bb1)
  have kxl := HBX1.out.lt
  have kx0 := HBX1.out.cell 0 _ rfl; have kx1 := HBX1.out.cell 1 _ rfl; have kx2 := HBX1.out.cell 2 _ rfl; have kx3 := HBX1.out.cell 3 _ rfl
  have HBY1 := Lib.hid (HBY.out.below bb1)
  have kyl := HBY1.out.lt
  have ky0 := HBY1.out.cell 0 _ rfl; have ky1 := HBY1.out.cell 1 _ rfl; have ky2 := HBY1.out.cell 2 _ rfl; have ky3 := HBY1.out.cell 3 _ rfl
  have HBR1 := Lib.hid (HBR.out.below bb1)
  have krl := HBR1.out.lt
  have kr0 := HBR1.out.cell 0 _ rfl; have kr1 := HBR1.out.cell 1 _ rfl; have kr2 := HBR1.out.cell 2 _ rfl; have kr3 := HBR1.out.cell 3 _ rfl
  have fr0 := HBR1.out.fr 0; have fr1 := HBR1.out.fr 1; have fr2 := HBR1.out.fr 2; have fr3 := HBR1.out.fr 3
  have HB := Lib.hid (BEL.out.trans (bb1.mono BEL.out.size))
  have RT1 := Lib.hid (RA.out.go bb1 HSU.out)
  have RY1 := Lib.hid (HRY.out.go HB.out HS.out)
  clear bb1 RA HSU HRY
  by_cases h2 : k = 2
  · subst h2
    by_cases hs : s = nm
    · have HX := Lib.hid (show put nm y (.mk 2 c s args) = clean y from put_name HT.out rfl hs)
      have es := str_eq hs
      clear hs
      go_wp2_with fail
      refine (ecl_all y _ S _ (HS.out.trans (Sub.upto HB.out.size)) RY1.out).mono ?_
      rintro e w3 ⟨U, rfl, hU, hb3⟩
      obtain ⟨A3, n3, rfl⟩ := hU.form
      have BR3 := HBR1.out.below hb3
      have q0 := BR3.cell 0 _ rfl; have q1 := BR3.cell 1 _ rfl; have q2 := BR3.cell 2 _ rfl; have q3 := BR3.cell 3 _ rfl
      have fq0 := BR3.fr 0; have fq1 := BR3.fr 1; have fq2 := BR3.fr 2; have fq3 := BR3.fr 3
      have hq3 := BR3.lt
      have HU := Lib.hid hU
      have HB3 := Lib.hid (HB.out.trans (hb3.mono HB.out.size))
      clear BR3 hb3 hU
      go_wp2
      refine bodyPost_ret (v := .agg #[.int .i64 (clean y).kind, .int .i64 (clean y).num, .string (clean y).name, .slice A3 (clean y).args.length n3]) (by simp [results, Try.results19, go_sem, q0, q1, q2, q3]) rfl ⟨_, rfl, ?_, ?_⟩
      · show RdE (set4 w3 (w.heap.size + 1 + 1) _ _ _ _) _ _ _
        rw [HX.out]
        refine HU.out.keep (Sub.plus_mono (by have := HB.out.size; omega) (Nat.le_of_eq (set4_size _ _ _ _ _ _).symm)) (set4_same ?_)
        intro hp
        rcases hp with hp | hp
        · have := HS.out _ hp; unfold Upto at this; omega
        · have := hp.1; omega
      · show Below _ _ (set4 w3 (w.heap.size + 1 + 1) _ _ _ _)
        exact set4_below (HB3.out) (by omega)
    · have HX := Lib.hid (show put nm y (.mk 2 c s args) = clean (.mk 2 c s args) from put_other HT.out (fun h => hs h.2))
      have es := str_ne hs
      clear hs
      go_wp2_with fail
      refine (ecl_all (.mk 2 c s args) _ S _ (HS.out.trans (Sub.upto HB.out.size)) RT1.out).mono ?_
      rintro e w3 ⟨U, rfl, hU, hb3⟩
      obtain ⟨A3, n3, rfl⟩ := hU.form
      have BR3 := HBR1.out.below hb3
      have q0 := BR3.cell 0 _ rfl; have q1 := BR3.cell 1 _ rfl; have q2 := BR3.cell 2 _ rfl; have q3 := BR3.cell 3 _ rfl
      have fq0 := BR3.fr 0; have fq1 := BR3.fr 1; have fq2 := BR3.fr 2; have fq3 := BR3.fr 3
      have hq3 := BR3.lt
      have HU := Lib.hid hU
      have HB3 := Lib.hid (HB.out.trans (hb3.mono HB.out.size))
      clear BR3 hb3 hU
      go_wp2
      refine bodyPost_ret (v := .agg #[.int .i64 (clean (.mk 2 c s args)).kind, .int .i64 (clean (.mk 2 c s args)).num, .string (clean (.mk 2 c s args)).name, .slice A3 (clean (.mk 2 c s args)).args.length n3]) (by simp [results, Try.results19, go_sem, q0, q1, q2, q3]) rfl ⟨_, rfl, ?_, ?_⟩
      · show RdE (set4 w3 (w.heap.size + 1 + 1) _ _ _ _) _ _ _
        rw [HX.out]
        refine HU.out.keep (Sub.plus_mono (by have := HB.out.size; omega) (Nat.le_of_eq (set4_size _ _ _ _ _ _).symm)) (set4_same ?_)
        intro hp
        rcases hp with hp | hp
        · have := HS.out _ hp; unfold Upto at this; omega
        · have := hp.1; omega
      · show Below _ _ (set4 w3 (w.heap.size + 1 + 1) _ _ _ _)
        exact set4_below (HB3.out) (by omega)
  · have HX := Lib.hid (show put nm y (.mk k c s args) = clean (.mk k c s args) from put_other HT.out (fun h => h2 h.1))
    have g2 : (k == 2) = false := by simpa using h2
    clear h2
    go_wp2_with fail
    refine (ecl_all (.mk k c s args) _ S _ (HS.out.trans (Sub.upto HB.out.size)) RT1.out).mono ?_
    rintro e w3 ⟨U, rfl, hU, hb3⟩
    obtain ⟨A3, n3, rfl⟩ := hU.form
    have BR3 := HBR1.out.below hb3
    have q0 := BR3.cell 0 _ rfl; have q1 := BR3.cell 1 _ rfl; have q2 := BR3.cell 2 _ rfl; have q3 := BR3.cell 3 _ rfl
    have fq0 := BR3.fr 0; have fq1 := BR3.fr 1; have fq2 := BR3.fr 2; have fq3 := BR3.fr 3
    have hq3 := BR3.lt
    have HU := Lib.hid hU
    have HB3 := Lib.hid (HB.out.trans (hb3.mono HB.out.size))
    clear BR3 hb3 hU
    go_wp2
    refine bodyPost_ret (v := .agg #[.int .i64 (clean (.mk k c s args)).kind, .int .i64 (clean (.mk k c s args)).num, .string (clean (.mk k c s args)).name, .slice A3 (clean (.mk k c s args)).args.length n3]) (by simp [results, Try.results19, go_sem, q0, q1, q2, q3]) rfl ⟨_, rfl, ?_, ?_⟩
    · show RdE (set4 w3 (w.heap.size + 1 + 1) _ _ _ _) _ _ _
      rw [HX.out]
      refine HU.out.keep (Sub.plus_mono (by have := HB.out.size; omega) (Nat.le_of_eq (set4_size _ _ _ _ _ _).symm)) (set4_same ?_)
      intro hp
      rcases hp with hp | hp
      · have := HS.out _ hp; unfold Upto at this; omega
      · have := hp.1; omega
    · show Below _ _ (set4 w3 (w.heap.size + 1 + 1) _ _ _ _)
      exact set4_below (HB3.out) (by omega)
theorem epu_all (nm : Str) (y t : Ex) : EPs nm y t := Ex.ind (motive := fun t => EPs nm y t) (epu_one nm y) (epu_two nm y) t
set_option maxHeartbeats 1000000 in
set_option maxRecDepth 100000 in
theorem efo_nil (t : Ex) (hn : t.names = []) : EFs t := by
  intro w S V hS r hwt
  obtain ⟨k, c, s, args, v, rfl, rfl, hk, hc, hs, hargs⟩ := id r
  obtain ⟨A, cap, rfl, _, hcm, _⟩ := hargs.form
  have bel : Below w.heap.size w ((w.alloc (.cells #[.int .i64 k, .int .i64 c, .string s, .slice A args.length cap] 38)).alloc (.cells #[.int .i64 0, .int .i64 0, .string noS, .slice none 0 0] 38)) := ((Below.refl _ _).alloc (Nat.le_refl _) _).alloc (by simp) _
  have RA := Lib.hid (r.go bel hS)
  have BEL := Lib.hid bel
  have HS := Lib.hid hS
  have HNK := Lib.hid (And.intro hk (And.intro hc hs))
  have HSU := Lib.hid (hS.trans (Sub.upto bel.size))
  have HBX := Lib.hid ((Blk.made w [.int .i64 k, .int .i64 c, .string s, .slice A args.length cap] 38 (base := 0) (Nat.zero_le _)).below ((Below.refl _ _).alloc (Nat.le_refl _) (.cells #[.int .i64 0, .int .i64 0, .string noS, .slice none 0 0] 38)))
  have HBR := Lib.hid (Blk.made (w.alloc (.cells #[.int .i64 k, .int .i64 c, .string s, .slice A args.length cap] 38)) [.int .i64 0, .int .i64 0, .string noS, .slice none 0 0] 38 (base := 0) (Nat.zero_le _))
  simp only [World.size_alloc] at HBR
  have HWT := Lib.hid hwt
  have HX := Lib.hid (show fold doE (.mk k c s args) = numE ((Ex.mk k c s args).worth []) from (fold_cases doE (Ex.worth []) worthN_two worthN_one _).1 hn)
  have HNL := Lib.hid (show (Ex.mk k c s args).names.length = 0 by rw [hn]; rfl)
  clear hn hwt
  unfold maxLen at hcm
  unfold exV
  clear hargs r bel hk hc hs hS
  go_enter Try.func21, Try.ntmps21
  go_wp2_with fail
  refine (ens_all _ _ S _ HSU.out RA.out HWT.out).mono ?_
  rintro e w0 ⟨xn, rfl, hfn, bb0⟩
  obtain ⟨An, cn, rfl, _, _, _⟩ := hfn.form
  have HBX1 := Lib.hid (HBX.out.below bb0)
  have kxl := HBX1.out.lt
  have kx0 := HBX1.out.cell 0 _ rfl; have kx1 := HBX1.out.cell 1 _ rfl; have kx2 := HBX1.out.cell 2 _ rfl; have kx3 := HBX1.out.cell 3 _ rfl
  have HBR1 := Lib.hid (HBR.out.below bb0)
  have krl := HBR1.out.lt
  have kr0 := HBR1.out.cell 0 _ rfl; have kr1 := HBR1.out.cell 1 _ rfl; have kr2 := HBR1.out.cell 2 _ rfl; have kr3 := HBR1.out.cell 3 _ rfl
  have fr0 := HBR1.out.fr 0; have fr1 := HBR1.out.fr 1; have fr2 := HBR1.out.fr 2; have fr3 := HBR1.out.fr 3
  have HB := Lib.hid (BEL.out.trans (bb0.mono BEL.out.size))
  have RT1 := Lib.hid (RA.out.go bb0 HSU.out)
  have hnl : (((Ex.mk k c s args).names.length : Int) == 0) = true := by rw [HNL.out]; rfl
  clear bb0 hfn RA
  go_wp2_with fail
  refine (eev_all [] _ _ S _ _ (HS.out.trans (Sub.upto HB.out.size)) RT1.out (RdL.nil (by simp [maxLen]))).mono ?_
  rintro e w3 ⟨rfl, hin, hb3⟩
  have BR3 := HBR1.out.below hb3
  have q0 := BR3.cell 0 _ rfl; have q1 := BR3.cell 1 _ rfl; have q2 := BR3.cell 2 _ rfl; have q3 := BR3.cell 3 _ rfl
  have fq0 := BR3.fr 0; have fq1 := BR3.fr 1; have fq2 := BR3.fr 2; have fq3 := BR3.fr 3
  have hq3 := BR3.lt
  have HIN := Lib.hid hin
  have HB3 := Lib.hid (HB.out.trans (hb3.mono HB.out.size))
  clear BR3 hb3 hin
  go_wp2
  refine bodyPost_ret (v := .agg #[.int .i64 1, .int .i64 ((Ex.mk k c s args).worth []), .string noS, .slice none 0 0]) (by simp [results, Try.results21, go_sem, q0, q1, q2, q3]) rfl ⟨_, rfl, ?_, ?_⟩
  · show RdE (set4 w3 (w.heap.size + 1) _ _ _ _) _ _ _
    rw [HX.out]
    exact RdE.leaf _ _ (by decide) HIN.out (by decide)
  · show Below _ _ (set4 w3 (w.heap.size + 1) _ _ _ _)
    exact set4_below (HB3.out) (by omega)
set_option maxHeartbeats 2000000 in
set_option maxRecDepth 100000 in
theorem efo_two (t a b : Ex) (ht : t.two = some (a, b)) (hne : t.names ≠ []) (iha : EFs a) (ihb : EFs b) : EFs t := by
  intro w S V hS r hwt
  have hwt2 := Ex.two_wt ht
  obtain ⟨k, c, s, args, v, rfl, rfl, hk, hc, hs, hargs⟩ := id r
  obtain ⟨hkk, r', hr'⟩ := Ex.two_kind ht
  simp only [Ex.kind, Ex.args] at hkk hr'
  subst hr'
  obtain ⟨A, cap, rfl, hcl, hcm, _⟩ := hargs.form
  obtain ⟨b0, off, k0, c0, s0, v0, rfl, hsb, x0, x1, x2, x3, ra⟩ := RdExs.arg hargs (q := 0) (by simp)
  obtain ⟨b0', off', k1, c1, s1, v1, hA, hsb', y0, y1, y2, y3, rb⟩ := RdExs.arg hargs (q := 1) (by simp)
  injection hA with hA
  injection hA with e1 e2
  subst e1 e2
  simp only [List.getElem_cons_zero, List.getElem_cons_succ] at ra rb
  rw [Nat.zero_mul, Nat.add_zero] at x0 x1 x2 x3
  rw [Nat.one_mul] at y0 y1 y2 y3
  have hl2 : 2 ≤ (a :: b :: r').length := by simp
  have bel : Below w.heap.size w ((w.alloc (.cells #[.int .i64 k, .int .i64 c, .string s, .slice (some ⟨b0, off, none⟩) (a :: b :: r').length cap] 38)).alloc (.cells #[.int .i64 0, .int .i64 0, .string noS, .slice none 0 0] 38)) := ((Below.refl _ _).alloc (Nat.le_refl _) _).alloc (by simp) _
  have RA := Lib.hid (r.go bel hS)
  have BEL := Lib.hid bel
  have HT := Lib.hid ht
  have HW := Lib.hid (fold_two doE (Ex.worth []) worthN_two worthN_one ht hne)
  have HK := Lib.hid hk
  have HBX := Lib.hid ((Blk.made w [.int .i64 k, .int .i64 c, .string s, .slice (some ⟨b0, off, none⟩) (a :: b :: r').length cap] 38 (base := 0) (Nat.zero_le _)).below ((Below.refl _ _).alloc (Nat.le_refl _) (.cells #[.int .i64 0, .int .i64 0, .string noS, .slice none 0 0] 38)))
  have HBR := Lib.hid (Blk.made (w.alloc (.cells #[.int .i64 k, .int .i64 c, .string s, .slice (some ⟨b0, off, none⟩) (a :: b :: r').length cap] 38)) [.int .i64 0, .int .i64 0, .string noS, .slice none 0 0] 38 (base := 0) (Nat.zero_le _))
  rw [World.size_alloc] at HBR
  have HWT := Lib.hid hwt
  have HWa := Lib.hid (show a.wt ≤ 1048576 by omega)
  have HWb := Lib.hid (show b.wt ≤ 1048576 by omega)
  have HNE := Lib.hid hne
  have HSU := Lib.hid (hS.trans (Sub.upto bel.size))
  have HS := Lib.hid hS
  have RVa := Lib.hid ra
  have RVb := Lib.hid rb
  have IHa := Lib.hid iha
  have IHb := Lib.hid ihb
  have hb0 : b0 < w.heap.size := hS _ hsb
  obtain ⟨A1, m1, n1, rfl⟩ := ra.slice
  obtain ⟨A2, m2, n2, rfl⟩ := rb.slice
  unfold maxLen at hcm
  unfold exV
  clear hargs r bel hk hc hs hS ra rb iha ihb ht hne hwt hwt2
  generalize hn : (a :: b :: r').length = n at *
  go_enter Try.func21, Try.ntmps21
  go_wp2_with fail
  refine (ens_all _ _ S _ HSU.out RA.out HWT.out).mono ?_
  rintro e w0 ⟨xn, rfl, hfn, bb0⟩
  obtain ⟨An, cn, rfl, _, _, _⟩ := hfn.form
  have BEL := Lib.hid (BEL.out.trans (bb0.mono BEL.out.size))
  have RA := Lib.hid (RA.out.go bb0 HSU.out)
  have BXZ := HBX.out.below bb0
  have HBX := Lib.hid BXZ
  have HBR := Lib.hid (HBR.out.below bb0)
  have hzl0 := BXZ.lt
  have kz0 := BXZ.cell 0 _ rfl; have kz1 := BXZ.cell 1 _ rfl; have kz2 := BXZ.cell 2 _ rfl; have kz3 := BXZ.cell 3 _ rfl
  have hnm := HNE.out
  have hnl : (((Ex.mk k c s (a :: b :: r')).names.length : Int) == 0) = false := by simpa using hnm
  clear bb0 hfn BXZ hnm
  go_wp2_with fail
  refine (two_yes _ a b HT.out _ S _ RA.out).mono ?_
  rintro e w1 ⟨rfl, bb1⟩
  have BX1 := HBX.out.below bb1
  have BR1 := HBR.out.below bb1
  clear kz0 kz1 kz2 kz3
  have hz1 := BEL.out.size
  have hz2 := bb1.size
  have hzl : w.heap.size + 1 < w1.heap.size := BR1.lt
  have hzx : w.heap.size < w1.heap.size := BX1.lt
  have kx0 := BX1.cell 0 _ rfl
  have kx3 := BX1.cell 3 _ rfl
  have kr0 := BR1.cell 0 _ rfl; have kr1 := BR1.cell 1 _ rfl; have kr2 := BR1.cell 2 _ rfl; have kr3 := BR1.cell 3 _ rfl
  have fr0 := BR1.fr 0; have fr1 := BR1.fr 1; have fr2 := BR1.fr 2; have fr3 := BR1.fr 3
  have BEL1 := Lib.hid (BEL.out.trans (bb1.mono hz1))
  have WRa := Lib.hid (RVa.out.go BEL1.out HS.out)
  have WRb := Lib.hid (RVb.out.go BEL1.out HS.out)
  have f0 := (BEL1.out.cell (p := ⟨b0, off, none⟩) hb0).trans x0
  have f1 := (BEL1.out.cell (p := ⟨b0, off + 1, none⟩) hb0).trans x1
  have f2 := (BEL1.out.cell (p := ⟨b0, off + 2, none⟩) hb0).trans x2
  have f3 := (BEL1.out.cell (p := ⟨b0, off + 3, none⟩) hb0).trans x3
  have f4 := (BEL1.out.cell (p := ⟨b0, off + 4, none⟩) hb0).trans y0
  have f5 := (BEL1.out.cell (p := ⟨b0, off + 4 + 1, none⟩) hb0).trans y1
  have f6 := (BEL1.out.cell (p := ⟨b0, off + 4 + 2, none⟩) hb0).trans y2
  have f7 := (BEL1.out.cell (p := ⟨b0, off + 4 + 3, none⟩) hb0).trans y3
  have hbl : b0 < w1.heap.size := by omega
  have HSW := Lib.hid (HS.out.trans (Sub.upto (show w.heap.size ≤ w1.heap.size by omega)))
  have HNR := Lib.hid (show ¬ S (w.heap.size + 1) from fun h => by have := HS.out _ h; unfold Upto at this; omega)
  clear bb1 BEL RA HBX BX1 HBR BR1 RVa RVb x0 x1 x2 x3 y0 y1 y2 y3
  have hneb : b0 ≠ w.heap.size + 1 := by omega
  have hnex : w.heap.size ≠ w.heap.size + 1 := by omega
  have hn0 : (0 : Int) < (n : Int) := by omega
  have hn00 : 0 < n := by omega
  have hn1 : (1 : Int) < (n : Int) := by omega
  have hn2 : 1 < n := by omega
  have HWP := Lib.hid (fun w' h => Stay.size h : ∀ w', Stay w1 w' → w1.heap.size ≤ w'.heap.size)
  go_upto_region 4 with (fail)
  go_region_held3 (fun w' => StayX (w.heap.size + 1) w1 w') (first | assumption | exact StayX.of_stay (Stay.mk (Kept.start _)) | ((repeat (with_reducible first | refine StayX.set ?_ _ | refine StayX.drew ?_ | refine StayX.alloc ?_ _)); assumption))
    (first
      | ((go_at_call_of 21 (Value.agg #[.int .i64 k0, .int .i64 c0, .string s0, .slice A1 m1 n1]); refine (IHa.out _ S _ (HSW.out.trans (Sub.upto (HWP.out _ (by first | assumption | exact Stay.mk (Kept.start _))))) (WRa.out.keep (Sub.refl _) (Same.sub (Stay.same (by first | assumption | exact Stay.mk (Kept.start _))) HSW.out)) HWa.out).mono ?_; rintro e wa1 ⟨U1, rfl, hu1, hb1⟩; have hp1 : FrP w1.heap.size S wa1 (fold doE a) U1 := FrP.of hu1 (HWP.out _ (by first | assumption | exact Stay.mk (Kept.start _))) (HSW.out.trans (Sub.upto (Nat.le_trans (HWP.out _ (by first | assumption | exact Stay.mk (Kept.start _))) hb1.size))); obtain ⟨A3, n3, rfl⟩ := hp1.form; have hst1 : Stay w1 wa1 := Stay.step hb1 (by first | assumption | exact Stay.mk (Kept.start _)); have hr1 : StayX (w.heap.size + 1) w1 wa1 := StayX.of_stay hst1; have HLS := Lib.hid hst1; have hRl : w.heap.size + 1 < wa1.heap.size := Nat.lt_of_lt_of_le hzl (HWP.out _ hst1); have hc0 := (hst1.1 ⟨w.heap.size + 1, 0, none⟩ hzl).trans kr0; have hc1 := (hst1.1 ⟨w.heap.size + 1, 1, none⟩ hzl).trans kr1; have hc2 := (hst1.1 ⟨w.heap.size + 1, 2, none⟩ hzl).trans kr2; have hc3 := (hst1.1 ⟨w.heap.size + 1, 3, none⟩ hzl).trans kr3; have hf0 := (hst1.2.1 ⟨w.heap.size + 1, 0, none⟩ hzl).trans fr0; have hf1 := (hst1.2.1 ⟨w.heap.size + 1, 1, none⟩ hzl).trans fr1; have hf2 := (hst1.2.1 ⟨w.heap.size + 1, 2, none⟩ hzl).trans fr2; have hf3 := (hst1.2.1 ⟨w.heap.size + 1, 3, none⟩ hzl).trans fr3))
      | ((go_at_call_of 21 (Value.agg #[.int .i64 k1, .int .i64 c1, .string s1, .slice A2 m2 n2]); refine (IHb.out _ S _ (HSW.out.trans (Sub.upto (HWP.out _ (by first | assumption | exact Stay.mk (Kept.start _))))) (WRb.out.keep (Sub.refl _) (Same.sub (Stay.same (by first | assumption | exact Stay.mk (Kept.start _))) HSW.out)) HWb.out).mono ?_; rintro e wb1 ⟨U2, rfl, hu2, hb2⟩; have hp2 : FrP w1.heap.size S wb1 (fold doE b) U2 := FrP.of hu2 (HWP.out _ (by first | assumption | exact Stay.mk (Kept.start _))) (HSW.out.trans (Sub.upto (Nat.le_trans (HWP.out _ (by first | assumption | exact Stay.mk (Kept.start _))) hb2.size))); obtain ⟨A4, n4, rfl⟩ := hp2.form; have hst2 : Stay w1 wb1 := Stay.step hb2 (by first | assumption | exact Stay.mk (Kept.start _)); have hr2 : StayX (w.heap.size + 1) w1 wb1 := StayX.of_stay hst2; have HLS := Lib.hid hst2; have hRl : w.heap.size + 1 < wb1.heap.size := Nat.lt_of_lt_of_le hzl (HWP.out _ hst2); have hc0 := (hst2.1 ⟨w.heap.size + 1, 0, none⟩ hzl).trans kr0; have hc1 := (hst2.1 ⟨w.heap.size + 1, 1, none⟩ hzl).trans kr1; have hc2 := (hst2.1 ⟨w.heap.size + 1, 2, none⟩ hzl).trans kr2; have hc3 := (hst2.1 ⟨w.heap.size + 1, 3, none⟩ hzl).trans kr3; have hf0 := (hst2.2.1 ⟨w.heap.size + 1, 0, none⟩ hzl).trans fr0; have hf1 := (hst2.2.1 ⟨w.heap.size + 1, 1, none⟩ hzl).trans fr1; have hf2 := (hst2.2.1 ⟨w.heap.size + 1, 2, none⟩ hzl).trans fr2; have hf3 := (hst2.2.1 ⟨w.heap.size + 1, 3, none⟩ hzl).trans fr3)))
  all_goals (
    rename_i hheld
    clear hheld
    try clear hst1
    try clear hst2
    try clear hr1
    try clear hr2
    go_wp2
    first
      | (obtain ⟨W9, hW9, d0, d1, d2, d3, hp9, hb9⟩ := fin_two HK.out HLS.out hzl HNR.out hc0 hc1 hc2 hc3 (wl := wb1) (FrP.via hb2 hp1) hp2
         show bodyPost _ _ _ _ _ ((set4 wb1 (w.heap.size + 1) _ _ _ _).alloc _)
         rw [← hW9]
         refine bodyPost_ret (v := .agg #[.int .i64 k, .int .i64 0, .string noS, .slice (some ⟨wb1.heap.size, 0, none⟩) 2 2]) (by simp [results, Try.results21, go_sem, d0, d1, d2, d3]) rfl ⟨_, rfl, ?_, ?_⟩
         · rw [HW.out]
           exact hp9.rd (by omega)
         · exact hb9 _ _ (by omega) (BEL1.out.trans (HLS.out.below.mono BEL1.out.size)))
      | (obtain ⟨W9, hW9, d0, d1, d2, d3, hp9, hb9⟩ := fin_two HK.out HLS.out hzl HNR.out hc0 hc1 hc2 hc3 (wl := wa1) hp1 (FrP.via hb1 hp2)
         show bodyPost _ _ _ _ _ ((set4 wa1 (w.heap.size + 1) _ _ _ _).alloc _)
         rw [← hW9]
         refine bodyPost_ret (v := .agg #[.int .i64 k, .int .i64 0, .string noS, .slice (some ⟨wa1.heap.size, 0, none⟩) 2 2]) (by simp [results, Try.results21, go_sem, d0, d1, d2, d3]) rfl ⟨_, rfl, ?_, ?_⟩
         · rw [HW.out]
           exact hp9.rd (by omega)
         · exact hb9 _ _ (by omega) (BEL1.out.trans (HLS.out.below.mono BEL1.out.size))))
set_option maxHeartbeats 1000000 in
set_option maxRecDepth 100000 in
theorem efo_one (t : Ex) (ht : t.two = none) (hn : t.names ≠ []) : EFs t := by
  intro w S V hS r hwt
  obtain ⟨k, c, s, args, v, rfl, rfl, hk, hc, hs, hargs⟩ := id r
  obtain ⟨A, cap, rfl, _, hcm, _⟩ := hargs.form
  have bel : Below w.heap.size w ((w.alloc (.cells #[.int .i64 k, .int .i64 c, .string s, .slice A args.length cap] 38)).alloc (.cells #[.int .i64 0, .int .i64 0, .string noS, .slice none 0 0] 38)) := ((Below.refl _ _).alloc (Nat.le_refl _) _).alloc (by simp) _
  have RA := Lib.hid (r.go bel hS)
  have BEL := Lib.hid bel
  have HS := Lib.hid hS
  have HNK := Lib.hid (And.intro hk (And.intro hc hs))
  have HSU := Lib.hid (hS.trans (Sub.upto bel.size))
  have HBX := Lib.hid ((Blk.made w [.int .i64 k, .int .i64 c, .string s, .slice A args.length cap] 38 (base := 0) (Nat.zero_le _)).below ((Below.refl _ _).alloc (Nat.le_refl _) (.cells #[.int .i64 0, .int .i64 0, .string noS, .slice none 0 0] 38)))
  have HBR := Lib.hid (Blk.made (w.alloc (.cells #[.int .i64 k, .int .i64 c, .string s, .slice A args.length cap] 38)) [.int .i64 0, .int .i64 0, .string noS, .slice none 0 0] 38 (base := 0) (Nat.zero_le _))
  simp only [World.size_alloc] at HBR
  have HWT := Lib.hid hwt
  have HT := Lib.hid ht
  have HX := Lib.hid (show fold doE (.mk k c s args) = clean (.mk k c s args) from fold_none doE ht)
  have HNE := Lib.hid hn
  clear hn hwt ht
  unfold maxLen at hcm
  unfold exV
  clear hargs r bel hk hc hs hS
  go_enter Try.func21, Try.ntmps21
  go_wp2_with fail
  refine (ens_all _ _ S _ HSU.out RA.out HWT.out).mono ?_
  rintro e w0 ⟨xn, rfl, hfn, bb0⟩
  obtain ⟨An, cn, rfl, _, _, _⟩ := hfn.form
  have HBX1 := Lib.hid (HBX.out.below bb0)
  have kxl := HBX1.out.lt
  have kx0 := HBX1.out.cell 0 _ rfl; have kx1 := HBX1.out.cell 1 _ rfl; have kx2 := HBX1.out.cell 2 _ rfl; have kx3 := HBX1.out.cell 3 _ rfl
  have HBR1 := Lib.hid (HBR.out.below bb0)
  have krl := HBR1.out.lt
  have kr0 := HBR1.out.cell 0 _ rfl; have kr1 := HBR1.out.cell 1 _ rfl; have kr2 := HBR1.out.cell 2 _ rfl; have kr3 := HBR1.out.cell 3 _ rfl
  have fr0 := HBR1.out.fr 0; have fr1 := HBR1.out.fr 1; have fr2 := HBR1.out.fr 2; have fr3 := HBR1.out.fr 3
  have HB := Lib.hid (BEL.out.trans (bb0.mono BEL.out.size))
  have RT1 := Lib.hid (RA.out.go bb0 HSU.out)
  have hnm := HNE.out
  have hnl : (((Ex.mk k c s args).names.length : Int) == 0) = false := by simpa using hnm
  clear bb0 hfn RA hnm
  go_wp2_with fail
  refine (two_no _ HT.out _ S _ RT1.out).mono ?_
  rintro e w1 ⟨rfl, bb1⟩
  have RT1 := Lib.hid (RT1.out.go bb1 (HS.out.trans (Sub.upto HB.out.size)))
  have HB := Lib.hid (HB.out.trans (bb1.mono HB.out.size))
  have HBX2 := Lib.hid (HBX1.out.below bb1)
  have kxl := HBX2.out.lt
  have kx0 := HBX2.out.cell 0 _ rfl; have kx1 := HBX2.out.cell 1 _ rfl; have kx2 := HBX2.out.cell 2 _ rfl; have kx3 := HBX2.out.cell 3 _ rfl
  have HBR2 := Lib.hid (HBR1.out.below bb1)
  have krl := HBR2.out.lt
  have kr0 := HBR2.out.cell 0 _ rfl; have kr1 := HBR2.out.cell 1 _ rfl; have kr2 := HBR2.out.cell 2 _ rfl; have kr3 := HBR2.out.cell 3 _ rfl
  have fr0 := HBR2.out.fr 0; have fr1 := HBR2.out.fr 1; have fr2 := HBR2.out.fr 2; have fr3 := HBR2.out.fr 3
  have HBR1 := HBR2
  clear bb1
  go_wp2_with fail
  refine (ecl_all (.mk k c s args) _ S _ (HS.out.trans (Sub.upto HB.out.size)) RT1.out).mono ?_
  rintro e w3 ⟨U, rfl, hU, hb3⟩
  obtain ⟨A3, n3, rfl⟩ := hU.form
  have BR3 := HBR1.out.below hb3
  have q0 := BR3.cell 0 _ rfl; have q1 := BR3.cell 1 _ rfl; have q2 := BR3.cell 2 _ rfl; have q3 := BR3.cell 3 _ rfl
  have fq0 := BR3.fr 0; have fq1 := BR3.fr 1; have fq2 := BR3.fr 2; have fq3 := BR3.fr 3
  have hq3 := BR3.lt
  have HU := Lib.hid hU
  have HB3 := Lib.hid (HB.out.trans (hb3.mono HB.out.size))
  clear BR3 hb3 hU
  go_wp2
  refine bodyPost_ret (v := .agg #[.int .i64 (clean (.mk k c s args)).kind, .int .i64 (clean (.mk k c s args)).num, .string (clean (.mk k c s args)).name, .slice A3 (clean (.mk k c s args)).args.length n3]) (by simp [results, Try.results21, go_sem, q0, q1, q2, q3]) rfl ⟨_, rfl, ?_, ?_⟩
  · show RdE (set4 w3 (w.heap.size + 1) _ _ _ _) _ _ _
    rw [HX.out]
    refine HU.out.keep (Sub.plus_mono (by have := HB.out.size; omega) (Nat.le_of_eq (set4_size _ _ _ _ _ _).symm)) (set4_same ?_)
    intro hp
    rcases hp with hp | hp
    · have := HS.out _ hp; unfold Upto at this; omega
    · have := hp.1; omega
  · show Below _ _ (set4 w3 (w.heap.size + 1) _ _ _ _)
    exact set4_below (HB3.out) (by omega)
theorem efo_all (t : Ex) : EFs t := by
  refine Ex.ind (motive := fun t => EFs t) ?_ ?_ t
  · intro t ht
    by_cases hn : t.names = []
    · exact efo_nil t hn
    · exact efo_one t ht hn
  · intro t a b ht iha ihb
    by_cases hn : t.names = []
    · exact efo_nil t hn
    · exact efo_two t a b ht hn iha ihb
end Go.Proofs.Ythbbecmffndgdaa
