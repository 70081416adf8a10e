/- The walk of the reference's EWidth. -/
import Derived.Test.YtmpononkbdfkmaaSpn1
import Derived.Test.YtmpononkbdfkmaaSp7
namespace Go.Proofs.Ytmpononkbdfkmaa
open Go.RowKit
set_option linter.unusedVariables false
def EWs (t : Tm) : Prop := ∀ (w : World) (S : Blocks) (V : Value), Sub S (Upto w.heap.size) → RdT w S t V → t.count ≤ 1048576 →
  Calls Try.prog 59 #[V] w fun e w' => e = .returned (.int .i64 (t.sumT false : Int)) ∧ Below w.heap.size w w'
set_option maxHeartbeats 1000000 in
set_option maxRecDepth 100000 in
theorem ews_one (t : Tm) (ht : t.two = none) : EWs t := by
  intro w S V hS r hl
  obtain ⟨k, c, wr, lb, kids, v, rfl, rfl, hk, hc, hlb, hkids⟩ := id r
  obtain ⟨A, cap, rfl, _, _, _⟩ := hkids.form
  have bel : Below w.heap.size w (w.alloc (.cells #[.int .i64 k, .int .i64 c, .bool wr, .int .i64 lb, .slice A kids.length cap] 64)) := (Below.refl _ _).alloc (Nat.le_refl _) _
  have RA := Lib.hid (r.go bel hS)
  have BEL := Lib.hid bel
  have HT := Lib.hid ht
  have HB := Lib.hid (show (Tm.mk k c wr lb kids).sumT false = (Tm.mk k c wr lb kids).leaves.length by rw [Tm.sumT_none ht]; exact (Tm.count_none ht).symm)
  have HBX := Lib.hid (Blk.made w [.int .i64 k, .int .i64 c, .bool wr, .int .i64 lb, .slice A kids.length cap] 64 (base := 0) (Nat.zero_le _))
  have HS := Lib.hid hS
  unfold tmV
  clear hkids ht r bel
  go_enter Try.func59, Try.ntmps59
  go_wp2_with fail
  refine (both_none _ HT.out _ S _ RA.out).mono ?_
  rintro e w1 ⟨rfl, b1⟩
  have HB1 := Lib.hid b1
  have BX1 := HBX.out.below b1
  have hbb : Below w1.heap.size w1 ((w1.alloc (.cells #[.int .i64 0, .int .i64 0, .bool false, .int .i64 0, .slice none 0 0] 64)).alloc (.cells #[.int .i64 0, .int .i64 0, .bool false, .int .i64 0, .slice none 0 0] 64)) := ((Below.refl _ _).alloc (Nat.le_refl _) _).alloc (by simp) _
  have BX2 := BX1.below hbb
  have x0 := BX2.cell 0 _ rfl
  have x1 := BX2.cell 1 _ rfl
  have x2 := BX2.cell 2 _ rfl
  have x3 := BX2.cell 3 _ rfl
  have x4 := BX2.cell 4 _ rfl
  have hz1 := BEL.out.size
  have hz2 := b1.size
  rw [World.size_alloc] at hz1 hz2
  have hz3 := hbb.size
  have RA2 := Lib.hid (((RA.out.go b1 (HS.out.trans (Sub.upto (by rw [World.size_alloc]; omega))))).go hbb (HS.out.trans (Sub.upto (by omega))))
  have FIN := Lib.hid ((BEL.out.trans (b1.mono (by simp))).trans (hbb.mono (by omega)))
  unfold tm0
  clear b1 BX1 BX2 hbb HB1 BEL RA HBX
  go_upto_region 4 with (fail)
  generalize (w1.alloc (.cells #[.int .i64 0, .int .i64 0, .bool false, .int .i64 0, .slice none 0 0] 64)).alloc (.cells #[.int .i64 0, .int .i64 0, .bool false, .int .i64 0, .slice none 0 0] 64) = W at *
  go_wp2_with fail
  refine (dls_all _ W S _ (HS.out.trans (Sub.upto (by omega))) RA2.out hl).mono ?_
  rintro e w2 ⟨x, rfl, hx, hb⟩
  obtain ⟨A2, n2, rfl⟩ := hx.form
  clear hx
  go_wp2
  go_ret
  exact ⟨by rw [HB.out]; rfl, FIN.out.trans (hb.mono (by omega))⟩
set_option maxHeartbeats 1600000 in
set_option maxRecDepth 100000 in
theorem ews_two (t : Tm) (p : Bool) (a b : Tm) (ht : t.two = some (p, a, b)) (iha : EWs a) (ihb : EWs b) : EWs t := by
  intro w S V hS r hl
  obtain ⟨k, c, wr, lb, kids, v, rfl, rfl, hk, hc, hlb, hkids⟩ := id r
  obtain ⟨A, cap, rfl, _, _, _⟩ := hkids.form
  have bel : Below w.heap.size w (w.alloc (.cells #[.int .i64 k, .int .i64 c, .bool wr, .int .i64 lb, .slice A kids.length cap] 64)) := (Below.refl _ _).alloc (Nat.le_refl _) _
  have RA := Lib.hid (r.go bel hS)
  have BEL := Lib.hid bel
  have hcnt := Tm.count_two ht
  have HT := Lib.hid ht
  have HSM := Lib.hid (Tm.sumT_two (q := false) ht)
  obtain ⟨hkk, _⟩ := Tm.two_kind ht
  simp only [Tm.kind] at hkk
  have HKK := Lib.hid hkk
  have IHa := Lib.hid iha
  have IHb := Lib.hid ihb
  have HS := Lib.hid hS
  have HBX := Lib.hid (Blk.made w [.int .i64 k, .int .i64 c, .bool wr, .int .i64 lb, .slice A kids.length cap] 64 (base := 0) (Nat.zero_le _))
  rw [hcnt] at hl
  unfold tmV
  clear hkids ht r bel hcnt iha ihb hkk
  go_enter Try.func59, Try.ntmps59
  go_wp2_with fail
  refine (both_two _ p a b HT.out _ S _ (HS.out.trans (Sub.upto (by simp))) RA.out).mono ?_
  rintro e w1 ⟨⟨Va, Vb, rfl, ra, rb⟩, b1⟩
  obtain ⟨ka, ca, wa, la, kidsa, va, ea, rfl, _, _, _, hka⟩ := id ra
  obtain ⟨Aa, na, rfl, _⟩ := hka.form
  obtain ⟨kb, cb, wb, lb', kidsb, vb, eb, rfl, _, _, _, hkb⟩ := id rb
  obtain ⟨Ab, nb, rfl, _⟩ := hkb.form
  have RVa := Lib.hid ra
  have RVb := Lib.hid rb
  have B1 := Lib.hid b1
  have HBX1 := Lib.hid (HBX.out.below b1)
  unfold tmV
  clear ra rb b1 hka hkb ea eb
  go_upto_region 2 with (fail)
  have hbw : Below w1.heap.size w1 ((w1.alloc (.cells #[.int .i64 ka, .int .i64 ca, .bool wa, .int .i64 la, .slice Aa kidsa.length na] 64)).alloc (.cells #[.int .i64 kb, .int .i64 cb, .bool wb, .int .i64 lb', .slice Ab kidsb.length nb] 64)) := ((Below.refl _ _).alloc (Nat.le_refl _) _).alloc (by simp) _
  have hca : ((w1.alloc (.cells #[.int .i64 ka, .int .i64 ca, .bool wa, .int .i64 la, .slice Aa kidsa.length na] 64)).alloc (.cells #[.int .i64 kb, .int .i64 cb, .bool wb, .int .i64 lb', .slice Ab kidsb.length nb] 64)).cell? ⟨w1.heap.size, 0, none⟩ = some (.int .i64 ka) ∧ ((w1.alloc (.cells #[.int .i64 ka, .int .i64 ca, .bool wa, .int .i64 la, .slice Aa kidsa.length na] 64)).alloc (.cells #[.int .i64 kb, .int .i64 cb, .bool wb, .int .i64 lb', .slice Ab kidsb.length nb] 64)).cell? ⟨w1.heap.size, 1, none⟩ = some (.int .i64 ca) ∧ ((w1.alloc (.cells #[.int .i64 ka, .int .i64 ca, .bool wa, .int .i64 la, .slice Aa kidsa.length na] 64)).alloc (.cells #[.int .i64 kb, .int .i64 cb, .bool wb, .int .i64 lb', .slice Ab kidsb.length nb] 64)).cell? ⟨w1.heap.size, 2, none⟩ = some (.bool wa) ∧ ((w1.alloc (.cells #[.int .i64 ka, .int .i64 ca, .bool wa, .int .i64 la, .slice Aa kidsa.length na] 64)).alloc (.cells #[.int .i64 kb, .int .i64 cb, .bool wb, .int .i64 lb', .slice Ab kidsb.length nb] 64)).cell? ⟨w1.heap.size, 3, none⟩ = some (.int .i64 la) ∧ ((w1.alloc (.cells #[.int .i64 ka, .int .i64 ca, .bool wa, .int .i64 la, .slice Aa kidsa.length na] 64)).alloc (.cells #[.int .i64 kb, .int .i64 cb, .bool wb, .int .i64 lb', .slice Ab kidsb.length nb] 64)).cell? ⟨w1.heap.size, 4, none⟩ = some (.slice Aa kidsa.length na) := by simp
  have hcb : ((w1.alloc (.cells #[.int .i64 ka, .int .i64 ca, .bool wa, .int .i64 la, .slice Aa kidsa.length na] 64)).alloc (.cells #[.int .i64 kb, .int .i64 cb, .bool wb, .int .i64 lb', .slice Ab kidsb.length nb] 64)).cell? ⟨w1.heap.size + 1, 0, none⟩ = some (.int .i64 kb) ∧ ((w1.alloc (.cells #[.int .i64 ka, .int .i64 ca, .bool wa, .int .i64 la, .slice Aa kidsa.length na] 64)).alloc (.cells #[.int .i64 kb, .int .i64 cb, .bool wb, .int .i64 lb', .slice Ab kidsb.length nb] 64)).cell? ⟨w1.heap.size + 1, 1, none⟩ = some (.int .i64 cb) ∧ ((w1.alloc (.cells #[.int .i64 ka, .int .i64 ca, .bool wa, .int .i64 la, .slice Aa kidsa.length na] 64)).alloc (.cells #[.int .i64 kb, .int .i64 cb, .bool wb, .int .i64 lb', .slice Ab kidsb.length nb] 64)).cell? ⟨w1.heap.size + 1, 2, none⟩ = some (.bool wb) ∧ ((w1.alloc (.cells #[.int .i64 ka, .int .i64 ca, .bool wa, .int .i64 la, .slice Aa kidsa.length na] 64)).alloc (.cells #[.int .i64 kb, .int .i64 cb, .bool wb, .int .i64 lb', .slice Ab kidsb.length nb] 64)).cell? ⟨w1.heap.size + 1, 3, none⟩ = some (.int .i64 lb') ∧ ((w1.alloc (.cells #[.int .i64 ka, .int .i64 ca, .bool wa, .int .i64 la, .slice Aa kidsa.length na] 64)).alloc (.cells #[.int .i64 kb, .int .i64 cb, .bool wb, .int .i64 lb', .slice Ab kidsb.length nb] 64)).cell? ⟨w1.heap.size + 1, 4, none⟩ = some (.slice Ab kidsb.length nb) := by simp
  have hsz : (((w1.alloc (.cells #[.int .i64 ka, .int .i64 ca, .bool wa, .int .i64 la, .slice Aa kidsa.length na] 64)).alloc (.cells #[.int .i64 kb, .int .i64 cb, .bool wb, .int .i64 lb', .slice Ab kidsb.length nb] 64))).heap.size = w1.heap.size + 2 := by simp
  generalize ((w1.alloc (.cells #[.int .i64 ka, .int .i64 ca, .bool wa, .int .i64 la, .slice Aa kidsa.length na] 64)).alloc (.cells #[.int .i64 kb, .int .i64 cb, .bool wb, .int .i64 lb', .slice Ab kidsb.length nb] 64)) = W at *
  have hzw := BEL.out.size
  have hzb := B1.out.size
  rw [World.size_alloc] at hzw hzb
  have hz1' := Nat.le_of_eq hsz
  have hz2' := Nat.le_of_eq hsz.symm
  have hSW : Sub S (Upto w1.heap.size) := HS.out.trans (Sub.upto (by omega))
  have WRa := Lib.hid (RVa.out.go hbw hSW)
  have WRb := Lib.hid (RVb.out.go hbw hSW)
  have HSW := Lib.hid (hSW.trans (Sub.upto (show w1.heap.size ≤ W.heap.size by omega)))
  have HBW := Lib.hid hbw
  have HBX2 := Lib.hid (HBX1.out.below hbw)
  have CAc := Lib.hid hca
  have CBc := Lib.hid hcb
  obtain ⟨a0, a1, a2, a3, a4⟩ := hca
  obtain ⟨b0, b1, b2, b3, b4⟩ := hcb
  have hlt1 : w1.heap.size < W.heap.size := by omega
  have hlt2 : w1.heap.size + 1 < W.heap.size := by omega
  have CA := Lib.hid (show a.count ≤ 1048576 by omega)
  have CB := Lib.hid (show b.count ≤ 1048576 by omega)
  have HWP := Lib.hid (fun w' h => Stay.size h : ∀ w', Stay W w' → W.heap.size ≤ w'.heap.size)
  clear hsz hbw hSW
  have HQA := Lib.hid (Nat.le_trans (Tm.sumT_le false a) CA.out)
  have HQB := Lib.hid (Nat.le_trans (Tm.sumT_le false b) CB.out)
  have HWR := Lib.hid (show IntKind.i64.wrap ((a.sumT false : Int) + (b.sumT false : Int)) = (a.sumT false : Int) + (b.sumT false : Int) from IntWalk.i64_in _ (by have := HQA.out; have := HQB.out; omega))
  have kx := HBX2.out.cell 0 _ rfl
  cases p
  · have hkk : k = 2 := HKK.out
    clear HKK
    subst hkk
    go_upto_region 5 with (fail)
    go_region_held3 (fun w' => Stay W w') (first | assumption | exact Stay.mk (Kept.start _) | ((refine Stay.mk ?_; (repeat (with_reducible first | refine Kept.set ?_ (by omega) _ | refine Kept.drew ?_ | refine Kept.alloc ?_ _)); first | exact Kept.refl _ | assumption)))
      (first
        | ((go_at_call_of 59 (Value.agg #[.int .i64 ka, .int .i64 ca, .bool wa, .int .i64 la, .slice Aa kidsa.length na]); refine (IHa.out _ S _ (HSW.out.trans (Sub.upto (HWP.out _ (by assumption)))) (WRa.out.keep (Sub.refl _) (Same.sub (Stay.same (by assumption)) HSW.out)) CA.out).mono ?_; rintro e wa1 ⟨rfl, hb1⟩; have hst1 : Stay W wa1 := Stay.step hb1 (by assumption); have hk1 : Kept W wa1 := Kept.here hst1))
        | ((go_at_call_of 59 (Value.agg #[.int .i64 kb, .int .i64 cb, .bool wb, .int .i64 lb', .slice Ab kidsb.length nb]); refine (IHb.out _ S _ (HSW.out.trans (Sub.upto (HWP.out _ (by assumption)))) (WRb.out.keep (Sub.refl _) (Same.sub (Stay.same (by assumption)) HSW.out)) CB.out).mono ?_; rintro e wb1 ⟨rfl, hb2⟩; have hst2 : Stay W wb1 := Stay.step hb2 (by assumption); have hk2 : Kept W wb1 := Kept.here hst2)))
    all_goals go_wp2
    all_goals go_ret
    all_goals
      refine ⟨?_, ((BEL.out.trans (B1.out.mono (by simp))).trans (HBW.out.mono (by omega))).trans (hst2.below.mono (by omega))⟩
      rw [HSM.out]
      have hf : fold2 (false != false) (a.sumT false) (b.sumT false) = max (a.sumT false) (b.sumT false) := rfl
      rw [hf]
      rcases Nat.lt_or_ge (a.sumT false) (b.sumT false) with hx | hx
      · rw [Nat.max_eq_right (by omega)]
        first | rfl | (congr 2; omega)
      · rw [Nat.max_eq_left hx]
        first | rfl | (congr 2; omega)
  · have hkk : k = 3 := HKK.out
    clear HKK
    subst hkk
    go_upto_region 3 with (fail)
    have hwr := HWR.out
    go_region_held3 (fun w' => Stay W w') (first | assumption | exact Stay.mk (Kept.start _) | ((refine Stay.mk ?_; (repeat (with_reducible first | refine Kept.set ?_ (by omega) _ | refine Kept.drew ?_ | refine Kept.alloc ?_ _)); first | exact Kept.refl _ | assumption)))
      (first
        | ((go_at_call_of 59 (Value.agg #[.int .i64 ka, .int .i64 ca, .bool wa, .int .i64 la, .slice Aa kidsa.length na]); refine (IHa.out _ S _ (HSW.out.trans (Sub.upto (HWP.out _ (by assumption)))) (WRa.out.keep (Sub.refl _) (Same.sub (Stay.same (by assumption)) HSW.out)) CA.out).mono ?_; rintro e wa1 ⟨rfl, hb1⟩; have hst1 : Stay W wa1 := Stay.step hb1 (by assumption); have hk1 : Kept W wa1 := Kept.here hst1))
        | ((go_at_call_of 59 (Value.agg #[.int .i64 kb, .int .i64 cb, .bool wb, .int .i64 lb', .slice Ab kidsb.length nb]); refine (IHb.out _ S _ (HSW.out.trans (Sub.upto (HWP.out _ (by assumption)))) (WRb.out.keep (Sub.refl _) (Same.sub (Stay.same (by assumption)) HSW.out)) CB.out).mono ?_; rintro e wb1 ⟨rfl, hb2⟩; have hst2 : Stay W wb1 := Stay.step hb2 (by assumption); have hk2 : Kept W wb1 := Kept.here hst2)))
    go_wp2
    go_ret
    refine ⟨?_, ((BEL.out.trans (B1.out.mono (by simp))).trans (HBW.out.mono (by omega))).trans (hst2.below.mono (by omega))⟩
    rw [HSM.out]
    simp [fold2]
theorem ews_all (t : Tm) : EWs t := Tm.ind ews_one ews_two t
end Go.Proofs.Ytmpononkbdfkmaa
