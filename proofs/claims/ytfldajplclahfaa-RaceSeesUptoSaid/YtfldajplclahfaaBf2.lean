/- The walk of the reference's DBefore. -/
import Derived.Test.YtfldajplclahfaaGSp5
import Derived.Test.YtfldajplclahfaaGSp7
namespace Go.Proofs.Ytfldajplclahfaa
open Go.RowKit
set_option linter.unusedVariables false
def DBs (t : Tm) : Prop := ∀ (i j : Int) (w : World) (S : Blocks) (V : Value), Sub S (Upto w.heap.size) → RdT w S t V → t.count ≤ 1048576 →
  Calls Try.prog 22 #[V, .int .i64 i, .int .i64 j] w fun e w' => e = .returned (.bool (befB t i j)) ∧ Below w.heap.size w w'
set_option maxHeartbeats 1000000 in
set_option maxRecDepth 100000 in
theorem dbs_one (t : Tm) (ht : t.two = none) : DBs t := by
  intro i j w S V hS r hl
  obtain ⟨k, c, wr, lb, kids, v, rfl, rfl, hk, hc, hlb, hkids⟩ := id r
  obtain ⟨A, cap, rfl, _, _, _⟩ := hkids.form
  have bel : Below w.heap.size w (w.alloc (.cells #[.int .i64 k, .int .i64 c, .bool wr, .int .i64 lb, .slice A kids.length cap] 26)) := (Below.refl _ _).alloc (Nat.le_refl _) _
  have RA := Lib.hid (r.go bel hS)
  have BEL := Lib.hid bel
  have HT := Lib.hid ht
  have HB := Lib.hid (show befB (.mk k c wr lb kids) i j = false by unfold befB; rw [Tm.ahead_none ht]; simp)
  unfold tmV
  clear hkids ht r bel
  go_enter Try.func22, Try.ntmps22
  go_wp2_with fail
  refine (both_none _ HT.out _ S _ RA.out).mono ?_
  rintro e w1 ⟨rfl, b1⟩
  have HB1 := Lib.hid b1
  unfold tm0
  clear b1
  go_wp2
  go_ret
  have hz1 := BEL.out.size
  have hz2 := HB1.out.size
  refine ⟨by rw [HB.out]; rfl, ?_⟩
  exact ((BEL.out.trans (HB1.out.mono (by omega))).alloc (by omega) _).alloc (by simp; omega) _
theorem befB_two {t a b : Tm} {p : Bool} (h : t.two = some (p, a, b)) (i j : Int) (h0 : 0 ≤ i) (h1 : 0 ≤ j) (h2 : i < (a.count : Int) + (b.count : Int)) (h3 : j < (a.count : Int) + (b.count : Int)) :
    befB t i j = if i < a.count ∧ j < a.count then befB a i j else if (a.count : Int) ≤ i ∧ (a.count : Int) ≤ j then befB b (i - a.count) (j - a.count) else !p && decide (i < j) := by
  obtain ⟨i, rfl⟩ := Int.eq_ofNat_of_zero_le h0
  obtain ⟨j, rfl⟩ := Int.eq_ofNat_of_zero_le h1
  have hc := Tm.count_two h
  unfold befB
  rw [decide_eq_true (by omega), Bool.true_and, Int.toNat_natCast, Int.toNat_natCast, Tm.ahead_two h]
  have d1 : ((i : Int) < (a.count : Int) ∧ (j : Int) < (a.count : Int)) ↔ (i < a.count ∧ j < a.count) := by omega
  have d2 : ((a.count : Int) ≤ (i : Int) ∧ (a.count : Int) ≤ (j : Int)) ↔ (a.count ≤ i ∧ a.count ≤ j) := by omega
  have d3 : decide ((i : Int) < (j : Int)) = decide (i < j) := by simp
  simp only [d1, d2, d3]
  by_cases c1 : i < a.count ∧ j < a.count
  · simp only [if_pos c1]
    rw [decide_eq_true (by omega), Bool.true_and]
    try simp
  · simp only [if_neg c1]
    by_cases c2 : a.count ≤ i ∧ a.count ≤ j
    · simp only [if_pos c2]
      rw [decide_eq_true (by omega), Bool.true_and, show ((i : Int) - (a.count : Int)).toNat = i - a.count by omega, show ((j : Int) - (a.count : Int)).toNat = j - a.count by omega]
    · simp only [if_neg c2]
set_option maxHeartbeats 1600000 in
set_option maxRecDepth 100000 in
theorem dbs_two (t : Tm) (p : Bool) (a b : Tm) (ht : t.two = some (p, a, b)) (iha : DBs a) (ihb : DBs b) : DBs t := by
  intro i j w S V hS r hl
  obtain ⟨k, c, wr, lb, kids, v, rfl, rfl, hk, hc, hlb, hkids⟩ := id r
  obtain ⟨A, cap, rfl, _, _, _⟩ := hkids.form
  have bel : Below w.heap.size w (w.alloc (.cells #[.int .i64 k, .int .i64 c, .bool wr, .int .i64 lb, .slice A kids.length cap] 26)) := (Below.refl _ _).alloc (Nat.le_refl _) _
  have RA := Lib.hid (r.go bel hS)
  have BEL := Lib.hid bel
  have hcnt := Tm.count_two ht
  have HLa := Lib.hid (show a.leaves.length = a.count from rfl)
  have HLb := Lib.hid (show b.leaves.length = b.count from rfl)
  have HT := Lib.hid ht
  have HB2 := Lib.hid (befB_two ht i j)
  have HBO := Lib.hid (fun h => befB_out (t := .mk k c wr lb kids) (i := i) (j := j) h)
  have HCN := Lib.hid hcnt
  obtain ⟨hkk, _⟩ := Tm.two_kind ht
  simp only [Tm.kind] at hkk
  have HKK := Lib.hid hkk
  have IHa := Lib.hid iha
  have IHb := Lib.hid ihb
  have HS := Lib.hid hS
  have HBX := Lib.hid (Blk.made w [.int .i64 k, .int .i64 c, .bool wr, .int .i64 lb, .slice A kids.length cap] 26 (base := 0) (Nat.zero_le _))
  rw [hcnt] at hl
  unfold tmV
  clear hkids ht r bel hcnt iha ihb hkk
  go_enter Try.func22, Try.ntmps22
  go_wp2_with fail
  refine (both_two _ p a b HT.out _ S _ (HS.out.trans (Sub.upto (by simp))) RA.out).mono ?_
  rintro e w1 ⟨⟨Va, Vb, rfl, ra, rb⟩, b1⟩
  obtain ⟨ka, ca, wa, la, kidsa, va, ea, rfl, _, _, _, hka⟩ := id ra
  obtain ⟨Aa, na, rfl, _⟩ := hka.form
  obtain ⟨kb, cb, wb, lb', kidsb, vb, eb, rfl, _, _, _, hkb⟩ := id rb
  obtain ⟨Ab, nb, rfl, _⟩ := hkb.form
  have RVa := Lib.hid ra
  have RVb := Lib.hid rb
  have B1 := Lib.hid b1
  have HBX1 := Lib.hid (HBX.out.below b1)
  unfold tmV
  clear ra rb b1 hka hkb ea eb
  go_upto_region 4 with (fail)
  have hbw : Below w1.heap.size w1 ((w1.alloc (.cells #[.int .i64 ka, .int .i64 ca, .bool wa, .int .i64 la, .slice Aa kidsa.length na] 26)).alloc (.cells #[.int .i64 kb, .int .i64 cb, .bool wb, .int .i64 lb', .slice Ab kidsb.length nb] 26)) := ((Below.refl _ _).alloc (Nat.le_refl _) _).alloc (by simp) _
  have hca : ((w1.alloc (.cells #[.int .i64 ka, .int .i64 ca, .bool wa, .int .i64 la, .slice Aa kidsa.length na] 26)).alloc (.cells #[.int .i64 kb, .int .i64 cb, .bool wb, .int .i64 lb', .slice Ab kidsb.length nb] 26)).cell? ⟨w1.heap.size, 0, none⟩ = some (.int .i64 ka) ∧ ((w1.alloc (.cells #[.int .i64 ka, .int .i64 ca, .bool wa, .int .i64 la, .slice Aa kidsa.length na] 26)).alloc (.cells #[.int .i64 kb, .int .i64 cb, .bool wb, .int .i64 lb', .slice Ab kidsb.length nb] 26)).cell? ⟨w1.heap.size, 1, none⟩ = some (.int .i64 ca) ∧ ((w1.alloc (.cells #[.int .i64 ka, .int .i64 ca, .bool wa, .int .i64 la, .slice Aa kidsa.length na] 26)).alloc (.cells #[.int .i64 kb, .int .i64 cb, .bool wb, .int .i64 lb', .slice Ab kidsb.length nb] 26)).cell? ⟨w1.heap.size, 2, none⟩ = some (.bool wa) ∧ ((w1.alloc (.cells #[.int .i64 ka, .int .i64 ca, .bool wa, .int .i64 la, .slice Aa kidsa.length na] 26)).alloc (.cells #[.int .i64 kb, .int .i64 cb, .bool wb, .int .i64 lb', .slice Ab kidsb.length nb] 26)).cell? ⟨w1.heap.size, 3, none⟩ = some (.int .i64 la) ∧ ((w1.alloc (.cells #[.int .i64 ka, .int .i64 ca, .bool wa, .int .i64 la, .slice Aa kidsa.length na] 26)).alloc (.cells #[.int .i64 kb, .int .i64 cb, .bool wb, .int .i64 lb', .slice Ab kidsb.length nb] 26)).cell? ⟨w1.heap.size, 4, none⟩ = some (.slice Aa kidsa.length na) := by simp
  have hcb : ((w1.alloc (.cells #[.int .i64 ka, .int .i64 ca, .bool wa, .int .i64 la, .slice Aa kidsa.length na] 26)).alloc (.cells #[.int .i64 kb, .int .i64 cb, .bool wb, .int .i64 lb', .slice Ab kidsb.length nb] 26)).cell? ⟨w1.heap.size + 1, 0, none⟩ = some (.int .i64 kb) ∧ ((w1.alloc (.cells #[.int .i64 ka, .int .i64 ca, .bool wa, .int .i64 la, .slice Aa kidsa.length na] 26)).alloc (.cells #[.int .i64 kb, .int .i64 cb, .bool wb, .int .i64 lb', .slice Ab kidsb.length nb] 26)).cell? ⟨w1.heap.size + 1, 1, none⟩ = some (.int .i64 cb) ∧ ((w1.alloc (.cells #[.int .i64 ka, .int .i64 ca, .bool wa, .int .i64 la, .slice Aa kidsa.length na] 26)).alloc (.cells #[.int .i64 kb, .int .i64 cb, .bool wb, .int .i64 lb', .slice Ab kidsb.length nb] 26)).cell? ⟨w1.heap.size + 1, 2, none⟩ = some (.bool wb) ∧ ((w1.alloc (.cells #[.int .i64 ka, .int .i64 ca, .bool wa, .int .i64 la, .slice Aa kidsa.length na] 26)).alloc (.cells #[.int .i64 kb, .int .i64 cb, .bool wb, .int .i64 lb', .slice Ab kidsb.length nb] 26)).cell? ⟨w1.heap.size + 1, 3, none⟩ = some (.int .i64 lb') ∧ ((w1.alloc (.cells #[.int .i64 ka, .int .i64 ca, .bool wa, .int .i64 la, .slice Aa kidsa.length na] 26)).alloc (.cells #[.int .i64 kb, .int .i64 cb, .bool wb, .int .i64 lb', .slice Ab kidsb.length nb] 26)).cell? ⟨w1.heap.size + 1, 4, none⟩ = some (.slice Ab kidsb.length nb) := by simp
  have hsz : (((w1.alloc (.cells #[.int .i64 ka, .int .i64 ca, .bool wa, .int .i64 la, .slice Aa kidsa.length na] 26)).alloc (.cells #[.int .i64 kb, .int .i64 cb, .bool wb, .int .i64 lb', .slice Ab kidsb.length nb] 26))).heap.size = w1.heap.size + 2 := by simp
  generalize ((w1.alloc (.cells #[.int .i64 ka, .int .i64 ca, .bool wa, .int .i64 la, .slice Aa kidsa.length na] 26)).alloc (.cells #[.int .i64 kb, .int .i64 cb, .bool wb, .int .i64 lb', .slice Ab kidsb.length nb] 26)) = W at *
  have hzw := BEL.out.size
  have hzb := B1.out.size
  rw [World.size_alloc] at hzw hzb
  have hz1' := Nat.le_of_eq hsz
  have hz2' := Nat.le_of_eq hsz.symm
  have hSW : Sub S (Upto w1.heap.size) := HS.out.trans (Sub.upto (by omega))
  have WRa := Lib.hid (RVa.out.go hbw hSW)
  have WRb := Lib.hid (RVb.out.go hbw hSW)
  have HSW := Lib.hid (hSW.trans (Sub.upto (show w1.heap.size ≤ W.heap.size by omega)))
  have HBW := Lib.hid hbw
  have HBX2 := Lib.hid (HBX1.out.below hbw)
  have CAc := Lib.hid hca
  have CBc := Lib.hid hcb
  obtain ⟨a0, a1, a2, a3, a4⟩ := hca
  obtain ⟨b0, b1, b2, b3, b4⟩ := hcb
  have hlt1 : w1.heap.size < W.heap.size := by omega
  have hlt2 : w1.heap.size + 1 < W.heap.size := by omega
  have CA := Lib.hid (show a.count ≤ 1048576 by omega)
  have CB := Lib.hid (show b.count ≤ 1048576 by omega)
  have HWP := Lib.hid (fun w' h => Stay.size h : ∀ w', Stay W w' → W.heap.size ≤ w'.heap.size)
  clear hsz hbw hSW
  go_region_held3 (fun w' => Stay W w') (first | assumption | exact Stay.mk (Kept.start _) | ((refine Stay.mk ?_; (repeat (with_reducible first | refine Kept.set ?_ (by omega) _ | refine Kept.drew ?_ | refine Kept.alloc ?_ _)); first | exact Kept.refl _ | assumption)))
    (first
      | ((go_at_call_of 21 (Value.agg #[.int .i64 ka, .int .i64 ca, .bool wa, .int .i64 la, .slice Aa kidsa.length na]); refine (dls_all a _ S _ (HSW.out.trans (Sub.upto (HWP.out _ (by assumption)))) (WRa.out.keep (Sub.refl _) (Same.sub (Stay.same (by assumption)) HSW.out)) CA.out).mono ?_; rintro e wa1 ⟨x1, rfl, hx1, hb1⟩; obtain ⟨A1, n1, rfl⟩ := hx1.form; clear hx1; have hst1 : Stay W wa1 := Stay.step hb1 (by assumption); have hk1 : Kept W wa1 := Kept.here hst1))
      | ((go_at_call_of 21 (Value.agg #[.int .i64 kb, .int .i64 cb, .bool wb, .int .i64 lb', .slice Ab kidsb.length nb]); refine (dls_all b _ S _ (HSW.out.trans (Sub.upto (HWP.out _ (by assumption)))) (WRb.out.keep (Sub.refl _) (Same.sub (Stay.same (by assumption)) HSW.out)) CB.out).mono ?_; rintro e wb1 ⟨x2, rfl, hx2, hb2⟩; obtain ⟨A2, n2, rfl⟩ := hx2.form; clear hx2; have hst2 : Stay W wb1 := Stay.step hb2 (by assumption); have hk2 : Kept W wb1 := Kept.here hst2)))
  have hstF := Lib.hid hst2
  have hbx := HBX2.out.below (hst2.below)
  have hcaF : wb1.cell? ⟨w1.heap.size, 0, none⟩ = some (.int .i64 ka) ∧ wb1.cell? ⟨w1.heap.size, 1, none⟩ = some (.int .i64 ca) ∧ wb1.cell? ⟨w1.heap.size, 2, none⟩ = some (.bool wa) ∧ wb1.cell? ⟨w1.heap.size, 3, none⟩ = some (.int .i64 la) ∧ wb1.cell? ⟨w1.heap.size, 4, none⟩ = some (.slice Aa kidsa.length na) := by
    obtain ⟨x0, x1, x2, x3, x4⟩ := CAc.out
    refine ⟨?_, ?_, ?_, ?_, ?_⟩ <;> (refine (hstF.out.below.cell (p := ⟨w1.heap.size, _, none⟩) hlt1).trans ?_; assumption)
  have hcbF : wb1.cell? ⟨w1.heap.size + 1, 0, none⟩ = some (.int .i64 kb) ∧ wb1.cell? ⟨w1.heap.size + 1, 1, none⟩ = some (.int .i64 cb) ∧ wb1.cell? ⟨w1.heap.size + 1, 2, none⟩ = some (.bool wb) ∧ wb1.cell? ⟨w1.heap.size + 1, 3, none⟩ = some (.int .i64 lb') ∧ wb1.cell? ⟨w1.heap.size + 1, 4, none⟩ = some (.slice Ab kidsb.length nb) := by
    obtain ⟨x0, x1, x2, x3, x4⟩ := CBc.out
    refine ⟨?_, ?_, ?_, ?_, ?_⟩ <;> (refine (hstF.out.below.cell (p := ⟨w1.heap.size + 1, _, none⟩) hlt2).trans ?_; assumption)
  have hsF := hstF.out.size
  have FIN := Lib.hid (show Below w.heap.size w wb1 from ((BEL.out.trans (B1.out.mono (by simp))).trans (HBW.out.mono (by omega))).trans (hstF.out.below.mono (by omega)))
  have WFa := Lib.hid (WRa.out.go hstF.out.below HSW.out)
  have WFb := Lib.hid (WRb.out.go hstF.out.below HSW.out)
  have HSF := Lib.hid (HSW.out.trans (Sub.upto hsF))
  rename_i hHeldX
  clear hHeldX hst1 hk1 hst2 hk2 a0 a1 a2 a3 a4 b0 b1 b2 b3 b4 HWP HBX HBX1 HBX2 RA RVa RVb WRa WRb
  rw [HLa.out, HLb.out] at *
  go_upto_region 5 with (fail)
  have x0 := hbx.cell 0 _ rfl
  have na0 : (a.count : Int) ≤ 1048576 := by omega
  have nb0 : (b.count : Int) ≤ 1048576 := by omega
  have nn0 : (0 : Int) ≤ (a.count : Int) := by omega
  have nn1 : (0 : Int) ≤ (b.count : Int) := by omega
  clear hbx
  by_cases hout : i < 0 ∨ j < 0 ∨ (a.count : Int) + (b.count : Int) ≤ i ∨ (a.count : Int) + (b.count : Int) ≤ j
  · have HB := Lib.hid (HBO.out (by rw [HCN.out]; omega))
    by_cases c1 : i < 0
    · clear hout
      go_wp2
      go_ret
      exact ⟨by rw [HB.out]; rfl, FIN.out⟩
    · by_cases c2 : j < 0
      · clear hout
        go_wp2
        go_ret
        exact ⟨by rw [HB.out]; rfl, FIN.out⟩
      · by_cases c3 : (a.count : Int) + (b.count : Int) ≤ i
        · clear hout
          go_wp2
          go_ret
          exact ⟨by rw [HB.out]; rfl, FIN.out⟩
        · have c4 : (a.count : Int) + (b.count : Int) ≤ j := by omega
          clear hout
          go_wp2
          go_ret
          exact ⟨by rw [HB.out]; rfl, FIN.out⟩
  · have i0 : 0 ≤ i := by omega
    have j0 : 0 ≤ j := by omega
    have i1 : i < (a.count : Int) + (b.count : Int) := by omega
    have j1 : j < (a.count : Int) + (b.count : Int) := by omega
    have i2 : ¬ i < 0 := by omega
    have j2 : ¬ j < 0 := by omega
    have i3 : ¬ (a.count : Int) + (b.count : Int) ≤ i := by omega
    have j3 : ¬ (a.count : Int) + (b.count : Int) ≤ j := by omega
    have HB := Lib.hid (HB2.out i0 j0 i1 j1)
    clear hout
    by_cases ci : i < (a.count : Int)
    · by_cases cj : j < (a.count : Int)
      · obtain ⟨q0, q1, q2, q3, q4⟩ := hcaF
        go_wp2_with fail
        refine (IHa.out i j wb1 S _ HSF.out WFa.out CA.out).mono ?_
        rintro e w' ⟨rfl, hb⟩
        go_wp2
        go_ret
        refine ⟨?_, FIN.out.trans (hb.mono (by omega))⟩
        rw [HB.out, if_pos ⟨ci, cj⟩]; rfl
      · have cj2 : (a.count : Int) ≤ j := by omega
        have ci2 : ¬ (a.count : Int) ≤ i := by omega
        have hij : decide (i < j) = true := by simp; omega
        cases p
        · have hkk : k = 2 := HKK.out
          clear HKK
          subst hkk
          go_wp2
          go_ret
          refine ⟨?_, FIN.out⟩
          rw [HB.out, if_neg (by omega), if_neg (by omega)]; simp [hij]
        · have hkk : k = 3 := HKK.out
          clear HKK
          subst hkk
          go_wp2
          go_ret
          refine ⟨?_, FIN.out⟩
          rw [HB.out, if_neg (by omega), if_neg (by omega)]; rfl
    · have ci2 : (a.count : Int) ≤ i := by omega
      by_cases cj : j < (a.count : Int)
      · have cj2 : ¬ (a.count : Int) ≤ j := by omega
        have hij : decide (i < j) = false := by simp; omega
        cases p
        · have hkk : k = 2 := HKK.out
          clear HKK
          subst hkk
          go_wp2
          go_ret
          refine ⟨?_, FIN.out⟩
          rw [HB.out, if_neg (by omega), if_neg (by omega)]; simp [hij]
        · have hkk : k = 3 := HKK.out
          clear HKK
          subst hkk
          go_wp2
          go_ret
          refine ⟨?_, FIN.out⟩
          rw [HB.out, if_neg (by omega), if_neg (by omega)]; rfl
      · have cj2 : (a.count : Int) ≤ j := by omega
        obtain ⟨q0, q1, q2, q3, q4⟩ := hcbF
        go_wp2_with fail
        refine (IHb.out (i - a.count) (j - a.count) wb1 S _ HSF.out WFb.out CB.out).mono ?_
        rintro e w' ⟨rfl, hb⟩
        go_wp2
        go_ret
        refine ⟨?_, FIN.out.trans (hb.mono (by omega))⟩
        rw [HB.out, if_neg (by omega), if_pos ⟨ci2, cj2⟩]; rfl
theorem dbs_all (t : Tm) : DBs t := Tm.ind dbs_one dbs_two t
end Go.Proofs.Ytfldajplclahfaa
