/- counter: tell at a term of two; the walk of sp.Count. -/
import Derived.Test.YtknaoianhjeccaaDoorSg2
namespace Go.Proofs.YtknaoianhjeccaaDoor
open Go.RowKit
set_option linter.unusedVariables false
set_option maxHeartbeats 1000000 in
set_option maxRecDepth 100000 in
theorem ctells_two (t : Tm) (p : Bool) (a b : Tm) (ht : t.two = some (p, a, b)) (ha : CTells a) (hb : CTells b) : CTells t := by
  intro base w d u0 u1 S V h hl r hS
  obtain ⟨k, c, wr, lb, kids, v, rfl, rfl, hk, hc, hlb, hkids⟩ := r
  obtain ⟨hkk, r', hr'⟩ := Tm.two_kind ht
  simp only [Tm.kind, Tm.kids] at hkk hr'
  subst hr'
  have HP := Lib.hid (Tm.ways_two ht)
  have HC := Lib.hid (Tm.count_two ht)
  have hdb := h.ge
  have hdl := h.lt
  have hbw : base ≤ w.heap.size := by omega
  rw [Tm.count_two ht] at hl
  obtain ⟨A, cap, rfl, hcl, hcm, _⟩ := hkids.form
  have hl2 : 2 ≤ (a :: b :: r').length := by simp
  have NX : ¬ Is d w.heap.size := fun e => by have e2 : w.heap.size = d := e; omega
  have bel : Below w.heap.size w (w.alloc (.cells #[.int .i64 k, .int .i64 c, .bool wr, .int .i64 lb, .slice A (a :: b :: r').length cap] 35)) := (Below.refl _ _).alloc (Nat.le_refl _) _
  have K2 := hkids.go RdTm.keeps bel (hS.trans (Sub.upto hbw)) (Sub.refl _)
  obtain ⟨b0, off, k0, c0, wr0, lb0, v0, rfl, hsb, x0, x1, x2, x3, x4, ra⟩ := RdTms.kid K2 (q := 0) (by simp)
  obtain ⟨b0', off', k1, c1, wr1, lb1, v1, hA, hsb', y0, y1, y2, y3, y4, rb⟩ := RdTms.kid K2 (q := 1) (by simp)
  injection hA with hA
  injection hA with e1 e2
  subst e1 e2
  simp only [List.getElem_cons_zero, List.getElem_cons_succ] at ra rb
  rw [Nat.zero_mul, Nat.add_zero] at x0 x1 x2 x3 x4
  rw [Nat.one_mul] at y0 y1 y2 y3 y4
  have RA := Lib.hid ra
  have RB := Lib.hid rb
  have H := Lib.hid (h.below bel)
  have BEL := Lib.hid bel
  have HS := Lib.hid hS
  have HA := Lib.hid ha
  have HB := Lib.hid hb
  generalize (a :: b :: r').length = n' at *
  clear h ra rb hkids K2 ht ha hb hS bel hk
  have hn0 : (0 : Int) < (n' : Int) := by omega
  have hn00 : 0 < n' := by omega
  have hb0b : b0 < base := HS.out _ hsb
  have NXb : ¬ Is d b0 := fun e => by have e2 : b0 = d := e; omega
  have hl3 := Lib.hid hl
  have hn1 : (1 : Int) < (n' : Int) := by omega
  have hm := m_ctwo ⟨d, 0, none⟩
  have hnil := n_ctwo ⟨d, 0, none⟩
  have hb0 : b0 < w.heap.size := by omega
  unfold tmV ctI
  unfold maxLen at hcm
  cases p
  all_goals
    simp only [Bool.false_eq_true, if_false, if_true] at hkk
    subst hkk
    go_enter Tryd.func23, Tryd.ntmps23
    go_upto_region 5 with (fail)
  · have f0 : (w.alloc (.cells #[.int .i64 2, .int .i64 c, .bool wr, .int .i64 lb, .slice (some ⟨b0, off, none⟩) n' cap] 35)).cell? ⟨w.heap.size, 0, none⟩ = some (.int .i64 2) := by simp
    have f1 : (w.alloc (.cells #[.int .i64 2, .int .i64 c, .bool wr, .int .i64 lb, .slice (some ⟨b0, off, none⟩) n' cap] 35)).cell? ⟨w.heap.size, 4, none⟩ = some (.slice (some ⟨b0, off, none⟩) n' cap) := by simp
    generalize w.alloc (.cells #[.int .i64 2, .int .i64 c, .bool wr, .int .i64 lb, .slice (some ⟨b0, off, none⟩) n' cap] 35) = W at *
    go_region_held3 (fun w' => w'.cell? ⟨w.heap.size, 0, none⟩ = some (.int .i64 2) ∧ w'.cell? ⟨w.heap.size, 4, none⟩ = some (.slice (some ⟨b0, off, none⟩) n' cap) ∧
      w'.cell? ⟨b0, off, none⟩ = some (.int .i64 k0) ∧ w'.cell? ⟨b0, off + 1, none⟩ = some (.int .i64 c0) ∧ w'.cell? ⟨b0, off + 2, none⟩ = some (.bool wr0) ∧ w'.cell? ⟨b0, off + 3, none⟩ = some (.int .i64 lb0) ∧ w'.cell? ⟨b0, off + 4, none⟩ = some v0 ∧
      w'.cell? ⟨b0, off + 5, none⟩ = some (.int .i64 k1) ∧ w'.cell? ⟨b0, off + 5 + 1, none⟩ = some (.int .i64 c1) ∧ w'.cell? ⟨b0, off + 5 + 2, none⟩ = some (.bool wr1) ∧ w'.cell? ⟨b0, off + 5 + 3, none⟩ = some (.int .i64 lb1) ∧ w'.cell? ⟨b0, off + 5 + 4, none⟩ = some v1)
      (first | exact ⟨q0, q1, q2, q3, q4, q5, q6, q7, q8, q9, q10, q11⟩ | go_keep)
      ((go_at_call 61; refine (ctwo_any a b HA.out HB.out false base W.drew d u0 u1 S _ _ H.out.drew hl3.out (RA.out.keep (Sub.refl _) (Same.refl _ _)) (RB.out.keep (Sub.refl _) (Same.refl _ _)) HS.out).mono ?_; rintro e w1 ⟨rfl, h1, hk1⟩; have q0 := hk1.cell NX f0; have q1 := hk1.cell NX f1; have q2 := hk1.cell NXb x0; have q3 := hk1.cell NXb x1; have q4 := hk1.cell NXb x2; have q5 := hk1.cell NXb x3; have q6 := hk1.cell NXb x4; have q7 := hk1.cell NXb y0; have q8 := hk1.cell NXb y1; have q9 := hk1.cell NXb y2; have q10 := hk1.cell NXb y3; have q11 := hk1.cell NXb y4))
    go_wp2
    go_end0
    unfold cntV
    rw [HP.out, HC.out]
    exact ⟨rfl, h1, ((But.of_below BEL.out).drew).trans hk1⟩
  · have f0 : (w.alloc (.cells #[.int .i64 3, .int .i64 c, .bool wr, .int .i64 lb, .slice (some ⟨b0, off, none⟩) n' cap] 35)).cell? ⟨w.heap.size, 0, none⟩ = some (.int .i64 3) := by simp
    have f1 : (w.alloc (.cells #[.int .i64 3, .int .i64 c, .bool wr, .int .i64 lb, .slice (some ⟨b0, off, none⟩) n' cap] 35)).cell? ⟨w.heap.size, 4, none⟩ = some (.slice (some ⟨b0, off, none⟩) n' cap) := by simp
    generalize w.alloc (.cells #[.int .i64 3, .int .i64 c, .bool wr, .int .i64 lb, .slice (some ⟨b0, off, none⟩) n' cap] 35) = W at *
    go_region_held3 (fun w' => w'.cell? ⟨w.heap.size, 0, none⟩ = some (.int .i64 3) ∧ w'.cell? ⟨w.heap.size, 4, none⟩ = some (.slice (some ⟨b0, off, none⟩) n' cap) ∧
      w'.cell? ⟨b0, off, none⟩ = some (.int .i64 k0) ∧ w'.cell? ⟨b0, off + 1, none⟩ = some (.int .i64 c0) ∧ w'.cell? ⟨b0, off + 2, none⟩ = some (.bool wr0) ∧ w'.cell? ⟨b0, off + 3, none⟩ = some (.int .i64 lb0) ∧ w'.cell? ⟨b0, off + 4, none⟩ = some v0 ∧
      w'.cell? ⟨b0, off + 5, none⟩ = some (.int .i64 k1) ∧ w'.cell? ⟨b0, off + 5 + 1, none⟩ = some (.int .i64 c1) ∧ w'.cell? ⟨b0, off + 5 + 2, none⟩ = some (.bool wr1) ∧ w'.cell? ⟨b0, off + 5 + 3, none⟩ = some (.int .i64 lb1) ∧ w'.cell? ⟨b0, off + 5 + 4, none⟩ = some v1)
      (first | exact ⟨q0, q1, q2, q3, q4, q5, q6, q7, q8, q9, q10, q11⟩ | go_keep)
      ((go_at_call 61; refine (ctwo_any a b HA.out HB.out true base W.drew d u0 u1 S _ _ H.out.drew hl3.out (RA.out.keep (Sub.refl _) (Same.refl _ _)) (RB.out.keep (Sub.refl _) (Same.refl _ _)) HS.out).mono ?_; rintro e w1 ⟨rfl, h1, hk1⟩; have q0 := hk1.cell NX f0; have q1 := hk1.cell NX f1; have q2 := hk1.cell NXb x0; have q3 := hk1.cell NXb x1; have q4 := hk1.cell NXb x2; have q5 := hk1.cell NXb x3; have q6 := hk1.cell NXb x4; have q7 := hk1.cell NXb y0; have q8 := hk1.cell NXb y1; have q9 := hk1.cell NXb y2; have q10 := hk1.cell NXb y3; have q11 := hk1.cell NXb y4))
    go_wp2
    go_end0
    unfold cntV
    rw [HP.out, HC.out]
    exact ⟨rfl, h1, ((But.of_below BEL.out).drew).trans hk1⟩
theorem ctells_all (t : Tm) : CTells t := Tm.ind ctells_one ctells_two t
set_option maxHeartbeats 1000000 in
set_option maxRecDepth 100000 in
theorem count_any (t : Tm) (w : World) (S : Blocks) (V : Value) (hS : Sub S (Upto w.heap.size)) (r : RdT w S t V) (hl : t.count ≤ 1048576) :
    Calls Tryd.prog 11 #[V] w fun e w' => e = .returned (.int .u64 ((t.ways % 18446744073709551616 : Nat) : Int)) ∧ Below w.heap.size w w' := by
  obtain ⟨k, c, wr, lb, kids, v, et, rfl, h1, h2, h3, h4⟩ := id r
  obtain ⟨A1, n1, rfl, _⟩ := h4.form
  have bel : Below w.heap.size w ((w.alloc (.cells #[.int .i64 k, .int .i64 c, .bool wr, .int .i64 lb, .slice A1 kids.length n1] 35)).alloc (.cells #[.int .i64 0, .int .u64 0] 65)) := ((Below.refl _ _).alloc (Nat.le_refl _) _).alloc (by simp) _
  have BEL := Lib.hid bel
  have RA := Lib.hid (r.go bel hS)
  have BX := Lib.hid ((Blk.made w [.int .i64 k, .int .i64 c, .bool wr, .int .i64 lb, .slice A1 kids.length n1] 35 (base := 0) (Nat.zero_le _)).below ((Below.refl _ _).alloc (Nat.le_refl _) (.cells #[.int .i64 0, .int .u64 0] 65)))
  have q := Blk.made (w.alloc (.cells #[.int .i64 k, .int .i64 c, .bool wr, .int .i64 lb, .slice A1 kids.length n1] 35)) [.int .i64 0, .int .u64 0] 65 (base := w.heap.size) (by simp)
  rw [World.size_alloc] at q
  have BC := Lib.hid q
  have HS := Lib.hid hS
  have c0 := BX.out.cell 0 _ rfl
  have c1 := BX.out.cell 1 _ rfl
  have c2 := BX.out.cell 2 _ rfl
  have c3 := BX.out.cell 3 _ rfl
  have c4 := BX.out.cell 4 _ rfl
  unfold tmV
  clear bel r h4 et h1 h2 h3 hS q
  go_enter Tryd.func11, Tryd.ntmps11
  go_upto_region 2 with (fail)
  generalize ((w.alloc (.cells #[.int .i64 k, .int .i64 c, .bool wr, .int .i64 lb, .slice A1 kids.length n1] 35)).alloc (.cells #[.int .i64 0, .int .u64 0] 65)) = W at *
  go_wp2_with fail
  refine (ctells_all t w.heap.size W (w.heap.size + 1) _ _ S _ BC.out hl RA.out HS.out).mono ?_
  rintro e w1 ⟨rfl, q1, k1⟩
  have d1 := q1.cell 1 _ rfl
  go_wp2
  go_ret
  exact ⟨rfl, BEL.out.trans (k1.below (by have := BEL.out.size; omega) (fun k h => by have e2 : k = w.heap.size + 1 := h; omega))⟩
end Go.Proofs.YtknaoianhjeccaaDoor
