/- tell at a term of two; the walk of sp.Leaves. -/
import Derived.Test.YtknaoianhjeccaaDoorSp2
namespace Go.Proofs.YtknaoianhjeccaaDoor
open Go.RowKit
set_option linter.unusedVariables false
set_option maxHeartbeats 1000000 in
set_option maxRecDepth 100000 in
theorem tells_two (t : Tm) (p : Bool) (a b : Tm) (ht : t.two = some (p, a, b)) (ha : Tells a) (hb : Tells b) : Tells t := by
  intro base w d X l S V h hl r hS
  obtain ⟨k, c, wr, lb, kids, v, rfl, rfl, hk, hc, hlb, hkids⟩ := r
  obtain ⟨hkk, r', hr'⟩ := Tm.two_kind ht
  simp only [Tm.kind, Tm.kids] at hkk hr'
  subst hr'
  have HL := Lib.hid (Tm.leaves_two ht)
  have hbw : base ≤ w.heap.size := by obtain ⟨_, h1, _, _, _, _⟩ := h; have := h1.lt; have := h1.ge; omega
  rw [Tm.count_two ht] at hl
  obtain ⟨A, cap, rfl, hcl, hcm, _⟩ := hkids.form
  have hl2 : 2 ≤ (a :: b :: r').length := by simp
  have NX : ¬ X w.heap.size := by obtain ⟨_, _, _, _, h4, _⟩ := h; exact fun hx => by have := (h4 _ hx).2; omega
  have NXB : ∀ b, b < base → ¬ X b := by obtain ⟨_, _, _, _, h4, _⟩ := h; exact fun b hb hx => by have := (h4 _ hx).1; omega
  have bel : Below w.heap.size w (w.alloc (.cells #[.int .i64 k, .int .i64 c, .bool wr, .int .i64 lb, .slice A (a :: b :: r').length cap] 35)) := (Below.refl _ _).alloc (Nat.le_refl _) _
  have K2 := hkids.go RdTm.keeps bel (hS.trans (Sub.upto hbw)) (Sub.refl _)
  obtain ⟨b0, off, k0, c0, wr0, lb0, v0, rfl, hsb, x0, x1, x2, x3, x4, ra⟩ := RdTms.kid K2 (q := 0) (by simp)
  obtain ⟨b0', off', k1, c1, wr1, lb1, v1, hA, hsb', y0, y1, y2, y3, y4, rb⟩ := RdTms.kid K2 (q := 1) (by simp)
  injection hA with hA
  injection hA with e1 e2
  subst e1 e2
  simp only [List.getElem_cons_zero, List.getElem_cons_succ] at ra rb
  rw [Nat.zero_mul, Nat.add_zero] at x0 x1 x2 x3 x4
  rw [Nat.one_mul] at y0 y1 y2 y3 y4
  have RA := Lib.hid ra
  have RB := Lib.hid rb
  have H := Lib.hid (h.but (T := Nowhere) (But.of_below bel) (fun _ _ h => h))
  have BEL := Lib.hid bel
  have HS := Lib.hid hS
  have HA := Lib.hid ha
  have HB := Lib.hid hb
  generalize (a :: b :: r').length = n at *
  clear h ra rb hkids K2 ht ha hb hS bel hk
  have hn0 : (0 : Int) < (n : Int) := by omega
  have hn00 : 0 < n := by omega
  have NXb : ¬ X b0 := NXB _ (HS.out _ hsb)
  have hl3 := Lib.hid hl
  have hn1 : (1 : Int) < (n : Int) := by omega
  have hm := m_ltwo ⟨d, 0, none⟩
  have hnil := n_ltwo ⟨d, 0, none⟩
  have hb0 : b0 < w.heap.size := by have := HS.out _ hsb; simp only [Upto] at this; omega
  unfold tmV lvI
  unfold maxLen at hcm
  cases p
  all_goals
    simp only [Bool.false_eq_true, if_false, if_true] at hkk
    subst hkk
    go_enter Tryd.func23, Tryd.ntmps23
    go_upto_region 5 with (fail)
  · have f0 : (w.alloc (.cells #[.int .i64 2, .int .i64 c, .bool wr, .int .i64 lb, .slice (some ⟨b0, off, none⟩) n cap] 35)).cell? ⟨w.heap.size, 0, none⟩ = some (.int .i64 2) := by simp
    have f1 : (w.alloc (.cells #[.int .i64 2, .int .i64 c, .bool wr, .int .i64 lb, .slice (some ⟨b0, off, none⟩) n cap] 35)).cell? ⟨w.heap.size, 4, none⟩ = some (.slice (some ⟨b0, off, none⟩) n cap) := by simp
    generalize w.alloc (.cells #[.int .i64 2, .int .i64 c, .bool wr, .int .i64 lb, .slice (some ⟨b0, off, none⟩) n cap] 35) = W at *
    go_region_held3 (fun w' => w'.cell? ⟨w.heap.size, 0, none⟩ = some (.int .i64 2) ∧ w'.cell? ⟨w.heap.size, 4, none⟩ = some (.slice (some ⟨b0, off, none⟩) n cap) ∧
      w'.cell? ⟨b0, off, none⟩ = some (.int .i64 k0) ∧ w'.cell? ⟨b0, off + 1, none⟩ = some (.int .i64 c0) ∧ w'.cell? ⟨b0, off + 2, none⟩ = some (.bool wr0) ∧ w'.cell? ⟨b0, off + 3, none⟩ = some (.int .i64 lb0) ∧ w'.cell? ⟨b0, off + 4, none⟩ = some v0 ∧
      w'.cell? ⟨b0, off + 5, none⟩ = some (.int .i64 k1) ∧ w'.cell? ⟨b0, off + 5 + 1, none⟩ = some (.int .i64 c1) ∧ w'.cell? ⟨b0, off + 5 + 2, none⟩ = some (.bool wr1) ∧ w'.cell? ⟨b0, off + 5 + 3, none⟩ = some (.int .i64 lb1) ∧ w'.cell? ⟨b0, off + 5 + 4, none⟩ = some v1)
      (first | exact ⟨q0, q1, q2, q3, q4, q5, q6, q7, q8, q9, q10, q11⟩ | go_keep)
      ((go_at_call 68; refine (ltwo_any a b HA.out HB.out false base W.drew d X l S _ _ (H.out.but (T := Nowhere) (But.refl _ _).drew (fun _ _ h => h)) hl3.out (RA.out.keep (Sub.refl _) (Same.refl _ _)) (RB.out.keep (Sub.refl _) (Same.refl _ _)) HS.out).mono ?_; rintro e w1 ⟨rfl, X1, h1, hs1, hk1⟩; have q0 := hk1.cell NX f0; have q1 := hk1.cell NX f1; have q2 := hk1.cell NXb x0; have q3 := hk1.cell NXb x1; have q4 := hk1.cell NXb x2; have q5 := hk1.cell NXb x3; have q6 := hk1.cell NXb x4; have q7 := hk1.cell NXb y0; have q8 := hk1.cell NXb y1; have q9 := hk1.cell NXb y2; have q10 := hk1.cell NXb y3; have q11 := hk1.cell NXb y4))
    go_wp2
    go_end0
    refine ⟨rfl, ?_⟩
    rw [HL.out]
    exact lv_first BEL.out ⟨X1, h1, hs1, (But.refl _ _).drew.trans hk1⟩
  · have f0 : (w.alloc (.cells #[.int .i64 3, .int .i64 c, .bool wr, .int .i64 lb, .slice (some ⟨b0, off, none⟩) n cap] 35)).cell? ⟨w.heap.size, 0, none⟩ = some (.int .i64 3) := by simp
    have f1 : (w.alloc (.cells #[.int .i64 3, .int .i64 c, .bool wr, .int .i64 lb, .slice (some ⟨b0, off, none⟩) n cap] 35)).cell? ⟨w.heap.size, 4, none⟩ = some (.slice (some ⟨b0, off, none⟩) n cap) := by simp
    generalize w.alloc (.cells #[.int .i64 3, .int .i64 c, .bool wr, .int .i64 lb, .slice (some ⟨b0, off, none⟩) n cap] 35) = W at *
    go_region_held3 (fun w' => w'.cell? ⟨w.heap.size, 0, none⟩ = some (.int .i64 3) ∧ w'.cell? ⟨w.heap.size, 4, none⟩ = some (.slice (some ⟨b0, off, none⟩) n cap) ∧
      w'.cell? ⟨b0, off, none⟩ = some (.int .i64 k0) ∧ w'.cell? ⟨b0, off + 1, none⟩ = some (.int .i64 c0) ∧ w'.cell? ⟨b0, off + 2, none⟩ = some (.bool wr0) ∧ w'.cell? ⟨b0, off + 3, none⟩ = some (.int .i64 lb0) ∧ w'.cell? ⟨b0, off + 4, none⟩ = some v0 ∧
      w'.cell? ⟨b0, off + 5, none⟩ = some (.int .i64 k1) ∧ w'.cell? ⟨b0, off + 5 + 1, none⟩ = some (.int .i64 c1) ∧ w'.cell? ⟨b0, off + 5 + 2, none⟩ = some (.bool wr1) ∧ w'.cell? ⟨b0, off + 5 + 3, none⟩ = some (.int .i64 lb1) ∧ w'.cell? ⟨b0, off + 5 + 4, none⟩ = some v1)
      (first | exact ⟨q0, q1, q2, q3, q4, q5, q6, q7, q8, q9, q10, q11⟩ | go_keep)
      ((go_at_call 68; refine (ltwo_any a b HA.out HB.out true base W.drew d X l S _ _ (H.out.but (T := Nowhere) (But.refl _ _).drew (fun _ _ h => h)) hl3.out (RA.out.keep (Sub.refl _) (Same.refl _ _)) (RB.out.keep (Sub.refl _) (Same.refl _ _)) HS.out).mono ?_; rintro e w1 ⟨rfl, X1, h1, hs1, hk1⟩; have q0 := hk1.cell NX f0; have q1 := hk1.cell NX f1; have q2 := hk1.cell NXb x0; have q3 := hk1.cell NXb x1; have q4 := hk1.cell NXb x2; have q5 := hk1.cell NXb x3; have q6 := hk1.cell NXb x4; have q7 := hk1.cell NXb y0; have q8 := hk1.cell NXb y1; have q9 := hk1.cell NXb y2; have q10 := hk1.cell NXb y3; have q11 := hk1.cell NXb y4))
    go_wp2
    go_end0
    refine ⟨rfl, ?_⟩
    rw [HL.out]
    exact lv_first BEL.out ⟨X1, h1, hs1, (But.refl _ _).drew.trans hk1⟩
end Go.Proofs.YtknaoianhjeccaaDoor
