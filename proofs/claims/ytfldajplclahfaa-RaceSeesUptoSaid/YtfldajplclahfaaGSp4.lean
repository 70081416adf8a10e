/- Texts merged: Sp3, Sp4. -/
import Derived.Test.YtfldajplclahfaaSp2
/- tell at a term of two; the walk of sp.Leaves. -/
namespace Go.Proofs.Ytfldajplclahfaa
open Go.RowKit
set_option linter.unusedVariables false
set_option maxHeartbeats 1000000 in
set_option maxRecDepth 100000 in
theorem tells_two (t : Tm) (p : Bool) (a b : Tm) (ht : t.two = some (p, a, b)) (ha : Tells a) (hb : Tells b) : Tells t := by
  intro base w d X l S V h hl r hS
  obtain ⟨k, c, wr, lb, kids, v, rfl, rfl, hk, hc, hlb, hkids⟩ := r
  obtain ⟨hkk, r', hr'⟩ := Tm.two_kind ht
  simp only [Tm.kind, Tm.kids] at hkk hr'
  subst hr'
  have HL := Lib.hid (Tm.leaves_two ht)
  have hbw : base ≤ w.heap.size := by obtain ⟨_, h1, _, _, _, _⟩ := h; have := h1.lt; have := h1.ge; omega
  rw [Tm.count_two ht] at hl
  obtain ⟨A, cap, rfl, hcl, hcm, _⟩ := hkids.form
  have hl2 : 2 ≤ (a :: b :: r').length := by simp
  have NX : ¬ X w.heap.size := by obtain ⟨_, _, _, _, h4, _⟩ := h; exact fun hx => by have := (h4 _ hx).2; omega
  have NXB : ∀ b, b < base → ¬ X b := by obtain ⟨_, _, _, _, h4, _⟩ := h; exact fun b hb hx => by have := (h4 _ hx).1; omega
  have bel : Below w.heap.size w (w.alloc (.cells #[.int .i64 k, .int .i64 c, .bool wr, .int .i64 lb, .slice A (a :: b :: r').length cap] 26)) := (Below.refl _ _).alloc (Nat.le_refl _) _
  have K2 := hkids.go RdTm.keeps bel (hS.trans (Sub.upto hbw)) (Sub.refl _)
  obtain ⟨b0, off, k0, c0, wr0, lb0, v0, rfl, hsb, x0, x1, x2, x3, x4, ra⟩ := RdTms.kid K2 (q := 0) (by simp)
  obtain ⟨b0', off', k1, c1, wr1, lb1, v1, hA, hsb', y0, y1, y2, y3, y4, rb⟩ := RdTms.kid K2 (q := 1) (by simp)
  injection hA with hA
  injection hA with e1 e2
  subst e1 e2
  simp only [List.getElem_cons_zero, List.getElem_cons_succ] at ra rb
  rw [Nat.zero_mul, Nat.add_zero] at x0 x1 x2 x3 x4
  rw [Nat.one_mul] at y0 y1 y2 y3 y4
  have RA := Lib.hid ra
  have RB := Lib.hid rb
  have H := Lib.hid (h.but (T := Nowhere) (But.of_below bel) (fun _ _ h => h))
  have BEL := Lib.hid bel
  have HS := Lib.hid hS
  have HA := Lib.hid ha
  have HB := Lib.hid hb
  generalize (a :: b :: r').length = n at *
  clear h ra rb hkids K2 ht ha hb hS bel hk
  have hn0 : (0 : Int) < (n : Int) := by omega
  have hn00 : 0 < n := by omega
  have NXb : ¬ X b0 := NXB _ (HS.out _ hsb)
  have hl3 := Lib.hid hl
  have hn1 : (1 : Int) < (n : Int) := by omega
  have hm := m_ltwo ⟨d, 0, none⟩
  have hnil := n_ltwo ⟨d, 0, none⟩
  have hb0 : b0 < w.heap.size := by have := HS.out _ hsb; simp only [Upto] at this; omega
  unfold tmV lvI
  unfold maxLen at hcm
  cases p
  all_goals
    simp only [Bool.false_eq_true, if_false, if_true] at hkk
    subst hkk
    go_enter Try.func44, Try.ntmps44
    go_upto_region 5 with (fail)
  · have f0 : (w.alloc (.cells #[.int .i64 2, .int .i64 c, .bool wr, .int .i64 lb, .slice (some ⟨b0, off, none⟩) n cap] 26)).cell? ⟨w.heap.size, 0, none⟩ = some (.int .i64 2) := by simp
    have f1 : (w.alloc (.cells #[.int .i64 2, .int .i64 c, .bool wr, .int .i64 lb, .slice (some ⟨b0, off, none⟩) n cap] 26)).cell? ⟨w.heap.size, 4, none⟩ = some (.slice (some ⟨b0, off, none⟩) n cap) := by simp
    generalize w.alloc (.cells #[.int .i64 2, .int .i64 c, .bool wr, .int .i64 lb, .slice (some ⟨b0, off, none⟩) n cap] 26) = W at *
    go_region_held3 (fun w' => w'.cell? ⟨w.heap.size, 0, none⟩ = some (.int .i64 2) ∧ w'.cell? ⟨w.heap.size, 4, none⟩ = some (.slice (some ⟨b0, off, none⟩) n cap) ∧
      w'.cell? ⟨b0, off, none⟩ = some (.int .i64 k0) ∧ w'.cell? ⟨b0, off + 1, none⟩ = some (.int .i64 c0) ∧ w'.cell? ⟨b0, off + 2, none⟩ = some (.bool wr0) ∧ w'.cell? ⟨b0, off + 3, none⟩ = some (.int .i64 lb0) ∧ w'.cell? ⟨b0, off + 4, none⟩ = some v0 ∧
      w'.cell? ⟨b0, off + 5, none⟩ = some (.int .i64 k1) ∧ w'.cell? ⟨b0, off + 5 + 1, none⟩ = some (.int .i64 c1) ∧ w'.cell? ⟨b0, off + 5 + 2, none⟩ = some (.bool wr1) ∧ w'.cell? ⟨b0, off + 5 + 3, none⟩ = some (.int .i64 lb1) ∧ w'.cell? ⟨b0, off + 5 + 4, none⟩ = some v1)
      (first | exact ⟨q0, q1, q2, q3, q4, q5, q6, q7, q8, q9, q10, q11⟩ | go_keep)
      ((go_at_call 105; refine (ltwo_any a b HA.out HB.out false base W.drew d X l S _ _ (H.out.but (T := Nowhere) (But.refl _ _).drew (fun _ _ h => h)) hl3.out (RA.out.keep (Sub.refl _) (Same.refl _ _)) (RB.out.keep (Sub.refl _) (Same.refl _ _)) HS.out).mono ?_; rintro e w1 ⟨rfl, X1, h1, hs1, hk1⟩; have q0 := hk1.cell NX f0; have q1 := hk1.cell NX f1; have q2 := hk1.cell NXb x0; have q3 := hk1.cell NXb x1; have q4 := hk1.cell NXb x2; have q5 := hk1.cell NXb x3; have q6 := hk1.cell NXb x4; have q7 := hk1.cell NXb y0; have q8 := hk1.cell NXb y1; have q9 := hk1.cell NXb y2; have q10 := hk1.cell NXb y3; have q11 := hk1.cell NXb y4))
    go_wp2
    go_end0
    refine ⟨rfl, ?_⟩
    rw [HL.out]
    exact lv_first BEL.out ⟨X1, h1, hs1, (But.refl _ _).drew.trans hk1⟩
  · have f0 : (w.alloc (.cells #[.int .i64 3, .int .i64 c, .bool wr, .int .i64 lb, .slice (some ⟨b0, off, none⟩) n cap] 26)).cell? ⟨w.heap.size, 0, none⟩ = some (.int .i64 3) := by simp
    have f1 : (w.alloc (.cells #[.int .i64 3, .int .i64 c, .bool wr, .int .i64 lb, .slice (some ⟨b0, off, none⟩) n cap] 26)).cell? ⟨w.heap.size, 4, none⟩ = some (.slice (some ⟨b0, off, none⟩) n cap) := by simp
    generalize w.alloc (.cells #[.int .i64 3, .int .i64 c, .bool wr, .int .i64 lb, .slice (some ⟨b0, off, none⟩) n cap] 26) = W at *
    go_region_held3 (fun w' => w'.cell? ⟨w.heap.size, 0, none⟩ = some (.int .i64 3) ∧ w'.cell? ⟨w.heap.size, 4, none⟩ = some (.slice (some ⟨b0, off, none⟩) n cap) ∧
      w'.cell? ⟨b0, off, none⟩ = some (.int .i64 k0) ∧ w'.cell? ⟨b0, off + 1, none⟩ = some (.int .i64 c0) ∧ w'.cell? ⟨b0, off + 2, none⟩ = some (.bool wr0) ∧ w'.cell? ⟨b0, off + 3, none⟩ = some (.int .i64 lb0) ∧ w'.cell? ⟨b0, off + 4, none⟩ = some v0 ∧
      w'.cell? ⟨b0, off + 5, none⟩ = some (.int .i64 k1) ∧ w'.cell? ⟨b0, off + 5 + 1, none⟩ = some (.int .i64 c1) ∧ w'.cell? ⟨b0, off + 5 + 2, none⟩ = some (.bool wr1) ∧ w'.cell? ⟨b0, off + 5 + 3, none⟩ = some (.int .i64 lb1) ∧ w'.cell? ⟨b0, off + 5 + 4, none⟩ = some v1)
      (first | exact ⟨q0, q1, q2, q3, q4, q5, q6, q7, q8, q9, q10, q11⟩ | go_keep)
      ((go_at_call 105; refine (ltwo_any a b HA.out HB.out true base W.drew d X l S _ _ (H.out.but (T := Nowhere) (But.refl _ _).drew (fun _ _ h => h)) hl3.out (RA.out.keep (Sub.refl _) (Same.refl _ _)) (RB.out.keep (Sub.refl _) (Same.refl _ _)) HS.out).mono ?_; rintro e w1 ⟨rfl, X1, h1, hs1, hk1⟩; have q0 := hk1.cell NX f0; have q1 := hk1.cell NX f1; have q2 := hk1.cell NXb x0; have q3 := hk1.cell NXb x1; have q4 := hk1.cell NXb x2; have q5 := hk1.cell NXb x3; have q6 := hk1.cell NXb x4; have q7 := hk1.cell NXb y0; have q8 := hk1.cell NXb y1; have q9 := hk1.cell NXb y2; have q10 := hk1.cell NXb y3; have q11 := hk1.cell NXb y4))
    go_wp2
    go_end0
    refine ⟨rfl, ?_⟩
    rw [HL.out]
    exact lv_first BEL.out ⟨X1, h1, hs1, (But.refl _ _).drew.trans hk1⟩
end Go.Proofs.Ytfldajplclahfaa
/- The walk of sp.Leaves. -/
namespace Go.Proofs.Ytfldajplclahfaa
open Go.RowKit
set_option linter.unusedVariables false
theorem tells_all (t : Tm) : Tells t := Tm.ind tells_one tells_two t
set_option maxHeartbeats 1000000 in
set_option maxRecDepth 100000 in
theorem leaves_any (t : Tm) (w : World) (S : Blocks) (V : Value) (hS : Sub S (Upto w.heap.size)) (r : RdT w S t V) (hl : t.count ≤ 1048576) :
    Calls Try.prog 27 #[V] w fun e w' => ∃ x, e = .returned x ∧ RdAccs w' (Plus Nowhere w.heap.size w'.heap.size) t.leaves x ∧ Below w.heap.size w w' := by
  obtain ⟨k, c, wr, lb, kids, v, et, rfl, h1, h2, h3, h4⟩ := id r
  obtain ⟨A1, n1, rfl, _⟩ := h4.form
  have bel : Below w.heap.size w ((w.alloc (.cells #[.int .i64 k, .int .i64 c, .bool wr, .int .i64 lb, .slice A1 kids.length n1] 26)).alloc (.cells #[.slice none 0 0] 71)) := ((Below.refl _ _).alloc (Nat.le_refl _) _).alloc (by simp) _
  have BEL := Lib.hid bel
  have RA := Lib.hid (r.go bel hS)
  have hsz : ((w.alloc (.cells #[.int .i64 k, .int .i64 c, .bool wr, .int .i64 lb, .slice A1 kids.length n1] 26)).alloc (.cells #[.slice none 0 0] 71)).heap.size = w.heap.size + 2 := by simp
  have B1 := Blk.made (w.alloc (.cells #[.int .i64 k, .int .i64 c, .bool wr, .int .i64 lb, .slice A1 kids.length n1] 26)) [.slice none 0 0] 71 (base := w.heap.size) (by simp)
  rw [World.size_alloc] at B1
  have H := Lib.hid (show LvAt w.heap.size ((w.alloc (.cells #[.int .i64 k, .int .i64 c, .bool wr, .int .i64 lb, .slice A1 kids.length n1] 26)).alloc (.cells #[.slice none 0 0] 71)) (w.heap.size + 1) (Is (w.heap.size + 1)) [] from
    ⟨_, B1, OwnL.nil _ _ _, rfl, fun b hb => by unfold Is at hb; subst hb; rw [hsz]; exact ⟨by omega, by omega⟩, fun k hk => by cases hk⟩)
  have HS := Lib.hid hS
  have HT := Lib.hid (tells_all t)
  unfold tmV
  clear B1 bel r h4 et h1 h2 h3 hS
  go_enter Try.func27, Try.ntmps27
  go_upto_region 2 with (fail)
  have hc0 : ((w.alloc (.cells #[.int .i64 k, .int .i64 c, .bool wr, .int .i64 lb, .slice A1 kids.length n1] 26)).alloc (.cells #[.slice none 0 0] 71)).cell? ⟨w.heap.size, 0, none⟩ = some (.int .i64 k) ∧ ((w.alloc (.cells #[.int .i64 k, .int .i64 c, .bool wr, .int .i64 lb, .slice A1 kids.length n1] 26)).alloc (.cells #[.slice none 0 0] 71)).cell? ⟨w.heap.size, 1, none⟩ = some (.int .i64 c) ∧ ((w.alloc (.cells #[.int .i64 k, .int .i64 c, .bool wr, .int .i64 lb, .slice A1 kids.length n1] 26)).alloc (.cells #[.slice none 0 0] 71)).cell? ⟨w.heap.size, 2, none⟩ = some (.bool wr) ∧ ((w.alloc (.cells #[.int .i64 k, .int .i64 c, .bool wr, .int .i64 lb, .slice A1 kids.length n1] 26)).alloc (.cells #[.slice none 0 0] 71)).cell? ⟨w.heap.size, 3, none⟩ = some (.int .i64 lb) ∧ ((w.alloc (.cells #[.int .i64 k, .int .i64 c, .bool wr, .int .i64 lb, .slice A1 kids.length n1] 26)).alloc (.cells #[.slice none 0 0] 71)).cell? ⟨w.heap.size, 4, none⟩ = some (.slice A1 kids.length n1) := by simp
  generalize (w.alloc (.cells #[.int .i64 k, .int .i64 c, .bool wr, .int .i64 lb, .slice A1 kids.length n1] 26)).alloc (.cells #[.slice none 0 0] 71) = W at *
  obtain ⟨c0, c1, c2, c3, c4⟩ := hc0
  go_wp2_with fail
  refine (HT.out w.heap.size W (w.heap.size + 1) (Is (w.heap.size + 1)) [] S _ H.out (by simpa using hl) RA.out HS.out).mono ?_
  rintro e w1 ⟨rfl, X1, h1, hs1, hk1⟩
  obtain ⟨v, g1, g2, g3, g4, g5⟩ := h1
  have d0 := g1.cell 0 _ rfl
  have hz := hk1.size
  have R := Lib.hid (OwnL.toRd g2 (bytes := 24) (S' := Plus Nowhere w.heap.size w1.heap.size) Flat.keeps (by have : t.count = t.leaves.length := rfl; simp; omega) (Sub.nowhere _) (fun b h1 h2 => .inr ⟨h1, h2⟩))
  have FIN := Lib.hid (BEL.out.trans (hk1.below (B := w.heap.size) (by omega) (fun k e => by unfold Is at e; omega)))
  obtain ⟨A2, n2, rfl⟩ := g2.form
  clear g1 g2 g3 g4 g5 hs1 hk1 c0 c1 c2 c3 c4
  go_wp2
  go_ret
  exact ⟨_, rfl, R.out, FIN.out⟩
end Go.Proofs.Ytfldajplclahfaa
