/- The walk of the reference's Both. -/
import Derived.Test.YtbpooepbnnbipaaSpSpec
import Derived.Test.YtbpooepbnnbipaaRdT
import Derived.Test.YtbpooepbnnbipaaBlk
import Derived.Test.YtbpooepbnnbipaaAppStep
import Derived.BigRegion
import Derived.StillTailTactics
namespace Go.Proofs.Ytbpooepbnnbipaa
open Go.RowKit
set_option linter.unusedVariables false
abbrev tm0 : Value := .agg #[.int .i64 0, .int .i64 0, .bool false, .int .i64 0, .slice none 0 0]
set_option maxHeartbeats 1000000 in
set_option maxRecDepth 100000 in
theorem both_none (t : Tm) (ht : t.two = none) (w : World) (S : Blocks) (V : Value) (r : RdT w S t V) :
    Calls Try.prog 40 #[V] w fun e w' => e = .returned (.tuple #[tm0, tm0, .bool false]) ∧ Below w.heap.size w w' := by
  obtain ⟨k, c, wr, lb, kids, v, rfl, rfl, _, _, _, h4⟩ := r
  obtain ⟨A, cap, rfl, hc1, hc2, hc3⟩ := h4.form
  have hn := Tm.two_none ht
  simp only [Tm.kind, Tm.kids] at hn
  unfold maxLen at hc2
  unfold tmV tm0
  clear h4 ht
  by_cases h2 : k = 2
  · subst h2
    have hk2 : kids.length < 2 := by omega
    clear hn
    go_enter Try.func40, Try.ntmps40
    go_wp2
    exact bodyPost_ret (v := .tuple #[.agg #[.int .i64 0, .int .i64 0, .bool false, .int .i64 0, .slice none 0 0], .agg #[.int .i64 0, .int .i64 0, .bool false, .int .i64 0, .slice none 0 0], .bool false]) (by simp [results, Try.results40, go_sem]) rfl ⟨rfl, (((Below.refl _ _).alloc (Nat.le_refl _) _).alloc (by simp) _).alloc (by simp; omega) _⟩
  · by_cases h3 : k = 3
    · subst h3
      have hk2 : kids.length < 2 := by omega
      clear hn
      go_enter Try.func40, Try.ntmps40
      go_wp2
      exact bodyPost_ret (v := .tuple #[.agg #[.int .i64 0, .int .i64 0, .bool false, .int .i64 0, .slice none 0 0], .agg #[.int .i64 0, .int .i64 0, .bool false, .int .i64 0, .slice none 0 0], .bool false]) (by simp [results, Try.results40, go_sem]) rfl ⟨rfl, (((Below.refl _ _).alloc (Nat.le_refl _) _).alloc (by simp) _).alloc (by simp; omega) _⟩
    · have e2 : (k != 2) = true := by simpa using h2
      have e3 : (k != 3) = true := by simpa using h3
      clear hn h2 h3
      go_enter Try.func40, Try.ntmps40
      go_wp2
      exact bodyPost_ret (v := .tuple #[.agg #[.int .i64 0, .int .i64 0, .bool false, .int .i64 0, .slice none 0 0], .agg #[.int .i64 0, .int .i64 0, .bool false, .int .i64 0, .slice none 0 0], .bool false]) (by simp [results, Try.results40, go_sem]) rfl ⟨rfl, (((Below.refl _ _).alloc (Nat.le_refl _) _).alloc (by simp) _).alloc (by simp; omega) _⟩
set_option maxHeartbeats 1000000 in
set_option maxRecDepth 100000 in
theorem both_two (t : Tm) (p : Bool) (a b : Tm) (ht : t.two = some (p, a, b)) (w : World) (S : Blocks) (V : Value) (hS : Sub S (Upto w.heap.size)) (r : RdT w S t V) :
    Calls Try.prog 40 #[V] w fun e w' => (∃ Va Vb, e = .returned (.tuple #[Va, Vb, .bool true]) ∧ RdT w' S a Va ∧ RdT w' S b Vb) ∧ Below w.heap.size w w' := by
  obtain ⟨k, c, wr, lb, kids, v, rfl, rfl, _, _, _, hkids⟩ := r
  obtain ⟨hkk, r', hr'⟩ := Tm.two_kind ht
  simp only [Tm.kind, Tm.kids] at hkk hr'
  subst hr'
  obtain ⟨A, cap, rfl, hcl, hcm, _⟩ := hkids.form
  have hl2 : 2 ≤ (a :: b :: r').length := by simp
  obtain ⟨b0, off, k0, c0, wr0, lb0, v0, rfl, hsb, x0, x1, x2, x3, x4, ra⟩ := RdTms.kid hkids (q := 0) (by simp)
  obtain ⟨b0', off', k1, c1, wr1, lb1, v1, hA, hsb', y0, y1, y2, y3, y4, rb⟩ := RdTms.kid hkids (q := 1) (by simp)
  injection hA with hA
  injection hA with e1 e2
  subst e1 e2
  simp only [List.getElem_cons_zero, List.getElem_cons_succ] at ra rb
  rw [Nat.zero_mul, Nat.add_zero] at x0 x1 x2 x3 x4
  rw [Nat.one_mul] at y0 y1 y2 y3 y4
  have RA := Lib.hid ra
  have RB := Lib.hid rb
  have HS := Lib.hid hS
  have hb0 : b0 < w.heap.size := hS _ hsb
  have hb01 : b0 < w.heap.size + 1 := by omega
  have hb02 : b0 < w.heap.size + 1 + 1 := by omega
  have hb03 : b0 < w.heap.size + 2 := by omega
  obtain ⟨A1, m1, n1, rfl⟩ := ra.slice
  obtain ⟨A2, m2, n2, rfl⟩ := rb.slice
  generalize (a :: b :: r').length = n at *
  clear ra rb hkids ht hS
  have hn0 : (0 : Int) < (n : Int) := by omega
  have hn00 : 0 < n := by omega
  have hn1 : (1 : Int) < (n : Int) := by omega
  unfold tmV
  unfold maxLen at hcm
  cases p
  all_goals
    simp only [Bool.false_eq_true, if_false, if_true] at hkk
    subst hkk
    go_enter Try.func40, Try.ntmps40
    go_upto_region 3 with (fail)
    go_region
    go_wp2
    refine bodyPost_ret (v := .tuple #[.agg #[.int .i64 k0, .int .i64 c0, .bool wr0, .int .i64 lb0, .slice A1 m1 n1], .agg #[.int .i64 k1, .int .i64 c1, .bool wr1, .int .i64 lb1, .slice A2 m2 n2], .bool true]) (by simp [results, Try.results40, go_sem]) rfl ?_
    refine (fun bel => ⟨⟨_, _, rfl, RA.out.go bel HS.out, RB.out.go bel HS.out⟩, bel⟩ : Below w.heap.size w _ → _) ?_
    exact ((((Below.refl _ w).alloc (Nat.le_refl _) _).alloc (by simp) _).alloc (by simp; omega) _).drew
end Go.Proofs.Ytbpooepbnnbipaa
