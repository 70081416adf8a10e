/- The walks of ETwo and of expr.two. -/
import Derived.Test.YtoijobnpfibboaaDoorTwo
import Derived.Test.YtoijobnpfibboaaDoorFlat
import Derived.Laws.Strings
namespace Go.Proofs.YtoijobnpfibboaaDoor
open Go.RowKit
set_option linter.unusedVariables false
abbrev exV (k n : Int) (s : ByteArray) (v : Value) : Value := .agg #[.int .i64 k, .int .i64 n, .string s, v]
/-- the value V reads as the expression e -/
def RdE (w : World) (S : Blocks) (e : Ex) (V : Value) : Prop := ∃ k n s args v, e = .mk k n s args ∧ V = exV k n s v ∧ inI k ∧ inI n ∧ s.size ≤ 140737488355328 ∧ RdExs w S args v
theorem RdE.keep {w w' : World} {S S' : Blocks} {t : Ex} {V : Value} (h : RdE w S t V) (hS : Sub S S') (hk : Same S w w') : RdE w' S' t V := by
  obtain ⟨k, n, s, args, v, e1, e2, h1, h2, h3, h4⟩ := h
  exact ⟨k, n, s, args, v, e1, e2, h1, h2, h3, h4.keep RdEx.keeps hS hk⟩
theorem RdE.go {B : Nat} {w w' : World} {S : Blocks} {t : Ex} {V : Value} (h : RdE w S t V) (hb : Below B w w') (hS : Sub S (Upto B)) : RdE w' S t V := h.keep (Sub.refl _) (same_of_below hb hS)
theorem RdE.slice {w : World} {S : Blocks} {t : Ex} {k n : Int} {s : ByteArray} {v : Value} (h : RdE w S t (exV k n s v)) : ∃ A n cap, v = .slice A n cap := by
  obtain ⟨k', n', s', args, v', _, e, _, _, _, h4⟩ := h
  obtain ⟨A, cap, rfl, _⟩ := h4.form
  injection e with e
  simp only [Array.mk.injEq, List.cons.injEq, and_true] at e
  exact ⟨_, _, _, e.2.2.2⟩
/-- an argument -/
theorem RdExs.arg {w : World} {S : Blocks} {l : List Ex} {A : Option Addr} {n cap : Nat} (h : RdExs w S l (.slice A n cap)) {q : Nat} (hq : q < l.length) :
    ∃ b off k c s v, A = some ⟨b, off, none⟩ ∧ S b ∧ w.cell? ⟨b, off + q * 4, none⟩ = some (.int .i64 k) ∧ w.cell? ⟨b, off + q * 4 + 1, none⟩ = some (.int .i64 c) ∧ w.cell? ⟨b, off + q * 4 + 2, none⟩ = some (.string s) ∧
      w.cell? ⟨b, off + q * 4 + 3, none⟩ = some v ∧ RdE w S l[q] (exV k c s v) := by
  obtain ⟨b, off, cs, hA, hb, _, hc, hr⟩ := RdL.at_ h hq
  generalize l[q] = t at hr
  obtain ⟨k, c, s, args⟩ := t
  obtain ⟨h1, h2, h3, v, rfl, h4⟩ := RdEx.open_ hr
  exact ⟨b, off, k, c, s, v, hA, hb, hc 0 _ rfl, by rw [Nat.add_assoc]; exact hc 1 _ rfl, by rw [Nat.add_assoc]; exact hc 2 _ rfl, by rw [Nat.add_assoc]; exact hc 3 _ rfl, k, c, s, args, v, rfl, rfl, h1, h2, h3, h4⟩
def Ex.isTwo (t : Ex) : Bool := t.two.isSome
theorem etwo_any (t : Ex) (w : World) (S : Blocks) (V : Value) (r : RdE w S t V) :
    Calls Tryd.prog 18 #[V] w fun e w' => e = .returned (.bool t.isTwo) ∧ Below w.heap.size w w' := by
  obtain ⟨k, n, s, args, v, rfl, rfl, _, _, _, h4⟩ := r
  obtain ⟨A, cap, rfl, hc1, hc2, hc3⟩ := h4.form
  unfold maxLen at hc2
  unfold exV
  have hT : (Ex.mk k n s args).isTwo = true ↔ (3 ≤ k ∧ k ≤ 9 ∧ 2 ≤ args.length) := by
    unfold Ex.isTwo
    match args with
    | [] => simp [Ex.two]
    | [x] => simp [Ex.two]
    | x :: y :: r => simp only [Ex.two]; split <;> simp <;> omega
  generalize (Ex.mk k n s args).isTwo = T at *
  generalize args.length = m at *
  clear h4
  have key : (decide (3 ≤ k) && decide (k ≤ 9) && decide (2 ≤ (m : Int))) = T := by
    rw [Bool.eq_iff_iff, hT]; simp [and_assoc]; omega
  clear hT
  subst key
  by_cases h1 : 3 ≤ k
  · by_cases h2 : k ≤ 9
    · go_enter Tryd.func18, Tryd.ntmps18
      go_wp2
      go_ret
      exact ⟨by simp [h1, h2], (Below.refl _ _).alloc (Nat.le_refl _) _⟩
    · go_enter Tryd.func18, Tryd.ntmps18
      go_wp2
      go_ret
      exact ⟨by simp; omega, (Below.refl _ _).alloc (Nat.le_refl _) _⟩
  · go_enter Tryd.func18, Tryd.ntmps18
    go_wp2
    go_ret
    exact ⟨by simp; omega, (Below.refl _ _).alloc (Nat.le_refl _) _⟩
abbrev ex0 : Value := .agg #[.int .i64 0, .int .i64 0, .string ⟨#[]⟩, .slice none 0 0]
theorem two_no (t : Ex) (ht : t.two = none) (w : World) (S : Blocks) (V : Value) (r : RdE w S t V) :
    Calls Tryd.prog 18 #[V] w fun e w' => e = .returned (.bool false) ∧ Below w.heap.size w w' := by
  refine (etwo_any t w S V r).mono ?_
  rintro e w' ⟨rfl, h⟩
  exact ⟨by simp [Ex.isTwo, ht], h⟩
theorem two_yes (t a b : Ex) (ht : t.two = some (a, b)) (w : World) (S : Blocks) (V : Value) (r : RdE w S t V) :
    Calls Tryd.prog 18 #[V] w fun e w' => e = .returned (.bool true) ∧ Below w.heap.size w w' := by
  refine (etwo_any t w S V r).mono ?_
  rintro e w' ⟨rfl, h⟩
  exact ⟨by simp [Ex.isTwo, ht], h⟩
end Go.Proofs.YtoijobnpfibboaaDoor
