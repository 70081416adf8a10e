/- An expression's value (split from Tw5). -/
import Derived.Test.YtijahadmaggncaaDoorTwo
import Derived.Test.YtijahadmaggncaaDoorFlat
import Derived.Laws.Strings
namespace Go.Proofs.YtijahadmaggncaaDoor
open Go.RowKit
set_option linter.unusedVariables false
abbrev exV (k n : Int) (s : ByteArray) (v : Value) : Value := .agg #[.int .i64 k, .int .i64 n, .string s, v]
/-- the value V reads as the expression e -/
def RdE (w : World) (S : Blocks) (e : Ex) (V : Value) : Prop := ∃ k n s args v, e = .mk k n s args ∧ V = exV k n s v ∧ inI k ∧ inI n ∧ s.size ≤ 140737488355328 ∧ RdExs w S args v
theorem RdE.keep {w w' : World} {S S' : Blocks} {t : Ex} {V : Value} (h : RdE w S t V) (hS : Sub S S') (hk : Same S w w') : RdE w' S' t V := by
  obtain ⟨k, n, s, args, v, e1, e2, h1, h2, h3, h4⟩ := h
  exact ⟨k, n, s, args, v, e1, e2, h1, h2, h3, h4.keep RdEx.keeps hS hk⟩
theorem RdE.go {B : Nat} {w w' : World} {S : Blocks} {t : Ex} {V : Value} (h : RdE w S t V) (hb : Below B w w') (hS : Sub S (Upto B)) : RdE w' S t V := h.keep (Sub.refl _) (same_of_below hb hS)
theorem RdE.slice {w : World} {S : Blocks} {t : Ex} {k n : Int} {s : ByteArray} {v : Value} (h : RdE w S t (exV k n s v)) : ∃ A n cap, v = .slice A n cap := by
  obtain ⟨k', n', s', args, v', _, e, _, _, _, h4⟩ := h
  obtain ⟨A, cap, rfl, _⟩ := h4.form
  injection e with e
  simp only [Array.mk.injEq, List.cons.injEq, and_true] at e
  exact ⟨_, _, _, e.2.2.2⟩
/-- an argument -/
theorem RdExs.arg {w : World} {S : Blocks} {l : List Ex} {A : Option Addr} {n cap : Nat} (h : RdExs w S l (.slice A n cap)) {q : Nat} (hq : q < l.length) :
    ∃ b off k c s v, A = some ⟨b, off, none⟩ ∧ S b ∧ w.cell? ⟨b, off + q * 4, none⟩ = some (.int .i64 k) ∧ w.cell? ⟨b, off + q * 4 + 1, none⟩ = some (.int .i64 c) ∧ w.cell? ⟨b, off + q * 4 + 2, none⟩ = some (.string s) ∧
      w.cell? ⟨b, off + q * 4 + 3, none⟩ = some v ∧ RdE w S l[q] (exV k c s v) := by
  obtain ⟨b, off, cs, hA, hb, _, hc, hr⟩ := RdL.at_ h hq
  generalize l[q] = t at hr
  obtain ⟨k, c, s, args⟩ := t
  obtain ⟨h1, h2, h3, v, rfl, h4⟩ := RdEx.open_ hr
  exact ⟨b, off, k, c, s, v, hA, hb, hc 0 _ rfl, by rw [Nat.add_assoc]; exact hc 1 _ rfl, by rw [Nat.add_assoc]; exact hc 2 _ rfl, by rw [Nat.add_assoc]; exact hc 3 _ rfl, k, c, s, args, v, rfl, rfl, h1, h2, h3, h4⟩
end Go.Proofs.YtijahadmaggncaaDoor
