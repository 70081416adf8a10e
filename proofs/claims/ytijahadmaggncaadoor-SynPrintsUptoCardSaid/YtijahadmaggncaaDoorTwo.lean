/- The two arguments of an expression, plainly. -/
import Derived.Test.YtijahadmaggncaaDoorData
namespace Go.Proofs.YtijahadmaggncaaDoor
set_option linter.unusedVariables false
def Ex.two : Ex → Option (Ex × Ex)
  | .mk k _ _ (a :: b :: _) => if 3 ≤ k ∧ k ≤ 9 then some (a, b) else none
  | _ => none
theorem Ex.two_size {t a b : Ex} (h : t.two = some (a, b)) : SizeOf.sizeOf a < SizeOf.sizeOf t ∧ SizeOf.sizeOf b < SizeOf.sizeOf t := by
  match t, h with
  | .mk k c w (x :: y :: r), h =>
    simp only [Ex.two] at h
    split at h
    · simp only [Option.some.injEq, Prod.mk.injEq] at h
      obtain ⟨rfl, rfl⟩ := h
      simp only [Ex.mk.sizeOf_spec, List.cons.sizeOf_spec]
      omega
    · cases h
theorem Ex.two_kind {t a b : Ex} (h : t.two = some (a, b)) : (3 ≤ t.kind ∧ t.kind ≤ 9) ∧ ∃ r, t.args = a :: b :: r := by
  match t, h with
  | .mk k c w (x :: y :: r), h =>
    simp only [Ex.two] at h
    split at h
    · simp only [Option.some.injEq, Prod.mk.injEq] at h
      obtain ⟨rfl, rfl⟩ := h
      exact ⟨by assumption, r, rfl⟩
    · cases h
theorem Ex.two_none {t : Ex} (h : t.two = none) : (t.kind < 3 ∨ 9 < t.kind) ∨ t.args.length < 2 := by
  match t, h with
  | .mk k c w [], h => exact .inr (by simp [Ex.args])
  | .mk k c w [x], h => exact .inr (by simp [Ex.args])
  | .mk k c w (x :: y :: r), h =>
    simp only [Ex.two] at h
    split at h
    · cases h
    · left; simp only [Ex.kind]; omega
theorem Ex.ind {motive : Ex → Prop} (one : ∀ t, t.two = none → motive t) (two : ∀ t a b, t.two = some (a, b) → motive a → motive b → motive t) (t : Ex) : motive t := by
  match h : t.two with
  | none => exact one t h
  | some (a, b) =>
    have hs := Ex.two_size h
    exact two t a b h (Ex.ind one two a) (Ex.ind one two b)
termination_by SizeOf.sizeOf t
end Go.Proofs.YtijahadmaggncaaDoor
