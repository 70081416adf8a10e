/- A name looked up from the rows' end is the name looked up from the pairs' front. -/
import Derived.Test.YtoijobnpfibboaaDoorRnSpec
namespace Go.Proofs.YtoijobnpfibboaaDoor
set_option linter.unusedVariables false
theorem back_get {V : Env} {i : Nat} (hi : i < V.length) : ((V.map (·.1)).reverse)[i]? = some (V[V.length - 1 - i]'(by omega)).1 ∧ ((V.map (·.2)).reverse)[i]? = some (V[V.length - 1 - i]'(by omega)).2 := by
  constructor
  · rw [List.getElem?_reverse (by simpa using hi), List.length_map, List.getElem?_map, List.getElem?_eq_getElem (show V.length - 1 - i < V.length by omega)]; rfl
  · rw [List.getElem?_reverse (by simpa using hi), List.length_map, List.getElem?_map, List.getElem?_eq_getElem (show V.length - 1 - i < V.length by omega)]; rfl
/-- found at place i, and not behind it -/
theorem look_back {V : Env} {s n : Str} {i : Nat} (hi : i < V.length) (hn : ∀ (j : Nat) (x : Str), i < j → ((V.map (·.1)).reverse)[j]? = some x → x ≠ s) (h1 : ((V.map (·.1)).reverse)[i]? = some s) (h2 : ((V.map (·.2)).reverse)[i]? = some n) : look V s = n := by
  have hb := back_get hi
  rw [h1] at hb
  rw [h2] at hb
  have e1 := Option.some.inj hb.1
  have e2 := Option.some.inj hb.2
  rw [e2]
  refine look_hit (q := V.length - 1 - i) (by omega) (fun j hj => ?_) e1.symm
  have hb2 := (back_get (V := V) (i := V.length - 1 - j) (by omega)).1
  have := hn (V.length - 1 - j) _ (by omega) hb2
  simpa only [show V.length - 1 - (V.length - 1 - j) = j by omega] using this
theorem look_all {V : Env} {s : Str} (hn : ∀ (j : Nat) (x : Str), ((V.map (·.1)).reverse)[j]? = some x → x ≠ s) : look V s = s := by
  refine look_miss fun p hp => ?_
  obtain ⟨j, hj, rfl⟩ := List.getElem_of_mem hp
  have hb := (back_get (V := V) (i := V.length - 1 - j) (by omega)).1
  have := hn _ _ hb
  simpa only [show V.length - 1 - (V.length - 1 - j) = j by omega] using this
end Go.Proofs.YtoijobnpfibboaaDoor
