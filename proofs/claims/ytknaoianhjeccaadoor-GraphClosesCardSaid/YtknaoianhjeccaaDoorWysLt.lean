/- No way leads out of the nodes. -/
import Derived.Test.YtknaoianhjeccaaDoorGrSpec4
namespace Go.Proofs.YtknaoianhjeccaaDoor
set_option linter.unusedVariables false
theorem waysE_lt {N : Nat} {es : List (Nat × Nat)} (hv : ∀ a b, (a, b) ∈ es → a < N ∧ b < N) : ∀ (k i j : Nat), N ≤ j → wsh (edB es) k i j = false
  | 0, i, j, h => by
    cases e : wsh (edB es) 0 i j with
    | false => rfl
    | true => have := (hv i j (edB_iff.1 e)).2; omega
  | k + 1, i, j, h => by
    unfold wsh
    rw [waysE_lt hv k i j h, waysE_lt hv k k j h]
    simp
end Go.Proofs.YtknaoianhjeccaaDoor
