/- As many ones as elements. -/
import Derived.Test.YtbpooepbnnbipaaOpen
namespace Go.Proofs.Ytbpooepbnnbipaa
set_option linter.unusedVariables false
theorem sum_one {α : Type} (l : List α) : (l.map fun _ => 1).sum = l.length := by
  induction l with
  | nil => rfl
  | cons a r ih => simp only [List.map_cons, List.sum_cons, List.length_cons, ih]; omega
end Go.Proofs.Ytbpooepbnnbipaa
