/- Flat slices that came in: they read as plain lists. -/
import Derived.Test.YtknaoianhjeccaaDoorOpen
import Derived.Test.YtknaoianhjeccaaDoorFlat
namespace Go.Proofs.YtknaoianhjeccaaDoor
open Go.ChangeShapes Go.WideShapes Go.ChangeAt Go.RowKit Go.Deep
set_option linter.unusedVariables false
theorem cellsU : Tryd.prog.cellsOf 37 = 1 := by kernel_rfl
theorem bytesU : Tryd.prog.bytesOf 37 = 8 := by kernel_rfl
theorem sum_one {α : Type} (l : List α) : (l.map fun _ => 1).sum = l.length := by
  induction l with
  | nil => rfl
  | cons a r ih => simp only [List.map_cons, List.sum_cons, List.length_cons, ih]; omega
theorem wfU {n : Int} (h : (Lit.int .u64 n).wf = true) : 0 ≤ n ∧ n < 18446744073709551616 := by
  have : 0 ≤ n ∧ n ≤ 18446744073709551615 := by simpa [Lit.wf, IntKind.min, IntKind.max, IntKind.signed, IntKind.bits] using h
  omega
section
variable {H : Type} {enc : TypeId × Value → H} {w : World} {spare : Nat → Bool} {held : Bool}
theorem us_open {fuel : Nat} {cs : List Value} {x : DataW H × List MemPlace} (h : DataW.trod enc Tryd.prog w 0 spare held fuel 50 cs = some x) (hL : Light Tryd.prog 50 x.1) :
    ∃ l v, cs = [v] ∧ RdU w (Upto w.heap.size) l v ∧ l.length + 1 ≤ Rows.uptoBulk x.1 := by
  obtain ⟨l, v, h1, h2, h3⟩ := slice_open (mu := fun (_ : Nat) => 1) (rd := Flat encU okU) Tryd.underlying50 cellsU bytesU (by decide) hL h (fun n' cs' y _ hy hLy => by
    obtain ⟨k, e, e2, wk⟩ := DataW.trod_int Tryd.underlying37 hy
    have hk := wfU wk
    refine ⟨k.toNat, ⟨?_, ?_⟩, by rw [e2]; simp [Rows.uptoBulk]⟩
    · rw [e, encU, Int.toNat_of_nonneg hk.1]
    · unfold okU; omega)
  exact ⟨l, v, h1, h2, by rw [sum_one] at h3; exact h3⟩
end
end Go.Proofs.YtknaoianhjeccaaDoor
