/- Slices of integers that came in: they read as plain lists. -/
import Derived.Test.YthcafocpifjopaaDoorOpenFlat
namespace Go.Proofs.YthcafocpifjopaaDoor
open Go.ChangeShapes Go.WideShapes Go.ChangeAt Go.RowKit Go.Deep
set_option linter.unusedVariables false
theorem cellsIi : Tryd.prog.cellsOf 3 = 1 := by kernel_rfl
theorem bytesIi : Tryd.prog.bytesOf 3 = 8 := by kernel_rfl
section
variable {H : Type} {enc : TypeId × Value → H} {w : World} {spare : Nat → Bool} {held : Bool}
theorem is_open {fuel : Nat} {cs : List Value} {x : DataW H × List MemPlace} (h : DataW.trod enc Tryd.prog w 0 spare held fuel 22 cs = some x) (hL : Light Tryd.prog 22 x.1) :
    ∃ l v, cs = [v] ∧ RdI w (Upto w.heap.size) l v ∧ l.length + 1 ≤ Rows.uptoBulk x.1 := by
  obtain ⟨l, v, h1, h2, h3⟩ := slice_open (mu := fun (_ : Int) => 1) (rd := Flat encI inI) Tryd.underlying22 cellsIi bytesIi (by decide) hL h (fun n' cs' y _ hy hLy => by
    obtain ⟨k, e, e2, wk⟩ := DataW.trod_int Tryd.underlying3 hy
    exact ⟨k, ⟨e, inI_wf wk⟩, by rw [e2]; simp [Rows.uptoBulk]⟩)
  exact ⟨l, v, h1, h2, by rw [sum_one] at h3; exact h3⟩
end
end Go.Proofs.YthcafocpifjopaaDoor
