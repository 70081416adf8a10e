/- Slices of structs of integers that came in: they read as plain lists. -/
import Derived.Test.YtmpononkbdfkmaaOpenFlat
import Derived.Test.YtmpononkbdfkmaaUf5
namespace Go.Proofs.Ytmpononkbdfkmaa
open Go.ChangeShapes Go.WideShapes Go.ChangeAt Go.RowKit Go.Deep
set_option linter.unusedVariables false
theorem cellsOfInt : Try.prog.cellsOf 3 = 1 := by kernel_rfl
theorem cellsOfSetOp : Try.prog.cellsOf 108 = 3 := by kernel_rfl
theorem bytesOfSetOp : Try.prog.bytesOf 108 = 24 := by kernel_rfl
section
variable {H : Type} {enc : TypeId × Value → H} {w : World} {spare : Nat → Bool} {held : Bool}
theorem setops_open {fuel : Nat} {cs : List Value} {x : DataW H × List MemPlace} (h : DataW.trod enc Try.prog w 0 spare held fuel 46 cs = some x) (hL : Light Try.prog 46 x.1) :
    ∃ l v, cs = [v] ∧ RdO w (Upto w.heap.size) l v ∧ l.length + 1 ≤ Rows.uptoBulk x.1 := by
  obtain ⟨l, v, h1, h2, h3⟩ := slice_open (mu := fun (_ : UOp) => 1) (rd := Flat encUOp okUOp) Try.underlying46 cellsOfSetOp bytesOfSetOp (by decide) hL h (fun n' cs' y _ hy hLy => by
    obtain ⟨xs, n, rfl, rfl, hlen, hxl, hg⟩ := DataW.trod_struct Try.underlying108 hy
    rw [cellsOfSetOp] at hlen
    obtain ⟨c0, c1, c2, rfl⟩ := len3 hlen
    obtain ⟨y0, y1, y2, rfl⟩ := len3 hxl
    have g0 := hg 0 _ rfl
    have g1 := hg 1 _ rfl
    have g2 := hg 2 _ rfl
    simp [cellsOfInt] at g0 g1 g2
    obtain ⟨k0, e0, e0', wk0⟩ := DataW.trod_int Try.underlying3 g0
    obtain ⟨k1, e1, e1', wk1⟩ := DataW.trod_int Try.underlying3 g1
    obtain ⟨k2, e2, e2', wk2⟩ := DataW.trod_int Try.underlying3 g2
    simp only [List.cons.injEq, and_true] at e0 e1 e2
    subst e0 e1 e2
    exact ⟨⟨k0, k1, k2⟩, ⟨rfl, inI_wf wk0, inI_wf wk1, inI_wf wk2⟩, by simp [Rows.uptoBulk]⟩)
  exact ⟨l, v, h1, h2, by rw [sum_one] at h3; exact h3⟩
end
end Go.Proofs.Ytmpononkbdfkmaa
