/- Graphs that came in: a number of nodes and a plain list of pairs. -/
import Derived.Test.YtknaoianhjeccaaDoorOpenFlat
import Derived.Test.YtknaoianhjeccaaDoorPairRow
namespace Go.Proofs.YtknaoianhjeccaaDoor
open Go.ChangeShapes Go.WideShapes Go.ChangeAt Go.RowKit Go.Deep
set_option linter.unusedVariables false
theorem cellsGrInt : Tryd.prog.cellsOf 3 = 1 := by kernel_rfl
theorem cellsGrEdge : Tryd.prog.cellsOf 49 = 2 := by kernel_rfl
theorem bytesGrEdge : Tryd.prog.bytesOf 49 = 16 := by kernel_rfl
theorem cellsGrEdges : Tryd.prog.cellsOf 22 = 1 := by kernel_rfl
theorem cellsGr : Tryd.prog.cellsOf 24 = 2 := by kernel_rfl
section
variable {H : Type} {enc : TypeId × Value → H} {w : World} {spare : Nat → Bool} {held : Bool}
theorem edges_open {fuel : Nat} {cs : List Value} {x : DataW H × List MemPlace} (h : DataW.trod enc Tryd.prog w 0 spare held fuel 22 cs = some x) (hL : Light Tryd.prog 22 x.1) :
    ∃ l v, cs = [v] ∧ RdP w (Upto w.heap.size) l v ∧ l.length + 1 ≤ Rows.uptoBulk x.1 := by
  obtain ⟨l, v, h1, h2, h3⟩ := slice_open (mu := fun (_ : Int × Int) => 1) (rd := Flat encP okPr) Tryd.underlying22 cellsGrEdge bytesGrEdge (by decide) hL h (fun n' cs' y _ hy hLy => by
    obtain ⟨xs, n, rfl, rfl, hlen, hxl, hg⟩ := DataW.trod_struct Tryd.underlying49 hy
    rw [cellsGrEdge] at hlen
    obtain ⟨c0, c1, rfl⟩ := len2 hlen
    obtain ⟨y0, y1, rfl⟩ := len2 hxl
    have g0 := hg 0 _ rfl
    have g1 := hg 1 _ rfl
    simp [cellsGrInt] at g0 g1
    obtain ⟨k0, e0, e0', wk0⟩ := DataW.trod_int Tryd.underlying3 g0
    obtain ⟨k1, e1, e1', wk1⟩ := DataW.trod_int Tryd.underlying3 g1
    simp only [List.cons.injEq, and_true] at e0 e1
    subst e0 e1
    exact ⟨(k0, k1), ⟨rfl, inI_wf wk0, inI_wf wk1⟩, by simp [Rows.uptoBulk]⟩)
  exact ⟨l, v, h1, h2, by rw [sum_one] at h3; exact h3⟩
theorem graph_open {fuel : Nat} {cs : List Value} {x : DataW H × List MemPlace} (h : DataW.trod enc Tryd.prog w 0 spare held fuel 24 cs = some x) (hL : Light Tryd.prog 24 x.1) :
    ∃ N ps v, cs = [.int .i64 N, v] ∧ inI N ∧ RdP w (Upto w.heap.size) ps v ∧ ps.length + 1 ≤ Rows.uptoBulk x.1 := by
  obtain ⟨xs, n, rfl, rfl, hlen, hxl, hg⟩ := DataW.trod_struct Tryd.underlying24 h
  rw [cellsGr] at hlen
  obtain ⟨c0, c1, rfl⟩ := len2 hlen
  obtain ⟨y0, y1, rfl⟩ := len2 hxl
  have g0 := hg 0 _ rfl
  have g1 := hg 1 _ rfl
  simp [cellsGrInt, cellsGrEdges] at g0 g1
  have l1 := hL.field Tryd.underlying24 (i := 1) (f := _) (d := y1.1) rfl rfl
  obtain ⟨k0, e0, e0', wk0⟩ := DataW.trod_int Tryd.underlying3 g0
  obtain ⟨l, v, e1, hr, hq⟩ := edges_open g1 l1
  simp only [List.cons.injEq, and_true] at e0 e1
  subst e0 e1
  refine ⟨k0, l, c1, rfl, inI_wf wk0, hr, ?_⟩
  simp only [Rows.uptoBulk, Rows.uptoBulkAll, List.map_cons, List.map_nil]
  omega
end
end Go.Proofs.YtknaoianhjeccaaDoor
