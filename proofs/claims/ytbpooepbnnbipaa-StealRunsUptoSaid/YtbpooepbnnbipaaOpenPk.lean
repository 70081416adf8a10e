/- Lists of picks that came in: they read as plain lists. -/
import Derived.Test.YtbpooepbnnbipaaOpen
import Derived.Test.YtbpooepbnnbipaaOpenOne
import Derived.Test.YtbpooepbnnbipaaSyA
import Derived.Test.YtbpooepbnnbipaaOpenTm
namespace Go.Proofs.Ytbpooepbnnbipaa
open Go.ChangeShapes Go.WideShapes Go.ChangeAt Go.RowKit Go.Deep
set_option linter.unusedVariables false
theorem cellsIntPk : Try.prog.cellsOf 3 = 1 := by kernel_rfl
theorem cellsOfPick : Try.prog.cellsOf 63 = 2 := by kernel_rfl
theorem bytesOfPick : Try.prog.bytesOf 63 = 16 := by kernel_rfl
section
variable {H : Type} {enc : TypeId × Value → H} {w : World} {spare : Nat → Bool} {held : Bool}
theorem picks_open {fuel : Nat} {cs : List Value} {x : DataW H × List MemPlace} (h : DataW.trod enc Try.prog w 0 spare held fuel 27 cs = some x) (hL : Light Try.prog 27 x.1) :
    ∃ l v, cs = [v] ∧ RdL (Flat encPk okPk) 2 16 w (Upto w.heap.size) l v ∧ l.length + 1 ≤ Rows.uptoBulk x.1 := by
  obtain ⟨l, v, h1, h2, h3⟩ := slice_open (mu := fun (_ : Int × Int) => 1) (rd := Flat encPk okPk) Try.underlying27 cellsOfPick bytesOfPick (by decide) hL h (fun n' cs' y _ hy hLy => by
    obtain ⟨xs, n, rfl, rfl, hlen, hxl, hg⟩ := DataW.trod_struct Try.underlying63 hy
    rw [cellsOfPick] at hlen
    obtain ⟨c0, c1, rfl⟩ := len2 hlen
    obtain ⟨y0, y1, rfl⟩ := len2 hxl
    have g0 := hg 0 _ rfl
    have g1 := hg 1 _ rfl
    simp [cellsIntPk] at g0 g1
    obtain ⟨k0, e0, e0', wk0⟩ := DataW.trod_int Try.underlying3 g0
    obtain ⟨k1, e1, e1', wk1⟩ := DataW.trod_int Try.underlying3 g1
    simp only [List.cons.injEq, and_true] at e0 e1
    subst e0 e1
    exact ⟨(k0, k1), ⟨rfl, inI_wf wk0, inI_wf wk1⟩, by simp [Rows.uptoBulk]⟩)
  exact ⟨l, v, h1, h2, by rw [sum_one] at h3; exact h3⟩
end
theorem nodes_le_wt (t : Tm) : (nodesT t).length ≤ t.wt := by
  induction t using Tm.ind with
  | one t h =>
    rw [nodesT_none h]
    obtain ⟨k, c, wr, lb, kids⟩ := t
    simp only [Tm.wt, List.length_cons, List.length_nil]
    omega
  | two t p a b h ha hb =>
    rw [nodesT_two h]
    obtain ⟨_, r, hr⟩ := Tm.two_kind h
    obtain ⟨k, c, wr, lb, kids⟩ := t
    simp only [Tm.kids] at hr
    subst hr
    simp only [Tm.wt, Tm.wts, List.length_cons, List.length_append, List.length_map]
    omega
end Go.Proofs.Ytbpooepbnnbipaa
