/- Expressions that came in: they read as Lean data. -/
import Derived.Test.YtijahadmaggncaaDoorOpen
namespace Go.Proofs.YtijahadmaggncaaDoor
open Go.ChangeShapes Go.WideShapes Go.ChangeAt Go.RowKit Go.Deep
set_option linter.unusedVariables false
instance : Inhabited Ex := ⟨.mk 0 0 ⟨#[]⟩ []⟩
instance : Inhabited St := ⟨.mk 0 ⟨#[]⟩ default default [] []⟩
instance : Inhabited Tm := ⟨.mk 0 0 false 0 []⟩
theorem cellsInt : Tryd.prog.cellsOf 3 = 1 := by kernel_rfl
theorem cellsStr : Tryd.prog.cellsOf 9 = 1 := by kernel_rfl
theorem cellsBool : Tryd.prog.cellsOf 4 = 1 := by kernel_rfl
theorem cellsEx : Tryd.prog.cellsOf 74 = 4 := by kernel_rfl
theorem cellsExs : Tryd.prog.cellsOf 72 = 1 := by kernel_rfl
theorem bytesEx : Tryd.prog.bytesOf 74 = 56 := by kernel_rfl

section
variable {H : Type} {enc : TypeId × Value → H} {w : World} {spare : Nat → Bool} {held : Bool}
theorem ex_open : ∀ (fuel : Nat) (cs : List Value) (x : DataW H × List MemPlace), DataW.trod enc Tryd.prog w 0 spare held fuel 74 cs = some x → Light Tryd.prog 74 x.1 →
    ∃ e, RdEx w (Upto w.heap.size) e cs ∧ Ex.wt e ≤ Rows.uptoBulk x.1 := by
  intro fuel
  induction fuel using Nat.strongRecOn with
  | ind fuel ih =>
    intro cs x h hL
    obtain ⟨xs, n, rfl, rfl, hlen, hxl, hg⟩ := DataW.trod_struct Tryd.underlying74 h
    rw [cellsEx] at hlen
    obtain ⟨c0, c1, c2, c3, rfl⟩ := len4 hlen
    obtain ⟨y0, y1, y2, y3, rfl⟩ := len4 hxl
    have g0 := hg 0 _ rfl
    have g1 := hg 1 _ rfl
    have g2 := hg 2 _ rfl
    have g3 := hg 3 _ rfl
    simp [cellsInt, cellsStr, cellsExs] at g0 g1 g2 g3
    have l2 := hL.field Tryd.underlying74 (i := 2) (f := _) (d := y2.1) rfl rfl
    have l3 := hL.field Tryd.underlying74 (i := 3) (f := _) (d := y3.1) rfl rfl
    obtain ⟨k, e0, rfl, wk⟩ := DataW.trod_int Tryd.underlying3 g0
    obtain ⟨m, e1, rfl, wm⟩ := DataW.trod_int Tryd.underlying3 g1
    obtain ⟨s, e2, rfl, ws⟩ := DataW.trod_string Tryd.underlying9 g2
    obtain ⟨l, v, e3, hv, hb⟩ := slice_open (mu := Ex.wt) (rd := RdEx) Tryd.underlying72 cellsEx bytesEx (by decide) l3 g3 (fun n' cs' y hn hy hLy => ih n' (by omega) cs' y hy hLy)
    simp only [List.cons.injEq, and_true] at e0 e1 e2 e3
    subst e0 e1 e2 e3
    refine ⟨.mk k m s l, RdEx.shut (inI_wf wk) (inI_wf wm) l2.string hv, ?_⟩
    simp only [Ex.wt, Ex.wts_eq, List.map_cons, List.map_nil, Rows.uptoBulk, Rows.uptoBulkAll, Array.length_toList]
    have : s.data.size = s.size := rfl
    omega
end
end Go.Proofs.YtijahadmaggncaaDoor
