/- Expressions, statements and terms that came in: they read as Lean data. -/
import Derived.Test.YtijahadmaggncaaDoorOpenEx
namespace Go.Proofs.YtijahadmaggncaaDoor
open Go.ChangeShapes Go.WideShapes Go.ChangeAt Go.RowKit Go.Deep
set_option linter.unusedVariables false
theorem cellsSt : Tryd.prog.cellsOf 76 = 12 := by kernel_rfl
theorem cellsSts : Tryd.prog.cellsOf 22 = 1 := by kernel_rfl
theorem bytesSt : Tryd.prog.bytesOf 76 = 184 := by kernel_rfl

section
variable {H : Type} {enc : TypeId × Value → H} {w : World} {spare : Nat → Bool} {held : Bool}
theorem st_open : ∀ (fuel : Nat) (cs : List Value) (x : DataW H × List MemPlace), DataW.trod enc Tryd.prog w 0 spare held fuel 76 cs = some x → Light Tryd.prog 76 x.1 →
    ∃ e, RdSt w (Upto w.heap.size) e cs ∧ St.wt e ≤ Rows.uptoBulk x.1 := by
  intro fuel
  induction fuel using Nat.strongRecOn with
  | ind fuel ih =>
    intro cs x h hL
    obtain ⟨xs, n, rfl, rfl, hlen, hxl, hg⟩ := DataW.trod_struct Tryd.underlying76 h
    rw [cellsSt] at hlen
    obtain ⟨c0, c1, c2, c3, c4, c5, c6, c7, c8, c9, c10, c11, rfl⟩ := len12 hlen
    obtain ⟨y0, y1, y2, y3, y4, y5, rfl⟩ := len6 hxl
    have g0 := hg 0 _ rfl
    have g1 := hg 1 _ rfl
    have g2 := hg 2 _ rfl
    have g3 := hg 3 _ rfl
    have g4 := hg 4 _ rfl
    have g5 := hg 5 _ rfl
    simp [cellsInt, cellsStr, cellsEx, cellsSts] at g0 g1 g2 g3 g4 g5
    have l1 := hL.field Tryd.underlying76 (i := 1) (f := _) (d := y1.1) rfl rfl
    have l2 := hL.field Tryd.underlying76 (i := 2) (f := _) (d := y2.1) rfl rfl
    have l3 := hL.field Tryd.underlying76 (i := 3) (f := _) (d := y3.1) rfl rfl
    have l4 := hL.field Tryd.underlying76 (i := 4) (f := _) (d := y4.1) rfl rfl
    have l5 := hL.field Tryd.underlying76 (i := 5) (f := _) (d := y5.1) rfl rfl
    obtain ⟨k, e0, rfl, wk⟩ := DataW.trod_int Tryd.underlying3 g0
    obtain ⟨s, e1, rfl, ws⟩ := DataW.trod_string Tryd.underlying9 g1
    obtain ⟨a, ra, ha⟩ := ex_open _ _ _ g2 l2
    obtain ⟨b, rb, hb⟩ := ex_open _ _ _ g3 l3
    obtain ⟨l, v, e4, hv, hbl⟩ := slice_open (mu := St.wt) (rd := RdSt) Tryd.underlying22 cellsSt bytesSt (by decide) l4 g4 (fun n' cs' y hn hy hLy => ih n' (by omega) cs' y hy hLy)
    obtain ⟨l', v', e5, hv', hbl'⟩ := slice_open (mu := St.wt) (rd := RdSt) Tryd.underlying22 cellsSt bytesSt (by decide) l5 g5 (fun n' cs' y hn hy hLy => ih n' (by omega) cs' y hy hLy)
    simp only [List.cons.injEq, and_true] at e0 e1 e4 e5
    subst e0 e1 e4 e5
    refine ⟨.mk k s a b l l', RdSt.shut (inI_wf wk) l1.string ra rb hv hv', ?_⟩
    simp only [St.wt, St.wts_eq, List.map_cons, List.map_nil, Rows.uptoBulk, Rows.uptoBulkAll, Array.length_toList]
    have : s.data.size = s.size := rfl
    omega
theorem sts_open {fuel : Nat} {cs : List Value} {x : DataW H × List MemPlace} (h : DataW.trod enc Tryd.prog w 0 spare held fuel 22 cs = some x) (hL : Light Tryd.prog 22 x.1) :
    ∃ l v, cs = [v] ∧ RdSts w (Upto w.heap.size) l v ∧ St.wts l + 1 ≤ Rows.uptoBulk x.1 := by
  obtain ⟨l, v, h1, h2, h3⟩ := slice_open (mu := St.wt) (rd := RdSt) Tryd.underlying22 cellsSt bytesSt (by decide) hL h (fun n' cs' y _ hy hLy => st_open n' cs' y hy hLy)
  exact ⟨l, v, h1, h2, by rw [St.wts_eq]; exact h3⟩
end
end Go.Proofs.YtijahadmaggncaaDoor
