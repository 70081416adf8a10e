/- Texts merged: Open2, OpenH. -/
import Derived.Test.YtdelngmbpjgphaaGOpenEx
import Derived.OpenShut
/- Expressions, statements and terms that came in: they read as Lean data. -/
namespace Go.Proofs.Ytdelngmbpjgphaa
open Go.ChangeShapes Go.WideShapes Go.ChangeAt Go.RowKit Go.Deep
set_option linter.unusedVariables false
theorem cellsSt : Try.prog.cellsOf 112 = 12 := by kernel_rfl
theorem cellsSts : Try.prog.cellsOf 36 = 1 := by kernel_rfl
theorem bytesSt : Try.prog.bytesOf 112 = 184 := by kernel_rfl

section
variable {H : Type} {enc : TypeId × Value → H} {w : World} {spare : Nat → Bool} {held : Bool}
theorem st_open : ∀ (fuel : Nat) (cs : List Value) (x : DataW H × List MemPlace), DataW.trod enc Try.prog w 0 spare held fuel 112 cs = some x → Light Try.prog 112 x.1 →
    ∃ e, RdSt w (Upto w.heap.size) e cs ∧ St.wt e ≤ Rows.uptoBulk x.1 := by
  intro fuel
  induction fuel using Nat.strongRecOn with
  | ind fuel ih =>
    intro cs x h hL
    obtain ⟨xs, n, rfl, rfl, hlen, hxl, hg⟩ := DataW.trod_struct Try.underlying112 h
    rw [cellsSt] at hlen
    obtain ⟨c0, c1, c2, c3, c4, c5, c6, c7, c8, c9, c10, c11, rfl⟩ := len12 hlen
    obtain ⟨y0, y1, y2, y3, y4, y5, rfl⟩ := len6 hxl
    have g0 := hg 0 _ rfl
    have g1 := hg 1 _ rfl
    have g2 := hg 2 _ rfl
    have g3 := hg 3 _ rfl
    have g4 := hg 4 _ rfl
    have g5 := hg 5 _ rfl
    simp [cellsInt, cellsStr, cellsEx, cellsSts] at g0 g1 g2 g3 g4 g5
    have l1 := hL.field Try.underlying112 (i := 1) (f := _) (d := y1.1) rfl rfl
    have l2 := hL.field Try.underlying112 (i := 2) (f := _) (d := y2.1) rfl rfl
    have l3 := hL.field Try.underlying112 (i := 3) (f := _) (d := y3.1) rfl rfl
    have l4 := hL.field Try.underlying112 (i := 4) (f := _) (d := y4.1) rfl rfl
    have l5 := hL.field Try.underlying112 (i := 5) (f := _) (d := y5.1) rfl rfl
    obtain ⟨k, e0, rfl, wk⟩ := DataW.trod_int Try.underlying3 g0
    obtain ⟨s, e1, rfl, ws⟩ := DataW.trod_string Try.underlying9 g1
    obtain ⟨a, ra, ha⟩ := ex_open _ _ _ g2 l2
    obtain ⟨b, rb, hb⟩ := ex_open _ _ _ g3 l3
    obtain ⟨l, v, e4, hv, hbl⟩ := slice_open (mu := St.wt) (rd := RdSt) Try.underlying36 cellsSt bytesSt (by decide) l4 g4 (fun n' cs' y hn hy hLy => ih n' (by omega) cs' y hy hLy)
    obtain ⟨l', v', e5, hv', hbl'⟩ := slice_open (mu := St.wt) (rd := RdSt) Try.underlying36 cellsSt bytesSt (by decide) l5 g5 (fun n' cs' y hn hy hLy => ih n' (by omega) cs' y hy hLy)
    simp only [List.cons.injEq, and_true] at e0 e1 e4 e5
    subst e0 e1 e4 e5
    refine ⟨.mk k s a b l l', RdSt.shut (inI_wf wk) l1.string ra rb hv hv', ?_⟩
    simp only [St.wt, St.wts_eq, List.map_cons, List.map_nil, Rows.uptoBulk, Rows.uptoBulkAll, Array.length_toList]
    have : s.data.size = s.size := rfl
    omega
theorem sts_open {fuel : Nat} {cs : List Value} {x : DataW H × List MemPlace} (h : DataW.trod enc Try.prog w 0 spare held fuel 36 cs = some x) (hL : Light Try.prog 36 x.1) :
    ∃ l v, cs = [v] ∧ RdSts w (Upto w.heap.size) l v ∧ St.wts l + 1 ≤ Rows.uptoBulk x.1 := by
  obtain ⟨l, v, h1, h2, h3⟩ := slice_open (mu := St.wt) (rd := RdSt) Try.underlying36 cellsSt bytesSt (by decide) hL h (fun n' cs' y _ hy hLy => st_open n' cs' y hy hLy)
  exact ⟨l, v, h1, h2, by rw [St.wts_eq]; exact h3⟩
end
end Go.Proofs.Ytdelngmbpjgphaa
/- A heap that came in: it reads as eight whole numbers. -/
namespace Go.Proofs.Ytdelngmbpjgphaa
open Go.ChangeShapes Go.WideShapes Go.ChangeAt Go.RowKit Go.Deep
set_option linter.unusedVariables false
theorem cellsHp : Try.prog.cellsOf 38 = 8 := by kernel_rfl
theorem okWide_array' {P : Program} {w : World} {r : Reach} {base : Nat} {t e : TypeId} {n : Nat} {v : Value} (ht : P.underlying t = some (.array n e)) (h : Value.okWide P w r base t v) : ∃ cs, v = .agg cs ∧ cs.size = P.cellsOf t := by
  simp only [Value.okWide, ht] at h
  obtain ⟨cs, h1, h2, _⟩ := h
  exact ⟨cs, h1, h2⟩
section
variable {H : Type} {enc : TypeId × Value → H} {w : World} {spare : Nat → Bool} {held : Bool}
theorem heap_open {fuel : Nat} {cs : List Value} {x : DataW H × List MemPlace} (h : DataW.trod enc Try.prog w 0 spare held fuel 38 cs = some x) :
    ∃ l : List Int, cs = l.map (Value.int .i64) ∧ l.length = 8 ∧ ∀ z ∈ l, inI z := by
  obtain ⟨xs, m, rfl, rfl, hlen, hl, hg⟩ := DataW.trod_array Try.underlying38 h
  rw [cellsHp] at hlen
  rw [cellsInt] at hg
  obtain ⟨c0, c1, c2, c3, c4, c5, c6, c7, rfl⟩ := len8 hlen
  obtain ⟨y0, y1, y2, y3, y4, y5, y6, y7, rfl⟩ := len8 hl
  have g0 := hg 0 (by omega); have g1 := hg 1 (by omega); have g2 := hg 2 (by omega); have g3 := hg 3 (by omega); have g4 := hg 4 (by omega); have g5 := hg 5 (by omega); have g6 := hg 6 (by omega); have g7 := hg 7 (by omega)
  simp only [List.drop_succ_cons, List.drop_zero, List.take_succ_cons, List.take_zero, Nat.mul_one, List.getElem?_cons_zero, List.getElem?_cons_succ] at g0 g1 g2 g3 g4 g5 g6 g7
  obtain ⟨z0, e0, _, wz0⟩ := DataW.trod_int Try.underlying3 g0; obtain ⟨z1, e1, _, wz1⟩ := DataW.trod_int Try.underlying3 g1; obtain ⟨z2, e2, _, wz2⟩ := DataW.trod_int Try.underlying3 g2; obtain ⟨z3, e3, _, wz3⟩ := DataW.trod_int Try.underlying3 g3; obtain ⟨z4, e4, _, wz4⟩ := DataW.trod_int Try.underlying3 g4; obtain ⟨z5, e5, _, wz5⟩ := DataW.trod_int Try.underlying3 g5; obtain ⟨z6, e6, _, wz6⟩ := DataW.trod_int Try.underlying3 g6; obtain ⟨z7, e7, _, wz7⟩ := DataW.trod_int Try.underlying3 g7
  simp only [List.cons.injEq, and_true] at e0 e1 e2 e3 e4 e5 e6 e7
  subst e0 e1 e2 e3 e4 e5 e6 e7
  refine ⟨[z0, z1, z2, z3, z4, z5, z6, z7], rfl, rfl, ?_⟩
  intro z hz
  simp only [List.mem_cons, List.not_mem_nil, or_false] at hz
  rcases hz with h | h | h | h | h | h | h | h
  · rw [h]; exact inI_wf wz0
  · rw [h]; exact inI_wf wz1
  · rw [h]; exact inI_wf wz2
  · rw [h]; exact inI_wf wz3
  · rw [h]; exact inI_wf wz4
  · rw [h]; exact inI_wf wz5
  · rw [h]; exact inI_wf wz6
  · rw [h]; exact inI_wf wz7
end
end Go.Proofs.Ytdelngmbpjgphaa
