/- Terms that came in: they read as Lean data; their leaves are no more than they weigh. -/
import Derived.Test.YtbpooepbnnbipaaOpen
import Derived.Test.YtbpooepbnnbipaaRdT
import Derived.Test.YtbpooepbnnbipaaSpSpec
namespace Go.Proofs.Ytbpooepbnnbipaa
open Go.ChangeShapes Go.WideShapes Go.ChangeAt Go.RowKit Go.Deep
set_option linter.unusedVariables false
instance instTmT : Inhabited Tm := ⟨.mk 0 0 false 0 []⟩
theorem cellsIntT : Try.prog.cellsOf 3 = 1 := by kernel_rfl
theorem cellsBoolT : Try.prog.cellsOf 4 = 1 := by kernel_rfl
theorem cellsAcc : Try.prog.cellsOf 23 = 3 := by kernel_rfl
theorem cellsTm : Try.prog.cellsOf 26 = 5 := by kernel_rfl
theorem cellsTms : Try.prog.cellsOf 24 = 1 := by kernel_rfl
theorem bytesTm : Try.prog.bytesOf 26 = 56 := by kernel_rfl
section
variable {H : Type} {enc : TypeId × Value → H} {w : World} {spare : Nat → Bool} {held : Bool}
theorem acc_open {fuel : Nat} {cs : List Value} {x : DataW H × List MemPlace} (h : DataW.trod enc Try.prog w 0 spare held fuel 23 cs = some x) :
    ∃ c wr lb, cs = [.int .i64 c, .bool wr, .int .i64 lb] ∧ inI c ∧ inI lb := by
  obtain ⟨xs, n, rfl, rfl, hlen, hxl, hg⟩ := DataW.trod_struct Try.underlying23 h
  rw [cellsAcc] at hlen
  obtain ⟨c0, c1, c2, rfl⟩ := len3 hlen
  obtain ⟨y0, y1, y2, rfl⟩ := len3 hxl
  have g0 := hg 0 _ rfl
  have g1 := hg 1 _ rfl
  have g2 := hg 2 _ rfl
  simp [cellsIntT, cellsBoolT] at g0 g1 g2
  obtain ⟨k0, e0, e0', wk0⟩ := DataW.trod_int Try.underlying3 g0
  obtain ⟨k1, e1, e1'⟩ := DataW.trod_bool Try.underlying4 g1
  obtain ⟨k2, e2, e2', wk2⟩ := DataW.trod_int Try.underlying3 g2
  simp only [List.cons.injEq, and_true] at e0 e1 e2
  subst e0 e1 e2
  exact ⟨k0, k1, k2, rfl, inI_wf wk0, inI_wf wk2⟩
theorem tm_open : ∀ (fuel : Nat) (cs : List Value) (x : DataW H × List MemPlace), DataW.trod enc Try.prog w 0 spare held fuel 26 cs = some x → Light Try.prog 26 x.1 →
    ∃ e, RdTm w (Upto w.heap.size) e cs ∧ Tm.wt e ≤ Rows.uptoBulk x.1 := by
  intro fuel
  induction fuel using Nat.strongRecOn with
  | ind fuel ih =>
    intro cs x h hL
    obtain ⟨xs, n, rfl, rfl, hlen, hxl, hg⟩ := DataW.trod_struct Try.underlying26 h
    rw [cellsTm] at hlen
    obtain ⟨c0, c1, c2, c3, c4, rfl⟩ := len5 hlen
    obtain ⟨y0, y1, y2, rfl⟩ := len3 hxl
    have g0 := hg 0 _ rfl
    have g1 := hg 1 _ rfl
    have g2 := hg 2 _ rfl
    simp [cellsIntT, cellsAcc, cellsTms] at g0 g1 g2
    have l2 := hL.field Try.underlying26 (i := 2) (f := _) (d := y2.1) rfl rfl
    obtain ⟨k, e0, rfl, wk⟩ := DataW.trod_int Try.underlying3 g0
    obtain ⟨c, wr, lb, ea, wc, wl⟩ := acc_open g1
    obtain ⟨l, v, e3, hv, hb⟩ := slice_open (mu := Tm.wt) (rd := RdTm) Try.underlying24 cellsTm bytesTm (by decide) l2 g2 (fun n' cs' y hn hy hLy => ih n' (by omega) cs' y hy hLy)
    simp only [List.cons.injEq, and_true] at e0 ea e3
    obtain ⟨rfl, rfl, rfl⟩ := ea
    subst e0 e3
    refine ⟨.mk k c wr lb l, RdTm.shut (inI_wf wk) wc wl hv, ?_⟩
    simp only [Tm.wt, Tm.wts_eq, List.map_cons, List.map_nil, Rows.uptoBulk, Rows.uptoBulkAll]
    omega
end
theorem rdT_of {w : World} {S : Blocks} {t : Tm} {cs : Array Value} (h : RdTm w S t cs.toList) : RdT w S t (.agg cs) := by
  obtain ⟨k, c, wr, lb, kids⟩ := t
  obtain ⟨h1, h2, h3, v, e, h4⟩ := RdTm.open_ h
  have : cs = #[.int .i64 k, .int .i64 c, .bool wr, .int .i64 lb, v] := by
    apply Array.toList_inj.1
    rw [e]
  subst this
  exact ⟨k, c, wr, lb, kids, v, rfl, rfl, h1, h2, h3, h4⟩
theorem Tm.count_le_wt (t : Tm) : t.count ≤ t.wt := by
  induction t using Tm.ind with
  | one t h =>
    rw [Tm.count_none h]
    obtain ⟨k, c, wr, lb, kids⟩ := t
    simp only [Tm.wt]
    split <;> omega
  | two t p a b h ha hb =>
    rw [Tm.count_two h]
    obtain ⟨_, r, hr⟩ := Tm.two_kind h
    obtain ⟨k, c, wr, lb, kids⟩ := t
    simp only [Tm.kids] at hr
    subst hr
    simp only [Tm.wt, Tm.wts]
    omega
end Go.Proofs.Ytbpooepbnnbipaa
