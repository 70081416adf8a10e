/- Events that came in: they read as a plain list. -/
import Derived.Test.YtikjegfjgfhiaaaOpen
import Derived.Test.YtikjegfjgfhiaaaOpenFlat
import Derived.Test.YtikjegfjgfhiaaaHb1
namespace Go.Proofs.Ytikjegfjgfhiaaa
open Go.ChangeShapes Go.WideShapes Go.ChangeAt Go.RowKit Go.Deep
set_option linter.unusedVariables false
instance : Inhabited HEv := ⟨ev0⟩
theorem cellsEvAcc : Try.prog.cellsOf 59 = 3 := by kernel_rfl
theorem cellsEvInt : Try.prog.cellsOf 3 = 1 := by kernel_rfl
theorem cellsEvBool : Try.prog.cellsOf 4 = 1 := by kernel_rfl
theorem cellsEv : Try.prog.cellsOf 61 = 6 := by kernel_rfl
theorem bytesEv : Try.prog.bytesOf 61 = 48 := by kernel_rfl
section
variable {H : Type} {enc : TypeId × Value → H} {w : World} {spare : Nat → Bool} {held : Bool}
theorem evacc_open {fuel : Nat} {cs : List Value} {x : DataW H × List MemPlace} (h : DataW.trod enc Try.prog w 0 spare held fuel 59 cs = some x) :
    ∃ c wr lb, cs = [.int .i64 c, .bool wr, .int .i64 lb] ∧ inI c ∧ inI lb := by
  obtain ⟨xs, n, rfl, rfl, hlen, hxl, hg⟩ := DataW.trod_struct Try.underlying59 h
  rw [cellsEvAcc] at hlen
  obtain ⟨c0, c1, c2, rfl⟩ := len3 hlen
  obtain ⟨y0, y1, y2, rfl⟩ := len3 hxl
  have g0 := hg 0 _ rfl
  have g1 := hg 1 _ rfl
  have g2 := hg 2 _ rfl
  simp [cellsEvInt, cellsEvBool] at g0 g1 g2
  obtain ⟨k0, e0, e0', wk0⟩ := DataW.trod_int Try.underlying3 g0
  obtain ⟨k1, e1, e1'⟩ := DataW.trod_bool Try.underlying4 g1
  obtain ⟨k2, e2, e2', wk2⟩ := DataW.trod_int Try.underlying3 g2
  simp only [List.cons.injEq, and_true] at e0 e1 e2
  subst e0 e1 e2
  exact ⟨k0, k1, k2, rfl, inI_wf wk0, inI_wf wk2⟩
theorem evs_open {fuel : Nat} {cs : List Value} {x : DataW H × List MemPlace} (h : DataW.trod enc Try.prog w 0 spare held fuel 29 cs = some x) (hL : Light Try.prog 29 x.1) :
    ∃ l v, cs = [v] ∧ RdEvs w (Upto w.heap.size) l v ∧ l.length + 1 ≤ Rows.uptoBulk x.1 := by
  obtain ⟨l, v, h1, h2, h3⟩ := slice_open (mu := fun (_ : HEv) => 1) (rd := Flat encEv okEv) Try.underlying29 cellsEv bytesEv (by decide) hL h (fun n' cs' y _ hy hLy => by
    obtain ⟨xs, n, rfl, rfl, hlen, hxl, hg⟩ := DataW.trod_struct Try.underlying61 hy
    rw [cellsEv] at hlen
    obtain ⟨c0, c1, c2, c3, c4, c5, rfl⟩ := len6 hlen
    obtain ⟨y0, y1, y2, y3, rfl⟩ := len4 hxl
    have g0 := hg 0 _ rfl
    have g1 := hg 1 _ rfl
    have g2 := hg 2 _ rfl
    have g3 := hg 3 _ rfl
    simp [cellsEvInt, cellsEvAcc] at g0 g1 g2 g3
    obtain ⟨k0, e0, e0', wk0⟩ := DataW.trod_int Try.underlying3 g0
    obtain ⟨k1, e1, e1', wk1⟩ := DataW.trod_int Try.underlying3 g1
    obtain ⟨k2, e2, e2', wk2⟩ := DataW.trod_int Try.underlying3 g2
    obtain ⟨c, wr, lb, ea, wc, wl⟩ := evacc_open g3
    simp only [List.cons.injEq, and_true] at e0 e1 e2 ea
    obtain ⟨rfl, rfl, rfl⟩ := ea
    subst e0 e1 e2
    exact ⟨⟨k0, k1, k2, c, wr, lb⟩, ⟨rfl, inI_wf wk0, inI_wf wk1, inI_wf wk2, wc, wl⟩, by simp [Rows.uptoBulk]⟩)
  exact ⟨l, v, h1, h2, by rw [sum_one] at h3; exact h3⟩
end
end Go.Proofs.Ytikjegfjgfhiaaa
