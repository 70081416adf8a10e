/- The law of DequePlays: both answer alike. -/
import Derived.Test.YtmpononkbdfkmaaDq5
import Derived.Test.YtmpononkbdfkmaaUf7
import Derived.Test.YtmpononkbdfkmaaOpenFlat
namespace Go.Proofs.Ytmpononkbdfkmaa
open Go.RowKit
set_option linter.unusedVariables false
set_option maxHeartbeats 400000 in
theorem equalP (l : List (Int × Int)) (w : World) (S T : Blocks) (v u : Value) (hS : Sub S (Upto w.heap.size)) (hT : Sub T (Upto w.heap.size)) (r : RdP w S l v) (r' : RdP w T l u) :
    Calls Try.prog 35 #[v, u] w fun e w' => e = .returned (.bool true) ∧ Below w.heap.size w w' := by
  obtain ⟨A, cap, rfl, hl, hcm, hby⟩ := r.form
  obtain ⟨A', cap', rfl, hl', hcm', _⟩ := r'.form
  unfold maxLen at hcm hcm'
  go_enter Try.func35, Try.ntmps35
  go_wp2
  go_loopw [13] (fun t wr => ∃ q : Nat, q ≤ l.length ∧ t = .int .i64 q ∧ Below w.heap.size w wr) (fun t _ => l.length - (intOf t).toNat)
  case atStart => exact ⟨0, by omega, rfl, Below.refl _ _⟩
  case round =>
    obtain ⟨q, hq, rfl, hbel⟩ := hrel
    by_cases hlt : q < l.length
    · obtain ⟨b, off, rfl, hb, hok, hc, hd⟩ := RdP.at1 r hlt
      obtain ⟨b', off', rfl, hb', hok', hc', hd'⟩ := RdP.at1 r' hlt
      have e0 := (hbel.cell (p := ⟨b, off + q * 2, none⟩) (hS _ hb)).trans hc
      have e1 := (hbel.cell (p := ⟨b', off' + q * 2, none⟩) (hT _ hb')).trans hc'
      have f0 := (hbel.cell (p := ⟨b, off + q * 2 + 1, none⟩) (hS _ hb)).trans hd
      have f1 := (hbel.cell (p := ⟨b', off' + q * 2 + 1, none⟩) (hT _ hb')).trans hd'
      have hq1 : (q : Int) < (l.length : Int) := by omega
      have hq0 : (0 : Int) ≤ (q : Int) := by omega
      clear r r' hc hc' hd hd'
      go_wp2
      all_goals (try go_quiet (fail))
      all_goals (try go_wp2)
      go_roundw
      case rel => exact ⟨q + 1, by omega, by go_num, below_drewN hbel _⟩
      case measure => simp [intOf]; omega
    · go_wp2
      go_ret
      exact ⟨rfl, hbel⟩
theorem dequePlays_walk (ops : List DOp) (w : World) (v : Value) (r : RdD w (Upto w.heap.size) ops v) :
    Calls Try.prog 6 #[v] w fun e w' => e = .returned (.bool true) ∧ Below w.heap.size w w' := by
  have R := Lib.hid r
  clear r
  go_enter Try.func6, Try.ntmps6
  go_wp2_with fail
  refine (dqplay_any ops w _ (Sub.refl _) v R.out).mono ?_
  rintro e w1 ⟨x1, y1, rfl, rx, ry, b1⟩
  have RX := Lib.hid rx
  have RY := Lib.hid ry
  clear rx ry
  go_wp2_with fail
  refine (uplay2_any ops w1 _ (Sub.upto b1.size) v (R.out.keep Flat.keeps (Sub.refl _) (same_of_below b1 (Sub.refl _)))).mono ?_
  rintro e w2 ⟨x2, y2, rfl, rx, ry, b2⟩
  have hz := b2.size
  have PX := Lib.hid rx
  have PY := Lib.hid ry
  have QX := Lib.hid (RX.out.keep Flat.keeps (Sub.refl _) (same_of_below b2 (Sub.plus_upto (Sub.nowhere _))))
  have QY := Lib.hid (RY.out.keep Flat.keeps (Sub.refl _) (same_of_below b2 (Sub.plus_upto (Sub.nowhere _))))
  clear rx ry RX RY
  have s1 : Sub (Plus Nowhere w.heap.size w1.heap.size) (Upto w2.heap.size) := Sub.plus_to (j := 0) (Sub.nowhere _) (by omega) hz
  have s2 : Sub (Plus Nowhere w1.heap.size w2.heap.size) (Upto w2.heap.size) := Sub.plus_upto (Sub.nowhere _)
  go_wp2_with fail
  refine (equalP _ w2 _ _ _ _ s1 s2 QX.out PX.out).mono ?_
  rintro e w3 ⟨rfl, b3⟩
  have hz3 := b3.size
  have RY3 := Lib.hid (QY.out.keep Flat.keeps (Sub.refl _) (same_of_below b3 s1))
  have PY3 := Lib.hid (PY.out.keep Flat.keeps (Sub.refl _) (same_of_below b3 s2))
  go_wp2_with fail
  refine (equalI _ w3 _ _ _ _ (s1.trans (Sub.upto hz3)) (s2.trans (Sub.upto hz3)) RY3.out PY3.out).mono ?_
  rintro e w4 ⟨rfl, b4⟩
  go_wp2
  go_ret
  exact ⟨rfl, ((b1.trans (b2.mono b1.size)).trans (b3.mono (Nat.le_trans b1.size hz))).trans (b4.mono (Nat.le_trans (Nat.le_trans b1.size hz) hz3))⟩
theorem cellsOfInt2 : Try.prog.cellsOf 3 = 1 := by kernel_rfl
theorem cellsOfDqOp : Try.prog.cellsOf 99 = 2 := by kernel_rfl
theorem bytesOfDqOp : Try.prog.bytesOf 99 = 16 := by kernel_rfl
section
open Go.ChangeShapes Go.WideShapes Go.ChangeAt Go.RowKit Go.Deep
variable {H : Type} {enc : TypeId × Value → H} {w : World} {spare : Nat → Bool} {held : Bool}
theorem dqops_open {fuel : Nat} {cs : List Value} {x : DataW H × List MemPlace} (h : DataW.trod enc Try.prog w 0 spare held fuel 35 cs = some x) (hL : Light Try.prog 35 x.1) :
    ∃ l v, cs = [v] ∧ RdD w (Upto w.heap.size) l v ∧ l.length + 1 ≤ Rows.uptoBulk x.1 := by
  obtain ⟨l, v, h1, h2, h3⟩ := slice_open (mu := fun (_ : DOp) => 1) (rd := Flat encD okD) Try.underlying35 cellsOfDqOp bytesOfDqOp (by decide) hL h (fun n' cs' y _ hy hLy => by
    obtain ⟨xs, n, rfl, rfl, hlen, hxl, hg⟩ := DataW.trod_struct Try.underlying99 hy
    rw [cellsOfDqOp] at hlen
    obtain ⟨c0, c1, rfl⟩ := len2 hlen
    obtain ⟨y0, y1, rfl⟩ := len2 hxl
    have g0 := hg 0 _ rfl
    have g1 := hg 1 _ rfl
    simp [cellsOfInt2] at g0 g1
    obtain ⟨k0, e0, e0', wk0⟩ := DataW.trod_int Try.underlying3 g0
    obtain ⟨k1, e1, e1', wk1⟩ := DataW.trod_int Try.underlying3 g1
    simp only [List.cons.injEq, and_true] at e0 e1
    subst e0 e1
    exact ⟨⟨k0, k1⟩, ⟨rfl, inI_wf wk0, inI_wf wk1⟩, by simp [Rows.uptoBulk]⟩)
  exact ⟨l, v, h1, h2, by rw [sum_one] at h3; exact h3⟩
end
end Go.Proofs.Ytmpononkbdfkmaa
