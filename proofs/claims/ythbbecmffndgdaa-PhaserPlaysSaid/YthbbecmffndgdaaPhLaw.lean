/- The law of PhaserPlays: both answer alike. -/
import Derived.Test.YthbbecmffndgdaaPhRef
import Derived.Test.YthbbecmffndgdaaOpen
namespace Go.Proofs.Ythbbecmffndgdaa
open Go.RowKit
set_option linter.unusedVariables false
set_option maxHeartbeats 400000 in
theorem equalPA (l : List (Int × Int)) (w : World) (S T : Blocks) (v u : Value) (hS : Sub S (Upto w.heap.size)) (hT : Sub T (Upto w.heap.size)) (r : RdP w S l v) (r' : RdP w T l u) :
    Calls Try.prog 12 #[v, u] w fun e w' => e = .returned (.bool true) ∧ Below w.heap.size w w' := by
  obtain ⟨A, cap, rfl, hl, hcm, hby⟩ := r.form
  obtain ⟨A', cap', rfl, hl', hcm', _⟩ := r'.form
  unfold maxLen at hcm hcm'
  go_enter Try.func12, Try.ntmps12
  go_wp2
  go_loopw [13] (fun t wr => ∃ q : Nat, q ≤ l.length ∧ t = .int .i64 q ∧ Below w.heap.size w wr) (fun t _ => l.length - (intOf t).toNat)
  case atStart => exact ⟨0, by omega, rfl, Below.refl _ _⟩
  case round =>
    obtain ⟨q, hq, rfl, hbel⟩ := hrel
    by_cases hlt : q < l.length
    · obtain ⟨b, off, rfl, hb, hok, hc, hd⟩ := RdP.at1 r hlt
      obtain ⟨b', off', rfl, hb', hok', hc', hd'⟩ := RdP.at1 r' hlt
      have e0 := (hbel.cell (p := ⟨b, off + q * 2, none⟩) (hS _ hb)).trans hc
      have e1 := (hbel.cell (p := ⟨b', off' + q * 2, none⟩) (hT _ hb')).trans hc'
      have f0 := (hbel.cell (p := ⟨b, off + q * 2 + 1, none⟩) (hS _ hb)).trans hd
      have f1 := (hbel.cell (p := ⟨b', off' + q * 2 + 1, none⟩) (hT _ hb')).trans hd'
      have hq1 : (q : Int) < (l.length : Int) := by omega
      have hq0 : (0 : Int) ≤ (q : Int) := by omega
      clear r r' hc hc' hd hd'
      go_wp2
      all_goals (try go_quiet (fail))
      all_goals (try go_wp2)
      go_roundw
      case rel => exact ⟨q + 1, by omega, by go_num, below_drewN hbel _⟩
      case measure => simp [intOf]; omega
    · go_wp2
      go_ret
      exact ⟨rfl, hbel⟩
theorem phaserPlays_walk (ops : List PhO) (w : World) (v : Value) (r : RdO3 w (Upto w.heap.size) ops v) :
    Calls Try.prog 4 #[v] w fun e w' => e = .returned (.bool true) ∧ Below w.heap.size w w' := by
  have R := Lib.hid r
  have HE := Lib.hid (run_ok ops).ans
  clear r
  go_enter Try.func4, Try.ntmps4
  go_wp2_with fail
  refine (phplay_any ops w _ (Sub.refl _) v R.out).mono ?_
  rintro e w1 ⟨x1, rfl, rx, b1⟩
  have RX := Lib.hid rx
  clear rx
  go_wp2_with fail
  refine (wplay_any ops w1 _ (Sub.upto b1.size) v (R.out.keep Flat.keeps (Sub.refl _) (same_of_below b1 (Sub.refl _)))).mono ?_
  rintro e w2 ⟨x2, rfl, rx, b2⟩
  have hz := b2.size
  have PX := Lib.hid rx
  have QX := Lib.hid (RX.out.keep Flat.keeps (Sub.refl _) (same_of_below b2 (Sub.plus_upto (Sub.nowhere _))))
  clear rx RX
  have s1 : Sub (Plus Nowhere w.heap.size w1.heap.size) (Upto w2.heap.size) := Sub.plus_to (j := 0) (Sub.nowhere _) (by omega) hz
  have s2 : Sub (Plus Nowhere w1.heap.size w2.heap.size) (Upto w2.heap.size) := Sub.plus_upto (Sub.nowhere _)
  go_wp2_with fail
  refine (equalPA _ w2 _ _ _ _ s1 s2 QX.out (by rw [HE.out]; exact PX.out)).mono ?_
  rintro e w3 ⟨rfl, b3⟩
  go_wp2
  go_ret
  exact ⟨rfl, (b1.trans (b2.mono b1.size)).trans (b3.mono (Nat.le_trans b1.size hz))⟩
instance : Inhabited PhO := ⟨⟨0, 0, 0⟩⟩
theorem sum_one' {α : Type} (l : List α) : (l.map fun _ => 1).sum = l.length := by
  induction l with
  | nil => rfl
  | cons a r ih => simp only [List.map_cons, List.sum_cons, List.length_cons, ih]; omega
theorem cellsOfInt3 : Try.prog.cellsOf 3 = 1 := by kernel_rfl
theorem cellsOfPhOp : Try.prog.cellsOf 68 = 3 := by kernel_rfl
theorem bytesOfPhOp : Try.prog.bytesOf 68 = 24 := by kernel_rfl
section
open Go.ChangeShapes Go.WideShapes Go.ChangeAt Go.RowKit Go.Deep
variable {H : Type} {enc : TypeId × Value → H} {w : World} {spare : Nat → Bool} {held : Bool}
theorem phops_open {fuel : Nat} {cs : List Value} {x : DataW H × List MemPlace} (h : DataW.trod enc Try.prog w 0 spare held fuel 28 cs = some x) (hL : Light Try.prog 28 x.1) :
    ∃ l v, cs = [v] ∧ RdO3 w (Upto w.heap.size) l v ∧ l.length + 1 ≤ Rows.uptoBulk x.1 := by
  obtain ⟨l, v, h1, h2, h3⟩ := slice_open (mu := fun (_ : PhO) => 1) (rd := Flat encO3 okO3) Try.underlying28 cellsOfPhOp bytesOfPhOp (by decide) hL h (fun n' cs' y _ hy hLy => by
    obtain ⟨xs, n, rfl, rfl, hlen, hxl, hg⟩ := DataW.trod_struct Try.underlying68 hy
    rw [cellsOfPhOp] at hlen
    obtain ⟨c0, c1, c2, rfl⟩ := len3 hlen
    obtain ⟨y0, y1, y2, rfl⟩ := len3 hxl
    have g0 := hg 0 _ rfl
    have g1 := hg 1 _ rfl
    have g2 := hg 2 _ rfl
    simp [cellsOfInt3] at g0 g1 g2
    obtain ⟨k0, e0, e0', wk0⟩ := DataW.trod_int Try.underlying3 g0
    obtain ⟨k1, e1, e1', wk1⟩ := DataW.trod_int Try.underlying3 g1
    obtain ⟨k2, e2, e2', wk2⟩ := DataW.trod_int Try.underlying3 g2
    simp only [List.cons.injEq, and_true] at e0 e1 e2
    subst e0 e1 e2
    exact ⟨⟨k0, k1, k2⟩, ⟨rfl, inI_wf wk0, inI_wf wk1, inI_wf wk2⟩, by simp [Rows.uptoBulk]⟩)
  exact ⟨l, v, h1, h2, by rw [sum_one'] at h3; exact h3⟩
end
end Go.Proofs.Ythbbecmffndgdaa
