/- Walks of bitset.Less, by bitset.zip. -/
import Derived.Test.YtknaoianhjeccaaDoorBs1
import Derived.Laws.BitsAllLaws
import Derived.Laws.Bits64b
namespace Go.Proofs.YtknaoianhjeccaaDoor
open Go.RowKit
set_option linter.unusedVariables false
theorem okU_and {a b : Nat} (ha : okU a) : okU (a &&& b) := Nat.lt_of_le_of_lt Nat.and_le_left ha
theorem okU_or {a b : Nat} (ha : okU a) (hb : okU b) : okU (a ||| b) := by
  unfold okU at *
  exact Nat.or_lt_two_pow (n := 64) ha hb
def bsLess (a b : Nat) : Nat := a &&& (18446744073709551615 - b)
set_option maxHeartbeats 400000 in
theorem bsLess1 (a b : Nat) (w : World) (ha : okU a) (hb : okU b) : Calls Tryd.prog 33 #[.int .u64 (a : Int), .int .u64 (b : Int)] w fun e w' => e = .returned (.int .u64 ((bsLess a b : Nat) : Int)) ∧ w = w' := by
  have e := u64_andNot_nat a b ha hb
  unfold bsLess
  generalize a &&& (18446744073709551615 - b) = c at *
  go_enter Tryd.func33, Tryd.ntmps33
  go_wp2
  go_ret
  exact ⟨rfl, rfl⟩
def SetOut (w : World) (L : List Nat) (e : Ending) (w' : World) : Prop := ∃ x, e = .returned x ∧ RdU w' (Plus Nowhere w.heap.size w'.heap.size) L x ∧ Below w.heap.size w w'
theorem SetOut.len {w : World} {L : List Nat} {e : Ending} {w' : World} (h : SetOut w L e w') : ∃ A cap, e = .returned (.slice A L.length cap) ∧ RdU w' (Plus Nowhere w.heap.size w'.heap.size) L (.slice A L.length cap) ∧ Below w.heap.size w w' := by
  obtain ⟨x, rfl, r, b⟩ := h
  obtain ⟨A, cap, rfl, _⟩ := r.form
  exact ⟨A, cap, rfl, r, b⟩
set_option maxHeartbeats 400000 in
theorem bsLess_any (l m : List Nat) (w : World) (S T : Blocks) (v u : Value) (hS : Sub S (Upto w.heap.size)) (hT : Sub T (Upto w.heap.size)) (r : RdU w S l v) (r' : RdU w T m u) :
    Calls Tryd.prog 18 #[v, u] w (SetOut w (zipB bsLess l m)) := by
  have c := Lib.hid (zip_any 33 bsLess (fun a b ha _ => okU_and ha) (fun args w => by kernel_rfl) bsLess1 l m w S T v u hS hT r r')
  clear r r'
  go_enter Tryd.func18, Tryd.ntmps18
  go_wp2_with (go_at_call 32; refine c.out.mono ?_; rintro e w' ⟨x, rfl, hx, hb⟩)
  go_ret
  exact ⟨x, rfl, hx, hb⟩
end Go.Proofs.YtknaoianhjeccaaDoor
