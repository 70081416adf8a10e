/- The walk of bitset's Set.Or. -/
import Derived.Test.YtknaoianhjeccaaDoorBsLess
import Derived.Laws.BitsAllLaws
namespace Go.Proofs.YtknaoianhjeccaaDoor
open Go.RowKit
set_option linter.unusedVariables false
set_option maxHeartbeats 400000 in
theorem bsOr1 (a b : Nat) (w : World) (ha : okU a) (hb : okU b) : Calls Tryd.prog 38 #[.int .u64 (a : Int), .int .u64 (b : Int)] w fun e w' => e = .returned (.int .u64 ((a ||| b : Nat) : Int)) ∧ w = w' := by
  have e := u64_or_nat a b ha hb
  generalize a ||| b = c at *
  go_enter Tryd.func38, Tryd.ntmps38
  go_wp2
  go_ret
  exact ⟨rfl, rfl⟩
set_option maxHeartbeats 400000 in
theorem bsSOr_any (l m : List Nat) (w : World) (S T : Blocks) (v u : Value) (hS : Sub S (Upto w.heap.size)) (hT : Sub T (Upto w.heap.size)) (r : RdU w S l v) (r' : RdU w T m u) :
    Calls Tryd.prog 29 #[v, u] w (SetOut w (zipB (fun a b => a ||| b) l m)) := by
  have c := Lib.hid (zip_any 38 (fun a b => a ||| b) (fun a b ha hb => okU_or ha hb) (fun args w => by kernel_rfl) bsOr1 l m w S T v u hS hT r r')
  clear r r'
  go_enter Tryd.func29, Tryd.ntmps29
  go_wp2_with (go_at_call 32; refine c.out.mono ?_; rintro e w' ⟨x, rfl, hx, hb⟩)
  go_ret
  exact ⟨x, rfl, hx, hb⟩
end Go.Proofs.YtknaoianhjeccaaDoor
