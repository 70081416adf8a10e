/- slices.Equal at integers. -/
import Derived.Test.YtfldajplclahfaaFlat
import Derived.BigQuiet
namespace Go.Proofs.Ytfldajplclahfaa
open Go.RowKit
set_option linter.unusedVariables false
set_option maxHeartbeats 400000 in
theorem equalIs (l : List Int) (w : World) (S T : Blocks) (v u : Value) (hS : Sub S (Upto w.heap.size)) (hT : Sub T (Upto w.heap.size)) (r : RdI w S l v) (r' : RdI w T l u) :
    Calls Try.prog 9 #[v, u] w fun e w' => e = .returned (.bool true) ∧ Below w.heap.size w w' := by
  obtain ⟨A, cap, rfl, hl, hcm, hby⟩ := r.form
  obtain ⟨A', cap', rfl, hl', hcm', _⟩ := r'.form
  unfold maxLen at hcm hcm'
  go_enter Try.func9, Try.ntmps9
  go_wp2
  go_loopw [13] (fun t wr => ∃ q : Nat, q ≤ l.length ∧ t = .int .i64 q ∧ Below w.heap.size w wr) (fun t _ => l.length - (intOf t).toNat)
  case atStart => exact ⟨0, by omega, rfl, Below.refl _ _⟩
  case round =>
    obtain ⟨q, hq, rfl, hbel⟩ := hrel
    by_cases hlt : q < l.length
    · obtain ⟨b, off, rfl, hb, hok, hc⟩ := RdI.at1 r hlt
      obtain ⟨b', off', rfl, hb', hok', hc'⟩ := RdI.at1 r' hlt
      have e0 := (hbel.cell (p := ⟨b, off + q, none⟩) (hS _ hb)).trans hc
      have e1 := (hbel.cell (p := ⟨b', off' + q, none⟩) (hT _ hb')).trans hc'
      have hq1 : (q : Int) < (l.length : Int) := by omega
      have hq0 : (0 : Int) ≤ (q : Int) := by omega
      clear r r' hc hc'
      go_wp2
      all_goals (try go_quiet (fail))
      all_goals (try go_wp2)
      go_roundw
      case rel => exact ⟨q + 1, by omega, by go_num, below_drewN hbel _⟩
      case measure => simp [intOf]; omega
    · go_wp2
      go_ret
      exact ⟨rfl, hbel⟩
end Go.Proofs.Ytfldajplclahfaa
