/- slices.Index and Contains at numbers. -/
import Derived.Test.YtkpjomoofopeaaaDoorFlat
import Derived.Test.YtkpjomoofopeaaaDoorBut
namespace Go.Proofs.YtkpjomoofopeaaaDoor
open Go.RowKit
set_option linter.unusedVariables false
theorem infoInt : (Tryd.prog.info? 3).map (fun i => (i.zero, i.size, i.bytes)) = some (some (.int .i64 0), 1, 8) := by kernel_rfl
def FoundI (k : Int) (l : List Int) (x : Int) : Prop := decide (0 ≤ k) = l.contains x
theorem take_contains (l : List Int) (x : Int) (q : Nat) (h : q < l.length) : (l.take (q + 1)).contains x = ((l.take q).contains x || (x == l[q])) := by
  rw [List.take_succ_eq_append_getElem h, List.contains_append, List.contains_cons, List.contains_nil, Bool.or_false]
set_option maxHeartbeats 400000 in
/-- at its first place, or -1 -/
theorem indexI (l : List Int) (x : Int) (w : World) (S : Blocks) (v : Value) (r : RdI w S l v) :
    Calls Tryd.prog 54 #[v, .int .i64 x] w fun e w' => (∃ k : Int, e = .returned (.int .i64 k) ∧ -1 ≤ k ∧ k ≤ l.length ∧ FoundI k l x) ∧ w = w' := by
  obtain ⟨A, cap, rfl, hl, hcm, hby⟩ := r.form
  unfold maxLen at hcm
  go_enter Tryd.func54, Tryd.ntmps54
  go_wp2
  go_loop [8] (fun t => ∃ q : Nat, q ≤ l.length ∧ t = .int .i64 q ∧ Hid ((l.take q).contains x = false)) (fun t => l.length - (intOf t).toNat)
  case atStart => exact ⟨0, by omega, rfl, Lib.hid rfl⟩
  case round =>
    obtain ⟨q, hq, rfl, HQ⟩ := hrel
    by_cases hlt : q < l.length
    · obtain ⟨b, off, rfl, _, hok, hc⟩ := RdI.at1 r hlt
      have HT := Lib.hid (take_contains l x q hlt)
      cases he : (x == l[q])
      · have HQ2 := Lib.hid (show (l.take (q + 1)).contains x = false by rw [HT.out, HQ.out, he]; rfl)
        clear HT r
        go_wp2
        go_round
        case rel => exact ⟨q + 1, by omega, by go_num, HQ2⟩
        case measure => simp [intOf]; omega
      · have HZ := show FoundI (q : Int) l x by
          unfold FoundI
          have h1 : (l.take (q + 1)).contains x = true := by rw [HT.out, he]; simp
          have h2 : l.contains x = true := by rw [List.contains_iff_mem] at h1 ⊢; exact List.mem_of_mem_take h1
          rw [h2]; simp
        clear HT r
        go_wp2
        go_ret
        exact ⟨⟨(q : Int), rfl, by omega, by omega, HZ⟩, rfl⟩
    · have hqn : q = l.length := by omega
      subst hqn
      have HZ := show FoundI (-1) l x by
        unfold FoundI
        have h := HQ.out
        rw [List.take_length] at h
        rw [h]; rfl
      clear HQ r
      go_wp2
      go_ret
      exact ⟨⟨-1, rfl, by omega, by omega, HZ⟩, rfl⟩
set_option maxHeartbeats 400000 in
theorem containsI (l : List Int) (x : Int) (w : World) (S : Blocks) (v : Value) (r : RdI w S l v) :
    Calls Tryd.prog 28 #[v, .int .i64 x] w fun e w' => e = .returned (.bool (l.contains x)) ∧ w = w' := by
  have R := Lib.hid r
  clear r
  go_enter Tryd.func28, Tryd.ntmps28
  go_wp2_with fail
  refine (indexI l x _ _ _ R.out).mono ?_
  rintro e w' ⟨⟨k, rfl, h1, h2, h3⟩, rfl⟩
  go_wp2
  go_ret
  exact ⟨by rw [← h3]; rfl, rfl⟩
end Go.Proofs.YtkpjomoofopeaaaDoor
