/- Walks of vector.Tick, Join, Within and of their references. -/
import Derived.Test.YtmpononkbdfkmaaVec1
import Derived.Laws.MakeOwn
namespace Go.Proofs.Ytmpononkbdfkmaa
open Go.RowKit
set_option linter.unusedVariables false

set_option maxHeartbeats 400000 in
theorem within_any (l m : List Nat) (w : World) (S T : Blocks) (v u : Value) (r : RdU w S l v) (r' : RdU w T m u) :
    Calls Try.prog 27 #[v, u] w fun e w' => e = .returned (.bool (withinL l m)) ∧ w = w' := by
  obtain ⟨A, cap, rfl, hl, hcm, hby⟩ := r.form
  unfold maxLen at hcm
  go_enter Try.func27, Try.ntmps27
  go_wp2
  go_loop [9] (fun t => ∃ q : Nat, q ≤ l.length ∧ t = .int .i64 q ∧ ∀ k < q, hand l k ≤ hand m k) (fun t => l.length - (intOf t).toNat)
  case atStart => exact ⟨0, by omega, rfl, by simp⟩
  case round =>
    obtain ⟨q, hq, rfl, hall⟩ := hrel
    have HA := Lib.hid hall
    clear hall
    by_cases hlt : q < l.length
    · obtain ⟨b, off, rfl, hb, hok, hc⟩ := RdU.at1 r hlt
      have hh := hand_lt hlt
      by_cases hle : hand l q ≤ hand m q
      · have hle' : ¬ ((hand m q : Nat) : Int) < ((l[q] : Nat) : Int) := by rw [hh] at hle; omega
        clear hh
        go_wp2_with (go_at_call 20; refine (at_any m q _ T _ r').mono ?_; rintro e w' ⟨rfl, rfl⟩)
        go_round
        case rel => exact ⟨q + 1, by omega, by go_num, fun k hk => by
          rcases Nat.lt_or_ge k q with h | h
          · exact HA.out k h
          · have : k = q := by omega
            subst this; exact hle⟩
        case measure => simp [intOf]; omega
      · have hle' : ((hand m q : Nat) : Int) < ((l[q] : Nat) : Int) := by rw [hh] at hle; omega
        have HW := Lib.hid (show withinL l m = false by
          unfold withinL
          rw [List.all_eq_false]
          exact ⟨q, by simpa using hlt, by simpa using hle⟩)
        clear hh
        go_wp2_with (go_at_call 20; refine (at_any m q _ T _ r').mono ?_; rintro e w' ⟨rfl, rfl⟩)
        go_ret
        exact ⟨by rw [HW.out]; rfl, rfl⟩
    · have HW := Lib.hid (show withinL l m = true by
        unfold withinL
        rw [List.all_eq_true]
        intro k hk
        simpa using HA.out k (by simp at hk; omega))
      go_wp2
      go_ret
      exact ⟨by rw [HW.out]; rfl, rfl⟩

set_option maxHeartbeats 400000 in
theorem gwithin_any (l m : List Nat) (w : World) (S T : Blocks) (v u : Value) (r : RdU w S l v) (r' : RdU w T m u) :
    Calls Try.prog 28 #[v, u] w fun e w' => e = .returned (.bool (withinL l m)) ∧ w = w' := by
  obtain ⟨A, cap, rfl, hl, hcm, hby⟩ := r.form
  obtain ⟨A', cap', rfl, hl', hcm', _⟩ := r'.form
  unfold maxLen at hcm
  go_enter Try.func28, Try.ntmps28
  go_wp2
  go_loop [8] (fun t => ∃ q : Nat, q ≤ l.length ∧ t = .int .i64 q ∧ ∀ k < q, hand l k ≤ hand m k) (fun t => l.length - (intOf t).toNat)
  case atStart => exact ⟨0, by omega, rfl, by simp⟩
  case round =>
    obtain ⟨q, hq, rfl, hall⟩ := hrel
    have HA := Lib.hid hall
    clear hall
    by_cases hlt : q < l.length
    · by_cases hle : hand l q ≤ hand m q
      · have hle' : ¬ ((hand m q : Nat) : Int) < ((hand l q : Nat) : Int) := by omega
        go_wp2_with fail
        refine (hand_any l q _ S _ r).mono ?_
        rintro e w' ⟨rfl, rfl⟩
        go_wp2_with fail
        refine (hand_any m q _ T _ r').mono ?_
        rintro e w' ⟨rfl, rfl⟩
        go_wp2_with fail
        go_round
        case rel => exact ⟨q + 1, by omega, by go_num, fun k hk => by
          rcases Nat.lt_or_ge k q with h | h
          · exact HA.out k h
          · have : k = q := by omega
            subst this; exact hle⟩
        case measure => simp [intOf]; omega
      · have hle' : ((hand m q : Nat) : Int) < ((hand l q : Nat) : Int) := by omega
        have HW := Lib.hid (show withinL l m = false by
          unfold withinL
          rw [List.all_eq_false]
          exact ⟨q, by simpa using hlt, by simpa using hle⟩)
        go_wp2_with fail
        refine (hand_any l q _ S _ r).mono ?_
        rintro e w' ⟨rfl, rfl⟩
        go_wp2_with fail
        refine (hand_any m q _ T _ r').mono ?_
        rintro e w' ⟨rfl, rfl⟩
        go_wp2_with fail
        go_ret
        exact ⟨by rw [HW.out]; rfl, rfl⟩
    · have HW := Lib.hid (show withinL l m = true by
        unfold withinL
        rw [List.all_eq_true]
        intro k hk
        simpa using HA.out k (by simp at hk; omega))
      go_wp2
      go_ret
      exact ⟨by rw [HW.out]; rfl, rfl⟩

set_option maxHeartbeats 400000 in
set_option maxRecDepth 100000 in
theorem cloneU (l : List Nat) (w : World) (S : Blocks) (v : Value) (hS : Sub S (Upto w.heap.size)) (r : RdU w S l v) :
    Calls Try.prog 70 #[v] w fun e w' => ∃ u, e = .returned u ∧ OwnU 28 w' w.heap.size Nowhere l u ∧ Below w.heap.size w w' := by
  obtain ⟨A, cap, rfl, hl, hcm, hby⟩ := r.form
  have hm := hcm
  unfold maxLen at hcm
  obtain ⟨i0, hi, hz0, hz1, hz2⟩ := info_parts infoU
  rcases A with _ | a
  · have hl0 : l = [] := by
      rcases Nat.eq_zero_or_pos l.length with h | h
      · exact List.eq_nil_of_length_eq_zero h
      · obtain ⟨b, off, h1, _⟩ := RdU.at1 r h
        cases h1
    subst hl0
    have hnil := fun (w : World) (a : Option Addr) (n c : Nat) => Lib.run_eql_slice_nil (P := Try.prog) w 27 28 a n c 0 0 Try.underlying27
    go_enter Try.func70, Try.ntmps70
    go_wp2
    go_ret
    exact ⟨_, rfl, OwnL.nil _ _ _, Below.refl _ _⟩
  · have hnil := fun (w : World) (a : Option Addr) (n c : Nat) => Lib.run_eql_slice_nil (P := Try.prog) w 27 28 a n c 0 0 Try.underlying27
    have hb0 : Below w.heap.size w (w.alloc (.cells #[] 28)) := (Below.refl _ _).alloc (Nat.le_refl _) _
    have ho : OwnU 28 (w.alloc (.cells #[] 28)) w.heap.size Nowhere [] (.slice (some ⟨w.heap.size, 0, none⟩) 0 0) := OwnL.empty w (Nat.le_refl _)
    have hx := (r.go Flat.keeps hb0 hS (Sub.refl _)).bare Nowhere
    go_enter Try.func70, Try.ntmps70
    go_wp2_with (at_builtin; refine wpList_append_list rfl _ _ 27 rfl i0 _ Try.underlying27 hi hz0 hz1 hz2 rfl (by decide) Flat.keeps ho hx rfl rfl (Sub.nowhere _) (Sub.nowhere _) not_nowhere oneU ?c3 ?c4 ?c5 ?_)
    case c3 => simp; omega
    case c4 => simp; omega
    case c5 => simp
    intro v1 w1 ho1 hg1 _
    have hb1 : Below w.heap.size w w1 := hb0.grown hg1 (by simp) (fun k hk => by simp [Value.ownBlock] at hk; omega)
    clear hg1 hb0 ho hx hnil
    go_wp2
    go_ret
    exact ⟨_, rfl, ho1, hb1⟩
end Go.Proofs.Ytmpononkbdfkmaa
