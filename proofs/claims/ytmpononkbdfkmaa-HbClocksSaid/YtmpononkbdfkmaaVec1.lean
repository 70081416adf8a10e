/- Walks of package vector's small functions and their reference: a hand, the same slices, trimming. -/
import Derived.Test.YtmpononkbdfkmaaVecSpec
namespace Go.Proofs.Ytmpononkbdfkmaa
open Go.RowKit
set_option linter.unusedVariables false

theorem infoU : (Try.prog.info? 28).map (fun i => (i.zero, i.size, i.bytes)) = some (some (.int .u64 0), 1, 8) := by kernel_rfl

set_option maxHeartbeats 400000 in
theorem at_any (l : List Nat) (i : Int) (w : World) (S : Blocks) (v : Value) (r : RdU w S l v) :
    Calls Try.prog 20 #[v, .int .i64 i] w fun e w' => e = .returned (.int .u64 (hand l i)) ∧ w = w' := by
  obtain ⟨A, cap, rfl, hl, hcm, hby⟩ := r.form
  unfold maxLen at hcm
  by_cases h0 : i < 0
  · have HH := Lib.hid (show hand l i = 0 by unfold hand; rw [if_neg (by omega)])
    go_enter Try.func20, Try.ntmps20
    go_wp2
    go_ret
    exact ⟨by rw [HH.out]; rfl, rfl⟩
  · obtain ⟨q, rfl⟩ := Int.eq_ofNat_of_zero_le (show 0 ≤ i by omega)
    by_cases hq : q < l.length
    · obtain ⟨b, off, rfl, _, hok, hc⟩ := RdU.at1 r hq
      have hh := hand_lt hq
      have HH := Lib.hid hh
      clear hh r
      go_enter Try.func20, Try.ntmps20
      go_wp2
      go_ret
      exact ⟨by rw [HH.out]; rfl, rfl⟩
    · have hh := hand_ge (l := l) (q := q) (by omega)
      have HH := Lib.hid hh
      clear hh r
      go_enter Try.func20, Try.ntmps20
      go_wp2
      go_ret
      exact ⟨by rw [HH.out]; rfl, rfl⟩

set_option maxHeartbeats 400000 in
theorem hand_any (l : List Nat) (i : Int) (w : World) (S : Blocks) (v : Value) (r : RdU w S l v) :
    Calls Try.prog 21 #[v, .int .i64 i] w fun e w' => e = .returned (.int .u64 (hand l i)) ∧ w = w' := by
  obtain ⟨A, cap, rfl, hl, hcm, hby⟩ := r.form
  unfold maxLen at hcm
  go_enter Try.func21, Try.ntmps21
  go_wp2
  go_loop [9] (fun t => ∃ q : Nat, q ≤ l.length ∧ t = .int .i64 q ∧ (i < 0 ∨ (q : Int) ≤ i)) (fun t => l.length - (intOf t).toNat)
  case atStart => exact ⟨0, by omega, rfl, by omega⟩
  case round =>
    obtain ⟨q, hq, rfl, hi⟩ := hrel
    by_cases hlt : q < l.length
    · obtain ⟨b, off, rfl, _, hok, hc⟩ := RdU.at1 r hlt
      by_cases he : (q : Int) = i
      · subst he
        have HH := Lib.hid (hand_lt hlt)
        clear r
        go_wp2
        go_ret
        exact ⟨by rw [HH.out]; rfl, rfl⟩
      · have hne : ((q : Int) == i) = false := by simpa using he
        clear r
        go_wp2
        go_round
        case rel => exact ⟨q + 1, by omega, by go_num, by omega⟩
        case measure => simp [intOf]; omega
    · have HH := Lib.hid (show hand l i = 0 by
        unfold hand
        split
        · rw [List.getElem?_eq_none (by omega)]; rfl
        · rfl)
      go_wp2
      go_ret
      exact ⟨by rw [HH.out]; rfl, rfl⟩

set_option maxHeartbeats 400000 in
theorem equalU (l : List Nat) (w : World) (S T : Blocks) (v u : Value) (hS : Sub S (Upto w.heap.size)) (hT : Sub T (Upto w.heap.size)) (r : RdU w S l v) (r' : RdU w T l u) :
    Calls Try.prog 22 #[v, u] w fun e w' => e = .returned (.bool true) ∧ Below w.heap.size w w' := by
  obtain ⟨A, cap, rfl, hl, hcm, hby⟩ := r.form
  obtain ⟨A', cap', rfl, hl', hcm', _⟩ := r'.form
  unfold maxLen at hcm hcm'
  go_enter Try.func22, Try.ntmps22
  go_wp2
  go_loopw [13] (fun t wr => ∃ q : Nat, q ≤ l.length ∧ t = .int .i64 q ∧ Below w.heap.size w wr) (fun t _ => l.length - (intOf t).toNat)
  case atStart => exact ⟨0, by omega, rfl, Below.refl _ _⟩
  case round =>
    obtain ⟨q, hq, rfl, hbel⟩ := hrel
    by_cases hlt : q < l.length
    · obtain ⟨b, off, rfl, hb, hok, hc⟩ := RdU.at1 r hlt
      obtain ⟨b', off', rfl, hb', hok', hc'⟩ := RdU.at1 r' hlt
      have e0 := (hbel.cell (p := ⟨b, off + q, none⟩) (hS _ hb)).trans hc
      have e1 := (hbel.cell (p := ⟨b', off' + q, none⟩) (hT _ hb')).trans hc'
      have hq1 : (q : Int) < (l.length : Int) := by omega
      have hq0 : (0 : Int) ≤ (q : Int) := by omega
      clear r r' hc hc'
      go_wp2
      go_quiet (fail)
      go_wp2
      go_roundw
      case rel => exact ⟨q + 1, by omega, by go_num, below_drewN hbel _⟩
      case measure => simp [intOf]; omega
    · go_wp2
      go_ret
      exact ⟨rfl, hbel⟩

set_option maxHeartbeats 400000 in
theorem trim_any (l : List Nat) (w : World) (S : Blocks) (v : Value) (r : RdU w S l v) :
    Calls Try.prog 71 #[v] w fun e w' => (∃ u, e = .returned u ∧ RdU w S (trimL l) u) ∧ w = w' := by
  obtain ⟨A, cap, rfl, hl, hcm, hby⟩ := r.form
  unfold maxLen at hcm
  go_enter Try.func71, Try.ntmps71
  go_wp2
  go_loop [0] (fun t => ∃ n : Nat, n ≤ l.length ∧ t = .slice A n cap ∧ trimL (l.take n) = trimL l) (fun t => match t with | .slice _ n _ => n | _ => 0)
  case atStart => exact ⟨l.length, Nat.le_refl _, rfl, by rw [List.take_length]⟩
  case round =>
    obtain ⟨n, hn, rfl, ht⟩ := hrel
    have HT := Lib.hid ht
    clear ht
    match n, hn, HT with
    | 0, hn, HT =>
      have H0 := Lib.hid (show trimL l = [] by have := HT.out; simpa [trimL] using this.symm)
      go_wp2
      go_ret
      exact ⟨⟨_, rfl, by rw [H0.out]; exact RdL.nil (by unfold maxLen; omega)⟩, rfl⟩
    | m + 1, hn, HT =>
      obtain ⟨b, off, rfl, _, hok, hc⟩ := RdU.at1 r (q := m) (by omega)
      have htk : l.take (m + 1) = l.take m ++ [l[m]] := by rw [List.take_succ_eq_append_getElem (by omega)]
      by_cases hz : l[m] = 0
      · have hz' : ((l[m] : Nat) : Int) = 0 := by omega
        rw [hz'] at hc
        have H2 := Lib.hid (show trimL (l.take m) = trimL l by rw [← HT.out, htk, trimL_snoc, if_pos hz])
        clear hz hz' htk
        go_wp2
        go_round
        case rel => exact ⟨m, by omega, by simp, H2.out⟩
        case measure => simp
      · have hz' : (((l[m] : Nat) : Int) == 0) = false := by simp; omega
        have H2 := Lib.hid (show trimL l = l.take (m + 1) by rw [← HT.out, htk, trimL_snoc, if_neg hz])
        clear hz htk
        go_wp2
        go_ret
        exact ⟨⟨_, rfl, by rw [H2.out]; exact r.take hn⟩, rfl⟩
end Go.Proofs.Ytmpononkbdfkmaa
