/- Walks of vector.At, vector.trim and slices.Clone at words. -/
import Derived.Test.YtikjegfjgfhiaaaVecSpec
namespace Go.Proofs.Ytikjegfjgfhiaaa
open Go.RowKit
set_option linter.unusedVariables false
theorem infoU : (Try.prog.info? 63).map (fun i => (i.zero, i.size, i.bytes)) = some (some (.int .u64 0), 1, 8) := by kernel_rfl

set_option maxHeartbeats 400000 in
theorem at_any (l : List Nat) (i : Int) (w : World) (S : Blocks) (v : Value) (r : RdU w S l v) :
    Calls Try.prog 27 #[v, .int .i64 i] w fun e w' => e = .returned (.int .u64 (hand l i)) ∧ w = w' := by
  obtain ⟨A, cap, rfl, hl, hcm, hby⟩ := r.form
  unfold maxLen at hcm
  by_cases h0 : i < 0
  · have HH := Lib.hid (show hand l i = 0 by unfold hand; rw [if_neg (by omega)])
    go_enter Try.func27, Try.ntmps27
    go_wp2
    go_ret
    exact ⟨by rw [HH.out]; rfl, rfl⟩
  · obtain ⟨q, rfl⟩ := Int.eq_ofNat_of_zero_le (show 0 ≤ i by omega)
    by_cases hq : q < l.length
    · obtain ⟨b, off, rfl, _, hok, hc⟩ := RdU.at1 r hq
      have hh := hand_lt hq
      have HH := Lib.hid hh
      clear hh r
      go_enter Try.func27, Try.ntmps27
      go_wp2
      go_ret
      exact ⟨by rw [HH.out]; rfl, rfl⟩
    · have hh := hand_ge (l := l) (q := q) (by omega)
      have HH := Lib.hid hh
      clear hh r
      go_enter Try.func27, Try.ntmps27
      go_wp2
      go_ret
      exact ⟨by rw [HH.out]; rfl, rfl⟩

set_option maxHeartbeats 400000 in
theorem trim_any (l : List Nat) (w : World) (S : Blocks) (v : Value) (r : RdU w S l v) :
    Calls Try.prog 53 #[v] w fun e w' => (∃ u, e = .returned u ∧ RdU w S (trimL l) u) ∧ w = w' := by
  obtain ⟨A, cap, rfl, hl, hcm, hby⟩ := r.form
  unfold maxLen at hcm
  go_enter Try.func53, Try.ntmps53
  go_wp2
  go_loop [0] (fun t => ∃ n : Nat, n ≤ l.length ∧ t = .slice A n cap ∧ trimL (l.take n) = trimL l) (fun t => match t with | .slice _ n _ => n | _ => 0)
  case atStart => exact ⟨l.length, Nat.le_refl _, rfl, by rw [List.take_length]⟩
  case round =>
    obtain ⟨n, hn, rfl, ht⟩ := hrel
    have HT := Lib.hid ht
    clear ht
    match n, hn, HT with
    | 0, hn, HT =>
      have H0 := Lib.hid (show trimL l = [] by have := HT.out; simpa [trimL] using this.symm)
      go_wp2
      go_ret
      exact ⟨⟨_, rfl, by rw [H0.out]; exact RdL.nil (by unfold maxLen; omega)⟩, rfl⟩
    | m + 1, hn, HT =>
      obtain ⟨b, off, rfl, _, hok, hc⟩ := RdU.at1 r (q := m) (by omega)
      have htk : l.take (m + 1) = l.take m ++ [l[m]] := by rw [List.take_succ_eq_append_getElem (by omega)]
      by_cases hz : l[m] = 0
      · have hz' : ((l[m] : Nat) : Int) = 0 := by omega
        rw [hz'] at hc
        have H2 := Lib.hid (show trimL (l.take m) = trimL l by rw [← HT.out, htk, trimL_snoc, if_pos hz])
        clear hz hz' htk
        go_wp2
        go_round
        case rel => exact ⟨m, by omega, by simp, H2.out⟩
        case measure => simp
      · have hz' : (((l[m] : Nat) : Int) == 0) = false := by simp; omega
        have H2 := Lib.hid (show trimL l = l.take (m + 1) by rw [← HT.out, htk, trimL_snoc, if_neg hz])
        clear hz htk
        go_wp2
        go_ret
        exact ⟨⟨_, rfl, by rw [H2.out]; exact r.take hn⟩, rfl⟩
set_option maxHeartbeats 400000 in
set_option maxRecDepth 100000 in
theorem cloneU (l : List Nat) (w : World) (S : Blocks) (v : Value) (hS : Sub S (Upto w.heap.size)) (r : RdU w S l v) :
    Calls Try.prog 42 #[v] w fun e w' => ∃ u, e = .returned u ∧ OwnU 63 w' w.heap.size Nowhere l u ∧ Below w.heap.size w w' := by
  obtain ⟨A, cap, rfl, hl, hcm, hby⟩ := r.form
  have hm := hcm
  unfold maxLen at hcm
  obtain ⟨i0, hi, hz0, hz1, hz2⟩ := info_parts infoU
  rcases A with _ | a
  · have hl0 : l = [] := by
      rcases Nat.eq_zero_or_pos l.length with h | h
      · exact List.eq_nil_of_length_eq_zero h
      · obtain ⟨b, off, h1, _⟩ := RdU.at1 r h
        cases h1
    subst hl0
    have hnil := fun (w : World) (a : Option Addr) (n c : Nat) => Lib.run_eql_slice_nil (P := Try.prog) w 65 63 a n c 0 0 Try.underlying65
    go_enter Try.func42, Try.ntmps42
    go_wp2
    go_ret
    exact ⟨_, rfl, OwnL.nil _ _ _, Below.refl _ _⟩
  · have hnil := fun (w : World) (a : Option Addr) (n c : Nat) => Lib.run_eql_slice_nil (P := Try.prog) w 65 63 a n c 0 0 Try.underlying65
    have hb0 : Below w.heap.size w (w.alloc (.cells #[] 63)) := (Below.refl _ _).alloc (Nat.le_refl _) _
    have ho : OwnU 63 (w.alloc (.cells #[] 63)) w.heap.size Nowhere [] (.slice (some ⟨w.heap.size, 0, none⟩) 0 0) := OwnL.empty w (Nat.le_refl _)
    have hx := (r.go Flat.keeps hb0 hS (Sub.refl _)).bare Nowhere
    go_enter Try.func42, Try.ntmps42
    go_wp2_with (at_builtin; refine wpList_append_list rfl _ _ 65 rfl i0 _ Try.underlying65 hi hz0 hz1 hz2 rfl (by decide) Flat.keeps ho hx rfl rfl (Sub.nowhere _) (Sub.nowhere _) not_nowhere oneU ?c3 ?c4 ?c5 ?_)
    case c3 => simp; omega
    case c4 => simp; omega
    case c5 => simp
    intro v1 w1 ho1 hg1 _
    have hb1 : Below w.heap.size w w1 := hb0.grown hg1 (by simp) (fun k hk => by simp [Value.ownBlock] at hk; omega)
    clear hg1 hb0 ho hx hnil
    go_wp2
    go_ret
    exact ⟨_, rfl, ho1, hb1⟩
end Go.Proofs.Ytikjegfjgfhiaaa
