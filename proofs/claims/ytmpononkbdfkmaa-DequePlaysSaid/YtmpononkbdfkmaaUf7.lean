/- The law of UfindPlays: both answer alike. -/
import Derived.Test.YtmpononkbdfkmaaUf6
namespace Go.Proofs.Ytmpononkbdfkmaa
open Go.RowKit
set_option linter.unusedVariables false
theorem uplay_out (n : Int) (hn : n < 0 ∨ 200 < n) (w : World) (v : Value) :
    Calls Try.prog 37 #[.int .i64 n, v] w fun e w' => e = .returned (.tuple #[.slice none 0 0, .int .i64 2]) ∧ w = w' := by
  rcases hn with h | h
  · go_enter Try.func37, Try.ntmps37
    go_wp2
    go_ret2
    exact ⟨rfl, rfl⟩
  · have h0 : ¬ n < 0 := by omega
    go_enter Try.func37, Try.ntmps37
    go_wp2
    go_ret2
    exact ⟨rfl, rfl⟩
theorem hplay_out (n : Int) (hn : n < 0 ∨ 200 < n) (w : World) (v : Value) :
    Calls Try.prog 38 #[.int .i64 n, v] w fun e w' => e = .returned (.tuple #[.slice none 0 0, .int .i64 2]) ∧ w = w' := by
  rcases hn with h | h
  · go_enter Try.func38, Try.ntmps38
    go_wp2
    go_ret2
    exact ⟨rfl, rfl⟩
  · have h0 : ¬ n < 0 := by omega
    go_enter Try.func38, Try.ntmps38
    go_wp2
    go_ret2
    exact ⟨rfl, rfl⟩
set_option maxHeartbeats 400000 in
theorem equalI (l : List Int) (w : World) (S T : Blocks) (v u : Value) (hS : Sub S (Upto w.heap.size)) (hT : Sub T (Upto w.heap.size)) (r : RdI w S l v) (r' : RdI w T l u) :
    Calls Try.prog 36 #[v, u] w fun e w' => e = .returned (.bool true) ∧ Below w.heap.size w w' := by
  obtain ⟨A, cap, rfl, hl, hcm, hby⟩ := r.form
  obtain ⟨A', cap', rfl, hl', hcm', _⟩ := r'.form
  unfold maxLen at hcm hcm'
  go_enter Try.func36, Try.ntmps36
  go_wp2
  go_loopw [13] (fun t wr => ∃ q : Nat, q ≤ l.length ∧ t = .int .i64 q ∧ Below w.heap.size w wr) (fun t _ => l.length - (intOf t).toNat)
  case atStart => exact ⟨0, by omega, rfl, Below.refl _ _⟩
  case round =>
    obtain ⟨q, hq, rfl, hbel⟩ := hrel
    by_cases hlt : q < l.length
    · obtain ⟨b, off, rfl, hb, hok, hc⟩ := RdI.at1 r hlt
      obtain ⟨b', off', rfl, hb', hok', hc'⟩ := RdI.at1 r' hlt
      have e0 := (hbel.cell (p := ⟨b, off + q, none⟩) (hS _ hb)).trans hc
      have e1 := (hbel.cell (p := ⟨b', off' + q, none⟩) (hT _ hb')).trans hc'
      have hq1 : (q : Int) < (l.length : Int) := by omega
      have hq0 : (0 : Int) ≤ (q : Int) := by omega
      clear r r' hc hc'
      go_wp2
      go_quiet (fail)
      go_wp2
      go_roundw
      case rel => exact ⟨q + 1, by omega, by go_num, below_drewN hbel _⟩
      case measure => simp [intOf]; omega
    · go_wp2
      go_ret
      exact ⟨rfl, hbel⟩
theorem ufindPlays_walk (n : Int) (ops : List UOp) (w : World) (v : Value) (r : RdO w (Upto w.heap.size) ops v) :
    Calls Try.prog 7 #[.int .i64 n, v] w fun e w' => e = .returned (.bool true) ∧ Below w.heap.size w w' := by
  have R := Lib.hid r
  clear r
  by_cases hn : n < 0 ∨ 200 < n
  · have HN := Lib.hid hn
    clear hn
    go_enter Try.func7, Try.ntmps7
    go_wp2_with fail
    refine (uplay_out n HN.out w v).mono ?_
    rintro e w' ⟨rfl, rfl⟩
    go_wp2_with fail
    refine (hplay_out n HN.out w v).mono ?_
    rintro e w' ⟨rfl, rfl⟩
    go_wp2_with fail
    refine (equalI [] w Nowhere Nowhere _ _ (Sub.nowhere _) (Sub.nowhere _) (RdL.nil (by simp [maxLen])) (RdL.nil (by simp [maxLen]))).mono ?_
    rintro e w' ⟨rfl, hb⟩
    go_wp2
    go_ret
    exact ⟨rfl, hb⟩
  · obtain ⟨k, rfl⟩ := Int.eq_ofNat_of_zero_le (show 0 ≤ n by omega)
    have hk : k ≤ 200 := by omega
    clear hn
    go_enter Try.func7, Try.ntmps7
    go_wp2_with fail
    refine (uplay_any k hk ops w _ (Sub.refl _) v R.out).mono ?_
    rintro e w1 ⟨x, rfl, rx, b1⟩
    have RX := Lib.hid rx
    clear rx
    go_wp2_with fail
    refine (hplay_any k hk ops w1 _ (Sub.upto b1.size) v (R.out.keep Flat.keeps (Sub.refl _) (same_of_below b1 (Sub.refl _)))).mono ?_
    rintro e w2 ⟨y, rfl, ry, b2⟩
    have RY := Lib.hid ry
    have RX2 := Lib.hid (RX.out.keep Flat.keeps (Sub.refl _) (same_of_below b2 (Sub.plus_upto (Sub.nowhere _))))
    have hz := b2.size
    clear ry RX
    go_wp2_with fail
    refine (equalI _ w2 _ _ _ _ (Sub.plus_to (j := 0) (Sub.nowhere _) (by omega) hz) (Sub.plus_upto (Sub.nowhere _)) RX2.out RY.out).mono ?_
    rintro e w3 ⟨rfl, b3⟩
    go_wp2
    go_ret
    exact ⟨rfl, (b1.trans (b2.mono b1.size)).trans (b3.mono (Nat.le_trans b1.size hz))⟩
end Go.Proofs.Ytmpononkbdfkmaa
