/- The walk of the reference's reckon: it is expr.Do's. -/
import Derived.Test.YtikjegfjgfhiaaaEx1
import Derived.Test.YtikjegfjgfhiaaaExMul
import Derived.Lib.EndianBits
namespace Go.Proofs.Ytikjegfjgfhiaaa
open Go.RowKit
set_option linter.unusedVariables false
def ab (x : Int) : Int := ((x.natAbs : Nat) : Int)
theorem neg_u (x : Int) (h : x < 0) (h2 : -9223372036854775808 ≤ x) : IntKind.u64.wrap (-(IntKind.u64.wrap x)) = ab x := by
  rw [IntKind.wrap_u64, IntKind.wrap_u64]; unfold ab; omega
theorem pos_u (x : Int) (h : ¬ x < 0) (h2 : x ≤ 9223372036854775807) : IntKind.u64.wrap x = ab x := by
  rw [IntKind.wrap_u64]; unfold ab; omega
theorem size_64 (x : Int) (hx : inI x) (w : World) : Calls Try.prog 46 #[.int .i64 x] w fun e w' => e = .returned (.int .u64 (ab x)) ∧ w = w' := by
  have h1 := hx.1
  have h2 := hx.2
  by_cases h : x < 0
  · have E := Lib.hid (neg_u x h h1)
    clear hx h1 h2
    go_enter Try.func46, Try.ntmps46
    go_wp2
    go_ret
    exact ⟨by rw [← E.out]; rfl, rfl⟩
  · have E := Lib.hid (pos_u x h h2)
    clear hx h1 h2
    go_enter Try.func46, Try.ntmps46
    go_wp2
    go_ret
    exact ⟨by rw [← E.out]; rfl, rfl⟩
theorem w_u (z : Int) : wrap64 (IntKind.u64.wrap z) = wrap64 z := by
  rw [IntKind.wrap_u64]; unfold wrap64; omega
theorem w_nu (z : Int) : wrap64 (IntKind.u64.wrap (-(IntKind.u64.wrap z))) = wrap64 (-z) := by
  rw [IntKind.wrap_u64, IntKind.wrap_u64]; unfold wrap64; omega
theorem td_nn (x y : Int) (h1 : x < 0) (h2 : y < 0) : x.tdiv y = (ab x) / (ab y) := by
  unfold ab
  have ex : x = -((x.natAbs : Nat) : Int) := by omega
  have ey : y = -((y.natAbs : Nat) : Int) := by omega
  generalize x.natAbs = a at *; generalize y.natAbs = b at *
  subst ex; subst ey
  rw [Int.neg_tdiv, Int.tdiv_neg, Int.neg_neg, Int.tdiv_eq_ediv_of_nonneg (by omega)]
theorem td_np (x y : Int) (h1 : x < 0) (h2 : ¬ y < 0) : x.tdiv y = -((ab x) / (ab y)) := by
  unfold ab
  have ex : x = -((x.natAbs : Nat) : Int) := by omega
  have ey : y = ((y.natAbs : Nat) : Int) := by omega
  generalize x.natAbs = a at *; generalize y.natAbs = b at *
  subst ex; subst ey
  rw [Int.neg_tdiv, Int.tdiv_eq_ediv_of_nonneg (by omega)]
theorem td_pn (x y : Int) (h1 : ¬ x < 0) (h2 : y < 0) : x.tdiv y = -((ab x) / (ab y)) := by
  unfold ab
  have ex : x = ((x.natAbs : Nat) : Int) := by omega
  have ey : y = -((y.natAbs : Nat) : Int) := by omega
  generalize x.natAbs = a at *; generalize y.natAbs = b at *
  subst ex; subst ey
  rw [Int.tdiv_neg, Int.tdiv_eq_ediv_of_nonneg (by omega)]
theorem td_pp (x y : Int) (h1 : ¬ x < 0) (h2 : ¬ y < 0) : x.tdiv y = (ab x) / (ab y) := by
  unfold ab
  have ex : x = ((x.natAbs : Nat) : Int) := by omega
  have ey : y = ((y.natAbs : Nat) : Int) := by omega
  generalize x.natAbs = a at *; generalize y.natAbs = b at *
  subst ex; subst ey
  rw [Int.tdiv_eq_ediv_of_nonneg (by omega)]
theorem natAbs_ediv_self (y : Int) (a : Int) : a % (ab y) = a % y := by
  unfold ab
  rcases Int.natAbs_eq y with e | e
  · rw [← e]
  · conv => rhs; rw [e, Int.emod_neg]
theorem tm_n (x y : Int) (h1 : x < 0) : x.tmod y = -((ab x) % (ab y)) := by
  have ex : x = -((x.natAbs : Nat) : Int) := by omega
  rw [natAbs_ediv_self]
  unfold ab
  generalize x.natAbs = a at *
  subst ex
  rw [Int.neg_tmod, Int.tmod_eq_emod_of_nonneg (by omega)]
theorem tm_p (x y : Int) (h1 : ¬ x < 0) : x.tmod y = (ab x) % (ab y) := by
  have ex : x = ((x.natAbs : Nat) : Int) := by omega
  rw [natAbs_ediv_self]
  unfold ab
  generalize x.natAbs = a at *
  subst ex
  rw [Int.tmod_eq_emod_of_nonneg (by omega)]
theorem emod_in (x y : Int) (hy : inI y) (h0 : ¬ y = 0) : 0 ≤ (ab x) % (ab y) ∧ (ab x) % (ab y) < 9223372036854775808 := by
  have h1 := hy.1
  have h2 := hy.2
  unfold ab
  have a := Int.emod_nonneg ((x.natAbs : Nat) : Int) (b := ((y.natAbs : Nat) : Int)) (by omega)
  have b := Int.emod_lt_of_pos ((x.natAbs : Nat) : Int) (b := ((y.natAbs : Nat) : Int)) (by omega)
  omega
theorem w_in {z : Int} (h : -9223372036854775808 ≤ z ∧ z < 9223372036854775808) : wrap64 z = z := by unfold wrap64; omega
theorem tdA (x y : Int) : (ab x).tdiv (ab y) = ab x / ab y := Int.tdiv_eq_ediv_of_nonneg (by unfold ab; omega)
theorem tmA (x y : Int) : (ab x).tmod (ab y) = ab x % ab y := Int.tmod_eq_emod_of_nonneg (by unfold ab; omega)
set_option maxHeartbeats 1000000 in
theorem divided_e (x y : Int) (hx : inI x) (hy : inI y) (w : World) : Calls Try.prog 36 #[.int .i64 x, .int .i64 y] w fun e w' =>
    e = .returned (.tuple #[.int .i64 (if y = 0 then 0 else wrap64 (x.tdiv y)), .int .i64 (if y = 0 then 0 else x.tmod y)]) ∧ ∃ n, w' = w.drewN n := by
  by_cases h0 : y = 0
  · subst h0
    go_enter Try.func36, Try.ntmps36
    go_wp2
    go_ret2
    exact ⟨by simp, 0, rfl⟩
  · have e0 : (y == 0) = false := by simpa using h0
    have hn : ¬ ab y = 0 := by unfold ab; omega
    have eQ : (if y = 0 then (0 : Int) else wrap64 (x.tdiv y)) = wrap64 (x.tdiv y) := by rw [if_neg h0]
    have eR : (if y = 0 then (0 : Int) else x.tmod y) = x.tmod y := by rw [if_neg h0]
    rw [eQ, eR]
    have k1 := Lib.hid hx
    have k2 := Lib.hid hy
    have km := emod_in x y hy h0
    clear hx hy h0 eQ eR
    by_cases h1 : x < 0
    · have M := Lib.hid (show wrap64 (IntKind.u64.wrap (-((ab x).tmod (ab y)))) = x.tmod y by
        rw [tmA, w_u, tm_n x y h1]; exact w_in (by omega))
      clear km
      have q1 : decide (x < 0) = true := by simpa using h1
      by_cases h2 : y < 0
      · have q2 : decide (y < 0) = true := by simpa using h2
        have Q := Lib.hid (show wrap64 (IntKind.u64.wrap ((ab x).tdiv (ab y))) = wrap64 (x.tdiv y) by rw [tdA, w_u, td_nn x y h1 h2])
        clear h1 h2
        go_enter Try.func36, Try.ntmps36
        go_wp2_with (first
          | (go_at_call 46; refine (size_64 _ (by first | exact k1.out | exact k2.out) _).mono ?_; rintro e w' ⟨rfl, rfl⟩)
          | go_quiet (fail))
        all_goals go_ret2
        all_goals exact ⟨by rw [← Q.out, ← M.out]; rfl, _, rfl⟩
      · have q2 : decide (y < 0) = false := by simpa using h2
        have Q := Lib.hid (show wrap64 (IntKind.u64.wrap (-(IntKind.u64.wrap ((ab x).tdiv (ab y))))) = wrap64 (x.tdiv y) by rw [tdA, w_nu, td_np x y h1 h2])
        clear h1 h2
        go_enter Try.func36, Try.ntmps36
        go_wp2_with (first
          | (go_at_call 46; refine (size_64 _ (by first | exact k1.out | exact k2.out) _).mono ?_; rintro e w' ⟨rfl, rfl⟩)
          | go_quiet (fail))
        all_goals go_ret2
        all_goals exact ⟨by rw [← Q.out, ← M.out]; rfl, _, rfl⟩
    · have M := Lib.hid (show wrap64 ((ab x).tmod (ab y)) = x.tmod y by
        rw [tmA, tm_p x y h1]; exact w_in (by omega))
      clear km
      have q1 : decide (x < 0) = false := by simpa using h1
      by_cases h2 : y < 0
      · have q2 : decide (y < 0) = true := by simpa using h2
        have Q := Lib.hid (show wrap64 (IntKind.u64.wrap (-(IntKind.u64.wrap ((ab x).tdiv (ab y))))) = wrap64 (x.tdiv y) by rw [tdA, w_nu, td_pn x y h1 h2])
        clear h1 h2
        go_enter Try.func36, Try.ntmps36
        go_wp2_with (first
          | (go_at_call 46; refine (size_64 _ (by first | exact k1.out | exact k2.out) _).mono ?_; rintro e w' ⟨rfl, rfl⟩)
          | go_quiet (fail))
        all_goals go_ret2
        all_goals exact ⟨by rw [← Q.out, ← M.out]; rfl, _, rfl⟩
      · have q2 : decide (y < 0) = false := by simpa using h2
        have Q := Lib.hid (show wrap64 (IntKind.u64.wrap ((ab x).tdiv (ab y))) = wrap64 (x.tdiv y) by rw [tdA, w_u, td_pp x y h1 h2])
        clear h1 h2
        go_enter Try.func36, Try.ntmps36
        go_wp2_with (first
          | (go_at_call 46; refine (size_64 _ (by first | exact k1.out | exact k2.out) _).mono ?_; rintro e w' ⟨rfl, rfl⟩)
          | go_quiet (fail))
        all_goals go_ret2
        all_goals exact ⟨by rw [← Q.out, ← M.out]; rfl, _, rfl⟩
end Go.Proofs.Ytikjegfjgfhiaaa
