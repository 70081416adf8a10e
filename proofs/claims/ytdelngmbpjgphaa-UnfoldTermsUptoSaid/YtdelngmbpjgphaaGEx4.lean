/- Texts merged: Ex2, Ex3, Ex4. -/
import Derived.Test.YtdelngmbpjgphaaEx1
import Derived.Test.YtdelngmbpjgphaaGExMul
import Derived.Lib.EndianBits
import Derived.Lib.Zigzag
import Derived.Test.YtdelngmbpjgphaaGSrSpec
/- The walk of the reference's reckon: it is expr.Do's. -/
namespace Go.Proofs.Ytdelngmbpjgphaa
open Go.RowKit
set_option linter.unusedVariables false
def ab (x : Int) : Int := ((x.natAbs : Nat) : Int)
theorem neg_u (x : Int) (h : x < 0) (h2 : -9223372036854775808 ≤ x) : IntKind.u64.wrap (-(IntKind.u64.wrap x)) = ab x := by
  rw [IntKind.wrap_u64, IntKind.wrap_u64]; unfold ab; omega
theorem pos_u (x : Int) (h : ¬ x < 0) (h2 : x ≤ 9223372036854775807) : IntKind.u64.wrap x = ab x := by
  rw [IntKind.wrap_u64]; unfold ab; omega
theorem size_64 (x : Int) (hx : inI x) (w : World) : Calls Try.prog 79 #[.int .i64 x] w fun e w' => e = .returned (.int .u64 (ab x)) ∧ w = w' := by
  have h1 := hx.1
  have h2 := hx.2
  by_cases h : x < 0
  · have E := Lib.hid (neg_u x h h1)
    clear hx h1 h2
    go_enter Try.func79, Try.ntmps79
    go_wp2
    go_ret
    exact ⟨by rw [← E.out]; rfl, rfl⟩
  · have E := Lib.hid (pos_u x h h2)
    clear hx h1 h2
    go_enter Try.func79, Try.ntmps79
    go_wp2
    go_ret
    exact ⟨by rw [← E.out]; rfl, rfl⟩
theorem w_u (z : Int) : wrap64 (IntKind.u64.wrap z) = wrap64 z := by
  rw [IntKind.wrap_u64]; unfold wrap64; omega
theorem w_nu (z : Int) : wrap64 (IntKind.u64.wrap (-(IntKind.u64.wrap z))) = wrap64 (-z) := by
  rw [IntKind.wrap_u64, IntKind.wrap_u64]; unfold wrap64; omega
theorem td_nn (x y : Int) (h1 : x < 0) (h2 : y < 0) : x.tdiv y = (ab x) / (ab y) := by
  unfold ab
  have ex : x = -((x.natAbs : Nat) : Int) := by omega
  have ey : y = -((y.natAbs : Nat) : Int) := by omega
  generalize x.natAbs = a at *; generalize y.natAbs = b at *
  subst ex; subst ey
  rw [Int.neg_tdiv, Int.tdiv_neg, Int.neg_neg, Int.tdiv_eq_ediv_of_nonneg (by omega)]
theorem td_np (x y : Int) (h1 : x < 0) (h2 : ¬ y < 0) : x.tdiv y = -((ab x) / (ab y)) := by
  unfold ab
  have ex : x = -((x.natAbs : Nat) : Int) := by omega
  have ey : y = ((y.natAbs : Nat) : Int) := by omega
  generalize x.natAbs = a at *; generalize y.natAbs = b at *
  subst ex; subst ey
  rw [Int.neg_tdiv, Int.tdiv_eq_ediv_of_nonneg (by omega)]
theorem td_pn (x y : Int) (h1 : ¬ x < 0) (h2 : y < 0) : x.tdiv y = -((ab x) / (ab y)) := by
  unfold ab
  have ex : x = ((x.natAbs : Nat) : Int) := by omega
  have ey : y = -((y.natAbs : Nat) : Int) := by omega
  generalize x.natAbs = a at *; generalize y.natAbs = b at *
  subst ex; subst ey
  rw [Int.tdiv_neg, Int.tdiv_eq_ediv_of_nonneg (by omega)]
theorem td_pp (x y : Int) (h1 : ¬ x < 0) (h2 : ¬ y < 0) : x.tdiv y = (ab x) / (ab y) := by
  unfold ab
  have ex : x = ((x.natAbs : Nat) : Int) := by omega
  have ey : y = ((y.natAbs : Nat) : Int) := by omega
  generalize x.natAbs = a at *; generalize y.natAbs = b at *
  subst ex; subst ey
  rw [Int.tdiv_eq_ediv_of_nonneg (by omega)]
theorem natAbs_ediv_self (y : Int) (a : Int) : a % (ab y) = a % y := by
  unfold ab
  rcases Int.natAbs_eq y with e | e
  · rw [← e]
  · conv => rhs; rw [e, Int.emod_neg]
theorem tm_n (x y : Int) (h1 : x < 0) : x.tmod y = -((ab x) % (ab y)) := by
  have ex : x = -((x.natAbs : Nat) : Int) := by omega
  rw [natAbs_ediv_self]
  unfold ab
  generalize x.natAbs = a at *
  subst ex
  rw [Int.neg_tmod, Int.tmod_eq_emod_of_nonneg (by omega)]
theorem tm_p (x y : Int) (h1 : ¬ x < 0) : x.tmod y = (ab x) % (ab y) := by
  have ex : x = ((x.natAbs : Nat) : Int) := by omega
  rw [natAbs_ediv_self]
  unfold ab
  generalize x.natAbs = a at *
  subst ex
  rw [Int.tmod_eq_emod_of_nonneg (by omega)]
theorem emod_in (x y : Int) (hy : inI y) (h0 : ¬ y = 0) : 0 ≤ (ab x) % (ab y) ∧ (ab x) % (ab y) < 9223372036854775808 := by
  have h1 := hy.1
  have h2 := hy.2
  unfold ab
  have a := Int.emod_nonneg ((x.natAbs : Nat) : Int) (b := ((y.natAbs : Nat) : Int)) (by omega)
  have b := Int.emod_lt_of_pos ((x.natAbs : Nat) : Int) (b := ((y.natAbs : Nat) : Int)) (by omega)
  omega
theorem w_in {z : Int} (h : -9223372036854775808 ≤ z ∧ z < 9223372036854775808) : wrap64 z = z := by unfold wrap64; omega
theorem tdA (x y : Int) : (ab x).tdiv (ab y) = ab x / ab y := Int.tdiv_eq_ediv_of_nonneg (by unfold ab; omega)
theorem tmA (x y : Int) : (ab x).tmod (ab y) = ab x % ab y := Int.tmod_eq_emod_of_nonneg (by unfold ab; omega)
set_option maxHeartbeats 1000000 in
theorem divided_e (x y : Int) (hx : inI x) (hy : inI y) (w : World) : Calls Try.prog 76 #[.int .i64 x, .int .i64 y] w fun e w' =>
    e = .returned (.tuple #[.int .i64 (if y = 0 then 0 else wrap64 (x.tdiv y)), .int .i64 (if y = 0 then 0 else x.tmod y)]) ∧ ∃ n, w' = w.drewN n := by
  by_cases h0 : y = 0
  · subst h0
    go_enter Try.func76, Try.ntmps76
    go_wp2
    go_ret2
    exact ⟨by simp, 0, rfl⟩
  · have e0 : (y == 0) = false := by simpa using h0
    have hn : ¬ ab y = 0 := by unfold ab; omega
    have eQ : (if y = 0 then (0 : Int) else wrap64 (x.tdiv y)) = wrap64 (x.tdiv y) := by rw [if_neg h0]
    have eR : (if y = 0 then (0 : Int) else x.tmod y) = x.tmod y := by rw [if_neg h0]
    rw [eQ, eR]
    have k1 := Lib.hid hx
    have k2 := Lib.hid hy
    have km := emod_in x y hy h0
    clear hx hy h0 eQ eR
    by_cases h1 : x < 0
    · have M := Lib.hid (show wrap64 (IntKind.u64.wrap (-((ab x).tmod (ab y)))) = x.tmod y by
        rw [tmA, w_u, tm_n x y h1]; exact w_in (by omega))
      clear km
      have q1 : decide (x < 0) = true := by simpa using h1
      by_cases h2 : y < 0
      · have q2 : decide (y < 0) = true := by simpa using h2
        have Q := Lib.hid (show wrap64 (IntKind.u64.wrap ((ab x).tdiv (ab y))) = wrap64 (x.tdiv y) by rw [tdA, w_u, td_nn x y h1 h2])
        clear h1 h2
        go_enter Try.func76, Try.ntmps76
        go_wp2_with (first
          | (go_at_call 79; refine (size_64 _ (by first | exact k1.out | exact k2.out) _).mono ?_; rintro e w' ⟨rfl, rfl⟩)
          | go_quiet (fail))
        all_goals go_ret2
        all_goals exact ⟨by rw [← Q.out, ← M.out]; rfl, _, rfl⟩
      · have q2 : decide (y < 0) = false := by simpa using h2
        have Q := Lib.hid (show wrap64 (IntKind.u64.wrap (-(IntKind.u64.wrap ((ab x).tdiv (ab y))))) = wrap64 (x.tdiv y) by rw [tdA, w_nu, td_np x y h1 h2])
        clear h1 h2
        go_enter Try.func76, Try.ntmps76
        go_wp2_with (first
          | (go_at_call 79; refine (size_64 _ (by first | exact k1.out | exact k2.out) _).mono ?_; rintro e w' ⟨rfl, rfl⟩)
          | go_quiet (fail))
        all_goals go_ret2
        all_goals exact ⟨by rw [← Q.out, ← M.out]; rfl, _, rfl⟩
    · have M := Lib.hid (show wrap64 ((ab x).tmod (ab y)) = x.tmod y by
        rw [tmA, tm_p x y h1]; exact w_in (by omega))
      clear km
      have q1 : decide (x < 0) = false := by simpa using h1
      by_cases h2 : y < 0
      · have q2 : decide (y < 0) = true := by simpa using h2
        have Q := Lib.hid (show wrap64 (IntKind.u64.wrap (-(IntKind.u64.wrap ((ab x).tdiv (ab y))))) = wrap64 (x.tdiv y) by rw [tdA, w_nu, td_pn x y h1 h2])
        clear h1 h2
        go_enter Try.func76, Try.ntmps76
        go_wp2_with (first
          | (go_at_call 79; refine (size_64 _ (by first | exact k1.out | exact k2.out) _).mono ?_; rintro e w' ⟨rfl, rfl⟩)
          | go_quiet (fail))
        all_goals go_ret2
        all_goals exact ⟨by rw [← Q.out, ← M.out]; rfl, _, rfl⟩
      · have q2 : decide (y < 0) = false := by simpa using h2
        have Q := Lib.hid (show wrap64 (IntKind.u64.wrap ((ab x).tdiv (ab y))) = wrap64 (x.tdiv y) by rw [tdA, w_u, td_pp x y h1 h2])
        clear h1 h2
        go_enter Try.func76, Try.ntmps76
        go_wp2_with (first
          | (go_at_call 79; refine (size_64 _ (by first | exact k1.out | exact k2.out) _).mono ?_; rintro e w' ⟨rfl, rfl⟩)
          | go_quiet (fail))
        all_goals go_ret2
        all_goals exact ⟨by rw [← Q.out, ← M.out]; rfl, _, rfl⟩
end Go.Proofs.Ytdelngmbpjgphaa
/- The walk of the reference's reckon: it is expr.Do's. -/
namespace Go.Proofs.Ytdelngmbpjgphaa
open Go.RowKit
set_option linter.unusedVariables false
def u64n (x : Int) : Nat := (x % 18446744073709551616).toNat
theorem u64n_lt (x : Int) : u64n x < 18446744073709551616 := by unfold u64n; omega
theorem wrap_n (x : Int) : IntKind.u64.wrap x = ((u64n x : Nat) : Int) := by rw [IntKind.wrap_u64]; unfold u64n; omega
theorem add_u (x y : Int) : wrap64 (IntKind.u64.wrap (IntKind.u64.wrap x + IntKind.u64.wrap y)) = wrap64 (x + y) := by
  rw [w_u, IntKind.wrap_u64, IntKind.wrap_u64]; unfold wrap64; omega
theorem mul_u (x y : Int) : wrap64 ((u64n x * u64n y % 18446744073709551616 : Nat) : Int) = wrap64 (x * y) := by
  have e : ((u64n x * u64n y % 18446744073709551616 : Nat) : Int) = (x * y) % 18446744073709551616 := by
    have ex : ((u64n x : Nat) : Int) = x % 18446744073709551616 := by unfold u64n; omega
    have ey : ((u64n y : Nat) : Int) = y % 18446744073709551616 := by unfold u64n; omega
    rw [Int.natCast_emod, Int.natCast_mul, ex, ey]
    exact (Int.mul_emod x y 18446744073709551616).symm
  rw [e]
  generalize x * y = z
  unfold wrap64; omega
theorem not_u (y : Int) : bits .xor .u64 IntKind.u64.max (IntKind.u64.wrap y) = 18446744073709551615 - IntKind.u64.wrap y := by
  have e2 : IntKind.u64.max = ((2 ^ 64 - 1 : Nat) : Int) := by decide
  have hl := u64n_lt y
  rw [wrap_n, e2, bits_xor_u64_nat _ _ (by decide) (by omega), Lib.xor_ones64 _ (by omega)]
  omega
theorem sub_u (x y : Int) : wrap64 (IntKind.u64.wrap (IntKind.u64.wrap (IntKind.u64.wrap x + bits .xor .u64 IntKind.u64.max (IntKind.u64.wrap y)) + 1)) = wrap64 (x - y) := by
  rw [not_u, w_u, IntKind.wrap_u64, IntKind.wrap_u64, IntKind.wrap_u64]; unfold wrap64; omega
def quoE (x y : Int) : Int := if y = 0 then 0 else wrap64 (x.tdiv y)
def remE (x y : Int) : Int := if y = 0 then 0 else x.tmod y
theorem divided_q (x y : Int) (hx : inI x) (hy : inI y) (w : World) : Calls Try.prog 76 #[.int .i64 x, .int .i64 y] w fun e w' =>
    e = .returned (.tuple #[.int .i64 (quoE x y), .int .i64 (remE x y)]) ∧ ∃ n, w' = w.drewN n := divided_e x y hx hy w
set_option maxHeartbeats 1000000 in
theorem reckon_e (k x y : Int) (hx : inI x) (hy : inI y) (w : World) : Calls Try.prog 64 #[.int .i64 k, .int .i64 x, .int .i64 y] w fun e w' =>
    e = .returned (.int .i64 (doE k x y)) ∧ ∃ n, w' = w.drewN n := by
  by_cases h3 : k = 3
  · subst h3
    have HD := Lib.hid (show wrap64 (IntKind.u64.wrap (IntKind.u64.wrap x + IntKind.u64.wrap y)) = doE 3 x y by rw [add_u]; simp [doE])
    go_enter Try.func64, Try.ntmps64
    go_wp2
    go_ret
    exact ⟨by rw [← HD.out]; rfl, 0, rfl⟩
  · by_cases h4 : k = 4
    · subst h4
      clear h3
      have HD := Lib.hid (show wrap64 (IntKind.u64.wrap (IntKind.u64.wrap (IntKind.u64.wrap x + bits .xor .u64 IntKind.u64.max (IntKind.u64.wrap y)) + 1)) = doE 4 x y by rw [sub_u]; simp [doE])
      have hs : IntKind.u64.signed = false := rfl
      go_enter Try.func64, Try.ntmps64
      go_wp2
      go_ret
      exact ⟨by rw [← HD.out]; rfl, 0, rfl⟩
    · by_cases h5 : k = 5
      · subst h5
        have HD := Lib.hid (show wrap64 ((u64n x * u64n y % 18446744073709551616 : Nat) : Int) = doE 5 x y by rw [mul_u]; simp [doE])
        have E1 := Lib.hid (wrap_n x)
        have E2 := Lib.hid (wrap_n y)
        clear h3 h4
        go_enter Try.func64, Try.ntmps64
        go_wp2_with (first
          | (go_at_call 75; rw [E1.out, E2.out]; refine (mul64_n _ _ (u64n_lt x) (u64n_lt y) _).mono ?_; rintro e w' ⟨rfl, rfl⟩))
        go_ret
        exact ⟨by rw [← HD.out]; rfl, 0, rfl⟩
      · by_cases h6 : k = 6
        · subst h6
          have HD := Lib.hid (show quoE x y = doE 6 x y by simp [doE, quoE])
          clear h3 h4 h5
          go_enter Try.func64, Try.ntmps64
          go_wp2_with (first
            | (go_at_call 76; refine (divided_q x y hx hy _).mono ?_; rintro e w' ⟨rfl, n, rfl⟩))
          go_ret
          exact ⟨by rw [← HD.out]; rfl, _, rfl⟩
        · by_cases h7 : k = 7
          · subst h7
            have HD := Lib.hid (show remE x y = doE 7 x y by simp [doE, remE])
            clear h3 h4 h5 h6
            go_enter Try.func64, Try.ntmps64
            go_wp2_with (first
              | (go_at_call 76; refine (divided_q x y hx hy _).mono ?_; rintro e w' ⟨rfl, n, rfl⟩))
            go_ret
            exact ⟨by rw [← HD.out]; rfl, _, rfl⟩
          · have e3 : (k == 3) = false := by simpa using h3
            have e4 : (k == 4) = false := by simpa using h4
            have e5 : (k == 5) = false := by simpa using h5
            have e6 : (k == 6) = false := by simpa using h6
            have e7 : (k == 7) = false := by simpa using h7
            clear hx hy
            by_cases h8 : k = 8
            · subst h8
              clear h3 h4 h5 h6 h7
              by_cases hab : x < y
              · have HD := Lib.hid (show doE 8 x y = 1 by simp [doE, hab])
                go_enter Try.func64, Try.ntmps64
                go_wp2
                go_ret
                exact ⟨by rw [HD.out]; rfl, 0, rfl⟩
              · have HD := Lib.hid (show doE 8 x y = 0 by simp [doE, hab])
                go_enter Try.func64, Try.ntmps64
                go_wp2
                go_ret
                exact ⟨by rw [HD.out]; rfl, 0, rfl⟩
            · have e8 : (k == 8) = false := by simpa using h8
              by_cases h9 : k = 9
              · subst h9
                clear h3 h4 h5 h6 h7 h8
                by_cases hab : x = y
                · subst hab
                  have HD := Lib.hid (show doE 9 x x = 1 by simp [doE])
                  go_enter Try.func64, Try.ntmps64
                  go_wp2
                  go_ret
                  exact ⟨by rw [HD.out]; rfl, 0, rfl⟩
                · have eab : (x == y) = false := by simpa using hab
                  have HD := Lib.hid (show doE 9 x y = 0 by simp [doE, hab])
                  go_enter Try.func64, Try.ntmps64
                  go_wp2
                  go_ret
                  exact ⟨by rw [HD.out]; rfl, 0, rfl⟩
              · have e9 : (k == 9) = false := by simpa using h9
                have HD := Lib.hid (show doE k x y = 0 by simp [doE, h3, h4, h5, h6, h7, h8, h9])
                clear h3 h4 h5 h6 h7 h8 h9
                go_enter Try.func64, Try.ntmps64
                go_wp2
                go_ret
                exact ⟨by rw [HD.out]; rfl, 0, rfl⟩
end Go.Proofs.Ytdelngmbpjgphaa
/- The walks of ETwo and of expr.two, and what goes with them. -/
namespace Go.Proofs.Ytdelngmbpjgphaa
end Go.Proofs.Ytdelngmbpjgphaa
