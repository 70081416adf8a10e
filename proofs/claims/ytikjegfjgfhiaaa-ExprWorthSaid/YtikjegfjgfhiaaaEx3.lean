/- The walk of the reference's reckon: it is expr.Do's. -/
import Derived.Test.YtikjegfjgfhiaaaEx2
import Derived.Lib.Zigzag
namespace Go.Proofs.Ytikjegfjgfhiaaa
open Go.RowKit
set_option linter.unusedVariables false
def u64n (x : Int) : Nat := (x % 18446744073709551616).toNat
theorem u64n_lt (x : Int) : u64n x < 18446744073709551616 := by unfold u64n; omega
theorem wrap_n (x : Int) : IntKind.u64.wrap x = ((u64n x : Nat) : Int) := by rw [IntKind.wrap_u64]; unfold u64n; omega
theorem add_u (x y : Int) : wrap64 (IntKind.u64.wrap (IntKind.u64.wrap x + IntKind.u64.wrap y)) = wrap64 (x + y) := by
  rw [w_u, IntKind.wrap_u64, IntKind.wrap_u64]; unfold wrap64; omega
theorem mul_u (x y : Int) : wrap64 ((u64n x * u64n y % 18446744073709551616 : Nat) : Int) = wrap64 (x * y) := by
  have e : ((u64n x * u64n y % 18446744073709551616 : Nat) : Int) = (x * y) % 18446744073709551616 := by
    have ex : ((u64n x : Nat) : Int) = x % 18446744073709551616 := by unfold u64n; omega
    have ey : ((u64n y : Nat) : Int) = y % 18446744073709551616 := by unfold u64n; omega
    rw [Int.natCast_emod, Int.natCast_mul, ex, ey]
    exact (Int.mul_emod x y 18446744073709551616).symm
  rw [e]
  generalize x * y = z
  unfold wrap64; omega
theorem not_u (y : Int) : bits .xor .u64 IntKind.u64.max (IntKind.u64.wrap y) = 18446744073709551615 - IntKind.u64.wrap y := by
  have e2 : IntKind.u64.max = ((2 ^ 64 - 1 : Nat) : Int) := by decide
  have hl := u64n_lt y
  rw [wrap_n, e2, bits_xor_u64_nat _ _ (by decide) (by omega), Lib.xor_ones64 _ (by omega)]
  omega
theorem sub_u (x y : Int) : wrap64 (IntKind.u64.wrap (IntKind.u64.wrap (IntKind.u64.wrap x + bits .xor .u64 IntKind.u64.max (IntKind.u64.wrap y)) + 1)) = wrap64 (x - y) := by
  rw [not_u, w_u, IntKind.wrap_u64, IntKind.wrap_u64, IntKind.wrap_u64]; unfold wrap64; omega
def quoE (x y : Int) : Int := if y = 0 then 0 else wrap64 (x.tdiv y)
def remE (x y : Int) : Int := if y = 0 then 0 else x.tmod y
theorem divided_q (x y : Int) (hx : inI x) (hy : inI y) (w : World) : Calls Try.prog 36 #[.int .i64 x, .int .i64 y] w fun e w' =>
    e = .returned (.tuple #[.int .i64 (quoE x y), .int .i64 (remE x y)]) ∧ ∃ n, w' = w.drewN n := divided_e x y hx hy w
set_option maxHeartbeats 1000000 in
theorem reckon_e (k x y : Int) (hx : inI x) (hy : inI y) (w : World) : Calls Try.prog 22 #[.int .i64 k, .int .i64 x, .int .i64 y] w fun e w' =>
    e = .returned (.int .i64 (doE k x y)) ∧ ∃ n, w' = w.drewN n := by
  by_cases h3 : k = 3
  · subst h3
    have HD := Lib.hid (show wrap64 (IntKind.u64.wrap (IntKind.u64.wrap x + IntKind.u64.wrap y)) = doE 3 x y by rw [add_u]; simp [doE])
    go_enter Try.func22, Try.ntmps22
    go_wp2
    go_ret
    exact ⟨by rw [← HD.out]; rfl, 0, rfl⟩
  · by_cases h4 : k = 4
    · subst h4
      clear h3
      have HD := Lib.hid (show wrap64 (IntKind.u64.wrap (IntKind.u64.wrap (IntKind.u64.wrap x + bits .xor .u64 IntKind.u64.max (IntKind.u64.wrap y)) + 1)) = doE 4 x y by rw [sub_u]; simp [doE])
      have hs : IntKind.u64.signed = false := rfl
      go_enter Try.func22, Try.ntmps22
      go_wp2
      go_ret
      exact ⟨by rw [← HD.out]; rfl, 0, rfl⟩
    · by_cases h5 : k = 5
      · subst h5
        have HD := Lib.hid (show wrap64 ((u64n x * u64n y % 18446744073709551616 : Nat) : Int) = doE 5 x y by rw [mul_u]; simp [doE])
        have E1 := Lib.hid (wrap_n x)
        have E2 := Lib.hid (wrap_n y)
        clear h3 h4
        go_enter Try.func22, Try.ntmps22
        go_wp2_with (first
          | (go_at_call 35; rw [E1.out, E2.out]; refine (mul64_n _ _ (u64n_lt x) (u64n_lt y) _).mono ?_; rintro e w' ⟨rfl, rfl⟩))
        go_ret
        exact ⟨by rw [← HD.out]; rfl, 0, rfl⟩
      · by_cases h6 : k = 6
        · subst h6
          have HD := Lib.hid (show quoE x y = doE 6 x y by simp [doE, quoE])
          clear h3 h4 h5
          go_enter Try.func22, Try.ntmps22
          go_wp2_with (first
            | (go_at_call 36; refine (divided_q x y hx hy _).mono ?_; rintro e w' ⟨rfl, n, rfl⟩))
          go_ret
          exact ⟨by rw [← HD.out]; rfl, _, rfl⟩
        · by_cases h7 : k = 7
          · subst h7
            have HD := Lib.hid (show remE x y = doE 7 x y by simp [doE, remE])
            clear h3 h4 h5 h6
            go_enter Try.func22, Try.ntmps22
            go_wp2_with (first
              | (go_at_call 36; refine (divided_q x y hx hy _).mono ?_; rintro e w' ⟨rfl, n, rfl⟩))
            go_ret
            exact ⟨by rw [← HD.out]; rfl, _, rfl⟩
          · have e3 : (k == 3) = false := by simpa using h3
            have e4 : (k == 4) = false := by simpa using h4
            have e5 : (k == 5) = false := by simpa using h5
            have e6 : (k == 6) = false := by simpa using h6
            have e7 : (k == 7) = false := by simpa using h7
            clear hx hy
            by_cases h8 : k = 8
            · subst h8
              clear h3 h4 h5 h6 h7
              by_cases hab : x < y
              · have HD := Lib.hid (show doE 8 x y = 1 by simp [doE, hab])
                go_enter Try.func22, Try.ntmps22
                go_wp2
                go_ret
                exact ⟨by rw [HD.out]; rfl, 0, rfl⟩
              · have HD := Lib.hid (show doE 8 x y = 0 by simp [doE, hab])
                go_enter Try.func22, Try.ntmps22
                go_wp2
                go_ret
                exact ⟨by rw [HD.out]; rfl, 0, rfl⟩
            · have e8 : (k == 8) = false := by simpa using h8
              by_cases h9 : k = 9
              · subst h9
                clear h3 h4 h5 h6 h7 h8
                by_cases hab : x = y
                · subst hab
                  have HD := Lib.hid (show doE 9 x x = 1 by simp [doE])
                  go_enter Try.func22, Try.ntmps22
                  go_wp2
                  go_ret
                  exact ⟨by rw [HD.out]; rfl, 0, rfl⟩
                · have eab : (x == y) = false := by simpa using hab
                  have HD := Lib.hid (show doE 9 x y = 0 by simp [doE, hab])
                  go_enter Try.func22, Try.ntmps22
                  go_wp2
                  go_ret
                  exact ⟨by rw [HD.out]; rfl, 0, rfl⟩
              · have e9 : (k == 9) = false := by simpa using h9
                have HD := Lib.hid (show doE k x y = 0 by simp [doE, h3, h4, h5, h6, h7, h8, h9])
                clear h3 h4 h5 h6 h7 h8 h9
                go_enter Try.func22, Try.ntmps22
                go_wp2
                go_ret
                exact ⟨by rw [HD.out]; rfl, 0, rfl⟩
end Go.Proofs.Ytikjegfjgfhiaaa
