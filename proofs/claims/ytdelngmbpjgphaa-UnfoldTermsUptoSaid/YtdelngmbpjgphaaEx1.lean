/- The walks of expr.Do and of the reference's reckon. -/
import Derived.Test.YtdelngmbpjgphaaBase
namespace Go.Proofs.Ytdelngmbpjgphaa
open Go.RowKit
set_option linter.unusedVariables false
def doE (k a b : Int) : Int :=
  if k = 3 then wrap64 (a + b)
  else if k = 4 then wrap64 (a - b)
  else if k = 5 then wrap64 (a * b)
  else if k = 8 then (if a < b then 1 else 0)
  else if k = 9 then (if a = b then 1 else 0)
  else if b = 0 then 0
  else if k = 6 then wrap64 (a.tdiv b)
  else if k = 7 then a.tmod b
  else 0
theorem flag_any (x : Bool) (w : World) : Calls Try.prog 73 #[.bool x] w fun e w' => e = .returned (.int .i64 (if x then 1 else 0)) ∧ w = w' := by
  cases x
  · go_enter Try.func73, Try.ntmps73
    go_wp2
    go_ret
    exact ⟨rfl, rfl⟩
  · go_enter Try.func73, Try.ntmps73
    go_wp2
    go_ret
    exact ⟨rfl, rfl⟩
set_option maxHeartbeats 1000000 in
theorem do_e (k a b : Int) (ha : inI a) (hb : inI b) (w : World) : Calls Try.prog 59 #[.int .i64 k, .int .i64 a, .int .i64 b] w fun e w' => e = .returned (.int .i64 (doE k a b)) ∧ w = w' := by
  by_cases h3 : k = 3
  · subst h3
    have HD := Lib.hid (show doE 3 a b = wrap64 (a + b) by simp [doE])
    go_enter Try.func59, Try.ntmps59
    go_wp2
    go_ret
    exact ⟨by rw [HD.out]; rfl, rfl⟩
  · by_cases h4 : k = 4
    · subst h4
      have HD := Lib.hid (show doE 4 a b = wrap64 (a - b) by simp [doE])
      clear h3
      go_enter Try.func59, Try.ntmps59
      go_wp2
      go_ret
      exact ⟨by rw [HD.out]; rfl, rfl⟩
    · by_cases h5 : k = 5
      · subst h5
        have HD := Lib.hid (show doE 5 a b = wrap64 (a * b) by simp [doE])
        clear h3 h4
        go_enter Try.func59, Try.ntmps59
        go_wp2
        go_ret
        exact ⟨by rw [HD.out]; rfl, rfl⟩
      · by_cases h8 : k = 8
        · subst h8
          clear h3 h4 h5
          by_cases hab : a < b
          · have HD := Lib.hid (show doE 8 a b = 1 by simp [doE, hab])
            go_enter Try.func59, Try.ntmps59
            go_wp2_with (go_at_call 73; refine (flag_any _ _).mono ?_; rintro e w' ⟨rfl, rfl⟩)
            go_ret
            exact ⟨by rw [HD.out]; simp, rfl⟩
          · have HD := Lib.hid (show doE 8 a b = 0 by simp [doE, hab])
            go_enter Try.func59, Try.ntmps59
            go_wp2_with (go_at_call 73; refine (flag_any _ _).mono ?_; rintro e w' ⟨rfl, rfl⟩)
            go_ret
            exact ⟨by rw [HD.out]; simp, rfl⟩
        · by_cases h9 : k = 9
          · subst h9
            clear h3 h4 h5 h8
            by_cases hab : a = b
            · subst hab
              have HD := Lib.hid (show doE 9 a a = 1 by simp [doE])
              go_enter Try.func59, Try.ntmps59
              go_wp2_with (go_at_call 73; refine (flag_any _ _).mono ?_; rintro e w' ⟨rfl, rfl⟩)
              go_ret
              exact ⟨by rw [HD.out]; simp, rfl⟩
            · have eab : (a == b) = false := by simpa using hab
              have HD := Lib.hid (show doE 9 a b = 0 by simp [doE, hab])
              go_enter Try.func59, Try.ntmps59
              go_wp2_with (go_at_call 73; refine (flag_any _ _).mono ?_; rintro e w' ⟨rfl, rfl⟩)
              go_ret
              exact ⟨by rw [HD.out]; simp, rfl⟩
          · have e3 : (k == 3) = false := by simpa using h3
            have e4 : (k == 4) = false := by simpa using h4
            have e5 : (k == 5) = false := by simpa using h5
            have e8 : (k == 8) = false := by simpa using h8
            have e9 : (k == 9) = false := by simpa using h9
            by_cases hb0 : b = 0
            · subst hb0
              have HD := Lib.hid (show doE k a 0 = 0 by simp [doE, h3, h4, h5, h8, h9])
              clear h3 h4 h5 h8 h9
              go_enter Try.func59, Try.ntmps59
              go_wp2
              go_ret
              exact ⟨by rw [HD.out]; rfl, rfl⟩
            · have eb : (b == 0) = false := by simpa using hb0
              by_cases h6 : k = 6
              · subst h6
                have HD := Lib.hid (show doE 6 a b = wrap64 (a.tdiv b) by simp [doE, hb0])
                clear h3 h4 h5 h8 h9
                go_enter Try.func59, Try.ntmps59
                go_wp2
                go_ret
                exact ⟨by rw [HD.out]; rfl, rfl⟩
              · have e6 : (k == 6) = false := by simpa using h6
                by_cases h7 : k = 7
                · subst h7
                  have HD := Lib.hid (show doE 7 a b = a.tmod b by simp [doE, hb0])
                  clear h3 h4 h5 h8 h9 h6
                  go_enter Try.func59, Try.ntmps59
                  go_wp2
                  go_ret
                  exact ⟨by rw [HD.out]; rfl, rfl⟩
                · have e7 : (k == 7) = false := by simpa using h7
                  have HD := Lib.hid (show doE k a b = 0 by simp [doE, h3, h4, h5, h8, h9, h6, h7])
                  clear h3 h4 h5 h8 h9 h6 h7
                  go_enter Try.func59, Try.ntmps59
                  go_wp2
                  go_ret
                  exact ⟨by rw [HD.out]; rfl, rfl⟩
end Go.Proofs.Ytdelngmbpjgphaa
