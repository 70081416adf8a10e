/- Bits of integers that are not negative. -/
import Derived.Lib.QuoteBits
import Derived.Test.YthbbecmffndgdabDoorBase
namespace Go.Proofs.YthbbecmffndgdabDoor
set_option linter.unusedVariables false
theorem i64_or_nat (a b : Nat) (ha : a < 9223372036854775808) (hb : b < 9223372036854775808) : bits .or .i64 (a : Int) (b : Int) = ((a ||| b : Nat) : Int) := by
  have hx : a ||| b < 2 ^ 63 := Nat.or_lt_two_pow (by omega) (by omega)
  show IntKind.i64.wrap ((BitVec.ofInt 64 (a : Int) ||| BitVec.ofInt 64 (b : Int)).toNat : Int) = _
  rw [BitVec.toNat_or, ofInt_u64 a (by omega), ofInt_u64 b (by omega)]
  exact Lib.wrap_i64_small _ (by omega)
theorem i64_and_nat (a b : Nat) (ha : a < 9223372036854775808) (hb : b < 9223372036854775808) : bits .and .i64 (a : Int) (b : Int) = ((a &&& b : Nat) : Int) := by
  have hx : a &&& b < 2 ^ 63 := Nat.and_lt_two_pow _ (by omega)
  show IntKind.i64.wrap ((BitVec.ofInt 64 (a : Int) &&& BitVec.ofInt 64 (b : Int)).toNat : Int) = _
  rw [BitVec.toNat_and, ofInt_u64 a (by omega), ofInt_u64 b (by omega)]
  exact Lib.wrap_i64_small _ (by omega)
/-- those bits of a that b has not -/
def lessN (a b : Nat) : Nat := a &&& (18446744073709551615 - b)
theorem i64_andNot_nat (a b : Nat) (ha : a < 9223372036854775808) (hb : b < 9223372036854775808) : bits .andNot .i64 (a : Int) (b : Int) = ((lessN a b : Nat) : Int) := by
  have hx : a &&& (18446744073709551615 - b) < 2 ^ 63 := by rw [Nat.and_comm]; exact Nat.and_lt_two_pow _ (by omega)
  show IntKind.i64.wrap ((BitVec.ofInt 64 (a : Int) &&& ~~~BitVec.ofInt 64 (b : Int)).toNat : Int) = _
  rw [BitVec.toNat_and, BitVec.toNat_not, ofInt_u64 a (by omega), ofInt_u64 b (by omega)]
  have e : 2 ^ 64 - 1 - b = 18446744073709551615 - b := by omega
  rw [e]
  exact Lib.wrap_i64_small _ (by omega)
theorem lessN_bit {a b : Nat} (hb : b < 18446744073709551616) {j : Nat} (hj : j < 64) : (lessN a b).testBit j = (a.testBit j && !b.testBit j) := by
  unfold lessN
  rw [Nat.testBit_and]
  congr 1
  rw [show 18446744073709551615 - b = 2 ^ 64 - (b + 1) by omega, Nat.testBit_two_pow_sub_succ (by omega), decide_eq_true hj, Bool.true_and]
theorem lessN_zero {a b : Nat} (ha : a < 18446744073709551616) (hb : b < 18446744073709551616) : lessN a b = 0 ↔ ∀ j, j < 64 → a.testBit j = true → b.testBit j = true := by
  constructor
  · intro h j hj ht
    have := lessN_bit (a := a) hb hj
    rw [h, ht] at this
    simpa using this.symm
  · intro h
    apply Nat.eq_of_testBit_eq
    intro j
    rw [Nat.zero_testBit]
    by_cases hj : j < 64
    · rw [lessN_bit hb hj]
      cases ht : a.testBit j
      · rfl
      · rw [h j hj ht]; rfl
    · unfold lessN
      rw [Nat.testBit_and, Nat.testBit_lt_two_pow (x := a) (Nat.lt_of_lt_of_le (show a < 2 ^ 64 by omega) (Nat.pow_le_pow_right (by omega) (by omega))), Bool.false_and]
theorem lessN_lt (a b : Nat) : lessN a b ≤ a := Nat.and_le_left
end Go.Proofs.YthbbecmffndgdabDoor
