/- How many bits a word has, as math/bits reckons it. -/
import Derived.Test.YthcafocpifjopaaDoorBsSpec
namespace Go.Proofs.YthcafocpifjopaaDoor
set_option linter.unusedVariables false
theorem and_split (lo hi ml mh : Nat) (h1 : lo < 256) (h2 : ml < 256) : (lo + 256 * hi) &&& (ml + 256 * mh) = (lo &&& ml) + 256 * (hi &&& mh) := by
  have e : ∀ a b : Nat, a < 256 → a + 256 * b = 2 ^ 8 * b + a := by intro a b _; omega
  have h3 : lo &&& ml < 256 := Nat.lt_of_le_of_lt Nat.and_le_left h1
  rw [e _ _ h1, e _ _ h2, e _ _ h3]
  apply Nat.eq_of_testBit_eq
  intro j
  rw [Nat.testBit_and, Nat.testBit_two_pow_mul_add _ h1, Nat.testBit_two_pow_mul_add _ h2, Nat.testBit_two_pow_mul_add _ h3]
  split
  · rw [Nat.testBit_and]
  · rw [Nat.testBit_and]
def s1 (c : Nat) : Nat := ((c / 2) &&& 85) + (c &&& 85)
def s2 (c : Nat) : Nat := ((c / 4) &&& 51) + (c &&& 51)
def s3 (c : Nat) : Nat := (c / 16 + c) % 16
/-- how many of the first n bits -/
def popB (a : Nat) : Nat → Nat
  | 0 => 0
  | n + 1 => popB a n + (if a.testBit n then 1 else 0)
theorem byte_pop : ∀ c : Fin 256, s3 (s2 (s1 c.val)) = popB c.val 8 ∧ s2 (s1 c.val) % 16 ≤ 4 ∧ s2 (s1 c.val) / 16 ≤ 4 ∧ s1 c.val < 256 ∧ s2 (s1 c.val) < 256 := by decide +kernel
theorem and_low (c t : Nat) (h : c < 256) : (c / 2 + 128 * (t % 2)) &&& 85 = (c / 2) &&& 85 := by
  have key : ∀ (c : Fin 256) (t : Fin 2), (c.val / 2 + 128 * t.val) &&& 85 = (c.val / 2) &&& 85 := by decide +kernel
  exact key ⟨c, h⟩ ⟨t % 2, Nat.mod_lt _ (by decide)⟩
theorem and_low2 (c t : Nat) (h : c < 256) : (c / 4 + 64 * (t % 4)) &&& 51 = (c / 4) &&& 51 := by
  have key : ∀ (c : Fin 256) (t : Fin 4), (c.val / 4 + 64 * t.val) &&& 51 = (c.val / 4) &&& 51 := by decide +kernel
  exact key ⟨c, h⟩ ⟨t % 4, Nat.mod_lt _ (by decide)⟩
theorem step1 (lo hi M : Nat) (h : lo < 256) : (((lo + 256 * hi) / 2) &&& (85 + 256 * M)) + ((lo + 256 * hi) &&& (85 + 256 * M)) = s1 lo + 256 * (((hi / 2) &&& M) + (hi &&& M)) := by
  have e : (lo + 256 * hi) / 2 = (lo / 2 + 128 * (hi % 2)) + 256 * (hi / 2) := by omega
  rw [e, and_split _ _ _ _ (by omega) (by decide), and_split _ _ _ _ h (by decide), and_low _ _ h]
  unfold s1; omega
theorem step2 (lo hi M : Nat) (h : lo < 256) : (((lo + 256 * hi) / 4) &&& (51 + 256 * M)) + ((lo + 256 * hi) &&& (51 + 256 * M)) = s2 lo + 256 * (((hi / 4) &&& M) + (hi &&& M)) := by
  have e : (lo + 256 * hi) / 4 = (lo / 4 + 64 * (hi % 4)) + 256 * (hi / 4) := by omega
  rw [e, and_split _ _ _ _ (by omega) (by decide), and_split _ _ _ _ h (by decide), and_low2 _ _ h]
  unfold s2; omega
theorem step3 (a b M : Nat) (h1 : a % 16 ≤ 4) (h2 : a / 16 ≤ 4) (h3 : b % 16 ≤ 4) : (((a + 256 * b) / 16) + (a + 256 * b)) &&& (15 + 256 * M) = s3 a + 256 * ((b / 16 + b) &&& M) := by
  have e : (a + 256 * b) / 16 + (a + 256 * b) = (a / 16 + a + 16 * (b % 16)) + 256 * (b / 16 + b) := by omega
  rw [e, and_split _ _ _ _ (by omega) (by decide)]
  have e2 : (a / 16 + a + 16 * (b % 16)) &&& 15 = (a / 16 + a + 16 * (b % 16)) % 16 := Nat.and_two_pow_sub_one_eq_mod _ 4
  rw [e2]
  unfold s3; omega
def mask (b : Nat) : Nat → Nat
  | 0 => 0
  | k + 1 => b + 256 * mask b k
def w1 (k x : Nat) : Nat := ((x / 2) &&& mask 85 k) + (x &&& mask 85 k)
def w2 (k x : Nat) : Nat := ((x / 4) &&& mask 51 k) + (x &&& mask 51 k)
def w3 (k x : Nat) : Nat := (x / 16 + x) &&& mask 15 k
/-- byte by byte -/
def sumB : Nat → Nat → Nat
  | 0, _ => 0
  | k + 1, x => popB (x % 256) 8 + 256 * sumB k (x / 256)
theorem byte_split (x : Nat) : x = x % 256 + 256 * (x / 256) := by omega
theorem w21_succ (k x : Nat) : w2 (k + 1) (w1 (k + 1) x) = s2 (s1 (x % 256)) + 256 * w2 k (w1 k (x / 256)) := by
  have hlt : x % 256 < 256 := Nat.mod_lt _ (by decide)
  have hb := byte_pop ⟨x % 256, hlt⟩
  have e1 : w1 (k + 1) x = s1 (x % 256) + 256 * w1 k (x / 256) := by
    conv => lhs; rw [byte_split x]
    exact step1 _ _ _ hlt
  rw [e1]
  exact step2 _ _ _ hb.2.2.2.1
theorem w21_low (k x : Nat) : w2 k (w1 k x) % 16 ≤ 4 := by
  cases k with
  | zero => simp [w2, mask]
  | succ k =>
    rw [w21_succ]
    have hb := byte_pop ⟨x % 256, Nat.mod_lt _ (by decide)⟩
    have h2 := hb.2.1
    simp only at h2
    omega
theorem w321 (k x : Nat) : w3 k (w2 k (w1 k x)) = sumB k x := by
  induction k generalizing x with
  | zero => simp [w3, mask, sumB]
  | succ k ih =>
    have hb := byte_pop ⟨x % 256, Nat.mod_lt _ (by decide)⟩
    rw [w21_succ]
    have h3 := step3 (s2 (s1 (x % 256))) (w2 k (w1 k (x / 256))) (mask 15 k) hb.2.1 hb.2.2.1 (w21_low _ _)
    have e : w3 (k + 1) (s2 (s1 (x % 256)) + 256 * w2 k (w1 k (x / 256))) = s3 (s2 (s1 (x % 256))) + 256 * w3 k (w2 k (w1 k (x / 256))) := h3
    rw [e, ih]
    have h1 := hb.1
    simp only at h1
    rw [h1]
    rfl
theorem popB_le (a n : Nat) : popB a n ≤ n := by
  induction n with
  | zero => simp [popB]
  | succ n ih => unfold popB; split <;> omega
theorem popB_low (x : Nat) : popB (x % 256) 8 = popB x 8 := by
  have e : ∀ n, n ≤ 8 → popB (x % 256) n = popB x n := by
    intro n
    induction n with
    | zero => intro _; rfl
    | succ n ih =>
      intro h
      unfold popB
      rw [ih (by omega), show (256 : Nat) = 2 ^ 8 by decide, Nat.testBit_mod_two_pow, decide_eq_true (by omega), Bool.true_and]
  exact e 8 (Nat.le_refl _)
theorem popB_byte (x n : Nat) : popB x (n + 8) = popB (x % 256) 8 + popB (x / 256) n := by
  rw [popB_low]
  induction n with
  | zero => simp [popB]
  | succ n ih =>
    have e : n + 1 + 8 = (n + 8) + 1 := by omega
    rw [e]
    have eb : (x / 256).testBit n = x.testBit (n + 8) := by
      rw [show (256 : Nat) = 2 ^ 8 by decide, Nat.testBit_div_two_pow]
    have l : popB x (n + 8 + 1) = popB x (n + 8) + (if x.testBit (n + 8) then 1 else 0) := rfl
    have r : popB (x / 256) (n + 1) = popB (x / 256) n + (if (x / 256).testBit n then 1 else 0) := rfl
    rw [l, r, ih, eb]
    omega
end Go.Proofs.YthcafocpifjopaaDoor
