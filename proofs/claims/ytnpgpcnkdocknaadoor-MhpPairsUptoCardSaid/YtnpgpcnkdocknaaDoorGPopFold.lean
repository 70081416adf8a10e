/- Texts merged: Pop, PopFold. -/
import Derived.Test.YtnpgpcnkdocknaaDoorGSetSpec
namespace Go.Proofs.YtnpgpcnkdocknaaDoor
set_option linter.unusedVariables false
theorem and_split (lo hi ml mh : Nat) (h1 : lo < 256) (h2 : ml < 256) : (lo + 256 * hi) &&& (ml + 256 * mh) = (lo &&& ml) + 256 * (hi &&& mh) := by
  have e : ∀ a b : Nat, a < 256 → a + 256 * b = 2 ^ 8 * b + a := by intro a b _; omega
  have h3 : lo &&& ml < 256 := Nat.lt_of_le_of_lt Nat.and_le_left h1
  rw [e _ _ h1, e _ _ h2, e _ _ h3]
  apply Nat.eq_of_testBit_eq
  intro j
  rw [Nat.testBit_and, Nat.testBit_two_pow_mul_add _ h1, Nat.testBit_two_pow_mul_add _ h2, Nat.testBit_two_pow_mul_add _ h3]
  split
  · rw [Nat.testBit_and]
  · rw [Nat.testBit_and]
def s1 (c : Nat) : Nat := ((c / 2) &&& 85) + (c &&& 85)
def s2 (c : Nat) : Nat := ((c / 4) &&& 51) + (c &&& 51)
def s3 (c : Nat) : Nat := (c / 16 + c) % 16
/-- how many of the first n bits -/
def popB (a : Nat) : Nat → Nat
  | 0 => 0
  | n + 1 => popB a n + (if a.testBit n then 1 else 0)
theorem byte_pop : ∀ c : Fin 256, s3 (s2 (s1 c.val)) = popB c.val 8 ∧ s2 (s1 c.val) % 16 ≤ 4 ∧ s2 (s1 c.val) / 16 ≤ 4 ∧ s1 c.val < 256 ∧ s2 (s1 c.val) < 256 := by decide +kernel
theorem and_low (c t : Nat) (h : c < 256) : (c / 2 + 128 * (t % 2)) &&& 85 = (c / 2) &&& 85 := by
  have key : ∀ (c : Fin 256) (t : Fin 2), (c.val / 2 + 128 * t.val) &&& 85 = (c.val / 2) &&& 85 := by decide +kernel
  exact key ⟨c, h⟩ ⟨t % 2, Nat.mod_lt _ (by decide)⟩
theorem and_low2 (c t : Nat) (h : c < 256) : (c / 4 + 64 * (t % 4)) &&& 51 = (c / 4) &&& 51 := by
  have key : ∀ (c : Fin 256) (t : Fin 4), (c.val / 4 + 64 * t.val) &&& 51 = (c.val / 4) &&& 51 := by decide +kernel
  exact key ⟨c, h⟩ ⟨t % 4, Nat.mod_lt _ (by decide)⟩
theorem step1 (lo hi M : Nat) (h : lo < 256) : (((lo + 256 * hi) / 2) &&& (85 + 256 * M)) + ((lo + 256 * hi) &&& (85 + 256 * M)) = s1 lo + 256 * (((hi / 2) &&& M) + (hi &&& M)) := by
  have e : (lo + 256 * hi) / 2 = (lo / 2 + 128 * (hi % 2)) + 256 * (hi / 2) := by omega
  rw [e, and_split _ _ _ _ (by omega) (by decide), and_split _ _ _ _ h (by decide), and_low _ _ h]
  unfold s1; omega
theorem step2 (lo hi M : Nat) (h : lo < 256) : (((lo + 256 * hi) / 4) &&& (51 + 256 * M)) + ((lo + 256 * hi) &&& (51 + 256 * M)) = s2 lo + 256 * (((hi / 4) &&& M) + (hi &&& M)) := by
  have e : (lo + 256 * hi) / 4 = (lo / 4 + 64 * (hi % 4)) + 256 * (hi / 4) := by omega
  rw [e, and_split _ _ _ _ (by omega) (by decide), and_split _ _ _ _ h (by decide), and_low2 _ _ h]
  unfold s2; omega
theorem step3 (a b M : Nat) (h1 : a % 16 ≤ 4) (h2 : a / 16 ≤ 4) (h3 : b % 16 ≤ 4) : (((a + 256 * b) / 16) + (a + 256 * b)) &&& (15 + 256 * M) = s3 a + 256 * ((b / 16 + b) &&& M) := by
  have e : (a + 256 * b) / 16 + (a + 256 * b) = (a / 16 + a + 16 * (b % 16)) + 256 * (b / 16 + b) := by omega
  rw [e, and_split _ _ _ _ (by omega) (by decide)]
  have e2 : (a / 16 + a + 16 * (b % 16)) &&& 15 = (a / 16 + a + 16 * (b % 16)) % 16 := Nat.and_two_pow_sub_one_eq_mod _ 4
  rw [e2]
  unfold s3; omega
def mask (b : Nat) : Nat → Nat
  | 0 => 0
  | k + 1 => b + 256 * mask b k
def w1 (k x : Nat) : Nat := ((x / 2) &&& mask 85 k) + (x &&& mask 85 k)
def w2 (k x : Nat) : Nat := ((x / 4) &&& mask 51 k) + (x &&& mask 51 k)
def w3 (k x : Nat) : Nat := (x / 16 + x) &&& mask 15 k
/-- byte by byte -/
def sumB : Nat → Nat → Nat
  | 0, _ => 0
  | k + 1, x => popB (x % 256) 8 + 256 * sumB k (x / 256)
theorem byte_split (x : Nat) : x = x % 256 + 256 * (x / 256) := by omega
theorem w21_succ (k x : Nat) : w2 (k + 1) (w1 (k + 1) x) = s2 (s1 (x % 256)) + 256 * w2 k (w1 k (x / 256)) := by
  have hlt : x % 256 < 256 := Nat.mod_lt _ (by decide)
  have hb := byte_pop ⟨x % 256, hlt⟩
  have e1 : w1 (k + 1) x = s1 (x % 256) + 256 * w1 k (x / 256) := by
    conv => lhs; rw [byte_split x]
    exact step1 _ _ _ hlt
  rw [e1]
  exact step2 _ _ _ hb.2.2.2.1
theorem w21_low (k x : Nat) : w2 k (w1 k x) % 16 ≤ 4 := by
  cases k with
  | zero => simp [w2, mask]
  | succ k =>
    rw [w21_succ]
    have hb := byte_pop ⟨x % 256, Nat.mod_lt _ (by decide)⟩
    have h2 := hb.2.1
    simp only at h2
    omega
theorem w321 (k x : Nat) : w3 k (w2 k (w1 k x)) = sumB k x := by
  induction k generalizing x with
  | zero => simp [w3, mask, sumB]
  | succ k ih =>
    have hb := byte_pop ⟨x % 256, Nat.mod_lt _ (by decide)⟩
    rw [w21_succ]
    have h3 := step3 (s2 (s1 (x % 256))) (w2 k (w1 k (x / 256))) (mask 15 k) hb.2.1 hb.2.2.1 (w21_low _ _)
    have e : w3 (k + 1) (s2 (s1 (x % 256)) + 256 * w2 k (w1 k (x / 256))) = s3 (s2 (s1 (x % 256))) + 256 * w3 k (w2 k (w1 k (x / 256))) := h3
    rw [e, ih]
    have h1 := hb.1
    simp only at h1
    rw [h1]
    rfl
theorem popB_le (a n : Nat) : popB a n ≤ n := by
  induction n with
  | zero => simp [popB]
  | succ n ih => unfold popB; split <;> omega
theorem popB_low (x : Nat) : popB (x % 256) 8 = popB x 8 := by
  have e : ∀ n, n ≤ 8 → popB (x % 256) n = popB x n := by
    intro n
    induction n with
    | zero => intro _; rfl
    | succ n ih =>
      intro h
      unfold popB
      rw [ih (by omega), show (256 : Nat) = 2 ^ 8 by decide, Nat.testBit_mod_two_pow, decide_eq_true (by omega), Bool.true_and]
  exact e 8 (Nat.le_refl _)
theorem popB_byte (x n : Nat) : popB x (n + 8) = popB (x % 256) 8 + popB (x / 256) n := by
  rw [popB_low]
  induction n with
  | zero => simp [popB]
  | succ n ih =>
    have e : n + 1 + 8 = (n + 8) + 1 := by omega
    rw [e]
    have eb : (x / 256).testBit n = x.testBit (n + 8) := by
      rw [show (256 : Nat) = 2 ^ 8 by decide, Nat.testBit_div_two_pow]
    have l : popB x (n + 8 + 1) = popB x (n + 8) + (if x.testBit (n + 8) then 1 else 0) := rfl
    have r : popB (x / 256) (n + 1) = popB (x / 256) n + (if (x / 256).testBit n then 1 else 0) := rfl
    rw [l, r, ih, eb]
    omega
/-- a number by its bytes -/
def D8 (a0 a1 a2 a3 a4 a5 a6 a7 : Nat) : Nat := a0 + 256 * (a1 + 256 * (a2 + 256 * (a3 + 256 * (a4 + 256 * (a5 + 256 * (a6 + 256 * a7))))))
theorem D8_div (a0 a1 a2 a3 a4 a5 a6 a7 : Nat) (h : a0 < 256) : D8 a0 a1 a2 a3 a4 a5 a6 a7 / 256 = D8 a1 a2 a3 a4 a5 a6 a7 0 := by
  unfold D8
  rw [Nat.add_mul_div_left _ _ (by decide : 0 < 256), Nat.div_eq_of_lt h, Nat.zero_add, Nat.mul_zero, Nat.add_zero]
theorem D8_add (a0 a1 a2 a3 a4 a5 a6 a7 b0 b1 b2 b3 b4 b5 b6 b7 : Nat) : D8 a0 a1 a2 a3 a4 a5 a6 a7 + D8 b0 b1 b2 b3 b4 b5 b6 b7 = D8 (a0 + b0) (a1 + b1) (a2 + b2) (a3 + b3) (a4 + b4) (a5 + b5) (a6 + b6) (a7 + b7) := by
  unfold D8; omega
theorem D8_lt (a0 a1 a2 a3 a4 a5 a6 a7 : Nat) (h0 : a0 < 256) (h1 : a1 < 256) (h2 : a2 < 256) (h3 : a3 < 256) (h4 : a4 < 256) (h5 : a5 < 256) (h6 : a6 < 256) (h7 : a7 < 256) : D8 a0 a1 a2 a3 a4 a5 a6 a7 < 18446744073709551616 := by
  unfold D8; omega
theorem D8_lt63 (a0 a1 a2 a3 a4 a5 a6 a7 : Nat) (h0 : a0 < 256) (h1 : a1 < 256) (h2 : a2 < 256) (h3 : a3 < 256) (h4 : a4 < 256) (h5 : a5 < 256) (h6 : a6 < 256) (h7 : a7 < 128) : D8 a0 a1 a2 a3 a4 a5 a6 a7 < 9223372036854775808 := by
  unfold D8; omega
theorem D8_low (a0 a1 a2 a3 a4 a5 a6 a7 : Nat) (h : a0 < 128) : D8 a0 a1 a2 a3 a4 a5 a6 a7 % 128 = a0 := by
  unfold D8
  generalize a1 + 256 * (a2 + 256 * (a3 + 256 * (a4 + 256 * (a5 + 256 * (a6 + 256 * a7))))) = t
  omega
theorem D8_div2 (a0 a1 a2 a3 a4 a5 a6 a7 : Nat) (h0 : a0 < 256) (h1 : a1 < 256) : D8 a0 a1 a2 a3 a4 a5 a6 a7 / 65536 = D8 a2 a3 a4 a5 a6 a7 0 0 := by
  rw [show 65536 = 256 * 256 by decide, ← Nat.div_div_eq_div_mul, D8_div _ _ _ _ _ _ _ _ h0, D8_div _ _ _ _ _ _ _ _ h1]
theorem D8_div4 (a0 a1 a2 a3 a4 a5 a6 a7 : Nat) (h0 : a0 < 256) (h1 : a1 < 256) (h2 : a2 < 256) (h3 : a3 < 256) : D8 a0 a1 a2 a3 a4 a5 a6 a7 / 4294967296 = D8 a4 a5 a6 a7 0 0 0 0 := by
  rw [show 4294967296 = 65536 * 65536 by decide, ← Nat.div_div_eq_div_mul, D8_div2 _ _ _ _ _ _ _ _ h0 h1, D8_div2 _ _ _ _ _ _ _ _ h2 h3]
theorem sumB_D8 (x : Nat) : sumB 8 x = D8 (popB (x % 256) 8) (popB (x / 256 % 256) 8) (popB (x / 256 / 256 % 256) 8) (popB (x / 256 / 256 / 256 % 256) 8) (popB (x / 256 / 256 / 256 / 256 % 256) 8) (popB (x / 256 / 256 / 256 / 256 / 256 % 256) 8) (popB (x / 256 / 256 / 256 / 256 / 256 / 256 % 256) 8) (popB (x / 256 / 256 / 256 / 256 / 256 / 256 / 256 % 256) 8) := rfl

/-- the last three sums -/
def g1 (y : Nat) : Nat := y + y / 256
def g2 (y : Nat) : Nat := y + y / 65536
def g3 (y : Nat) : Nat := y + y / 4294967296
theorem fold_up (a0 a1 a2 a3 a4 a5 a6 a7 : Nat) (h0 : a0 ≤ 8) (h1 : a1 ≤ 8) (h2 : a2 ≤ 8) (h3 : a3 ≤ 8) (h4 : a4 ≤ 8) (h5 : a5 ≤ 8) (h6 : a6 ≤ 8) (h7 : a7 ≤ 8) (y : Nat) (hy : y = D8 a0 a1 a2 a3 a4 a5 a6 a7) :
    y < 18446744073709551616 ∧ g1 y < 18446744073709551616 ∧ g2 (g1 y) < 18446744073709551616 ∧ g3 (g2 (g1 y)) < 9223372036854775808 ∧ g3 (g2 (g1 y)) % 128 = a0 + a1 + a2 + a3 + a4 + a5 + a6 + a7 := by
  have e1 : g1 y = D8 (a0 + a1) (a1 + a2) (a2 + a3) (a3 + a4) (a4 + a5) (a5 + a6) (a6 + a7) (a7 + 0) := by
    unfold g1; rw [hy, D8_div _ _ _ _ _ _ _ _ (by omega), D8_add]
  have e2 : g2 (g1 y) = D8 (a0 + a1 + (a2 + a3)) (a1 + a2 + (a3 + a4)) (a2 + a3 + (a4 + a5)) (a3 + a4 + (a5 + a6)) (a4 + a5 + (a6 + a7)) (a5 + a6 + (a7 + 0)) (a6 + a7 + 0) (a7 + 0 + 0) := by
    unfold g2; rw [e1, D8_div2 _ _ _ _ _ _ _ _ (by omega) (by omega), D8_add]
  have e3 : g3 (g2 (g1 y)) = D8 (a0 + a1 + (a2 + a3) + (a4 + a5 + (a6 + a7))) (a1 + a2 + (a3 + a4) + (a5 + a6 + (a7 + 0))) (a2 + a3 + (a4 + a5) + (a6 + a7 + 0)) (a3 + a4 + (a5 + a6) + (a7 + 0 + 0)) (a4 + a5 + (a6 + a7) + 0) (a5 + a6 + (a7 + 0) + 0) (a6 + a7 + 0 + 0) (a7 + 0 + 0 + 0) := by
    unfold g3; rw [e2, D8_div4 _ _ _ _ _ _ _ _ (by omega) (by omega) (by omega) (by omega), D8_add]
  refine ⟨?_, ?_, ?_, ?_, ?_⟩
  · rw [hy]; apply D8_lt <;> omega
  · rw [e1]; apply D8_lt <;> omega
  · rw [e2]; apply D8_lt <;> omega
  · rw [e3]; apply D8_lt63 <;> omega
  · rw [e3, D8_low _ _ _ _ _ _ _ _ (by omega)]; omega
/-- how many bits a word of 64 has -/
def popU (x : Nat) : Nat := popB x 64
theorem pop_fold (x : Nat) : sumB 8 x < 18446744073709551616 ∧ g1 (sumB 8 x) < 18446744073709551616 ∧ g2 (g1 (sumB 8 x)) < 18446744073709551616 ∧ g3 (g2 (g1 (sumB 8 x))) < 9223372036854775808 ∧ g3 (g2 (g1 (sumB 8 x))) % 128 = popU x := by
  have h := fold_up _ _ _ _ _ _ _ _ (popB_le (x % 256) 8) (popB_le (x / 256 % 256) 8) (popB_le (x / 256 / 256 % 256) 8) (popB_le (x / 256 / 256 / 256 % 256) 8) (popB_le (x / 256 / 256 / 256 / 256 % 256) 8) (popB_le (x / 256 / 256 / 256 / 256 / 256 % 256) 8) (popB_le (x / 256 / 256 / 256 / 256 / 256 / 256 % 256) 8) (popB_le (x / 256 / 256 / 256 / 256 / 256 / 256 / 256 % 256) 8) (sumB 8 x) (sumB_D8 x)
  refine ⟨h.1, h.2.1, h.2.2.1, h.2.2.2.1, ?_⟩
  rw [h.2.2.2.2]
  unfold popU
  rw [popB_byte x 56, popB_byte _ 48, popB_byte _ 40, popB_byte _ 32, popB_byte _ 24, popB_byte _ 16, popB_byte _ 8, popB_low (x / 256 / 256 / 256 / 256 / 256 / 256 / 256)]
  omega
/-- the numbers below n for which P holds -/
def listB (P : Nat → Bool) : Nat → List Int
  | 0 => []
  | n + 1 => if P n then listB P n ++ [(n : Int)] else listB P n
def cntB (P : Nat → Bool) : Nat → Nat
  | 0 => 0
  | n + 1 => cntB P n + (if P n then 1 else 0)
theorem listB_length (P : Nat → Bool) (n : Nat) : (listB P n).length = cntB P n := by
  induction n with
  | zero => rfl
  | succ n ih => unfold listB cntB; split <;> simp [ih]
theorem cntB_le (P : Nat → Bool) (n : Nat) : cntB P n ≤ n := by
  induction n with
  | zero => simp [cntB]
  | succ n ih => unfold cntB; split <;> omega
theorem listB_in (P : Nat → Bool) (n : Nat) (h : n ≤ 9223372036854775807) : ∀ x ∈ listB P n, inI x := by
  induction n with
  | zero => intro x hx; cases hx
  | succ n ih =>
    unfold listB
    split
    · intro x hx
      rcases List.mem_append.1 hx with hx | hx
      · exact ih (by omega) x hx
      · simp at hx; subst hx; unfold inI; omega
    · exact ih (by omega)
theorem cntB_congr {P Q : Nat → Bool} {n : Nat} (h : ∀ j, j < n → P j = Q j) : cntB P n = cntB Q n := by
  induction n with
  | zero => rfl
  | succ n ih => unfold cntB; rw [ih (fun j hj => h j (by omega)), h n (by omega)]
theorem cntB_add (P : Nat → Bool) (a b : Nat) : cntB P (a + b) = cntB P a + cntB (fun j => P (a + j)) b := by
  induction b with
  | zero => rfl
  | succ b ih =>
    have e : cntB P (a + (b + 1)) = cntB P (a + b) + (if P (a + b) then 1 else 0) := rfl
    have e2 : cntB (fun j => P (a + j)) (b + 1) = cntB (fun j => P (a + j)) b + (if P (a + b) then 1 else 0) := rfl
    rw [e, e2, ih]
    omega
theorem cntB_pop (x n : Nat) : cntB (fun j => x.testBit j) n = popB x n := by
  induction n with
  | zero => rfl
  | succ n ih => unfold cntB popB; rw [ih]
/-- word by word, or number by number -/
theorem size_eq (l : List Nat) (k : Nat) (hk : k ≤ l.length) : cntB (bitB l) (64 * k) = ((l.take k).map popU).sum := by
  induction k with
  | zero => simp [cntB]
  | succ k ih =>
    rw [show 64 * (k + 1) = 64 * k + 64 by omega, cntB_add, ih (by omega), List.take_succ_eq_append_getElem (by omega : k < l.length)]
    simp only [List.map_append, List.sum_append, List.map_cons, List.map_nil, List.sum_cons, List.sum_nil, Nat.add_zero]
    congr 1
    unfold popU
    rw [← cntB_pop]
    apply cntB_congr
    intro j hj
    unfold bitB
    rw [show (64 * k + j) / 64 = k by omega, show (64 * k + j) % 64 = j by omega, List.getElem?_eq_getElem (by omega : k < l.length)]
    rfl
theorem popU_le (x : Nat) : popU x ≤ 64 := popB_le x 64
theorem sum_le (l : List Nat) : (l.map popU).sum ≤ 64 * l.length := by
  induction l with
  | nil => simp
  | cons x l ih => simp only [List.map_cons, List.sum_cons, List.length_cons]; have := popU_le x; omega
end Go.Proofs.YtnpgpcnkdocknaaDoor
