/- The last three sums of math/bits.OnesCount64. -/
import Derived.Test.YtfldajplclahfaaGPop
namespace Go.Proofs.Ytfldajplclahfaa
set_option linter.unusedVariables false
/-- a number by its bytes -/
def D8 (a0 a1 a2 a3 a4 a5 a6 a7 : Nat) : Nat := a0 + 256 * (a1 + 256 * (a2 + 256 * (a3 + 256 * (a4 + 256 * (a5 + 256 * (a6 + 256 * a7))))))
theorem D8_div (a0 a1 a2 a3 a4 a5 a6 a7 : Nat) (h : a0 < 256) : D8 a0 a1 a2 a3 a4 a5 a6 a7 / 256 = D8 a1 a2 a3 a4 a5 a6 a7 0 := by
  unfold D8
  rw [Nat.add_mul_div_left _ _ (by decide : 0 < 256), Nat.div_eq_of_lt h, Nat.zero_add, Nat.mul_zero, Nat.add_zero]
theorem D8_add (a0 a1 a2 a3 a4 a5 a6 a7 b0 b1 b2 b3 b4 b5 b6 b7 : Nat) : D8 a0 a1 a2 a3 a4 a5 a6 a7 + D8 b0 b1 b2 b3 b4 b5 b6 b7 = D8 (a0 + b0) (a1 + b1) (a2 + b2) (a3 + b3) (a4 + b4) (a5 + b5) (a6 + b6) (a7 + b7) := by
  unfold D8; omega
theorem D8_lt (a0 a1 a2 a3 a4 a5 a6 a7 : Nat) (h0 : a0 < 256) (h1 : a1 < 256) (h2 : a2 < 256) (h3 : a3 < 256) (h4 : a4 < 256) (h5 : a5 < 256) (h6 : a6 < 256) (h7 : a7 < 256) : D8 a0 a1 a2 a3 a4 a5 a6 a7 < 18446744073709551616 := by
  unfold D8; omega
theorem D8_lt63 (a0 a1 a2 a3 a4 a5 a6 a7 : Nat) (h0 : a0 < 256) (h1 : a1 < 256) (h2 : a2 < 256) (h3 : a3 < 256) (h4 : a4 < 256) (h5 : a5 < 256) (h6 : a6 < 256) (h7 : a7 < 128) : D8 a0 a1 a2 a3 a4 a5 a6 a7 < 9223372036854775808 := by
  unfold D8; omega
theorem D8_low (a0 a1 a2 a3 a4 a5 a6 a7 : Nat) (h : a0 < 128) : D8 a0 a1 a2 a3 a4 a5 a6 a7 % 128 = a0 := by
  unfold D8
  generalize a1 + 256 * (a2 + 256 * (a3 + 256 * (a4 + 256 * (a5 + 256 * (a6 + 256 * a7))))) = t
  omega
theorem D8_div2 (a0 a1 a2 a3 a4 a5 a6 a7 : Nat) (h0 : a0 < 256) (h1 : a1 < 256) : D8 a0 a1 a2 a3 a4 a5 a6 a7 / 65536 = D8 a2 a3 a4 a5 a6 a7 0 0 := by
  rw [show 65536 = 256 * 256 by decide, ← Nat.div_div_eq_div_mul, D8_div _ _ _ _ _ _ _ _ h0, D8_div _ _ _ _ _ _ _ _ h1]
theorem D8_div4 (a0 a1 a2 a3 a4 a5 a6 a7 : Nat) (h0 : a0 < 256) (h1 : a1 < 256) (h2 : a2 < 256) (h3 : a3 < 256) : D8 a0 a1 a2 a3 a4 a5 a6 a7 / 4294967296 = D8 a4 a5 a6 a7 0 0 0 0 := by
  rw [show 4294967296 = 65536 * 65536 by decide, ← Nat.div_div_eq_div_mul, D8_div2 _ _ _ _ _ _ _ _ h0 h1, D8_div2 _ _ _ _ _ _ _ _ h2 h3]
theorem sumB_D8 (x : Nat) : sumB 8 x = D8 (popB (x % 256) 8) (popB (x / 256 % 256) 8) (popB (x / 256 / 256 % 256) 8) (popB (x / 256 / 256 / 256 % 256) 8) (popB (x / 256 / 256 / 256 / 256 % 256) 8) (popB (x / 256 / 256 / 256 / 256 / 256 % 256) 8) (popB (x / 256 / 256 / 256 / 256 / 256 / 256 % 256) 8) (popB (x / 256 / 256 / 256 / 256 / 256 / 256 / 256 % 256) 8) := rfl

/-- the last three sums -/
def g1 (y : Nat) : Nat := y + y / 256
def g2 (y : Nat) : Nat := y + y / 65536
def g3 (y : Nat) : Nat := y + y / 4294967296
theorem fold_up (a0 a1 a2 a3 a4 a5 a6 a7 : Nat) (h0 : a0 ≤ 8) (h1 : a1 ≤ 8) (h2 : a2 ≤ 8) (h3 : a3 ≤ 8) (h4 : a4 ≤ 8) (h5 : a5 ≤ 8) (h6 : a6 ≤ 8) (h7 : a7 ≤ 8) (y : Nat) (hy : y = D8 a0 a1 a2 a3 a4 a5 a6 a7) :
    y < 18446744073709551616 ∧ g1 y < 18446744073709551616 ∧ g2 (g1 y) < 18446744073709551616 ∧ g3 (g2 (g1 y)) < 9223372036854775808 ∧ g3 (g2 (g1 y)) % 128 = a0 + a1 + a2 + a3 + a4 + a5 + a6 + a7 := by
  have e1 : g1 y = D8 (a0 + a1) (a1 + a2) (a2 + a3) (a3 + a4) (a4 + a5) (a5 + a6) (a6 + a7) (a7 + 0) := by
    unfold g1; rw [hy, D8_div _ _ _ _ _ _ _ _ (by omega), D8_add]
  have e2 : g2 (g1 y) = D8 (a0 + a1 + (a2 + a3)) (a1 + a2 + (a3 + a4)) (a2 + a3 + (a4 + a5)) (a3 + a4 + (a5 + a6)) (a4 + a5 + (a6 + a7)) (a5 + a6 + (a7 + 0)) (a6 + a7 + 0) (a7 + 0 + 0) := by
    unfold g2; rw [e1, D8_div2 _ _ _ _ _ _ _ _ (by omega) (by omega), D8_add]
  have e3 : g3 (g2 (g1 y)) = D8 (a0 + a1 + (a2 + a3) + (a4 + a5 + (a6 + a7))) (a1 + a2 + (a3 + a4) + (a5 + a6 + (a7 + 0))) (a2 + a3 + (a4 + a5) + (a6 + a7 + 0)) (a3 + a4 + (a5 + a6) + (a7 + 0 + 0)) (a4 + a5 + (a6 + a7) + 0) (a5 + a6 + (a7 + 0) + 0) (a6 + a7 + 0 + 0) (a7 + 0 + 0 + 0) := by
    unfold g3; rw [e2, D8_div4 _ _ _ _ _ _ _ _ (by omega) (by omega) (by omega) (by omega), D8_add]
  refine ⟨?_, ?_, ?_, ?_, ?_⟩
  · rw [hy]; apply D8_lt <;> omega
  · rw [e1]; apply D8_lt <;> omega
  · rw [e2]; apply D8_lt <;> omega
  · rw [e3]; apply D8_lt63 <;> omega
  · rw [e3, D8_low _ _ _ _ _ _ _ _ (by omega)]; omega
/-- how many bits a word of 64 has -/
def popU (x : Nat) : Nat := popB x 64
theorem pop_fold (x : Nat) : sumB 8 x < 18446744073709551616 ∧ g1 (sumB 8 x) < 18446744073709551616 ∧ g2 (g1 (sumB 8 x)) < 18446744073709551616 ∧ g3 (g2 (g1 (sumB 8 x))) < 9223372036854775808 ∧ g3 (g2 (g1 (sumB 8 x))) % 128 = popU x := by
  have h := fold_up _ _ _ _ _ _ _ _ (popB_le (x % 256) 8) (popB_le (x / 256 % 256) 8) (popB_le (x / 256 / 256 % 256) 8) (popB_le (x / 256 / 256 / 256 % 256) 8) (popB_le (x / 256 / 256 / 256 / 256 % 256) 8) (popB_le (x / 256 / 256 / 256 / 256 / 256 % 256) 8) (popB_le (x / 256 / 256 / 256 / 256 / 256 / 256 % 256) 8) (popB_le (x / 256 / 256 / 256 / 256 / 256 / 256 / 256 % 256) 8) (sumB 8 x) (sumB_D8 x)
  refine ⟨h.1, h.2.1, h.2.2.1, h.2.2.2.1, ?_⟩
  rw [h.2.2.2.2]
  unfold popU
  rw [popB_byte x 56, popB_byte _ 48, popB_byte _ 40, popB_byte _ 32, popB_byte _ 24, popB_byte _ 16, popB_byte _ 8, popB_low (x / 256 / 256 / 256 / 256 / 256 / 256 / 256)]
  omega
/-- the numbers below n for which P holds -/
def listB (P : Nat → Bool) : Nat → List Int
  | 0 => []
  | n + 1 => if P n then listB P n ++ [(n : Int)] else listB P n
def cntB (P : Nat → Bool) : Nat → Nat
  | 0 => 0
  | n + 1 => cntB P n + (if P n then 1 else 0)
theorem listB_length (P : Nat → Bool) (n : Nat) : (listB P n).length = cntB P n := by
  induction n with
  | zero => rfl
  | succ n ih => unfold listB cntB; split <;> simp [ih]
theorem cntB_le (P : Nat → Bool) (n : Nat) : cntB P n ≤ n := by
  induction n with
  | zero => simp [cntB]
  | succ n ih => unfold cntB; split <;> omega
theorem listB_in (P : Nat → Bool) (n : Nat) (h : n ≤ 9223372036854775807) : ∀ x ∈ listB P n, inI x := by
  induction n with
  | zero => intro x hx; cases hx
  | succ n ih =>
    unfold listB
    split
    · intro x hx
      rcases List.mem_append.1 hx with hx | hx
      · exact ih (by omega) x hx
      · simp at hx; subst hx; unfold inI; omega
    · exact ih (by omega)
theorem cntB_congr {P Q : Nat → Bool} {n : Nat} (h : ∀ j, j < n → P j = Q j) : cntB P n = cntB Q n := by
  induction n with
  | zero => rfl
  | succ n ih => unfold cntB; rw [ih (fun j hj => h j (by omega)), h n (by omega)]
theorem cntB_add (P : Nat → Bool) (a b : Nat) : cntB P (a + b) = cntB P a + cntB (fun j => P (a + j)) b := by
  induction b with
  | zero => rfl
  | succ b ih =>
    have e : cntB P (a + (b + 1)) = cntB P (a + b) + (if P (a + b) then 1 else 0) := rfl
    have e2 : cntB (fun j => P (a + j)) (b + 1) = cntB (fun j => P (a + j)) b + (if P (a + b) then 1 else 0) := rfl
    rw [e, e2, ih]
    omega
theorem cntB_pop (x n : Nat) : cntB (fun j => x.testBit j) n = popB x n := by
  induction n with
  | zero => rfl
  | succ n ih => unfold cntB popB; rw [ih]
/-- word by word, or number by number -/
theorem size_eq (l : List Nat) (k : Nat) (hk : k ≤ l.length) : cntB (bitB l) (64 * k) = ((l.take k).map popU).sum := by
  induction k with
  | zero => simp [cntB]
  | succ k ih =>
    rw [show 64 * (k + 1) = 64 * k + 64 by omega, cntB_add, ih (by omega), List.take_succ_eq_append_getElem (by omega : k < l.length)]
    simp only [List.map_append, List.sum_append, List.map_cons, List.map_nil, List.sum_cons, List.sum_nil, Nat.add_zero]
    congr 1
    unfold popU
    rw [← cntB_pop]
    apply cntB_congr
    intro j hj
    unfold bitB
    rw [show (64 * k + j) / 64 = k by omega, show (64 * k + j) % 64 = j by omega, List.getElem?_eq_getElem (by omega : k < l.length)]
    rfl
theorem popU_le (x : Nat) : popU x ≤ 64 := popB_le x 64
theorem sum_le (l : List Nat) : (l.map popU).sum ≤ 64 * l.length := by
  induction l with
  | nil => simp
  | cons x l ih => simp only [List.map_cons, List.sum_cons, List.length_cons]; have := popU_le x; omega
end Go.Proofs.Ytfldajplclahfaa
