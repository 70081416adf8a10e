/- Texts merged: BsSpec, Pop. -/
import Derived.Test.YtfldajplclahfaaGVecSpec
/- Sets of small numbers as plain lists of words. -/
namespace Go.Proofs.Ytfldajplclahfaa
set_option linter.unusedVariables false
/-- has it n? -/
def bitB (l : List Nat) (n : Nat) : Bool := ((l[n / 64]?).getD 0).testBit (n % 64)
/-- with n, which it has not -/
def addB (l : List Nat) (n : Nat) : List Nat := (padL l (n / 64 + 1)).set (n / 64) ((l[n / 64]?).getD 0 + 2 ^ (n % 64))
/-- those below n for which P holds -/
def setB (P : Nat → Bool) : Nat → List Nat
  | 0 => []
  | n + 1 => if P n then addB (setB P n) n else setB P n
def zipB (f : Nat → Nat → Nat) (s t : List Nat) : List Nat := trimL ((List.range (max s.length t.length)).map fun (q : Nat) => f ((s[q]?).getD 0) ((t[q]?).getD 0))
theorem padL_get (l : List Nat) (n q : Nat) : ((padL l n)[q]?).getD 0 = (l[q]?).getD 0 := by
  unfold padL
  rcases Nat.lt_or_ge q l.length with h | h
  · rw [List.getElem?_append_left h]
  · rw [List.getElem?_append_right h, List.getElem?_eq_none h]
    rcases Nat.lt_or_ge (q - l.length) (n - l.length) with h2 | h2
    · rw [List.getElem?_replicate]; split <;> rfl
    · rw [List.getElem?_eq_none (by simpa using h2)]
theorem padL_length (l : List Nat) (n : Nat) : (padL l n).length = max l.length n := by
  unfold padL; simp; omega
theorem addB_length (l : List Nat) (n : Nat) : (addB l n).length = max l.length (n / 64 + 1) := by
  unfold addB; rw [List.length_set, padL_length]
theorem addB_get (l : List Nat) (n q : Nat) : ((addB l n)[q]?).getD 0 = if q = n / 64 then (l[n / 64]?).getD 0 + 2 ^ (n % 64) else (l[q]?).getD 0 := by
  unfold addB
  rw [List.getElem?_set]
  by_cases h : n / 64 = q
  · subst h
    rw [if_pos rfl, if_pos rfl, if_pos (by rw [padL_length]; omega)]
    rfl
  · rw [if_neg h, if_neg (fun e => h e.symm), padL_get]
/-- what a word with one more bit has -/
theorem bit_add {a i : Nat} (j : Nat) (h : a.testBit i = false) : (a + 2 ^ i).testBit j = (a.testBit j || decide (j = i)) := by
  rw [Nat.add_comm]
  rcases Nat.lt_trichotomy j i with hj | hj | hj
  · rw [Nat.testBit_two_pow_add_gt hj, decide_eq_false (by omega), Bool.or_false]
  · subst hj
    rw [Nat.testBit_two_pow_add_eq, h]; simp
  · rw [decide_eq_false (by omega), Bool.or_false]
    obtain ⟨d, rfl⟩ : ∃ d, j = i + 1 + d := ⟨j - (i + 1), by omega⟩
    rw [Nat.testBit_eq_decide_div_mod_eq] at h
    have h2 : a / 2 ^ i % 2 = 0 := by
      have := of_decide_eq_false h
      omega
    have hlt : a % 2 ^ i < 2 ^ i := Nat.mod_lt _ (Nat.two_pow_pos i)
    have hp : 2 ^ (i + 1) = 2 ^ i * 2 := Nat.pow_succ 2 i
    have hk : a / 2 ^ i = 2 * (a / 2 ^ i / 2) := by omega
    have hd := Nat.div_add_mod a (2 ^ i)
    generalize a / 2 ^ i / 2 = k at hk
    rw [hk, ← Nat.mul_assoc, ← hp] at hd
    generalize a % 2 ^ i = r at hd hlt
    have e1 : 2 ^ i + a = (2 ^ i + r) + 2 ^ (i + 1) * k := by omega
    have e2 : a = r + 2 ^ (i + 1) * k := by omega
    have f1 : (2 ^ i + a) / 2 ^ (i + 1) = k := by
      rw [e1, Nat.add_mul_div_left _ _ (Nat.two_pow_pos _), Nat.div_eq_of_lt (by omega), Nat.zero_add]
    have f2 : a / 2 ^ (i + 1) = k := by
      rw [e2, Nat.add_mul_div_left _ _ (Nat.two_pow_pos _), Nat.div_eq_of_lt (by omega), Nat.zero_add]
    rw [show i + 1 + d = d + (i + 1) by omega, ← Nat.testBit_div_two_pow, ← Nat.testBit_div_two_pow (x := a), f1, f2]
theorem bitB_add (l : List Nat) (n m : Nat) (h : bitB l n = false) : bitB (addB l n) m = (bitB l m || decide (m = n)) := by
  unfold bitB at *
  rw [addB_get]
  by_cases e : m / 64 = n / 64
  · rw [if_pos e, e, bit_add _ h]
    congr 1
    exact decide_eq_decide.2 (by omega)
  · rw [if_neg e, decide_eq_false (by omega), Bool.or_false]
theorem bitB_setB (P : Nat → Bool) (n m : Nat) : bitB (setB P n) m = (decide (m < n) && P m) := by
  induction n generalizing m with
  | zero => simp [setB, bitB]
  | succ n ih =>
    unfold setB
    have hb : bitB (setB P n) n = false := by rw [ih]; simp
    by_cases hp : P n = true
    · rw [if_pos hp, bitB_add _ _ _ hb, ih]
      by_cases e : m = n
      · subst e; simp [hp]
      · rw [decide_eq_false e, Bool.or_false]
        congr 1
        exact decide_eq_decide.2 (by omega)
    · rw [if_neg hp, ih]
      by_cases e : m = n
      · subst e; simp [hp]
      · congr 1
        exact decide_eq_decide.2 (by omega)
/-- words of 64 bits -/
theorem word_lt {a : Nat} (h : ∀ j, 64 ≤ j → a.testBit j = false) : okU a := by
  unfold okU
  have := Nat.lt_pow_two_of_testBit a (n := 64) (fun j hj => h j hj)
  simpa using this
theorem word_hi {a j : Nat} (h : okU a) (hj : 64 ≤ j) : a.testBit j = false := by
  apply Nat.testBit_lt_two_pow
  have : a < 2 ^ 64 := by unfold okU at h; simpa using h
  exact Nat.lt_of_lt_of_le this (Nat.pow_le_pow_right (by decide) hj)
def wordOf (l : List Nat) (q : Nat) : Nat := (l[q]?).getD 0
theorem setB_word (P : Nat → Bool) (n q : Nat) : okU (((setB P n)[q]?).getD 0) := by
  induction n generalizing q with
  | zero => simp [setB, okU]
  | succ n ih =>
    unfold setB
    split
    · rw [addB_get]
      split
      · have hb : bitB (setB P n) n = false := by rw [bitB_setB]; simp
        apply word_lt
        intro j hj
        rw [bit_add j hb, word_hi (ih _) hj, decide_eq_false (by omega)]
        rfl
      · exact ih q
    · exact ih q
theorem setB_length (P : Nat → Bool) (n : Nat) : (setB P n).length ≤ (n + 63) / 64 := by
  induction n with
  | zero => simp [setB]
  | succ n ih =>
    unfold setB
    split
    · rw [addB_length]; omega
    · omega
theorem trim_last {l : List Nat} {m : Nat} (h : l.length = m + 1) (h2 : (l[m]?).getD 0 ≠ 0) : trimL l = l := by
  have hm : m < l.length := by omega
  rw [List.getElem?_eq_getElem hm, Option.getD_some] at h2
  have e : l = l.take m ++ [l[m]] := by
    rw [← List.take_succ_eq_append_getElem hm, ← h, List.take_length]
  rw [e, trimL_snoc, if_neg h2]
theorem setB_trim (P : Nat → Bool) (n : Nat) : trimL (setB P n) = setB P n := by
  induction n with
  | zero => rfl
  | succ n ih =>
    unfold setB
    split
    · have hl := setB_length P n
      apply trim_last (m := n / 64)
      · rw [addB_length]; omega
      · rw [addB_get, if_pos rfl]
        have := Nat.two_pow_pos (n % 64)
        omega
    · exact ih
theorem trim_ext {l m : List Nat} (h : ∀ q : Nat, (l[q]?).getD 0 = (m[q]?).getD 0) : trimL l = trimL m := by
  have e1 := range_hand l (max l.length m.length) (by omega)
  have e2 := range_hand m (max l.length m.length) (by omega)
  have e3 : (List.range (max l.length m.length)).map (fun (q : Nat) => hand l q) = (List.range (max l.length m.length)).map (fun (q : Nat) => hand m q) := by
    apply List.map_congr_left
    intro q _
    rw [hand_nat, hand_nat, h]
  rw [e1, e2] at e3
  have e4 := congrArg trimL e3
  unfold padL at e4
  rwa [trimL_pad, trimL_pad] at e4
theorem word_ext {a b : Nat} (ha : okU a) (hb : okU b) (h : ∀ j, j < 64 → a.testBit j = b.testBit j) : a = b := by
  apply Nat.eq_of_testBit_eq
  intro j
  rcases Nat.lt_or_ge j 64 with hj | hj
  · exact h j hj
  · rw [word_hi ha hj, word_hi hb hj]
/-- word by word, or number by number -/
theorem zip_eq (f : Nat → Nat → Nat) (g : Bool → Bool → Bool) (s t : List Nat) (hs : ∀ x ∈ s, okU x) (ht : ∀ x ∈ t, okU x) (hf : ∀ a b, okU a → okU b → okU (f a b)) (hg : ∀ a b j, okU a → okU b → j < 64 → (f a b).testBit j = g (a.testBit j) (b.testBit j)) (h0 : f 0 0 = 0) (hg0 : g false false = false) :
    zipB f s t = setB (fun n => g (bitB s n) (bitB t n)) (64 * max s.length t.length) := by
  have okw : ∀ (l : List Nat), (∀ x ∈ l, okU x) → ∀ q : Nat, okU ((l[q]?).getD 0) := by
    intro l hl q
    rcases Nat.lt_or_ge q l.length with h | h
    · rw [List.getElem?_eq_getElem h, Option.getD_some]; exact hl _ (List.getElem_mem h)
    · rw [List.getElem?_eq_none h]; simp [okU]
  rw [← setB_trim]
  apply trim_ext
  intro q
  have hw : (((List.range (max s.length t.length)).map fun (q : Nat) => f ((s[q]?).getD 0) ((t[q]?).getD 0))[q]?).getD 0 = f ((s[q]?).getD 0) ((t[q]?).getD 0) := by
    rcases Nat.lt_or_ge q (max s.length t.length) with h | h
    · rw [List.getElem?_map, List.getElem?_range h]; rfl
    · rw [List.getElem?_eq_none (by simpa using h), List.getElem?_eq_none (l := s) (by omega), List.getElem?_eq_none (l := t) (by omega)]
      exact h0.symm
  rw [hw]
  apply word_ext (hf _ _ (okw s hs q) (okw t ht q)) (setB_word _ _ _)
  intro j hj
  rw [hg _ _ _ (okw s hs q) (okw t ht q) hj]
  have hb := bitB_setB (fun n => g (bitB s n) (bitB t n)) (64 * max s.length t.length) (64 * q + j)
  have ed : (64 * q + j) / 64 = q := by omega
  have em : (64 * q + j) % 64 = j := by omega
  have hbit : ∀ l : List Nat, bitB l (64 * q + j) = ((l[q]?).getD 0).testBit j := by
    intro l; unfold bitB; rw [ed, em]
  simp only [hbit] at hb
  rw [hb]
  rcases Nat.lt_or_ge q (max s.length t.length) with h | h
  · rw [decide_eq_true (by omega), Bool.true_and]
  · rw [decide_eq_false (by omega), Bool.false_and, List.getElem?_eq_none (l := s) (by omega), List.getElem?_eq_none (l := t) (by omega)]
    simp [hg0]
end Go.Proofs.Ytfldajplclahfaa
/- How many bits a word has, as math/bits reckons it. -/
namespace Go.Proofs.Ytfldajplclahfaa
set_option linter.unusedVariables false
theorem and_split (lo hi ml mh : Nat) (h1 : lo < 256) (h2 : ml < 256) : (lo + 256 * hi) &&& (ml + 256 * mh) = (lo &&& ml) + 256 * (hi &&& mh) := by
  have e : ∀ a b : Nat, a < 256 → a + 256 * b = 2 ^ 8 * b + a := by intro a b _; omega
  have h3 : lo &&& ml < 256 := Nat.lt_of_le_of_lt Nat.and_le_left h1
  rw [e _ _ h1, e _ _ h2, e _ _ h3]
  apply Nat.eq_of_testBit_eq
  intro j
  rw [Nat.testBit_and, Nat.testBit_two_pow_mul_add _ h1, Nat.testBit_two_pow_mul_add _ h2, Nat.testBit_two_pow_mul_add _ h3]
  split
  · rw [Nat.testBit_and]
  · rw [Nat.testBit_and]
def s1 (c : Nat) : Nat := ((c / 2) &&& 85) + (c &&& 85)
def s2 (c : Nat) : Nat := ((c / 4) &&& 51) + (c &&& 51)
def s3 (c : Nat) : Nat := (c / 16 + c) % 16
/-- how many of the first n bits -/
def popB (a : Nat) : Nat → Nat
  | 0 => 0
  | n + 1 => popB a n + (if a.testBit n then 1 else 0)
theorem byte_pop : ∀ c : Fin 256, s3 (s2 (s1 c.val)) = popB c.val 8 ∧ s2 (s1 c.val) % 16 ≤ 4 ∧ s2 (s1 c.val) / 16 ≤ 4 ∧ s1 c.val < 256 ∧ s2 (s1 c.val) < 256 := by decide +kernel
theorem and_low (c t : Nat) (h : c < 256) : (c / 2 + 128 * (t % 2)) &&& 85 = (c / 2) &&& 85 := by
  have key : ∀ (c : Fin 256) (t : Fin 2), (c.val / 2 + 128 * t.val) &&& 85 = (c.val / 2) &&& 85 := by decide +kernel
  exact key ⟨c, h⟩ ⟨t % 2, Nat.mod_lt _ (by decide)⟩
theorem and_low2 (c t : Nat) (h : c < 256) : (c / 4 + 64 * (t % 4)) &&& 51 = (c / 4) &&& 51 := by
  have key : ∀ (c : Fin 256) (t : Fin 4), (c.val / 4 + 64 * t.val) &&& 51 = (c.val / 4) &&& 51 := by decide +kernel
  exact key ⟨c, h⟩ ⟨t % 4, Nat.mod_lt _ (by decide)⟩
theorem step1 (lo hi M : Nat) (h : lo < 256) : (((lo + 256 * hi) / 2) &&& (85 + 256 * M)) + ((lo + 256 * hi) &&& (85 + 256 * M)) = s1 lo + 256 * (((hi / 2) &&& M) + (hi &&& M)) := by
  have e : (lo + 256 * hi) / 2 = (lo / 2 + 128 * (hi % 2)) + 256 * (hi / 2) := by omega
  rw [e, and_split _ _ _ _ (by omega) (by decide), and_split _ _ _ _ h (by decide), and_low _ _ h]
  unfold s1; omega
theorem step2 (lo hi M : Nat) (h : lo < 256) : (((lo + 256 * hi) / 4) &&& (51 + 256 * M)) + ((lo + 256 * hi) &&& (51 + 256 * M)) = s2 lo + 256 * (((hi / 4) &&& M) + (hi &&& M)) := by
  have e : (lo + 256 * hi) / 4 = (lo / 4 + 64 * (hi % 4)) + 256 * (hi / 4) := by omega
  rw [e, and_split _ _ _ _ (by omega) (by decide), and_split _ _ _ _ h (by decide), and_low2 _ _ h]
  unfold s2; omega
theorem step3 (a b M : Nat) (h1 : a % 16 ≤ 4) (h2 : a / 16 ≤ 4) (h3 : b % 16 ≤ 4) : (((a + 256 * b) / 16) + (a + 256 * b)) &&& (15 + 256 * M) = s3 a + 256 * ((b / 16 + b) &&& M) := by
  have e : (a + 256 * b) / 16 + (a + 256 * b) = (a / 16 + a + 16 * (b % 16)) + 256 * (b / 16 + b) := by omega
  rw [e, and_split _ _ _ _ (by omega) (by decide)]
  have e2 : (a / 16 + a + 16 * (b % 16)) &&& 15 = (a / 16 + a + 16 * (b % 16)) % 16 := Nat.and_two_pow_sub_one_eq_mod _ 4
  rw [e2]
  unfold s3; omega
def mask (b : Nat) : Nat → Nat
  | 0 => 0
  | k + 1 => b + 256 * mask b k
def w1 (k x : Nat) : Nat := ((x / 2) &&& mask 85 k) + (x &&& mask 85 k)
def w2 (k x : Nat) : Nat := ((x / 4) &&& mask 51 k) + (x &&& mask 51 k)
def w3 (k x : Nat) : Nat := (x / 16 + x) &&& mask 15 k
/-- byte by byte -/
def sumB : Nat → Nat → Nat
  | 0, _ => 0
  | k + 1, x => popB (x % 256) 8 + 256 * sumB k (x / 256)
theorem byte_split (x : Nat) : x = x % 256 + 256 * (x / 256) := by omega
theorem w21_succ (k x : Nat) : w2 (k + 1) (w1 (k + 1) x) = s2 (s1 (x % 256)) + 256 * w2 k (w1 k (x / 256)) := by
  have hlt : x % 256 < 256 := Nat.mod_lt _ (by decide)
  have hb := byte_pop ⟨x % 256, hlt⟩
  have e1 : w1 (k + 1) x = s1 (x % 256) + 256 * w1 k (x / 256) := by
    conv => lhs; rw [byte_split x]
    exact step1 _ _ _ hlt
  rw [e1]
  exact step2 _ _ _ hb.2.2.2.1
theorem w21_low (k x : Nat) : w2 k (w1 k x) % 16 ≤ 4 := by
  cases k with
  | zero => simp [w2, mask]
  | succ k =>
    rw [w21_succ]
    have hb := byte_pop ⟨x % 256, Nat.mod_lt _ (by decide)⟩
    have h2 := hb.2.1
    simp only at h2
    omega
theorem w321 (k x : Nat) : w3 k (w2 k (w1 k x)) = sumB k x := by
  induction k generalizing x with
  | zero => simp [w3, mask, sumB]
  | succ k ih =>
    have hb := byte_pop ⟨x % 256, Nat.mod_lt _ (by decide)⟩
    rw [w21_succ]
    have h3 := step3 (s2 (s1 (x % 256))) (w2 k (w1 k (x / 256))) (mask 15 k) hb.2.1 hb.2.2.1 (w21_low _ _)
    have e : w3 (k + 1) (s2 (s1 (x % 256)) + 256 * w2 k (w1 k (x / 256))) = s3 (s2 (s1 (x % 256))) + 256 * w3 k (w2 k (w1 k (x / 256))) := h3
    rw [e, ih]
    have h1 := hb.1
    simp only at h1
    rw [h1]
    rfl
theorem popB_le (a n : Nat) : popB a n ≤ n := by
  induction n with
  | zero => simp [popB]
  | succ n ih => unfold popB; split <;> omega
theorem popB_low (x : Nat) : popB (x % 256) 8 = popB x 8 := by
  have e : ∀ n, n ≤ 8 → popB (x % 256) n = popB x n := by
    intro n
    induction n with
    | zero => intro _; rfl
    | succ n ih =>
      intro h
      unfold popB
      rw [ih (by omega), show (256 : Nat) = 2 ^ 8 by decide, Nat.testBit_mod_two_pow, decide_eq_true (by omega), Bool.true_and]
  exact e 8 (Nat.le_refl _)
theorem popB_byte (x n : Nat) : popB x (n + 8) = popB (x % 256) 8 + popB (x / 256) n := by
  rw [popB_low]
  induction n with
  | zero => simp [popB]
  | succ n ih =>
    have e : n + 1 + 8 = (n + 8) + 1 := by omega
    rw [e]
    have eb : (x / 256).testBit n = x.testBit (n + 8) := by
      rw [show (256 : Nat) = 2 ^ 8 by decide, Nat.testBit_div_two_pow]
    have l : popB x (n + 8 + 1) = popB x (n + 8) + (if x.testBit (n + 8) then 1 else 0) := rfl
    have r : popB (x / 256) (n + 1) = popB (x / 256) n + (if (x / 256).testBit n then 1 else 0) := rfl
    rw [l, r, ih, eb]
    omega
end Go.Proofs.Ytfldajplclahfaa
