/- Sets of small numbers as plain lists of words. -/
import Derived.Test.YtknaoianhjeccaaDoorVecSpec
namespace Go.Proofs.YtknaoianhjeccaaDoor
set_option linter.unusedVariables false
/-- has it n? -/
def bitB (l : List Nat) (n : Nat) : Bool := ((l[n / 64]?).getD 0).testBit (n % 64)
/-- with n, which it has not -/
def addB (l : List Nat) (n : Nat) : List Nat := (padL l (n / 64 + 1)).set (n / 64) ((l[n / 64]?).getD 0 + 2 ^ (n % 64))
/-- those below n for which P holds -/
def setB (P : Nat → Bool) : Nat → List Nat
  | 0 => []
  | n + 1 => if P n then addB (setB P n) n else setB P n
def zipB (f : Nat → Nat → Nat) (s t : List Nat) : List Nat := trimL ((List.range (max s.length t.length)).map fun (q : Nat) => f ((s[q]?).getD 0) ((t[q]?).getD 0))
theorem padL_get (l : List Nat) (n q : Nat) : ((padL l n)[q]?).getD 0 = (l[q]?).getD 0 := by
  unfold padL
  rcases Nat.lt_or_ge q l.length with h | h
  · rw [List.getElem?_append_left h]
  · rw [List.getElem?_append_right h, List.getElem?_eq_none h]
    rcases Nat.lt_or_ge (q - l.length) (n - l.length) with h2 | h2
    · rw [List.getElem?_replicate]; split <;> rfl
    · rw [List.getElem?_eq_none (by simpa using h2)]
theorem padL_length (l : List Nat) (n : Nat) : (padL l n).length = max l.length n := by
  unfold padL; simp; omega
theorem addB_length (l : List Nat) (n : Nat) : (addB l n).length = max l.length (n / 64 + 1) := by
  unfold addB; rw [List.length_set, padL_length]
theorem addB_get (l : List Nat) (n q : Nat) : ((addB l n)[q]?).getD 0 = if q = n / 64 then (l[n / 64]?).getD 0 + 2 ^ (n % 64) else (l[q]?).getD 0 := by
  unfold addB
  rw [List.getElem?_set]
  by_cases h : n / 64 = q
  · subst h
    rw [if_pos rfl, if_pos rfl, if_pos (by rw [padL_length]; omega)]
    rfl
  · rw [if_neg h, if_neg (fun e => h e.symm), padL_get]
/-- what a word with one more bit has -/
theorem bit_add {a i : Nat} (j : Nat) (h : a.testBit i = false) : (a + 2 ^ i).testBit j = (a.testBit j || decide (j = i)) := by
  rw [Nat.add_comm]
  rcases Nat.lt_trichotomy j i with hj | hj | hj
  · rw [Nat.testBit_two_pow_add_gt hj, decide_eq_false (by omega), Bool.or_false]
  · subst hj
    rw [Nat.testBit_two_pow_add_eq, h]; simp
  · rw [decide_eq_false (by omega), Bool.or_false]
    obtain ⟨d, rfl⟩ : ∃ d, j = i + 1 + d := ⟨j - (i + 1), by omega⟩
    rw [Nat.testBit_eq_decide_div_mod_eq] at h
    have h2 : a / 2 ^ i % 2 = 0 := by
      have := of_decide_eq_false h
      omega
    have hlt : a % 2 ^ i < 2 ^ i := Nat.mod_lt _ (Nat.two_pow_pos i)
    have hp : 2 ^ (i + 1) = 2 ^ i * 2 := Nat.pow_succ 2 i
    have hk : a / 2 ^ i = 2 * (a / 2 ^ i / 2) := by omega
    have hd := Nat.div_add_mod a (2 ^ i)
    generalize a / 2 ^ i / 2 = k at hk
    rw [hk, ← Nat.mul_assoc, ← hp] at hd
    generalize a % 2 ^ i = r at hd hlt
    have e1 : 2 ^ i + a = (2 ^ i + r) + 2 ^ (i + 1) * k := by omega
    have e2 : a = r + 2 ^ (i + 1) * k := by omega
    have f1 : (2 ^ i + a) / 2 ^ (i + 1) = k := by
      rw [e1, Nat.add_mul_div_left _ _ (Nat.two_pow_pos _), Nat.div_eq_of_lt (by omega), Nat.zero_add]
    have f2 : a / 2 ^ (i + 1) = k := by
      rw [e2, Nat.add_mul_div_left _ _ (Nat.two_pow_pos _), Nat.div_eq_of_lt (by omega), Nat.zero_add]
    rw [show i + 1 + d = d + (i + 1) by omega, ← Nat.testBit_div_two_pow, ← Nat.testBit_div_two_pow (x := a), f1, f2]
theorem bitB_add (l : List Nat) (n m : Nat) (h : bitB l n = false) : bitB (addB l n) m = (bitB l m || decide (m = n)) := by
  unfold bitB at *
  rw [addB_get]
  by_cases e : m / 64 = n / 64
  · rw [if_pos e, e, bit_add _ h]
    congr 1
    exact decide_eq_decide.2 (by omega)
  · rw [if_neg e, decide_eq_false (by omega), Bool.or_false]
theorem bitB_setB (P : Nat → Bool) (n m : Nat) : bitB (setB P n) m = (decide (m < n) && P m) := by
  induction n generalizing m with
  | zero => simp [setB, bitB]
  | succ n ih =>
    unfold setB
    have hb : bitB (setB P n) n = false := by rw [ih]; simp
    by_cases hp : P n = true
    · rw [if_pos hp, bitB_add _ _ _ hb, ih]
      by_cases e : m = n
      · subst e; simp [hp]
      · rw [decide_eq_false e, Bool.or_false]
        congr 1
        exact decide_eq_decide.2 (by omega)
    · rw [if_neg hp, ih]
      by_cases e : m = n
      · subst e; simp [hp]
      · congr 1
        exact decide_eq_decide.2 (by omega)
/-- words of 64 bits -/
theorem word_lt {a : Nat} (h : ∀ j, 64 ≤ j → a.testBit j = false) : okU a := by
  unfold okU
  have := Nat.lt_pow_two_of_testBit a (n := 64) (fun j hj => h j hj)
  simpa using this
theorem word_hi {a j : Nat} (h : okU a) (hj : 64 ≤ j) : a.testBit j = false := by
  apply Nat.testBit_lt_two_pow
  have : a < 2 ^ 64 := by unfold okU at h; simpa using h
  exact Nat.lt_of_lt_of_le this (Nat.pow_le_pow_right (by decide) hj)
def wordOf (l : List Nat) (q : Nat) : Nat := (l[q]?).getD 0
theorem setB_word (P : Nat → Bool) (n q : Nat) : okU (((setB P n)[q]?).getD 0) := by
  induction n generalizing q with
  | zero => simp [setB, okU]
  | succ n ih =>
    unfold setB
    split
    · rw [addB_get]
      split
      · have hb : bitB (setB P n) n = false := by rw [bitB_setB]; simp
        apply word_lt
        intro j hj
        rw [bit_add j hb, word_hi (ih _) hj, decide_eq_false (by omega)]
        rfl
      · exact ih q
    · exact ih q
theorem setB_length (P : Nat → Bool) (n : Nat) : (setB P n).length ≤ (n + 63) / 64 := by
  induction n with
  | zero => simp [setB]
  | succ n ih =>
    unfold setB
    split
    · rw [addB_length]; omega
    · omega
theorem trim_last {l : List Nat} {m : Nat} (h : l.length = m + 1) (h2 : (l[m]?).getD 0 ≠ 0) : trimL l = l := by
  have hm : m < l.length := by omega
  rw [List.getElem?_eq_getElem hm, Option.getD_some] at h2
  have e : l = l.take m ++ [l[m]] := by
    rw [← List.take_succ_eq_append_getElem hm, ← h, List.take_length]
  rw [e, trimL_snoc, if_neg h2]
theorem setB_trim (P : Nat → Bool) (n : Nat) : trimL (setB P n) = setB P n := by
  induction n with
  | zero => rfl
  | succ n ih =>
    unfold setB
    split
    · have hl := setB_length P n
      apply trim_last (m := n / 64)
      · rw [addB_length]; omega
      · rw [addB_get, if_pos rfl]
        have := Nat.two_pow_pos (n % 64)
        omega
    · exact ih
theorem trim_ext {l m : List Nat} (h : ∀ q : Nat, (l[q]?).getD 0 = (m[q]?).getD 0) : trimL l = trimL m := by
  have e1 := range_hand l (max l.length m.length) (by omega)
  have e2 := range_hand m (max l.length m.length) (by omega)
  have e3 : (List.range (max l.length m.length)).map (fun (q : Nat) => hand l q) = (List.range (max l.length m.length)).map (fun (q : Nat) => hand m q) := by
    apply List.map_congr_left
    intro q _
    rw [hand_nat, hand_nat, h]
  rw [e1, e2] at e3
  have e4 := congrArg trimL e3
  unfold padL at e4
  rwa [trimL_pad, trimL_pad] at e4
theorem word_ext {a b : Nat} (ha : okU a) (hb : okU b) (h : ∀ j, j < 64 → a.testBit j = b.testBit j) : a = b := by
  apply Nat.eq_of_testBit_eq
  intro j
  rcases Nat.lt_or_ge j 64 with hj | hj
  · exact h j hj
  · rw [word_hi ha hj, word_hi hb hj]
/-- word by word, or number by number -/
theorem zip_eq (f : Nat → Nat → Nat) (g : Bool → Bool → Bool) (s t : List Nat) (hs : ∀ x ∈ s, okU x) (ht : ∀ x ∈ t, okU x) (hf : ∀ a b, okU a → okU b → okU (f a b)) (hg : ∀ a b j, okU a → okU b → j < 64 → (f a b).testBit j = g (a.testBit j) (b.testBit j)) (h0 : f 0 0 = 0) (hg0 : g false false = false) :
    zipB f s t = setB (fun n => g (bitB s n) (bitB t n)) (64 * max s.length t.length) := by
  have okw : ∀ (l : List Nat), (∀ x ∈ l, okU x) → ∀ q : Nat, okU ((l[q]?).getD 0) := by
    intro l hl q
    rcases Nat.lt_or_ge q l.length with h | h
    · rw [List.getElem?_eq_getElem h, Option.getD_some]; exact hl _ (List.getElem_mem h)
    · rw [List.getElem?_eq_none h]; simp [okU]
  rw [← setB_trim]
  apply trim_ext
  intro q
  have hw : (((List.range (max s.length t.length)).map fun (q : Nat) => f ((s[q]?).getD 0) ((t[q]?).getD 0))[q]?).getD 0 = f ((s[q]?).getD 0) ((t[q]?).getD 0) := by
    rcases Nat.lt_or_ge q (max s.length t.length) with h | h
    · rw [List.getElem?_map, List.getElem?_range h]; rfl
    · rw [List.getElem?_eq_none (by simpa using h), List.getElem?_eq_none (l := s) (by omega), List.getElem?_eq_none (l := t) (by omega)]
      exact h0.symm
  rw [hw]
  apply word_ext (hf _ _ (okw s hs q) (okw t ht q)) (setB_word _ _ _)
  intro j hj
  rw [hg _ _ _ (okw s hs q) (okw t ht q) hj]
  have hb := bitB_setB (fun n => g (bitB s n) (bitB t n)) (64 * max s.length t.length) (64 * q + j)
  have ed : (64 * q + j) / 64 = q := by omega
  have em : (64 * q + j) % 64 = j := by omega
  have hbit : ∀ l : List Nat, bitB l (64 * q + j) = ((l[q]?).getD 0).testBit j := by
    intro l; unfold bitB; rw [ed, em]
  simp only [hbit] at hb
  rw [hb]
  rcases Nat.lt_or_ge q (max s.length t.length) with h | h
  · rw [decide_eq_true (by omega), Bool.true_and]
  · rw [decide_eq_false (by omega), Bool.false_and, List.getElem?_eq_none (l := s) (by omega), List.getElem?_eq_none (l := t) (by omega)]
    simp [hg0]
end Go.Proofs.YtknaoianhjeccaaDoor
