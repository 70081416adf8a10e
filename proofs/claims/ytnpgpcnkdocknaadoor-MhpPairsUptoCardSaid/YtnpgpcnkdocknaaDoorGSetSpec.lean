/- Texts merged: VecSpec, BsSpec, SetSpec. -/
import Derived.Test.YtnpgpcnkdocknaaDoorGRdEW
import Derived.Lib.TrailingZeros
namespace Go.Proofs.YtnpgpcnkdocknaaDoor
set_option linter.unusedVariables false

/-- hand i of a clock -/
def hand (l : List Nat) (i : Int) : Nat := if 0 ≤ i then (l[i.toNat]?).getD 0 else 0
/-- without the noughts at its end -/
def trimL : List Nat → List Nat
  | [] => []
  | x :: r => if x = 0 ∧ trimL r = [] then [] else x :: trimL r
def padL (l : List Nat) (n : Nat) : List Nat := l ++ List.replicate (n - l.length) 0
def inTick (i : Int) : Bool := decide (0 ≤ i) && decide (i ≤ 65535)
def tickL (l : List Nat) (i : Int) : List Nat :=
  trimL (if inTick i then (padL l (i.toNat + 1)).set i.toNat ((hand l i + 1) % 18446744073709551616) else l)
def joinL (l m : List Nat) : List Nat := trimL ((List.range (max l.length m.length)).map fun (q : Nat) => max (hand l q) (hand m q))
def withinL (l m : List Nat) : Bool := (List.range l.length).all fun (q : Nat) => decide (hand l q ≤ hand m q)
/-- clockOf of the reference: hand after hand -/
def clockL (f : Nat → Nat) : Nat → List Nat
  | 0 => []
  | n + 1 => if 0 < f n then (padL (clockL f n) (n + 1)).set n (f n) else clockL f n
def tickF (l : List Nat) (i : Int) (q : Nat) : Nat := if (q : Int) = i ∧ i ≤ 65535 then (hand l q + 1) % 18446744073709551616 else hand l q
def tickN (l : List Nat) (i : Int) : Nat := if inTick i then max l.length (i.toNat + 1) else l.length

theorem hand_nat (l : List Nat) (q : Nat) : hand l q = (l[q]?).getD 0 := by simp [hand]
theorem hand_lt {l : List Nat} {q : Nat} (h : q < l.length) : hand l q = l[q] := by simp [hand_nat, h]
theorem hand_ge {l : List Nat} {q : Nat} (h : l.length ≤ q) : hand l q = 0 := by simp [hand_nat, h]
theorem hand_ok {l : List Nat} (h : ∀ x ∈ l, okU x) (i : Int) : okU (hand l i) := by
  unfold hand
  split
  · rcases Nat.lt_or_ge i.toNat l.length with h1 | h1
    · rw [List.getElem?_eq_getElem h1]; exact h _ (List.getElem_mem h1)
    · rw [List.getElem?_eq_none h1]; simp [okU]
  · simp [okU]
theorem trimL_snoc (l : List Nat) (x : Nat) : trimL (l ++ [x]) = if x = 0 then trimL l else l ++ [x] := by
  induction l with
  | nil => by_cases h : x = 0 <;> simp [trimL, h]
  | cons y r ih =>
    by_cases h : x = 0
    · subst h
      simp only [List.cons_append, trimL, ih, if_true]
    · simp only [List.cons_append, trimL, ih, if_neg h]
      rw [if_neg (by simp)]
theorem trimL_length (l : List Nat) : (trimL l).length ≤ l.length := by
  induction l with
  | nil => simp [trimL]
  | cons x r ih =>
    unfold trimL
    split
    · simp
    · simp; exact ih
theorem trimL_prefix (l : List Nat) : trimL l = l.take (trimL l).length := by
  induction l with
  | nil => simp [trimL]
  | cons x r ih =>
    unfold trimL
    split
    · simp
    · simp; exact ih
theorem trimL_pad (l : List Nat) (k : Nat) : trimL (l ++ List.replicate k 0) = trimL l := by
  induction k with
  | zero => simp
  | succ k ih =>
    rw [List.replicate_succ', ← List.append_assoc, trimL_snoc]
    simp [ih]
theorem clockL_len (f : Nat → Nat) (n : Nat) : (clockL f n).length ≤ n := by
  induction n with
  | zero => simp [clockL]
  | succ n ih =>
    unfold clockL
    split
    · simp [padL]; omega
    · omega
/-- clockOf has the hands of f, trimmed -/
theorem clockL_eq (f : Nat → Nat) (n : Nat) : clockL f n = trimL ((List.range n).map f) := by
  have key : ∀ n, clockL f n = trimL ((List.range n).map f) ∧ ∃ k, clockL f n ++ List.replicate k 0 = (List.range n).map f := by
    intro n
    induction n with
    | zero => exact ⟨by simp [clockL, trimL], 0, by simp [clockL]⟩
    | succ n ih =>
      obtain ⟨ih1, k, ih2⟩ := ih
      have hlen : (clockL f n).length + k = n := by have := congrArg List.length ih2; simpa using this
      rw [List.range_succ, List.map_append, List.map_cons, List.map_nil, trimL_snoc]
      unfold clockL
      by_cases h : 0 < f n
      · rw [if_pos h, if_neg (by omega)]
        have e : padL (clockL f n) (n + 1) = (List.range n).map f ++ [0] := by
          rw [← ih2, List.append_assoc, ← List.replicate_succ', padL]
          congr 2
          omega
        have e2 : (padL (clockL f n) (n + 1)).set n (f n) = (List.range n).map f ++ [f n] := by
          rw [e, List.set_append_right _ _ (by simp)]
          simp
        exact ⟨e2, 0, by simp [e2]⟩
      · have h0 : f n = 0 := by omega
        rw [if_neg h, if_pos h0]
        refine ⟨ih1, k + 1, ?_⟩
        rw [List.replicate_succ', ← List.append_assoc, ih2, h0]
  exact (key n).1
theorem range_hand (l : List Nat) (n : Nat) (h : l.length ≤ n) : (List.range n).map (fun (q : Nat) => hand l q) = padL l n := by
  apply List.ext_getElem?
  intro q
  simp only [List.getElem?_map, padL]
  rcases Nat.lt_or_ge q n with hq | hq
  · rw [List.getElem?_eq_getElem (by simpa using hq)]
    simp only [Option.map_some, List.getElem_range]
    rcases Nat.lt_or_ge q l.length with hl | hl
    · rw [List.getElem?_append_left hl, hand_lt hl, List.getElem?_eq_getElem hl]
    · rw [List.getElem?_append_right hl, hand_ge hl, List.getElem?_replicate, if_pos (by omega)]
  · rw [List.getElem?_eq_none (by simpa using hq), List.getElem?_eq_none (by simp; omega)]
    rfl
theorem tick_eq (l : List Nat) (i : Int) : clockL (tickF l i) (tickN l i) = tickL l i := by
  rw [clockL_eq]
  unfold tickL tickN
  by_cases h : inTick i = true
  · simp only [h, if_true]
    have h2 : 0 ≤ i ∧ i ≤ 65535 := by simpa [inTick] using h
    obtain ⟨q, rfl⟩ := Int.eq_ofNat_of_zero_le h2.1
    simp only [Int.toNat_natCast]
    have e : (List.range (max l.length (q + 1))).map (tickF l q) = ((List.range (max l.length (q + 1))).map (fun (k : Nat) => hand l k)).set q ((hand l q + 1) % 18446744073709551616) := by
      apply List.ext_getElem
      · simp
      · intro k h1 h3
        simp only [List.getElem_map, List.getElem_range, List.getElem_set]
        unfold tickF
        by_cases hk : q = k
        · subst hk; rw [if_pos ⟨rfl, h2.2⟩, if_pos rfl]
        · rw [if_neg (by omega), if_neg hk]
    rw [e, range_hand l _ (Nat.le_max_left _ _)]
    by_cases hl : q + 1 ≤ l.length
    · rw [Nat.max_eq_left hl]
      congr 2
      simp [padL]; omega
    · rw [Nat.max_eq_right (by omega)]
  · simp only [h]
    have hf : ∀ q, q < l.length → tickF l i q = hand l q := fun q hq => by
      unfold tickF
      rw [if_neg]
      intro hc
      apply h
      simp [inTick]; omega
    have e : (List.range l.length).map (tickF l i) = (List.range l.length).map (fun (k : Nat) => hand l k) := List.map_congr_left fun q hq => hf q (by simpa using hq)
    rw [if_neg (by simp), if_neg (by simp), e, range_hand l _ (Nat.le_refl _)]
    simp [padL]
theorem join_eq (l m : List Nat) : clockL (fun (q : Nat) => max (hand l q) (hand m q)) (max l.length m.length) = joinL l m := by
  rw [clockL_eq]; rfl
/-- has it n? -/
def bitB (l : List Nat) (n : Nat) : Bool := ((l[n / 64]?).getD 0).testBit (n % 64)
/-- with n, which it has not -/
def addB (l : List Nat) (n : Nat) : List Nat := (padL l (n / 64 + 1)).set (n / 64) ((l[n / 64]?).getD 0 + 2 ^ (n % 64))
/-- those below n for which P holds -/
def setB (P : Nat → Bool) : Nat → List Nat
  | 0 => []
  | n + 1 => if P n then addB (setB P n) n else setB P n
def zipB (f : Nat → Nat → Nat) (s t : List Nat) : List Nat := trimL ((List.range (max s.length t.length)).map fun (q : Nat) => f ((s[q]?).getD 0) ((t[q]?).getD 0))
theorem padL_get (l : List Nat) (n q : Nat) : ((padL l n)[q]?).getD 0 = (l[q]?).getD 0 := by
  unfold padL
  rcases Nat.lt_or_ge q l.length with h | h
  · rw [List.getElem?_append_left h]
  · rw [List.getElem?_append_right h, List.getElem?_eq_none h]
    rcases Nat.lt_or_ge (q - l.length) (n - l.length) with h2 | h2
    · rw [List.getElem?_replicate]; split <;> rfl
    · rw [List.getElem?_eq_none (by simpa using h2)]
theorem padL_length (l : List Nat) (n : Nat) : (padL l n).length = max l.length n := by
  unfold padL; simp; omega
theorem addB_length (l : List Nat) (n : Nat) : (addB l n).length = max l.length (n / 64 + 1) := by
  unfold addB; rw [List.length_set, padL_length]
theorem addB_get (l : List Nat) (n q : Nat) : ((addB l n)[q]?).getD 0 = if q = n / 64 then (l[n / 64]?).getD 0 + 2 ^ (n % 64) else (l[q]?).getD 0 := by
  unfold addB
  rw [List.getElem?_set]
  by_cases h : n / 64 = q
  · subst h
    rw [if_pos rfl, if_pos rfl, if_pos (by rw [padL_length]; omega)]
    rfl
  · rw [if_neg h, if_neg (fun e => h e.symm), padL_get]
/-- what a word with one more bit has -/
theorem bit_add {a i : Nat} (j : Nat) (h : a.testBit i = false) : (a + 2 ^ i).testBit j = (a.testBit j || decide (j = i)) := by
  rw [Nat.add_comm]
  rcases Nat.lt_trichotomy j i with hj | hj | hj
  · rw [Nat.testBit_two_pow_add_gt hj, decide_eq_false (by omega), Bool.or_false]
  · subst hj
    rw [Nat.testBit_two_pow_add_eq, h]; simp
  · rw [decide_eq_false (by omega), Bool.or_false]
    obtain ⟨d, rfl⟩ : ∃ d, j = i + 1 + d := ⟨j - (i + 1), by omega⟩
    rw [Nat.testBit_eq_decide_div_mod_eq] at h
    have h2 : a / 2 ^ i % 2 = 0 := by
      have := of_decide_eq_false h
      omega
    have hlt : a % 2 ^ i < 2 ^ i := Nat.mod_lt _ (Nat.two_pow_pos i)
    have hp : 2 ^ (i + 1) = 2 ^ i * 2 := Nat.pow_succ 2 i
    have hk : a / 2 ^ i = 2 * (a / 2 ^ i / 2) := by omega
    have hd := Nat.div_add_mod a (2 ^ i)
    generalize a / 2 ^ i / 2 = k at hk
    rw [hk, ← Nat.mul_assoc, ← hp] at hd
    generalize a % 2 ^ i = r at hd hlt
    have e1 : 2 ^ i + a = (2 ^ i + r) + 2 ^ (i + 1) * k := by omega
    have e2 : a = r + 2 ^ (i + 1) * k := by omega
    have f1 : (2 ^ i + a) / 2 ^ (i + 1) = k := by
      rw [e1, Nat.add_mul_div_left _ _ (Nat.two_pow_pos _), Nat.div_eq_of_lt (by omega), Nat.zero_add]
    have f2 : a / 2 ^ (i + 1) = k := by
      rw [e2, Nat.add_mul_div_left _ _ (Nat.two_pow_pos _), Nat.div_eq_of_lt (by omega), Nat.zero_add]
    rw [show i + 1 + d = d + (i + 1) by omega, ← Nat.testBit_div_two_pow, ← Nat.testBit_div_two_pow (x := a), f1, f2]
theorem bitB_add (l : List Nat) (n m : Nat) (h : bitB l n = false) : bitB (addB l n) m = (bitB l m || decide (m = n)) := by
  unfold bitB at *
  rw [addB_get]
  by_cases e : m / 64 = n / 64
  · rw [if_pos e, e, bit_add _ h]
    congr 1
    exact decide_eq_decide.2 (by omega)
  · rw [if_neg e, decide_eq_false (by omega), Bool.or_false]
theorem bitB_setB (P : Nat → Bool) (n m : Nat) : bitB (setB P n) m = (decide (m < n) && P m) := by
  induction n generalizing m with
  | zero => simp [setB, bitB]
  | succ n ih =>
    unfold setB
    have hb : bitB (setB P n) n = false := by rw [ih]; simp
    by_cases hp : P n = true
    · rw [if_pos hp, bitB_add _ _ _ hb, ih]
      by_cases e : m = n
      · subst e; simp [hp]
      · rw [decide_eq_false e, Bool.or_false]
        congr 1
        exact decide_eq_decide.2 (by omega)
    · rw [if_neg hp, ih]
      by_cases e : m = n
      · subst e; simp [hp]
      · congr 1
        exact decide_eq_decide.2 (by omega)
/-- words of 64 bits -/
theorem word_lt {a : Nat} (h : ∀ j, 64 ≤ j → a.testBit j = false) : okU a := by
  unfold okU
  have := Nat.lt_pow_two_of_testBit a (n := 64) (fun j hj => h j hj)
  simpa using this
theorem word_hi {a j : Nat} (h : okU a) (hj : 64 ≤ j) : a.testBit j = false := by
  apply Nat.testBit_lt_two_pow
  have : a < 2 ^ 64 := by unfold okU at h; simpa using h
  exact Nat.lt_of_lt_of_le this (Nat.pow_le_pow_right (by decide) hj)
def wordOf (l : List Nat) (q : Nat) : Nat := (l[q]?).getD 0
theorem setB_word (P : Nat → Bool) (n q : Nat) : okU (((setB P n)[q]?).getD 0) := by
  induction n generalizing q with
  | zero => simp [setB, okU]
  | succ n ih =>
    unfold setB
    split
    · rw [addB_get]
      split
      · have hb : bitB (setB P n) n = false := by rw [bitB_setB]; simp
        apply word_lt
        intro j hj
        rw [bit_add j hb, word_hi (ih _) hj, decide_eq_false (by omega)]
        rfl
      · exact ih q
    · exact ih q
theorem setB_length (P : Nat → Bool) (n : Nat) : (setB P n).length ≤ (n + 63) / 64 := by
  induction n with
  | zero => simp [setB]
  | succ n ih =>
    unfold setB
    split
    · rw [addB_length]; omega
    · omega
theorem trim_last {l : List Nat} {m : Nat} (h : l.length = m + 1) (h2 : (l[m]?).getD 0 ≠ 0) : trimL l = l := by
  have hm : m < l.length := by omega
  rw [List.getElem?_eq_getElem hm, Option.getD_some] at h2
  have e : l = l.take m ++ [l[m]] := by
    rw [← List.take_succ_eq_append_getElem hm, ← h, List.take_length]
  rw [e, trimL_snoc, if_neg h2]
theorem setB_trim (P : Nat → Bool) (n : Nat) : trimL (setB P n) = setB P n := by
  induction n with
  | zero => rfl
  | succ n ih =>
    unfold setB
    split
    · have hl := setB_length P n
      apply trim_last (m := n / 64)
      · rw [addB_length]; omega
      · rw [addB_get, if_pos rfl]
        have := Nat.two_pow_pos (n % 64)
        omega
    · exact ih
theorem trim_ext {l m : List Nat} (h : ∀ q : Nat, (l[q]?).getD 0 = (m[q]?).getD 0) : trimL l = trimL m := by
  have e1 := range_hand l (max l.length m.length) (by omega)
  have e2 := range_hand m (max l.length m.length) (by omega)
  have e3 : (List.range (max l.length m.length)).map (fun (q : Nat) => hand l q) = (List.range (max l.length m.length)).map (fun (q : Nat) => hand m q) := by
    apply List.map_congr_left
    intro q _
    rw [hand_nat, hand_nat, h]
  rw [e1, e2] at e3
  have e4 := congrArg trimL e3
  unfold padL at e4
  rwa [trimL_pad, trimL_pad] at e4
theorem word_ext {a b : Nat} (ha : okU a) (hb : okU b) (h : ∀ j, j < 64 → a.testBit j = b.testBit j) : a = b := by
  apply Nat.eq_of_testBit_eq
  intro j
  rcases Nat.lt_or_ge j 64 with hj | hj
  · exact h j hj
  · rw [word_hi ha hj, word_hi hb hj]
/-- word by word, or number by number -/
theorem zip_eq (f : Nat → Nat → Nat) (g : Bool → Bool → Bool) (s t : List Nat) (hs : ∀ x ∈ s, okU x) (ht : ∀ x ∈ t, okU x) (hf : ∀ a b, okU a → okU b → okU (f a b)) (hg : ∀ a b j, okU a → okU b → j < 64 → (f a b).testBit j = g (a.testBit j) (b.testBit j)) (h0 : f 0 0 = 0) (hg0 : g false false = false) :
    zipB f s t = setB (fun n => g (bitB s n) (bitB t n)) (64 * max s.length t.length) := by
  have okw : ∀ (l : List Nat), (∀ x ∈ l, okU x) → ∀ q : Nat, okU ((l[q]?).getD 0) := by
    intro l hl q
    rcases Nat.lt_or_ge q l.length with h | h
    · rw [List.getElem?_eq_getElem h, Option.getD_some]; exact hl _ (List.getElem_mem h)
    · rw [List.getElem?_eq_none h]; simp [okU]
  rw [← setB_trim]
  apply trim_ext
  intro q
  have hw : (((List.range (max s.length t.length)).map fun (q : Nat) => f ((s[q]?).getD 0) ((t[q]?).getD 0))[q]?).getD 0 = f ((s[q]?).getD 0) ((t[q]?).getD 0) := by
    rcases Nat.lt_or_ge q (max s.length t.length) with h | h
    · rw [List.getElem?_map, List.getElem?_range h]; rfl
    · rw [List.getElem?_eq_none (by simpa using h), List.getElem?_eq_none (l := s) (by omega), List.getElem?_eq_none (l := t) (by omega)]
      exact h0.symm
  rw [hw]
  apply word_ext (hf _ _ (okw s hs q) (okw t ht q)) (setB_word _ _ _)
  intro j hj
  rw [hg _ _ _ (okw s hs q) (okw t ht q) hj]
  have hb := bitB_setB (fun n => g (bitB s n) (bitB t n)) (64 * max s.length t.length) (64 * q + j)
  have ed : (64 * q + j) / 64 = q := by omega
  have em : (64 * q + j) % 64 = j := by omega
  have hbit : ∀ l : List Nat, bitB l (64 * q + j) = ((l[q]?).getD 0).testBit j := by
    intro l; unfold bitB; rw [ed, em]
  simp only [hbit] at hb
  rw [hb]
  rcases Nat.lt_or_ge q (max s.length t.length) with h | h
  · rw [decide_eq_true (by omega), Bool.true_and]
  · rw [decide_eq_false (by omega), Bool.false_and, List.getElem?_eq_none (l := s) (by omega), List.getElem?_eq_none (l := t) (by omega)]
    simp [hg0]
theorem trimL_hand (l : List Nat) (q : Nat) : ((trimL l)[q]?).getD 0 = (l[q]?).getD 0 := by
  rcases List.eq_nil_or_concat l with rfl | ⟨l', x, rfl⟩
  · rfl
  · have : ∀ (n : Nat) (l : List Nat), l.length = n → ((trimL l)[q]?).getD 0 = (l[q]?).getD 0 := by
      intro n
      induction n with
      | zero => intro l hl; rw [List.length_eq_zero_iff.1 hl]; rfl
      | succ n ih =>
        intro l hl
        rcases List.eq_nil_or_concat l with rfl | ⟨l', x, rfl⟩
        · rfl
        · rw [List.concat_eq_append, trimL_snoc]
          split
          · rename_i hx
            subst hx
            rw [ih l' (by simpa using hl)]
            rcases Nat.lt_or_ge q l'.length with h | h
            · rw [List.getElem?_append_left h]
            · rw [List.getElem?_eq_none h, List.getElem?_append_right h]
              rcases Nat.lt_or_ge (q - l'.length) 1 with h2 | h2
              · have : q - l'.length = 0 := by omega
                rw [this]; rfl
              · rw [List.getElem?_eq_none (by simpa using h2)]
          · rfl
    exact this _ _ rfl
theorem trimL_trim (l : List Nat) : trimL (trimL l) = trimL l := trim_ext fun q => trimL_hand l q
/-- l is the set of those for which P holds: words of 64 bits, no nought at the end -/
structure SetIs (l : List Nat) (P : Nat → Bool) : Prop where
  trim : trimL l = l
  ok : ∀ x ∈ l, okU x
  bit : ∀ n, bitB l n = P n
theorem hand_word {l : List Nat} (h : ∀ x ∈ l, okU x) (q : Nat) : okU ((l[q]?).getD 0) := by
  rcases Nat.lt_or_ge q l.length with h1 | h1
  · rw [List.getElem?_eq_getElem h1, Option.getD_some]; exact h _ (List.getElem_mem h1)
  · rw [List.getElem?_eq_none h1]; simp [okU]
theorem bit_word (l : List Nat) (q j : Nat) (hj : j < 64) : bitB l (64 * q + j) = ((l[q]?).getD 0).testBit j := by
  unfold bitB
  rw [show (64 * q + j) / 64 = q by omega, show (64 * q + j) % 64 = j by omega]
theorem SetIs.nil : SetIs [] (fun _ => false) := ⟨rfl, by simp, fun n => by simp [bitB]⟩
theorem SetIs.congr {l : List Nat} {P Q : Nat → Bool} (h : SetIs l P) (e : ∀ n, P n = Q n) : SetIs l Q := ⟨h.trim, h.ok, fun n => (h.bit n).trans (e n)⟩
theorem SetIs.uniq {l m : List Nat} {P : Nat → Bool} (h : SetIs l P) (h' : SetIs m P) : l = m := by
  rw [← h.trim, ← h'.trim]
  apply trim_ext
  intro q
  apply word_ext (hand_word h.ok q) (hand_word h'.ok q)
  intro j hj
  rw [← bit_word l q j hj, ← bit_word m q j hj, h.bit, h'.bit]
theorem SetIs.none {l : List Nat} {P : Nat → Bool} (h : SetIs l P) (h0 : l.length = 0) (n : Nat) : P n = false := by
  rw [← h.bit, List.length_eq_zero_iff.1 h0]; simp [bitB]
theorem SetIs.some {l : List Nat} {P : Nat → Bool} (h : SetIs l P) (h0 : 0 < l.length) : ∃ n, P n = true := by
  rcases List.eq_nil_or_concat l with rfl | ⟨l', x, rfl⟩
  · simp at h0
  · have ht := h.trim
    rw [List.concat_eq_append, trimL_snoc] at ht
    split at ht
    · have := trimL_length l'
      rw [ht] at this
      simp at this
      omega
    · rename_i hx
      obtain ⟨j, hj⟩ := Nat.exists_testBit_of_ne_zero hx
      have hj64 : j < 64 := Nat.lt_of_not_le fun hle => by
        rw [word_hi (h.ok x (by simp)) hle] at hj; exact absurd hj (by simp)
      refine ⟨64 * l'.length + j, ?_⟩
      rw [← h.bit, bit_word _ _ _ hj64]
      simpa using hj
/-- with n -/
def orB (l : List Nat) (n : Nat) : List Nat := (padL l (n / 64 + 1)).set (n / 64) ((l[n / 64]?).getD 0 ||| 2 ^ (n % 64))
theorem orB_length (l : List Nat) (n : Nat) : (orB l n).length = max l.length (n / 64 + 1) := by
  unfold orB; rw [List.length_set, padL_length]
theorem orB_get (l : List Nat) (n q : Nat) : ((orB l n)[q]?).getD 0 = if q = n / 64 then (l[n / 64]?).getD 0 ||| 2 ^ (n % 64) else (l[q]?).getD 0 := by
  unfold orB
  rw [List.getElem?_set]
  by_cases h : n / 64 = q
  · subst h
    rw [if_pos rfl, if_pos rfl, if_pos (by rw [padL_length]; omega)]
    rfl
  · rw [if_neg h, if_neg (fun e => h e.symm), padL_get]
theorem pow_word {j : Nat} (h : j < 64) : okU (2 ^ j) := by
  unfold okU
  exact Nat.pow_lt_pow_right (by decide) h
theorem word_or {a b : Nat} (ha : okU a) (hb : okU b) : okU (a ||| b) := by
  have : a ||| b < 2 ^ 64 := Nat.or_lt_two_pow (by simpa [okU] using ha) (by simpa [okU] using hb)
  simpa [okU] using this
theorem SetIs.add {l : List Nat} {P : Nat → Bool} (h : SetIs l P) (n : Nat) : SetIs (orB l n) (fun m => P m || decide (m = n)) := by
  have hw : okU ((l[n / 64]?).getD 0 ||| 2 ^ (n % 64)) := word_or (hand_word h.ok _) (pow_word (Nat.mod_lt _ (by decide)))
  refine ⟨?_, ?_, fun m => ?_⟩
  · rcases Nat.lt_or_ge (n / 64 + 1) l.length with h1 | h1
    · rcases List.eq_nil_or_concat l with hl | ⟨l', x, hl⟩
      · rw [hl] at h1; simp at h1
      · have hlen : l.length = l'.length + 1 := by rw [hl]; simp
        apply trim_last (m := l'.length)
        · rw [orB_length]; omega
        · rw [orB_get, if_neg (by omega)]
          have ht := h.trim
          rw [hl, List.concat_eq_append, trimL_snoc] at ht
          split at ht
          · have := trimL_length l'
            rw [ht] at this
            simp at this
            omega
          · rename_i hx
            rw [hl]; simpa using hx
    · apply trim_last (m := n / 64)
      · rw [orB_length]; omega
      · rw [orB_get, if_pos rfl]
        intro e
        have := congrArg (fun x => x.testBit (n % 64)) e
        simp [Nat.testBit_or] at this
  · intro x hx
    unfold orB at hx
    rcases List.mem_or_eq_of_mem_set hx with hx | rfl
    · unfold padL at hx
      rcases List.mem_append.1 hx with hx | hx
      · exact h.ok x hx
      · rw [(List.mem_replicate.1 hx).2]; simp [okU]
    · exact hw
  · show bitB (orB l n) m = _
    rw [← h.bit m]
    unfold bitB
    rw [orB_get]
    by_cases e : m / 64 = n / 64
    · rw [if_pos e, e, Nat.testBit_or, Nat.testBit_two_pow]
      congr 1
      exact decide_eq_decide.2 (by omega)
    · rw [if_neg e, decide_eq_false (by omega), Bool.or_false]
/-- sets word by word -/
theorem SetIs.zip {f : Nat → Nat → Nat} {g : Bool → Bool → Bool} {s t : List Nat} {P Q : Nat → Bool} (h : SetIs s P) (h' : SetIs t Q) (hf : ∀ a b, okU a → okU b → okU (f a b)) (hg : ∀ a b j, okU a → okU b → j < 64 → (f a b).testBit j = g (a.testBit j) (b.testBit j)) (h0 : f 0 0 = 0) :
    SetIs (zipB f s t) (fun n => g (P n) (Q n)) := by
  have hget : ∀ q : Nat, ((zipB f s t)[q]?).getD 0 = f ((s[q]?).getD 0) ((t[q]?).getD 0) := by
    intro q
    unfold zipB
    rw [trimL_hand]
    rcases Nat.lt_or_ge q (max s.length t.length) with h1 | h1
    · rw [List.getElem?_map, List.getElem?_range h1]; rfl
    · rw [List.getElem?_eq_none (by simpa using h1), List.getElem?_eq_none (l := s) (by omega), List.getElem?_eq_none (l := t) (by omega)]
      exact h0.symm
  have hok : ∀ x ∈ zipB f s t, okU x := by
    intro x hx
    obtain ⟨q, hq, rfl⟩ := List.getElem_of_mem hx
    have := hget q
    rw [List.getElem?_eq_getElem hq, Option.getD_some] at this
    rw [this]
    exact hf _ _ (hand_word h.ok q) (hand_word h'.ok q)
  refine ⟨trimL_trim _, hok, fun n => ?_⟩
  show bitB (zipB f s t) n = _
  rw [← h.bit n, ← h'.bit n]
  unfold bitB
  rw [hget, hg _ _ _ (hand_word h.ok _) (hand_word h'.ok _) (Nat.mod_lt _ (by decide))]
/-- a word's bits, rising -/
def bitsOf (x : Nat) : List Nat := (List.range 64).filter (fun j => x.testBit j)
/-- a set's numbers, rising -/
def memB (l : List Nat) : Nat → List Nat
  | 0 => []
  | k + 1 => memB l k ++ (bitsOf ((l[k]?).getD 0)).map (64 * k + ·)
theorem memB_filter (l : List Nat) (k : Nat) : memB l k = (List.range (64 * k)).filter (bitB l) := by
  induction k with
  | zero => rfl
  | succ k ih =>
    unfold memB
    rw [ih, show 64 * (k + 1) = 64 * k + 64 by omega, List.range_add, List.filter_append, List.filter_map]
    congr 2
    unfold bitsOf
    apply List.filter_congr
    intro j hj
    exact (bit_word l k j (List.mem_range.1 hj)).symm
theorem range_more {P : Nat → Bool} {n m : Nat} (h : n ≤ m) (h0 : ∀ k, n ≤ k → P k = false) : (List.range m).filter P = (List.range n).filter P := by
  obtain ⟨d, rfl⟩ : ∃ d, m = n + d := ⟨m - n, by omega⟩
  rw [List.range_add, List.filter_append, List.filter_map]
  have : (List.range d).filter (P ∘ fun x => n + x) = [] := by
    rw [List.filter_eq_nil_iff]
    intro a _
    simp [h0 (n + a) (by omega)]
  rw [this]; simp
/-- the numbers of a set, of which none is N or more -/
theorem SetIs.mem {l : List Nat} {P : Nat → Bool} (h : SetIs l P) {N : Nat} (hN : ∀ n, N ≤ n → P n = false) : memB l l.length = (List.range N).filter P := by
  have e : bitB l = P := funext h.bit
  rw [memB_filter, e]
  have h0 : ∀ k, 64 * l.length ≤ k → P k = false := by
    intro k hk
    rw [← h.bit]; unfold bitB
    rw [List.getElem?_eq_none (by omega)]; simp
  rcases Nat.le_total N (64 * l.length) with h1 | h1
  · exact range_more h1 hN
  · exact (range_more h1 h0).symm
theorem filter_cut {p q : Nat → Bool} {k n : Nat} (hk : k < n) (h1 : ∀ j, j < k → p j = false) (h2 : p k = true) (h3 : q k = false) (h4 : ∀ j, j ≠ k → q j = p j) : (List.range n).filter p = k :: (List.range n).filter q := by
  have base : ∀ m, m ≤ k → (List.range m).filter p = [] ∧ (List.range m).filter q = [] := fun m hm => by
    constructor
    · rw [List.filter_eq_nil_iff]; intro a ha; have := List.mem_range.1 ha; simp [h1 a (by omega)]
    · rw [List.filter_eq_nil_iff]; intro a ha; have := List.mem_range.1 ha; simp [h4 a (by omega), h1 a (by omega)]
  obtain ⟨d, rfl⟩ : ∃ d, n = k + 1 + d := ⟨n - (k + 1), by omega⟩
  clear hk
  induction d with
  | zero =>
    rw [Nat.add_zero, List.range_succ, List.filter_append, List.filter_append, (base k (Nat.le_refl _)).1, (base k (Nat.le_refl _)).2]
    simp [h2, h3]
  | succ d ih =>
    rw [← Nat.add_assoc, List.range_succ, List.filter_append, List.filter_append, ih]
    have e : List.filter p [k + 1 + d] = List.filter q [k + 1 + d] := by simp only [List.filter, h4 (k + 1 + d) (by omega)]
    rw [e]; rfl
/-- the lowest bit comes first, the others are those of x & (x - 1) -/
theorem bits_step {x : Nat} (h0 : x ≠ 0) (hx : okU x) : Lib.ctz 64 x < 64 ∧ bitsOf x = Lib.ctz 64 x :: bitsOf (x &&& (x - 1)) := by
  obtain ⟨m, hm, hk⟩ := Lib.ctzFrom_spec 64 x (by omega) (by simpa [okU] using hx)
  have hc : Lib.ctz 64 x = Lib.ctzFrom 64 x := by unfold Lib.ctz; rw [if_neg h0]
  rw [hc]
  generalize Lib.ctzFrom 64 x = k at hm hk
  refine ⟨hk, ?_⟩
  have hp := Nat.two_pow_pos k
  have e1 : x = 2 ^ k * (2 * m + 1) := hm
  have e2 : x - 1 = 2 ^ k * (2 * m) + (2 ^ k - 1) := by rw [e1, Nat.mul_add]; omega
  have t1 : ∀ j, x.testBit j = (decide (k ≤ j) && (2 * m + 1).testBit (j - k)) := fun j => by
    rw [e1, Nat.testBit_two_pow_mul]
  have t2 : ∀ j, k ≤ j → (x - 1).testBit j = (2 * m).testBit (j - k) := fun j hj => by
    rw [e2, Nat.testBit_two_pow_mul_add _ (by omega), if_neg (by omega)]
  unfold bitsOf
  apply filter_cut hk
  · intro j hj; rw [t1]; simp; omega
  · rw [t1]; simp
  · rw [Nat.testBit_and, t2 k (Nat.le_refl _)]; simp
  · intro j hj
    rw [Nat.testBit_and]
    rcases Nat.lt_or_ge j k with h | h
    · rw [t1]; simp; omega
    · rw [t2 j h, t1]
      obtain ⟨d, rfl⟩ : ∃ d, j = k + (d + 1) := ⟨j - k - 1, by omega⟩
      rw [show k + (d + 1) - k = d + 1 by omega, Nat.testBit_succ, Nat.testBit_succ]
      rw [show (2 * m + 1) / 2 = m by omega, show 2 * m / 2 = m by omega]
      simp
theorem bits_zero : bitsOf 0 = [] := by
  unfold bitsOf; rw [List.filter_eq_nil_iff]; simp
theorem bitsOf_lt {x j : Nat} (h : j ∈ bitsOf x) : j < 64 := by
  unfold bitsOf at h
  exact List.mem_range.1 (List.mem_filter.1 h).1
end Go.Proofs.YtnpgpcnkdocknaaDoor
