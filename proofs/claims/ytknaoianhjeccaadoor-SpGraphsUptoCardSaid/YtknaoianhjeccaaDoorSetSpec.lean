/- Sets of small numbers, each said by which numbers it has; its numbers, rising. -/
import Derived.Test.YtknaoianhjeccaaDoorBsSpec
import Derived.Lib.TrailingZeros
namespace Go.Proofs.YtknaoianhjeccaaDoor
set_option linter.unusedVariables false
theorem trimL_hand (l : List Nat) (q : Nat) : ((trimL l)[q]?).getD 0 = (l[q]?).getD 0 := by
  rcases List.eq_nil_or_concat l with rfl | ⟨l', x, rfl⟩
  · rfl
  · have : ∀ (n : Nat) (l : List Nat), l.length = n → ((trimL l)[q]?).getD 0 = (l[q]?).getD 0 := by
      intro n
      induction n with
      | zero => intro l hl; rw [List.length_eq_zero_iff.1 hl]; rfl
      | succ n ih =>
        intro l hl
        rcases List.eq_nil_or_concat l with rfl | ⟨l', x, rfl⟩
        · rfl
        · rw [List.concat_eq_append, trimL_snoc]
          split
          · rename_i hx
            subst hx
            rw [ih l' (by simpa using hl)]
            rcases Nat.lt_or_ge q l'.length with h | h
            · rw [List.getElem?_append_left h]
            · rw [List.getElem?_eq_none h, List.getElem?_append_right h]
              rcases Nat.lt_or_ge (q - l'.length) 1 with h2 | h2
              · have : q - l'.length = 0 := by omega
                rw [this]; rfl
              · rw [List.getElem?_eq_none (by simpa using h2)]
          · rfl
    exact this _ _ rfl
theorem trimL_trim (l : List Nat) : trimL (trimL l) = trimL l := trim_ext fun q => trimL_hand l q
/-- l is the set of those for which P holds: words of 64 bits, no nought at the end -/
structure SetIs (l : List Nat) (P : Nat → Bool) : Prop where
  trim : trimL l = l
  ok : ∀ x ∈ l, okU x
  bit : ∀ n, bitB l n = P n
theorem hand_word {l : List Nat} (h : ∀ x ∈ l, okU x) (q : Nat) : okU ((l[q]?).getD 0) := by
  rcases Nat.lt_or_ge q l.length with h1 | h1
  · rw [List.getElem?_eq_getElem h1, Option.getD_some]; exact h _ (List.getElem_mem h1)
  · rw [List.getElem?_eq_none h1]; simp [okU]
theorem bit_word (l : List Nat) (q j : Nat) (hj : j < 64) : bitB l (64 * q + j) = ((l[q]?).getD 0).testBit j := by
  unfold bitB
  rw [show (64 * q + j) / 64 = q by omega, show (64 * q + j) % 64 = j by omega]
theorem SetIs.nil : SetIs [] (fun _ => false) := ⟨rfl, by simp, fun n => by simp [bitB]⟩
theorem SetIs.congr {l : List Nat} {P Q : Nat → Bool} (h : SetIs l P) (e : ∀ n, P n = Q n) : SetIs l Q := ⟨h.trim, h.ok, fun n => (h.bit n).trans (e n)⟩
theorem SetIs.uniq {l m : List Nat} {P : Nat → Bool} (h : SetIs l P) (h' : SetIs m P) : l = m := by
  rw [← h.trim, ← h'.trim]
  apply trim_ext
  intro q
  apply word_ext (hand_word h.ok q) (hand_word h'.ok q)
  intro j hj
  rw [← bit_word l q j hj, ← bit_word m q j hj, h.bit, h'.bit]
theorem SetIs.none {l : List Nat} {P : Nat → Bool} (h : SetIs l P) (h0 : l.length = 0) (n : Nat) : P n = false := by
  rw [← h.bit, List.length_eq_zero_iff.1 h0]; simp [bitB]
theorem SetIs.some {l : List Nat} {P : Nat → Bool} (h : SetIs l P) (h0 : 0 < l.length) : ∃ n, P n = true := by
  rcases List.eq_nil_or_concat l with rfl | ⟨l', x, rfl⟩
  · simp at h0
  · have ht := h.trim
    rw [List.concat_eq_append, trimL_snoc] at ht
    split at ht
    · have := trimL_length l'
      rw [ht] at this
      simp at this
      omega
    · rename_i hx
      obtain ⟨j, hj⟩ := Nat.exists_testBit_of_ne_zero hx
      have hj64 : j < 64 := Nat.lt_of_not_le fun hle => by
        rw [word_hi (h.ok x (by simp)) hle] at hj; exact absurd hj (by simp)
      refine ⟨64 * l'.length + j, ?_⟩
      rw [← h.bit, bit_word _ _ _ hj64]
      simpa using hj
/-- with n -/
def orB (l : List Nat) (n : Nat) : List Nat := (padL l (n / 64 + 1)).set (n / 64) ((l[n / 64]?).getD 0 ||| 2 ^ (n % 64))
theorem orB_length (l : List Nat) (n : Nat) : (orB l n).length = max l.length (n / 64 + 1) := by
  unfold orB; rw [List.length_set, padL_length]
theorem orB_get (l : List Nat) (n q : Nat) : ((orB l n)[q]?).getD 0 = if q = n / 64 then (l[n / 64]?).getD 0 ||| 2 ^ (n % 64) else (l[q]?).getD 0 := by
  unfold orB
  rw [List.getElem?_set]
  by_cases h : n / 64 = q
  · subst h
    rw [if_pos rfl, if_pos rfl, if_pos (by rw [padL_length]; omega)]
    rfl
  · rw [if_neg h, if_neg (fun e => h e.symm), padL_get]
theorem pow_word {j : Nat} (h : j < 64) : okU (2 ^ j) := by
  unfold okU
  exact Nat.pow_lt_pow_right (by decide) h
theorem word_or {a b : Nat} (ha : okU a) (hb : okU b) : okU (a ||| b) := by
  have : a ||| b < 2 ^ 64 := Nat.or_lt_two_pow (by simpa [okU] using ha) (by simpa [okU] using hb)
  simpa [okU] using this
theorem SetIs.add {l : List Nat} {P : Nat → Bool} (h : SetIs l P) (n : Nat) : SetIs (orB l n) (fun m => P m || decide (m = n)) := by
  have hw : okU ((l[n / 64]?).getD 0 ||| 2 ^ (n % 64)) := word_or (hand_word h.ok _) (pow_word (Nat.mod_lt _ (by decide)))
  refine ⟨?_, ?_, fun m => ?_⟩
  · rcases Nat.lt_or_ge (n / 64 + 1) l.length with h1 | h1
    · rcases List.eq_nil_or_concat l with hl | ⟨l', x, hl⟩
      · rw [hl] at h1; simp at h1
      · have hlen : l.length = l'.length + 1 := by rw [hl]; simp
        apply trim_last (m := l'.length)
        · rw [orB_length]; omega
        · rw [orB_get, if_neg (by omega)]
          have ht := h.trim
          rw [hl, List.concat_eq_append, trimL_snoc] at ht
          split at ht
          · have := trimL_length l'
            rw [ht] at this
            simp at this
            omega
          · rename_i hx
            rw [hl]; simpa using hx
    · apply trim_last (m := n / 64)
      · rw [orB_length]; omega
      · rw [orB_get, if_pos rfl]
        intro e
        have := congrArg (fun x => x.testBit (n % 64)) e
        simp [Nat.testBit_or] at this
  · intro x hx
    unfold orB at hx
    rcases List.mem_or_eq_of_mem_set hx with hx | rfl
    · unfold padL at hx
      rcases List.mem_append.1 hx with hx | hx
      · exact h.ok x hx
      · rw [(List.mem_replicate.1 hx).2]; simp [okU]
    · exact hw
  · show bitB (orB l n) m = _
    rw [← h.bit m]
    unfold bitB
    rw [orB_get]
    by_cases e : m / 64 = n / 64
    · rw [if_pos e, e, Nat.testBit_or, Nat.testBit_two_pow]
      congr 1
      exact decide_eq_decide.2 (by omega)
    · rw [if_neg e, decide_eq_false (by omega), Bool.or_false]
/-- sets word by word -/
theorem SetIs.zip {f : Nat → Nat → Nat} {g : Bool → Bool → Bool} {s t : List Nat} {P Q : Nat → Bool} (h : SetIs s P) (h' : SetIs t Q) (hf : ∀ a b, okU a → okU b → okU (f a b)) (hg : ∀ a b j, okU a → okU b → j < 64 → (f a b).testBit j = g (a.testBit j) (b.testBit j)) (h0 : f 0 0 = 0) :
    SetIs (zipB f s t) (fun n => g (P n) (Q n)) := by
  have hget : ∀ q : Nat, ((zipB f s t)[q]?).getD 0 = f ((s[q]?).getD 0) ((t[q]?).getD 0) := by
    intro q
    unfold zipB
    rw [trimL_hand]
    rcases Nat.lt_or_ge q (max s.length t.length) with h1 | h1
    · rw [List.getElem?_map, List.getElem?_range h1]; rfl
    · rw [List.getElem?_eq_none (by simpa using h1), List.getElem?_eq_none (l := s) (by omega), List.getElem?_eq_none (l := t) (by omega)]
      exact h0.symm
  have hok : ∀ x ∈ zipB f s t, okU x := by
    intro x hx
    obtain ⟨q, hq, rfl⟩ := List.getElem_of_mem hx
    have := hget q
    rw [List.getElem?_eq_getElem hq, Option.getD_some] at this
    rw [this]
    exact hf _ _ (hand_word h.ok q) (hand_word h'.ok q)
  refine ⟨trimL_trim _, hok, fun n => ?_⟩
  show bitB (zipB f s t) n = _
  rw [← h.bit n, ← h'.bit n]
  unfold bitB
  rw [hget, hg _ _ _ (hand_word h.ok _) (hand_word h'.ok _) (Nat.mod_lt _ (by decide))]
/-- a word's bits, rising -/
def bitsOf (x : Nat) : List Nat := (List.range 64).filter (fun j => x.testBit j)
/-- a set's numbers, rising -/
def memB (l : List Nat) : Nat → List Nat
  | 0 => []
  | k + 1 => memB l k ++ (bitsOf ((l[k]?).getD 0)).map (64 * k + ·)
theorem memB_filter (l : List Nat) (k : Nat) : memB l k = (List.range (64 * k)).filter (bitB l) := by
  induction k with
  | zero => rfl
  | succ k ih =>
    unfold memB
    rw [ih, show 64 * (k + 1) = 64 * k + 64 by omega, List.range_add, List.filter_append, List.filter_map]
    congr 2
    unfold bitsOf
    apply List.filter_congr
    intro j hj
    exact (bit_word l k j (List.mem_range.1 hj)).symm
theorem range_more {P : Nat → Bool} {n m : Nat} (h : n ≤ m) (h0 : ∀ k, n ≤ k → P k = false) : (List.range m).filter P = (List.range n).filter P := by
  obtain ⟨d, rfl⟩ : ∃ d, m = n + d := ⟨m - n, by omega⟩
  rw [List.range_add, List.filter_append, List.filter_map]
  have : (List.range d).filter (P ∘ fun x => n + x) = [] := by
    rw [List.filter_eq_nil_iff]
    intro a _
    simp [h0 (n + a) (by omega)]
  rw [this]; simp
/-- the numbers of a set, of which none is N or more -/
theorem SetIs.mem {l : List Nat} {P : Nat → Bool} (h : SetIs l P) {N : Nat} (hN : ∀ n, N ≤ n → P n = false) : memB l l.length = (List.range N).filter P := by
  have e : bitB l = P := funext h.bit
  rw [memB_filter, e]
  have h0 : ∀ k, 64 * l.length ≤ k → P k = false := by
    intro k hk
    rw [← h.bit]; unfold bitB
    rw [List.getElem?_eq_none (by omega)]; simp
  rcases Nat.le_total N (64 * l.length) with h1 | h1
  · exact range_more h1 hN
  · exact (range_more h1 h0).symm
theorem filter_cut {p q : Nat → Bool} {k n : Nat} (hk : k < n) (h1 : ∀ j, j < k → p j = false) (h2 : p k = true) (h3 : q k = false) (h4 : ∀ j, j ≠ k → q j = p j) : (List.range n).filter p = k :: (List.range n).filter q := by
  have base : ∀ m, m ≤ k → (List.range m).filter p = [] ∧ (List.range m).filter q = [] := fun m hm => by
    constructor
    · rw [List.filter_eq_nil_iff]; intro a ha; have := List.mem_range.1 ha; simp [h1 a (by omega)]
    · rw [List.filter_eq_nil_iff]; intro a ha; have := List.mem_range.1 ha; simp [h4 a (by omega), h1 a (by omega)]
  obtain ⟨d, rfl⟩ : ∃ d, n = k + 1 + d := ⟨n - (k + 1), by omega⟩
  clear hk
  induction d with
  | zero =>
    rw [Nat.add_zero, List.range_succ, List.filter_append, List.filter_append, (base k (Nat.le_refl _)).1, (base k (Nat.le_refl _)).2]
    simp [h2, h3]
  | succ d ih =>
    rw [← Nat.add_assoc, List.range_succ, List.filter_append, List.filter_append, ih]
    have e : List.filter p [k + 1 + d] = List.filter q [k + 1 + d] := by simp only [List.filter, h4 (k + 1 + d) (by omega)]
    rw [e]; rfl
/-- the lowest bit comes first, the others are those of x & (x - 1) -/
theorem bits_step {x : Nat} (h0 : x ≠ 0) (hx : okU x) : Lib.ctz 64 x < 64 ∧ bitsOf x = Lib.ctz 64 x :: bitsOf (x &&& (x - 1)) := by
  obtain ⟨m, hm, hk⟩ := Lib.ctzFrom_spec 64 x (by omega) (by simpa [okU] using hx)
  have hc : Lib.ctz 64 x = Lib.ctzFrom 64 x := by unfold Lib.ctz; rw [if_neg h0]
  rw [hc]
  generalize Lib.ctzFrom 64 x = k at hm hk
  refine ⟨hk, ?_⟩
  have hp := Nat.two_pow_pos k
  have e1 : x = 2 ^ k * (2 * m + 1) := hm
  have e2 : x - 1 = 2 ^ k * (2 * m) + (2 ^ k - 1) := by rw [e1, Nat.mul_add]; omega
  have t1 : ∀ j, x.testBit j = (decide (k ≤ j) && (2 * m + 1).testBit (j - k)) := fun j => by
    rw [e1, Nat.testBit_two_pow_mul]
  have t2 : ∀ j, k ≤ j → (x - 1).testBit j = (2 * m).testBit (j - k) := fun j hj => by
    rw [e2, Nat.testBit_two_pow_mul_add _ (by omega), if_neg (by omega)]
  unfold bitsOf
  apply filter_cut hk
  · intro j hj; rw [t1]; simp; omega
  · rw [t1]; simp
  · rw [Nat.testBit_and, t2 k (Nat.le_refl _)]; simp
  · intro j hj
    rw [Nat.testBit_and]
    rcases Nat.lt_or_ge j k with h | h
    · rw [t1]; simp; omega
    · rw [t2 j h, t1]
      obtain ⟨d, rfl⟩ : ∃ d, j = k + (d + 1) := ⟨j - k - 1, by omega⟩
      rw [show k + (d + 1) - k = d + 1 by omega, Nat.testBit_succ, Nat.testBit_succ]
      rw [show (2 * m + 1) / 2 = m by omega, show 2 * m / 2 = m by omega]
      simp
theorem bits_zero : bitsOf 0 = [] := by
  unfold bitsOf; rw [List.filter_eq_nil_iff]; simp
theorem bitsOf_lt {x j : Nat} (h : j ∈ bitsOf x) : j < 64 := by
  unfold bitsOf at h
  exact List.mem_range.1 (List.mem_filter.1 h).1
end Go.Proofs.YtknaoianhjeccaaDoor
