/- Clocks as plain lists of numbers: what package vector and its reference reckon, and that they agree. -/
import Derived.Test.YtknaoianhjeccaaDoorFlat
namespace Go.Proofs.YtknaoianhjeccaaDoor
set_option linter.unusedVariables false

/-- hand i of a clock -/
def hand (l : List Nat) (i : Int) : Nat := if 0 ≤ i then (l[i.toNat]?).getD 0 else 0
/-- without the noughts at its end -/
def trimL : List Nat → List Nat
  | [] => []
  | x :: r => if x = 0 ∧ trimL r = [] then [] else x :: trimL r
def padL (l : List Nat) (n : Nat) : List Nat := l ++ List.replicate (n - l.length) 0
def inTick (i : Int) : Bool := decide (0 ≤ i) && decide (i ≤ 65535)
def tickL (l : List Nat) (i : Int) : List Nat :=
  trimL (if inTick i then (padL l (i.toNat + 1)).set i.toNat ((hand l i + 1) % 18446744073709551616) else l)
def joinL (l m : List Nat) : List Nat := trimL ((List.range (max l.length m.length)).map fun (q : Nat) => max (hand l q) (hand m q))
def withinL (l m : List Nat) : Bool := (List.range l.length).all fun (q : Nat) => decide (hand l q ≤ hand m q)
/-- clockOf of the reference: hand after hand -/
def clockL (f : Nat → Nat) : Nat → List Nat
  | 0 => []
  | n + 1 => if 0 < f n then (padL (clockL f n) (n + 1)).set n (f n) else clockL f n
def tickF (l : List Nat) (i : Int) (q : Nat) : Nat := if (q : Int) = i ∧ i ≤ 65535 then (hand l q + 1) % 18446744073709551616 else hand l q
def tickN (l : List Nat) (i : Int) : Nat := if inTick i then max l.length (i.toNat + 1) else l.length

theorem hand_nat (l : List Nat) (q : Nat) : hand l q = (l[q]?).getD 0 := by simp [hand]
theorem hand_lt {l : List Nat} {q : Nat} (h : q < l.length) : hand l q = l[q] := by simp [hand_nat, h]
theorem hand_ge {l : List Nat} {q : Nat} (h : l.length ≤ q) : hand l q = 0 := by simp [hand_nat, h]
theorem hand_ok {l : List Nat} (h : ∀ x ∈ l, okU x) (i : Int) : okU (hand l i) := by
  unfold hand
  split
  · rcases Nat.lt_or_ge i.toNat l.length with h1 | h1
    · rw [List.getElem?_eq_getElem h1]; exact h _ (List.getElem_mem h1)
    · rw [List.getElem?_eq_none h1]; simp [okU]
  · simp [okU]
theorem trimL_snoc (l : List Nat) (x : Nat) : trimL (l ++ [x]) = if x = 0 then trimL l else l ++ [x] := by
  induction l with
  | nil => by_cases h : x = 0 <;> simp [trimL, h]
  | cons y r ih =>
    by_cases h : x = 0
    · subst h
      simp only [List.cons_append, trimL, ih, if_true]
    · simp only [List.cons_append, trimL, ih, if_neg h]
      rw [if_neg (by simp)]
theorem trimL_length (l : List Nat) : (trimL l).length ≤ l.length := by
  induction l with
  | nil => simp [trimL]
  | cons x r ih =>
    unfold trimL
    split
    · simp
    · simp; exact ih
theorem trimL_prefix (l : List Nat) : trimL l = l.take (trimL l).length := by
  induction l with
  | nil => simp [trimL]
  | cons x r ih =>
    unfold trimL
    split
    · simp
    · simp; exact ih
theorem trimL_pad (l : List Nat) (k : Nat) : trimL (l ++ List.replicate k 0) = trimL l := by
  induction k with
  | zero => simp
  | succ k ih =>
    rw [List.replicate_succ', ← List.append_assoc, trimL_snoc]
    simp [ih]
theorem clockL_len (f : Nat → Nat) (n : Nat) : (clockL f n).length ≤ n := by
  induction n with
  | zero => simp [clockL]
  | succ n ih =>
    unfold clockL
    split
    · simp [padL]; omega
    · omega
/-- clockOf has the hands of f, trimmed -/
theorem clockL_eq (f : Nat → Nat) (n : Nat) : clockL f n = trimL ((List.range n).map f) := by
  have key : ∀ n, clockL f n = trimL ((List.range n).map f) ∧ ∃ k, clockL f n ++ List.replicate k 0 = (List.range n).map f := by
    intro n
    induction n with
    | zero => exact ⟨by simp [clockL, trimL], 0, by simp [clockL]⟩
    | succ n ih =>
      obtain ⟨ih1, k, ih2⟩ := ih
      have hlen : (clockL f n).length + k = n := by have := congrArg List.length ih2; simpa using this
      rw [List.range_succ, List.map_append, List.map_cons, List.map_nil, trimL_snoc]
      unfold clockL
      by_cases h : 0 < f n
      · rw [if_pos h, if_neg (by omega)]
        have e : padL (clockL f n) (n + 1) = (List.range n).map f ++ [0] := by
          rw [← ih2, List.append_assoc, ← List.replicate_succ', padL]
          congr 2
          omega
        have e2 : (padL (clockL f n) (n + 1)).set n (f n) = (List.range n).map f ++ [f n] := by
          rw [e, List.set_append_right _ _ (by simp)]
          simp
        exact ⟨e2, 0, by simp [e2]⟩
      · have h0 : f n = 0 := by omega
        rw [if_neg h, if_pos h0]
        refine ⟨ih1, k + 1, ?_⟩
        rw [List.replicate_succ', ← List.append_assoc, ih2, h0]
  exact (key n).1
theorem range_hand (l : List Nat) (n : Nat) (h : l.length ≤ n) : (List.range n).map (fun (q : Nat) => hand l q) = padL l n := by
  apply List.ext_getElem?
  intro q
  simp only [List.getElem?_map, padL]
  rcases Nat.lt_or_ge q n with hq | hq
  · rw [List.getElem?_eq_getElem (by simpa using hq)]
    simp only [Option.map_some, List.getElem_range]
    rcases Nat.lt_or_ge q l.length with hl | hl
    · rw [List.getElem?_append_left hl, hand_lt hl, List.getElem?_eq_getElem hl]
    · rw [List.getElem?_append_right hl, hand_ge hl, List.getElem?_replicate, if_pos (by omega)]
  · rw [List.getElem?_eq_none (by simpa using hq), List.getElem?_eq_none (by simp; omega)]
    rfl
theorem tick_eq (l : List Nat) (i : Int) : clockL (tickF l i) (tickN l i) = tickL l i := by
  rw [clockL_eq]
  unfold tickL tickN
  by_cases h : inTick i = true
  · simp only [h, if_true]
    have h2 : 0 ≤ i ∧ i ≤ 65535 := by simpa [inTick] using h
    obtain ⟨q, rfl⟩ := Int.eq_ofNat_of_zero_le h2.1
    simp only [Int.toNat_natCast]
    have e : (List.range (max l.length (q + 1))).map (tickF l q) = ((List.range (max l.length (q + 1))).map (fun (k : Nat) => hand l k)).set q ((hand l q + 1) % 18446744073709551616) := by
      apply List.ext_getElem
      · simp
      · intro k h1 h3
        simp only [List.getElem_map, List.getElem_range, List.getElem_set]
        unfold tickF
        by_cases hk : q = k
        · subst hk; rw [if_pos ⟨rfl, h2.2⟩, if_pos rfl]
        · rw [if_neg (by omega), if_neg hk]
    rw [e, range_hand l _ (Nat.le_max_left _ _)]
    by_cases hl : q + 1 ≤ l.length
    · rw [Nat.max_eq_left hl]
      congr 2
      simp [padL]; omega
    · rw [Nat.max_eq_right (by omega)]
  · simp only [h]
    have hf : ∀ q, q < l.length → tickF l i q = hand l q := fun q hq => by
      unfold tickF
      rw [if_neg]
      intro hc
      apply h
      simp [inTick]; omega
    have e : (List.range l.length).map (tickF l i) = (List.range l.length).map (fun (k : Nat) => hand l k) := List.map_congr_left fun q hq => hf q (by simpa using hq)
    rw [if_neg (by simp), if_neg (by simp), e, range_hand l _ (Nat.le_refl _)]
    simp [padL]
theorem join_eq (l m : List Nat) : clockL (fun (q : Nat) => max (hand l q) (hand m q)) (max l.length m.length) = joinL l m := by
  rw [clockL_eq]; rfl
end Go.Proofs.YtknaoianhjeccaaDoor
