/- In how many orders a graph's nodes may come, rest 2^64, as plain numbers: from the end (with a memory) and from the start (state by state) it is the same. -/
import Derived.Test.YthbbecmffndgdabDoorBitI
import Derived.Test.YthbbecmffndgdabDoorGrSpec3
namespace Go.Proofs.YthbbecmffndgdabDoor
set_option linter.unusedVariables false
/-- n may come, where those in s have come -/
def okC (es : List (Nat × Nat)) (s n : Nat) : Bool := !s.testBit n && es.all fun e => decide (e.2 ≠ n) || s.testBit e.1
/-- the sum of those that p has, rest 2^64 -/
def sumC (g : Nat → Nat) (p : Nat → Bool) : Nat → Nat
  | 0 => 0
  | k + 1 => if p k then (sumC g p k + g k) % 18446744073709551616 else sumC g p k
def cntC (N : Nat) (es : List (Nat × Nat)) : Nat → Nat → Nat
  | 0, _ => 0
  | d + 1, s => if s = 2 ^ N - 1 then 1 else sumC (fun n => cntC N es d (s + 2 ^ n)) (okC es s) N
def cC (N : Nat) (es : List (Nat × Nat)) (s : Nat) : Nat := cntC N es (2 ^ N - s) s
theorem sumC_congr {g g' : Nat → Nat} {p : Nat → Bool} : ∀ {k : Nat}, (∀ n, n < k → p n = true → g n = g' n) → sumC g p k = sumC g' p k
  | 0, _ => rfl
  | k + 1, h => by
    have ih := sumC_congr (k := k) (fun n hn hp => h n (by omega) hp)
    unfold sumC
    rw [ih]
    split
    · rename_i hp; rw [h k (by omega) hp]
    · rfl
theorem sumC_lt (g : Nat → Nat) (p : Nat → Bool) : ∀ k, sumC g p k < 18446744073709551616
  | 0 => by unfold sumC; omega
  | k + 1 => by
    have := sumC_lt g p k
    unfold sumC
    split
    · exact Nat.mod_lt _ (by omega)
    · exact this
theorem add_bit {s n : Nat} (h : s.testBit n = false) : s + 2 ^ n = s ||| 2 ^ n := by
  apply Nat.eq_of_testBit_eq
  intro j
  rw [bit_add j h, Nat.testBit_or, Nat.testBit_two_pow]
  congr 1
  rw [decide_eq_decide]; omega
theorem add_bit_lt {s n N : Nat} (h : s.testBit n = false) (hs : s < 2 ^ N) (hn : n < N) : s + 2 ^ n < 2 ^ N := by
  rw [add_bit h]
  exact Nat.or_lt_two_pow hs (Nat.pow_lt_pow_right (by omega) hn)
theorem okC_bit {es : List (Nat × Nat)} {s n : Nat} (h : okC es s n = true) : s.testBit n = false := by
  unfold okC at h
  rw [Bool.and_eq_true] at h
  simpa using h.1
theorem cntC_fuel (N : Nat) (es : List (Nat × Nat)) : ∀ (d d' s : Nat), s < 2 ^ N → 2 ^ N - s ≤ d → 2 ^ N - s ≤ d' → cntC N es d s = cntC N es d' s
  | 0, _, s, hs, h1, _ => by omega
  | d + 1, 0, s, hs, _, h2 => by omega
  | d + 1, d' + 1, s, hs, h1, h2 => by
    unfold cntC
    split
    · rfl
    · apply sumC_congr
      intro n hn hp
      have hb := okC_bit hp
      have := add_bit_lt hb hs hn
      have h0 : 0 < 2 ^ n := Nat.two_pow_pos n
      exact cntC_fuel N es d d' _ this (by omega) (by omega)
theorem cC_full (N : Nat) (es : List (Nat × Nat)) : cC N es (2 ^ N - 1) = 1 := by
  have : 0 < 2 ^ N := Nat.two_pow_pos N
  unfold cC
  rw [show 2 ^ N - (2 ^ N - 1) = 0 + 1 by omega]
  unfold cntC
  rw [if_pos rfl]
theorem cC_step {N : Nat} (es : List (Nat × Nat)) {s : Nat} (hs : s < 2 ^ N) (hf : s ≠ 2 ^ N - 1) : cC N es s = sumC (fun n => cC N es (s + 2 ^ n)) (okC es s) N := by
  have hd : 2 ^ N - s = (2 ^ N - s - 1) + 1 := by omega
  conv => lhs; unfold cC; rw [hd]; unfold cntC
  rw [if_neg hf]
  apply sumC_congr
  intro n hn hp
  have := add_bit_lt (okC_bit hp) hs hn
  have h0 : 0 < 2 ^ n := Nat.two_pow_pos n
  unfold cC
  exact cntC_fuel N es _ _ _ this (by omega) (by omega)
theorem cC_lt {N : Nat} (es : List (Nat × Nat)) {s : Nat} (hs : s < 2 ^ N) : cC N es s < 18446744073709551616 := by
  by_cases hf : s = 2 ^ N - 1
  · rw [hf, cC_full]; omega
  · rw [cC_step es hs hf]; exact sumC_lt _ _ _
/-- those ahead of n, as bits -/
def ahN (es : List (Nat × Nat)) (n : Nat) : Nat := es.foldl (fun acc e => if e.2 = n then acc ||| 2 ^ e.1 else acc) 0
theorem ahN_snoc (es : List (Nat × Nat)) (a b n : Nat) : ahN (es ++ [(a, b)]) n = if n = b then ahN es n ||| 2 ^ a else ahN es n := by
  unfold ahN
  rw [List.foldl_append]
  simp only [List.foldl_cons, List.foldl_nil]
  by_cases h : b = n
  · rw [if_pos h, if_pos h.symm]
  · rw [if_neg h, if_neg (fun e => h e.symm)]
theorem ah_fold (n j : Nat) : ∀ (es : List (Nat × Nat)) (z : Nat), (es.foldl (fun acc e => if e.2 = n then acc ||| 2 ^ e.1 else acc) z).testBit j = (z.testBit j || es.any fun e => decide (e.2 = n) && decide (e.1 = j))
  | [], z => by simp
  | e :: r, z => by
    simp only [List.foldl_cons, List.any_cons]
    rw [ah_fold n j r]
    by_cases h : e.2 = n
    · rw [if_pos h, Nat.testBit_or, Nat.testBit_two_pow, decide_eq_true h, Bool.true_and, Bool.or_assoc]
    · rw [if_neg h, decide_eq_false h, Bool.false_and, Bool.false_or]
theorem ahN_bit (es : List (Nat × Nat)) (n j : Nat) : (ahN es n).testBit j = es.any fun e => decide (e.2 = n) && decide (e.1 = j) := by
  unfold ahN
  rw [ah_fold, Nat.zero_testBit, Bool.false_or]
theorem ahN_lt {N : Nat} {es : List (Nat × Nat)} (hv : ∀ a b, (a, b) ∈ es → a < N ∧ b < N) (n : Nat) : ahN es n < 2 ^ N := by
  apply Nat.lt_pow_two_of_testBit
  intro j hj
  rw [ahN_bit]
  cases h : es.any fun e => decide (e.2 = n) && decide (e.1 = j) with
  | false => rfl
  | true =>
    obtain ⟨⟨a, b⟩, he, h2⟩ := List.any_eq_true.1 h
    simp at h2
    have := (hv a b he).1
    omega
theorem ok_less {N : Nat} {es : List (Nat × Nat)} (hN : N ≤ 14) (hv : ∀ a b, (a, b) ∈ es → a < N ∧ b < N) {s : Nat} (hs : s < 2 ^ N) (n : Nat) : okC es s n = (!s.testBit n && decide (lessN (ahN es n) s = 0)) := by
  unfold okC
  congr 1
  have h14 : 2 ^ N ≤ 2 ^ 14 := Nat.pow_le_pow_right (by omega) hN
  have ha := ahN_lt hv n
  rw [Bool.eq_iff_iff, List.all_eq_true, decide_eq_true_eq, lessN_zero (by omega) (by omega)]
  constructor
  · intro h j hj ht
    rw [ahN_bit, List.any_eq_true] at ht
    obtain ⟨e, he, h2⟩ := ht
    have h3 := h e he
    simp at h2 h3
    rcases h3 with h3 | h3
    · exact absurd h2.1 h3
    · rw [← h2.2]; exact h3
  · intro h e he
    by_cases h2 : e.2 = n
    · have hb := h e.1 (by have := (hv e.1 e.2 he).1; omega) (by rw [ahN_bit, List.any_eq_true]; exact ⟨e, he, by simp [h2]⟩)
      rw [hb]; simp
    · rw [decide_eq_true h2]; rfl
/-- a sum from lo on -/
def sumF (f : Nat → Nat) : Nat → Nat → Nat
  | 0, _ => 0
  | n + 1, lo => f lo + sumF f n (lo + 1)
theorem sumF_zero {f : Nat → Nat} : ∀ {n lo : Nat}, (∀ t, lo ≤ t → f t = 0) → sumF f n lo = 0
  | 0, _, _ => rfl
  | n + 1, lo, h => by unfold sumF; rw [h lo (Nat.le_refl _), sumF_zero (fun t ht => h t (by omega))]
theorem sumF_same {f f' : Nat → Nat} : ∀ {n lo : Nat}, (∀ t, lo ≤ t → t < lo + n → f t = f' t) → sumF f n lo = sumF f' n lo
  | 0, _, _ => rfl
  | n + 1, lo, h => by unfold sumF; rw [h lo (Nat.le_refl _) (by omega), sumF_same (fun t h1 h2 => h t (by omega) (by omega))]
theorem sumF_put {f f' : Nat → Nat} {t d : Nat} (h : ∀ x, x ≠ t → f' x = f x) (ht : f' t % 18446744073709551616 = (f t + d) % 18446744073709551616) : ∀ {n lo : Nat}, lo ≤ t → t < lo + n → sumF f' n lo % 18446744073709551616 = (sumF f n lo + d) % 18446744073709551616
  | 0, lo, h1, h2 => by omega
  | n + 1, lo, h1, h2 => by
    unfold sumF
    by_cases e : lo = t
    · subst e
      rw [sumF_same (f := f') (f' := f) (fun x hx _ => h x (by omega))]
      omega
    · have ih := sumF_put h ht (n := n) (lo := lo + 1) (by omega) (by omega)
      rw [h lo e]
      omega
def totC (N : Nat) (es : List (Nat × Nat)) (A : Nat → Nat) (s : Nat) : Nat := sumF (fun t => A t * cC N es t) (2 ^ N - s) s
/-- how things stand ahead of state s -/
def DPo (N : Nat) (es : List (Nat × Nat)) (s : Nat) (A : Nat → Nat) : Prop :=
  (s < 2 ^ N → totC N es A s % 18446744073709551616 = cC N es 0 % 18446744073709551616) ∧ (s = 2 ^ N → A (2 ^ N - 1) % 18446744073709551616 = cC N es 0 % 18446744073709551616)
/-- .. within state s, behind k nodes -/
def DPi (N : Nat) (es : List (Nat × Nat)) (s k a : Nat) (A : Nat → Nat) : Prop :=
  A s = a ∧ (s + 1 < 2 ^ N → (totC N es A (s + 1) + a * cC N es s) % 18446744073709551616 = (cC N es 0 + a * sumC (fun n => cC N es (s + 2 ^ n)) (okC es s) k) % 18446744073709551616) ∧ (s + 1 = 2 ^ N → A s % 18446744073709551616 = cC N es 0 % 18446744073709551616)
def startA : Nat → Nat := fun t => if t = 0 then 1 else 0
theorem dp_start (N : Nat) (es : List (Nat × Nat)) : DPo N es 0 startA := by
  have h0 : 0 < 2 ^ N := Nat.two_pow_pos N
  refine ⟨fun _ => ?_, fun h => by omega⟩
  unfold totC
  rw [show 2 ^ N - 0 = (2 ^ N - 1) + 1 by omega]
  unfold sumF
  rw [sumF_zero (fun t ht => by unfold startA; rw [if_neg (by omega)]; omega)]
  unfold startA
  rw [if_pos rfl]
  congr 1
  omega
theorem totC_succ {N : Nat} (es : List (Nat × Nat)) (A : Nat → Nat) {s : Nat} (hs : s < 2 ^ N) : totC N es A s = A s * cC N es s + totC N es A (s + 1) := by
  unfold totC
  rw [show 2 ^ N - s = (2 ^ N - (s + 1)) + 1 by omega]
  rfl
theorem dpo_in {N : Nat} {es : List (Nat × Nat)} {s : Nat} {A : Nat → Nat} (hs : s < 2 ^ N) (h : DPo N es s A) : DPi N es s 0 (A s) A := by
  refine ⟨rfl, fun h1 => ?_, fun h1 => ?_⟩
  · have := h.1 hs
    rw [totC_succ es A hs] at this
    unfold sumC
    rw [Nat.mul_zero, Nat.add_comm, this]; rfl
  · have := h.1 hs
    rw [totC_succ es A hs] at this
    have e : s = 2 ^ N - 1 := by omega
    rw [e, cC_full, show 2 ^ N - 1 + 1 = 2 ^ N by omega] at this
    have e2 : totC N es A (2 ^ N) = 0 := by unfold totC; rw [Nat.sub_self]; rfl
    rw [e2] at this
    rw [e]
    simpa using this
theorem full_bit {N n : Nat} (hn : n < N) : (2 ^ N - 1).testBit n = true := by
  rw [Nat.testBit_two_pow_sub_one]; simpa using hn
theorem dpi_skip {N : Nat} {es : List (Nat × Nat)} {s k a : Nat} {A : Nat → Nat} (h : DPi N es s k a A) (hno : ¬ (0 < a ∧ okC es s k = true)) : DPi N es s (k + 1) a A := by
  refine ⟨h.1, fun h1 => ?_, h.2.2⟩
  have h2 := h.2.1 h1
  unfold sumC
  by_cases ha : a = 0
  · subst ha
    simpa using h2
  · have : okC es s k = false := by
      cases hk : okC es s k
      · rfl
      · exact absurd ⟨by omega, hk⟩ hno
    rw [this]
    exact h2
theorem dpi_put {N : Nat} {es : List (Nat × Nat)} {s k a : Nat} {A A' : Nat → Nat} (h : DPi N es s k a A) (hs : s < 2 ^ N) (hk : k < N) (hok : okC es s k = true) (h1 : A' (s + 2 ^ k) = (A (s + 2 ^ k) + a) % 18446744073709551616) (h2 : ∀ x, x ≠ s + 2 ^ k → A' x = A x) : DPi N es s (k + 1) a A' := by
  have h0 : 0 < 2 ^ k := Nat.two_pow_pos k
  have hlt := add_bit_lt (okC_bit hok) hs hk
  refine ⟨by rw [h2 s (by omega)]; exact h.1, fun h3 => ?_, fun h3 => by omega⟩
  have h4 := h.2.1 h3
  have hp := sumF_put (f := fun t => A t * cC N es t) (f' := fun t => A' t * cC N es t) (t := s + 2 ^ k) (d := a * cC N es (s + 2 ^ k)) (fun x hx => by show A' x * _ = A x * _; rw [h2 x hx])
    (by show (A' (s + 2 ^ k) * _) % _ = (A (s + 2 ^ k) * _ + _) % _; rw [h1, Nat.mul_mod, Nat.mod_mod, ← Nat.mul_mod, Nat.add_mul]) (n := 2 ^ N - (s + 1)) (lo := s + 1) (by omega) (by omega)
  unfold sumC
  rw [if_pos hok]
  have e : (a * ((sumC (fun n => cC N es (s + 2 ^ n)) (okC es s) k + cC N es (s + 2 ^ k)) % 18446744073709551616)) % 18446744073709551616 = (a * sumC (fun n => cC N es (s + 2 ^ n)) (okC es s) k + a * cC N es (s + 2 ^ k)) % 18446744073709551616 := by
    rw [Nat.mul_mod, Nat.mod_mod, ← Nat.mul_mod, Nat.mul_add]
  unfold totC at h4 ⊢
  generalize sumF (fun t => A' t * cC N es t) (2 ^ N - (s + 1)) (s + 1) = x at *
  generalize sumF (fun t => A t * cC N es t) (2 ^ N - (s + 1)) (s + 1) = y at *
  generalize a * ((sumC (fun n => cC N es (s + 2 ^ n)) (okC es s) k + cC N es (s + 2 ^ k)) % 18446744073709551616) = u at *
  generalize a * sumC (fun n => cC N es (s + 2 ^ n)) (okC es s) k = v at *
  generalize a * cC N es (s + 2 ^ k) = p at *
  generalize a * cC N es s = q at *
  omega
theorem dpi_out {N : Nat} {es : List (Nat × Nat)} {s a : Nat} {A : Nat → Nat} (h : DPi N es s N a A) (hs : s < 2 ^ N) : DPo N es (s + 1) A := by
  refine ⟨fun h1 => ?_, fun h1 => ?_⟩
  · have h2 := h.2.1 h1
    rw [← cC_step es hs (by omega)] at h2
    generalize totC N es A (s + 1) = x at *
    generalize a * cC N es s = q at *
    omega
  · have := h.2.2 h1
    rw [← h1]
    exact this
theorem dpo_end {N : Nat} {es : List (Nat × Nat)} {A : Nat → Nat} (h : DPo N es (2 ^ N) A) (hA : A (2 ^ N - 1) < 18446744073709551616) : A (2 ^ N - 1) = cC N es 0 := by
  have h1 := h.2 rfl
  have h2 := cC_lt es (N := N) (s := 0) (Nat.two_pow_pos N)
  rw [Nat.mod_eq_of_lt hA, Nat.mod_eq_of_lt h2] at h1
  exact h1
/-- what Count says -/
def cntW (N : Int) (ps : List (Int × Int)) : Int × Int := if wrongE N ps ≠ 0 then (0, wrongE N ps) else if 14 < N then (0, 2) else ((cC N.toNat (natsP ps) 0 : Int), 0)
end Go.Proofs.YthbbecmffndgdabDoor
