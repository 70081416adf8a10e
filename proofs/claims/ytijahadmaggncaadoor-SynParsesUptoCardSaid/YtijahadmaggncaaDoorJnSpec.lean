/- Digits are a number where strconv reads them and writes the same again. -/
import Derived.Test.YtijahadmaggncaaDoorLexSpec
import Derived.Lib.ParseIntB
import Derived.Lib.ItoaNum
namespace Go.Proofs.YtijahadmaggncaaDoor
set_option linter.unusedVariables false
/-- digits read and written again -/
def numJ (l : List UInt8) : Bool := match Lib.parseIntB 64 l with
  | .ok v => Lib.itoa v == l
  | _ => false
/-- what digits spell, behind a -/
def stD (a : Nat) (c : UInt8) : Nat := a * 10 + (c.toNat - 48)
def vA (a : Nat) (l : List UInt8) : Nat := l.foldl stD a
theorem vA_nil (a : Nat) : vA a [] = a := List.foldl_nil
theorem vA_cons (a : Nat) (c : UInt8) (r : List UInt8) : vA a (c :: r) = vA (a * 10 + (c.toNat - 48)) r := by
  unfold vA
  rw [List.foldl_cons]
  unfold stD
  exact Eq.refl _
theorem vA_ge (l : List UInt8) : ∀ a : Nat, a ≤ vA a l := by
  induction l with
  | nil => intro a; rw [vA_nil]; exact Nat.le_refl _
  | cons c r ih =>
    intro a
    rw [vA_cons]
    exact Nat.le_trans (by omega) (ih _)
theorem vA_eq : ∀ (l : List UInt8) (a : Nat), vA a l = a * 10 ^ l.length + vA 0 l
  | [], a => by simp [vA_nil]
  | c :: r, a => by
    rw [vA_cons, vA_cons, vA_eq r (a * 10 + _), vA_eq r (0 * 10 + _), List.length_cons, Nat.pow_succ, Nat.zero_mul, Nat.zero_add, Nat.add_mul, Nat.mul_assoc, Nat.mul_comm 10, Nat.add_assoc]
theorem vA_snoc (l : List UInt8) (c : UInt8) : ∀ a, vA a (l ++ [c]) = vA a l * 10 + (c.toNat - 48) := by
  induction l with
  | nil => intro a; rw [List.nil_append, vA_cons, vA_nil, vA_nil]
  | cons d r ih => intro a; rw [List.cons_append, vA_cons, vA_cons, ih]
theorem vA_lt : ∀ (l : List UInt8), (∀ c ∈ l, digB c = true) → vA 0 l < 10 ^ l.length
  | [], _ => by simp [vA_nil]
  | c :: r, h => by
    have h1 := vA_lt r (fun x hx => h x (List.mem_cons_of_mem _ hx))
    have h2 := h c (List.mem_cons_self ..)
    simp only [digB, Bool.and_eq_true, decide_eq_true_eq] at h2
    rw [vA_cons, vA_eq, List.length_cons, Nat.pow_succ]
    have h3 : (0 * 10 + (c.toNat - 48)) * 10 ^ r.length ≤ 9 * 10 ^ r.length := Nat.mul_le_mul_right _ (by omega)
    omega
theorem vA_pos {c : UInt8} {r : List UInt8} (hc : digB c = true) (h : c.toNat ≠ 48) : 10 ^ r.length ≤ vA 0 (c :: r) := by
  simp only [digB, Bool.and_eq_true, decide_eq_true_eq] at hc
  rw [vA_cons, vA_eq]
  have : 1 * 10 ^ r.length ≤ (0 * 10 + (c.toNat - 48)) * 10 ^ r.length := Nat.mul_le_mul_right _ (by omega)
  omega
theorem parse_dig : ∀ (l : List UInt8) (a : Nat), (∀ c ∈ l, digB c = true) → a ≤ 18446744073709551615 → Lib.parseUintM 18446744073709551615 a l = if vA a l ≤ 18446744073709551615 then .ok (vA a l) else .range
  | [], a, _, ha => by rw [Lib.parseUintM, vA_nil, if_pos ha]
  | c :: r, a, h, ha => by
    have h2 := h c (List.mem_cons_self ..)
    simp only [digB, Bool.and_eq_true, decide_eq_true_eq] at h2
    have hg := vA_ge r (a * 10 + (c.toNat - 48))
    rw [Lib.parseUintM, if_pos h2, vA_cons]
    by_cases h3 : 1844674407370955162 ≤ a
    · rw [if_pos h3, if_neg (by omega)]
    · rw [if_neg h3]
      by_cases h4 : 18446744073709551615 < a * 10 + (c.toNat - 48)
      · rw [if_pos h4, if_neg (by omega)]
      · rw [if_neg h4]
        exact parse_dig r _ (fun x hx => h x (List.mem_cons_of_mem _ hx)) (by omega)
theorem parseInt_dig (l : List UInt8) (h0 : l ≠ []) (h : ∀ c ∈ l, digB c = true) : Lib.parseIntB 64 l = if vA 0 l < 9223372036854775808 then .ok (vA 0 l : Int) else .range := by
  cases l with
  | nil => exact absurd rfl h0
  | cons c r =>
    have h2 := h c (List.mem_cons_self ..)
    simp only [digB, Bool.and_eq_true, decide_eq_true_eq] at h2
    have h3 := parse_dig (c :: r) 0 h (by omega)
    unfold Lib.parseIntB
    simp only []
    rw [if_neg (show ¬ (c.toNat = 43 ∨ c.toNat = 45) by omega)]
    unfold Lib.parseUintB
    rw [if_neg (by simp), show (2 ^ 64 - 1 : Nat) = 18446744073709551615 from rfl, h3]
    generalize vA 0 (c :: r) = u
    have hn : ¬ c.toNat = 45 := by omega
    by_cases h4 : u < 9223372036854775808
    · rw [if_pos (by omega), if_pos h4]
      simp only [hn, not_false_eq_true, true_and, false_and, if_false]
      rw [if_neg (by omega)]
    · rw [if_neg h4]
      by_cases h5 : u ≤ 18446744073709551615
      · rw [if_pos h5]
        simp only [hn, not_false_eq_true, true_and]
        rw [if_pos (by omega)]
      · rw [if_neg h5]
theorem nDig_le : ∀ (k u : Nat), 1 ≤ k → u < 10 ^ k → Lib.nDigits u ≤ k
  | 0, _, h, _ => by omega
  | 1, u, _, h => by rw [Lib.nDigits_small (by simpa using h)]; exact Nat.le_refl _
  | k + 2, u, _, h => by
    by_cases h1 : u < 10
    · rw [Lib.nDigits_small h1]; omega
    · rw [Lib.nDigits_big h1]
      have := nDig_le (k + 1) (u / 10) (by omega) (by rw [Nat.pow_succ] at h; omega)
      omega
theorem dig_back (c : UInt8) (h : digB c = true) : UInt8.ofNat (48 + (c.toNat - 48)) = c := by
  simp only [digB, Bool.and_eq_true, decide_eq_true_eq] at h
  rw [show 48 + (c.toNat - 48) = c.toNat by omega]
  exact UInt8.ofNat_toNat
theorem dec_digits (n : Nat) : ∀ (l : List UInt8), l.length = n → l ≠ [] → (∀ c ∈ l, digB c = true) → (l.length = 1 ∨ ((l.head?).getD 0).toNat ≠ 48) → Lib.decDigits (vA 0 l) = l := by
  induction n with
  | zero => intro l hl h0; exact absurd (List.eq_nil_of_length_eq_zero hl) h0
  | succ n ih =>
    intro l hl h0 h hz
    obtain ⟨m, c, rfl⟩ : ∃ m c, l = m ++ [c] := ⟨l.dropLast, l.getLast h0, (List.dropLast_concat_getLast h0).symm⟩
    have hc := h c (by simp)
    have hm : ∀ x ∈ m, digB x = true := fun x hx => h x (by simp [hx])
    have hcd := hc
    simp only [digB, Bool.and_eq_true, decide_eq_true_eq] at hcd
    rw [vA_snoc]
    cases m with
    | nil =>
      rw [vA_nil, Lib.decDigits, dif_pos (by omega), Nat.zero_mul, Nat.zero_add, dig_back c hc]
      rfl
    | cons d r =>
      have hd := hm d (List.mem_cons_self ..)
      have hz2 : d.toNat ≠ 48 := by
        rcases hz with hz | hz
        · simp at hz
        · simpa using hz
      have hp := vA_pos (r := r) hd hz2
      have h1 : 1 ≤ 10 ^ r.length := Nat.one_le_pow _ _ (by decide)
      rw [Lib.decDigits, dif_neg (by omega), show (vA 0 (d :: r) * 10 + (c.toNat - 48)) / 10 = vA 0 (d :: r) by omega, show (vA 0 (d :: r) * 10 + (c.toNat - 48)) % 10 = c.toNat - 48 by omega, dig_back c hc,
        ih (d :: r) (by simpa using hl) (by simp) hm (.inr (by simpa using hz2))]
theorem less_num : ∀ (l m : List UInt8), l.length = m.length → (∀ c ∈ l, digB c = true) → (∀ c ∈ m, digB c = true) → (Op.bytesLess l m = true ↔ vA 0 l < vA 0 m) ∧ (l = m ↔ vA 0 l = vA 0 m)
  | [], [], _, _, _ => ⟨by simp [Op.bytesLess], by simp⟩
  | [], _ :: _, h, _, _ => by simp at h
  | _ :: _, [], h, _, _ => by simp at h
  | c :: l, d :: m, h, h1, h2 => by
    have hlen : l.length = m.length := by simpa using h
    obtain ⟨i1, i2⟩ := less_num l m hlen (fun x hx => h1 x (List.mem_cons_of_mem _ hx)) (fun x hx => h2 x (List.mem_cons_of_mem _ hx))
    have hc := h1 c (List.mem_cons_self ..)
    have hd := h2 d (List.mem_cons_self ..)
    simp only [digB, Bool.and_eq_true, decide_eq_true_eq] at hc hd
    have b1 := vA_lt l (fun x hx => h1 x (List.mem_cons_of_mem _ hx))
    have b2 := vA_lt m (fun x hx => h2 x (List.mem_cons_of_mem _ hx))
    rw [vA_cons, vA_cons, vA_eq l, vA_eq m, ← hlen, Nat.zero_mul, Nat.zero_add, Nat.zero_add]
    rw [← hlen] at b2
    obtain ⟨x, hx⟩ : ∃ x, x = c.toNat - 48 := ⟨_, rfl⟩
    obtain ⟨y, hy⟩ : ∃ y, y = d.toNat - 48 := ⟨_, rfl⟩
    rw [← hx, ← hy]
    generalize 10 ^ l.length = T at b1 b2 ⊢
    have key : ∀ p q : Nat, p < q → p * T + T ≤ q * T := fun p q hpq => by
      have := Nat.mul_le_mul_right T (show p + 1 ≤ q by omega)
      rw [Nat.add_mul, Nat.one_mul] at this
      exact this
    have e1 : (c < d) ↔ x < y := by rw [UInt8.lt_iff_toNat_lt]; omega
    have e2 : (c = d) ↔ x = y := by rw [← UInt8.toNat_inj]; omega
    have hb : (Op.bytesLess (c :: l) (d :: m) = true) ↔ (x < y ∨ (x = y ∧ vA 0 l < vA 0 m)) := by
      rw [Op.bytesLess, Bool.or_eq_true, Bool.and_eq_true, beq_iff_eq, decide_eq_true_eq, e1, e2, i1]
    have he : (c :: l = d :: m) ↔ (x = y ∧ vA 0 l = vA 0 m) := by rw [List.cons.injEq, e2, i2]
    rw [hb, he]
    rcases Nat.lt_trichotomy x y with hxy | hxy | hxy
    · have := key x y hxy
      constructor <;> constructor <;> intro h <;> first | omega | (exact absurd h (by omega))
    · subst hxy
      constructor <;> constructor <;> intro h <;> omega
    · have := key y x hxy
      constructor <;> constructor <;> intro h <;> omega
theorem most_val : vA 0 mostL = 9223372036854775807 := by decide +kernel
theorem numJ_eq (l : List UInt8) (h0 : l ≠ []) (h : ∀ c ∈ l, digB c = true) : numJ l = numS ⟨l.toArray⟩ := by
  have hsz : (⟨l.toArray⟩ : ByteArray).size = l.length := by simp [ByteArray.size]
  have htl : (⟨l.toArray⟩ : ByteArray).toList = l := by rw [ByteArray.toList_eq]
  have hpos : 0 < l.length := List.length_pos_iff.2 h0
  unfold numJ numS
  rw [parseInt_dig l h0 h, hsz, htl]
  simp only
  by_cases hz : l.length = 1 ∨ ((l.head?).getD 0).toNat ≠ 48
  · have hb : (decide (l.length = 1) || !decide (((l.head?).getD 0).toNat = 48)) = true := by
      rcases hz with hz | hz
      · rw [decide_eq_true hz]; rfl
      · rw [decide_eq_false hz]; simp
    rw [hb, Bool.true_and]
    have hd := dec_digits _ l rfl h0 h hz
    have hlt := vA_lt l h
    by_cases hv : vA 0 l < 9223372036854775808
    · rw [if_pos hv]
      simp only [Lib.itoa]
      rw [if_neg (by omega), Int.toNat_natCast, hd]
      symm
      simp only [beq_self_eq_true, Bool.or_eq_true, Bool.and_eq_true, decide_eq_true_eq, beq_iff_eq]
      by_cases h19 : l.length < 19
      · exact .inl h19
      · by_cases he : l.length = 19
        · obtain ⟨i1, i2⟩ := less_num l mostL (by rw [he]; rfl) h (by decide +kernel)
          rw [most_val] at i1 i2
          refine .inr ⟨he, ?_⟩
          rw [i1, i2]; omega
        · exfalso
          cases l with
          | nil => exact h0 rfl
          | cons c r =>
            have hr : 19 ≤ r.length := by simp at h19 he; omega
            have hc : c.toNat ≠ 48 := by
              rcases hz with hz | hz
              · simp at hz; subst hz; simp at hr
              · simpa using hz
            have := vA_pos (r := r) (h c (List.mem_cons_self ..)) hc
            have h10 : 10 ^ 19 ≤ 10 ^ r.length := Nat.pow_le_pow_right (by decide) hr
            omega
    · rw [if_neg hv]
      symm
      simp only [Bool.or_eq_false_iff, Bool.and_eq_false_iff, decide_eq_false_iff_not, beq_eq_false_iff_ne]
      have h18 : ¬ l.length < 19 := fun hl => by
        have h10 : 10 ^ l.length ≤ 10 ^ 18 := Nat.pow_le_pow_right (by decide) (by omega)
        omega
      refine ⟨h18, ?_⟩
      by_cases he : l.length = 19
      · obtain ⟨i1, i2⟩ := less_num l mostL (by rw [he]; rfl) h (by decide +kernel)
        rw [most_val] at i1 i2
        refine .inr ⟨?_, ?_⟩
        · rw [← Bool.not_eq_true, i1]; omega
        · rw [Ne, i2]; omega
      · exact .inl he
  · have hb : (decide (l.length = 1) || !decide (((l.head?).getD 0).toNat = 48)) = false := by
      have h1 : ¬ l.length = 1 := fun e => hz (.inl e)
      have h2 : ((l.head?).getD 0).toNat = 48 := Classical.byContradiction fun e => hz (.inr e)
      rw [decide_eq_false h1, decide_eq_true h2]; rfl
    rw [hb, Bool.false_and]
    by_cases hv : vA 0 l < 9223372036854775808
    · rw [if_pos hv]
      simp only [Lib.itoa]
      rw [if_neg (by omega), Int.toNat_natCast, beq_eq_false_iff_ne]
      intro e
      have hlen : (Lib.decDigits (vA 0 l)).length = l.length := by rw [e]
      rw [Lib.decDigits_length] at hlen
      cases l with
      | nil => exact h0 rfl
      | cons c r =>
        have h2 : c.toNat = 48 := Classical.byContradiction fun e => hz (.inr (by simpa using e))
        have hr : r ≠ [] := fun e => hz (.inl (by rw [e]; rfl))
        have hv2 : vA 0 (c :: r) = vA 0 r := by rw [vA_cons, h2]
        rw [hv2] at hlen
        have := nDig_le r.length (vA 0 r) (List.length_pos_iff.2 hr) (vA_lt r (fun x hx => h x (List.mem_cons_of_mem _ hx)))
        simp at hlen
        omega
    · rw [if_neg hv]
end Go.Proofs.YtijahadmaggncaaDoor
