/- A longest way, as plain lists: from its end on, each time the least that may come. -/
import Derived.Test.YthbbecmffndgdabDoorOlSpec
namespace Go.Proofs.YthbbecmffndgdabDoor
set_option linter.unusedVariables false
section
/-- does the edge lead to x from just one level below? -/
def upE (N : Nat) (es : List (Nat × Nat)) (x : Nat) (e : Nat × Nat) : Bool := decide (e.2 = x) && decide (levE N es e.1 + 1 = levE N es x)
/-- the least node of such an edge among the first q -/
def frE (N : Nat) (es : List (Nat × Nat)) (x : Nat) : Nat → Nat
  | 0 => N
  | q + 1 => match es[q]? with
    | none => frE N es x q
    | some e => if upE N es x e then min (frE N es x q) e.1 else frE N es x q
theorem frE_succ {N : Nat} {es : List (Nat × Nat)} {x q : Nat} (h : q < es.length) : frE N es x (q + 1) = if upE N es x es[q] then min (frE N es x q) es[q].1 else frE N es x q := by
  conv => lhs; unfold frE
  rw [List.getElem?_eq_getElem h]
theorem frE_le {N : Nat} {es : List (Nat × Nat)} {x : Nat} : ∀ q, frE N es x q ≤ N
  | 0 => Nat.le_refl _
  | q + 1 => by
    have ih := frE_le (N := N) (es := es) (x := x) q
    by_cases h : q < es.length
    · rw [frE_succ h]; split <;> omega
    · unfold frE; rw [List.getElem?_eq_none (by omega)]; exact ih
theorem frE_low {N : Nat} {es : List (Nat × Nat)} {x : Nat} : ∀ {q i : Nat} (h : i < es.length), i < q → upE N es x es[i] = true → frE N es x q ≤ es[i].1
  | q + 1, i, h, hi, hu => by
    by_cases hq : q < es.length
    · rw [frE_succ hq]
      by_cases e : i = q
      · subst e; rw [if_pos hu]; omega
      · have ih := frE_low (q := q) h (by omega) hu
        split <;> omega
    · unfold frE
      rw [List.getElem?_eq_none (by omega)]
      exact frE_low h (by omega) hu
theorem frE_at {N : Nat} {es : List (Nat × Nat)} {x : Nat} : ∀ {q : Nat}, q ≤ es.length → frE N es x q < N → ∃ i, ∃ h : i < es.length, i < q ∧ upE N es x es[i] = true ∧ es[i].1 = frE N es x q
  | 0, _, h => by unfold frE at h; omega
  | q + 1, hq, h => by
    have hl : q < es.length := by omega
    rw [frE_succ hl] at h ⊢
    by_cases hu : upE N es x es[q] = true
    · rw [if_pos hu] at h ⊢
      by_cases hm : frE N es x q ≤ es[q].1
      · rw [Nat.min_eq_left hm] at h ⊢
        obtain ⟨i, hi, h1, h2⟩ := frE_at (q := q) (by omega) h
        exact ⟨i, hi, by omega, h2⟩
      · rw [Nat.min_eq_right (by omega)] at h ⊢
        exact ⟨q, hl, by omega, hu, rfl⟩
    · rw [if_neg hu] at h ⊢
      obtain ⟨i, hi, h1, h2⟩ := frE_at (q := q) (by omega) h
      exact ⟨i, hi, by omega, h2⟩
def preC (N : Nat) (es : List (Nat × Nat)) (x : Nat) : Nat := frE N es x es.length
variable {N : Nat} {es : List (Nat × Nat)}
/-- may a come just ahead of x? -/
def isPre (N : Nat) (es : List (Nat × Nat)) (x a : Nat) : Prop := (a, x) ∈ es ∧ levE N es a + 1 = levE N es x
theorem preC_le {x a : Nat} (h : isPre N es x a) : preC N es x ≤ a := by
  obtain ⟨i, hi, he⟩ := List.mem_iff_getElem.1 h.1
  have := frE_low (N := N) (x := x) (q := es.length) hi hi (by rw [he]; unfold upE; simp [h.2])
  rw [he] at this
  exact this
theorem preC_is (hl : (takeG N es).length = N) (hv : ∀ a b, (a, b) ∈ es → a < N ∧ b < N) {x : Nat} (hx : x < N) (h0 : 0 < levE N es x) : isPre N es x (preC N es x) ∧ preC N es x < N := by
  have hex : ∃ a, isPre N es x a := by
    apply Classical.byContradiction
    intro hn
    have hle : levE N es x ≤ levE N es x - 1 := by
      conv => lhs; rw [levE_eq hl hv hx]
      refine topE_le fun a ha _ => ?_
      have h1 := levE_edge hl hv ha
      have : levE N es a + 1 ≠ levE N es x := fun e => hn ⟨a, ha, e⟩
      omega
    omega
  obtain ⟨a, ha⟩ := hex
  have hlt : preC N es x < N := Nat.lt_of_le_of_lt (preC_le ha) (hv a x ha.1).1
  obtain ⟨i, hi, _, h2, h3⟩ := frE_at (Nat.le_refl es.length) hlt
  refine ⟨?_, hlt⟩
  unfold upE at h2
  rw [Bool.and_eq_true, decide_eq_true_eq, decide_eq_true_eq] at h2
  have h4 : es[i].1 = preC N es x := h3
  have he : (preC N es x, x) = es[i] := Prod.ext h4.symm h2.1.symm
  refine ⟨by rw [he]; exact List.getElem_mem hi, ?_⟩
  rw [← h4]
  exact h2.2
/-- the first of the highest level -/
def topC (N : Nat) (es : List (Nat × Nat)) : Nat := ((List.range N).find? fun m => decide (levE N es m + 1 = hgtE N es N)).getD 0
theorem topC_is (h0 : 0 < N) : topC N es < N ∧ levE N es (topC N es) + 1 = hgtE N es N ∧ ∀ m, m < topC N es → levE N es m + 1 ≠ hgtE N es N := by
  obtain ⟨m, hm, he⟩ := hgt_at (N := N) (es := es) (k := N) h0
  unfold topC
  cases hf : (List.range N).find? fun m => decide (levE N es m + 1 = hgtE N es N) with
  | none =>
    have := List.find?_eq_none.1 hf m (List.mem_range.2 hm)
    simp at this
    exact absurd he this
  | some t =>
    rw [Option.getD_some]
    obtain ⟨h1, h2⟩ := List.find?_eq_some_iff_append.1 hf
    have ht : t ∈ List.range N := List.mem_of_find?_eq_some hf
    refine ⟨List.mem_range.1 ht, by simpa using h1, fun m hm => ?_⟩
    have := (List.find?_range_eq_some.1 hf).2.2 m hm
    simpa using this
theorem topC_uniq (h0 : 0 < N) {t : Nat} (h1 : levE N es t + 1 = hgtE N es N) (h2 : ∀ m, m < t → levE N es m + 1 ≠ hgtE N es N) : t = topC N es := by
  obtain ⟨a, b, c⟩ := topC_is (N := N) (es := es) h0
  rcases Nat.lt_trichotomy t (topC N es) with h | h | h
  · exact absurd h1 (c t h)
  · exact h
  · exact absurd b (h2 _ h)
def chC (N : Nat) (es : List (Nat × Nat)) : Nat → Nat
  | 0 => topC N es
  | k + 1 => preC N es (chC N es k)
theorem chC_is (hl : (takeG N es).length = N) (hv : ∀ a b, (a, b) ∈ es → a < N ∧ b < N) (h0 : 0 < N) : ∀ {k : Nat}, k < hgtE N es N → chC N es k < N ∧ levE N es (chC N es k) + 1 + k = hgtE N es N
  | 0, _ => ⟨(topC_is h0).1, (topC_is h0).2.1⟩
  | k + 1, h => by
    obtain ⟨h1, h2⟩ := chC_is hl hv h0 (k := k) (by omega)
    obtain ⟨h3, h4⟩ := preC_is hl hv h1 (by omega)
    refine ⟨h4, ?_⟩
    have := h3.2
    show levE N es (preC N es (chC N es k)) + 1 + (k + 1) = _
    omega
/-- the way, from its end on, k nodes of it -/
def chL (N : Nat) (es : List (Nat × Nat)) (k : Nat) : List Nat := (List.range k).map (chC N es)
theorem chL_len (k : Nat) : (chL N es k).length = k := by simp [chL]
theorem chL_succ (k : Nat) : chL N es (k + 1) = chL N es k ++ [chC N es k] := by simp [chL, List.range_succ]
/-- what Chain answers -/
def chainE (N : Nat) (es : List (Nat × Nat)) : List Nat := (chL N es (hgtE N es N)).reverse
end
end Go.Proofs.YthbbecmffndgdabDoor
