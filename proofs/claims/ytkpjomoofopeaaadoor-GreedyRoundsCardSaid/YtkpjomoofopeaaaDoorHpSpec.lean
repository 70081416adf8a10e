/- A heap of numbers in a row, as plain lists: sifting up and down. -/
import Derived.Test.YtkpjomoofopeaaaDoorBase
namespace Go.Proofs.YtkpjomoofopeaaaDoor
set_option linter.unusedVariables false
def atZ (l : List Int) (i : Nat) : Int := (l[i]?).getD 0
theorem atZ_lt {l : List Int} {i : Nat} (h : i < l.length) : atZ l i = l[i] := by unfold atZ; rw [List.getElem?_eq_getElem h]; rfl
def swZ (l : List Int) (i j : Nat) : List Int := (l.set i (atZ l j)).set j (atZ l i)
theorem swZ_len (l : List Int) (i j : Nat) : (swZ l i j).length = l.length := by simp [swZ]
theorem swZ_at {l : List Int} {i j : Nat} (hi : i < l.length) (hj : j < l.length) (k : Nat) : atZ (swZ l i j) k = if k = j then atZ l i else if k = i then atZ l j else atZ l k := by
  unfold swZ
  conv => lhs; unfold atZ
  rw [List.getElem?_set, List.length_set]
  by_cases h1 : j = k
  · subst h1; rw [if_pos rfl, if_pos hj, if_pos rfl]; rfl
  · rw [if_neg h1, if_neg (fun e => h1 e.symm), List.getElem?_set]
    by_cases h2 : i = k
    · subst h2; rw [if_pos rfl, if_pos hi, if_pos rfl]; rfl
    · rw [if_neg h2, if_neg (fun e => h2 e.symm)]; rfl
theorem set_count (x y : Int) : ∀ (l : List Int) (i : Nat) (h : i < l.length), (l.set i y).count x + (if l[i] = x then 1 else 0) = l.count x + (if y = x then 1 else 0)
  | a :: r, 0, _ => by
    simp only [List.set_cons_zero, List.getElem_cons_zero, List.count_cons, beq_iff_eq]
    omega
  | a :: r, i + 1, h => by
    have ih := set_count x y r i (by simpa using h)
    simp only [List.set_cons_succ, List.getElem_cons_succ, List.count_cons, beq_iff_eq]
    omega
theorem swZ_perm {l : List Int} {i j : Nat} (hi : i < l.length) (hj : j < l.length) : (swZ l i j).Perm l := by
  rw [List.perm_iff_count]
  intro x
  have h1 := set_count x (atZ l j) l i hi
  have h2 := set_count x (atZ l i) (l.set i (atZ l j)) j (by rw [List.length_set]; exact hj)
  have e1 : (l.set i (atZ l j))[j]'(by rw [List.length_set]; exact hj) = atZ l j := by
    rw [List.getElem_set]
    split
    · rfl
    · exact (atZ_lt hj).symm
  rw [e1] at h2
  rw [← atZ_lt hi] at h1
  unfold swZ
  omega
def isHp (l : List Int) : Prop := ∀ j, 0 < j → j < l.length → atZ l ((j - 1) / 2) ≤ atZ l j
/-- in order, but at i upward -/
def upOK (l : List Int) (i : Nat) : Prop := (∀ j, 0 < j → j < l.length → j ≠ i → atZ l ((j - 1) / 2) ≤ atZ l j) ∧ (0 < i → ∀ j, 0 < j → j < l.length → (j - 1) / 2 = i → atZ l ((i - 1) / 2) ≤ atZ l j)
theorem up_start {l : List Int} (h : isHp l) (x : Int) : upOK (l ++ [x]) l.length := by
  have ha : ∀ k, k < l.length → atZ (l ++ [x]) k = atZ l k := fun k hk => by unfold atZ; rw [List.getElem?_append_left hk]
  refine ⟨fun j h0 hj hne => ?_, fun h0 j hj0 hj hp => ?_⟩
  · have hj2 : j < l.length := by simp at hj; omega
    rw [ha j hj2, ha _ (by omega)]
    exact h j h0 hj2
  · simp at hj; omega
theorem up_done {l : List Int} {i : Nat} (h : upOK l i) (hi : i = 0 ∨ atZ l ((i - 1) / 2) ≤ atZ l i) : isHp l := fun j h0 hj => by
  by_cases e : j = i
  · subst e
    rcases hi with h1 | h1
    · omega
    · exact h1
  · exact h.1 j h0 hj e
theorem up_step {l : List Int} {i : Nat} (h : upOK l i) (h0 : 0 < i) (hi : i < l.length) (hlt : atZ l i < atZ l ((i - 1) / 2)) : upOK (swZ l ((i - 1) / 2) i) ((i - 1) / 2) := by
  obtain ⟨p, hp⟩ : ∃ p, p = (i - 1) / 2 := ⟨_, rfl⟩
  rw [← hp] at hlt ⊢
  have hpi : p < i := by omega
  have hpl : p < l.length := by omega
  have hg := fun k => swZ_at hpl hi k
  obtain ⟨h1, h2⟩ := h
  have h2 := h2 h0
  rw [← hp] at h2
  have len := swZ_len l p i
  refine ⟨fun j hj0 hj hne => ?_, fun hp0 j hj0 hj hpj => ?_⟩
  · rw [len] at hj
    rw [hg, hg j]
    by_cases e : j = i
    · subst e
      rw [← hp, if_neg (by omega), if_pos rfl, if_pos rfl]
      omega
    · rw [if_neg e, if_neg hne]
      by_cases e1 : (j - 1) / 2 = i
      · rw [if_pos e1]
        exact h2 j hj0 hj e1
      · rw [if_neg e1]
        by_cases e2 : (j - 1) / 2 = p
        · rw [if_pos e2]
          have := h1 j hj0 hj e
          rw [e2] at this
          omega
        · rw [if_neg e2]
          exact h1 j hj0 hj e
  · rw [len] at hj
    have hpp : atZ l ((p - 1) / 2) ≤ atZ l p := h1 p hp0 hpl (by omega)
    rw [hg, hg j, if_neg (by omega), if_neg (by omega)]
    by_cases e : j = i
    · rw [if_pos e]; exact hpp
    · rw [if_neg e, if_neg (by omega)]
      have := h1 j hj0 hj e
      rw [hpj] at this
      omega
/-- in order, but at i downward -/
def dnOK (l : List Int) (i : Nat) : Prop := (∀ j, 0 < j → j < l.length → (j - 1) / 2 ≠ i → atZ l ((j - 1) / 2) ≤ atZ l j) ∧ (0 < i → ∀ j, 0 < j → j < l.length → (j - 1) / 2 = i → atZ l ((i - 1) / 2) ≤ atZ l j)
theorem dn_start {l : List Int} (h : isHp l) (x : Int) {n : Nat} (hn : n ≤ l.length) : dnOK ((l.set 0 x).take n) 0 := by
  have ha : ∀ k, 0 < k → k < n → atZ ((l.set 0 x).take n) k = atZ l k := fun k h0 hk => by
    unfold atZ
    rw [List.getElem?_take_of_lt hk, List.getElem?_set, if_neg (by omega)]
  refine ⟨fun j h0 hj hne => ?_, fun h0 => by omega⟩
  have hj2 : j < n := by simp at hj; omega
  rw [ha j h0 hj2, ha _ (by omega) (by omega)]
  exact h j h0 (by omega)
theorem dn_done {l : List Int} {i : Nat} (h : dnOK l i) (hc : ∀ k, k = 2 * i + 1 ∨ k = 2 * i + 2 → k < l.length → atZ l i ≤ atZ l k) : isHp l := fun j h0 hj => by
  by_cases e : (j - 1) / 2 = i
  · rw [e]; exact hc j (by omega) hj
  · exact h.1 j h0 hj e
theorem dn_step {l : List Int} {i c : Nat} (h : dnOK l i) (hc : c = 2 * i + 1 ∨ c = 2 * i + 2) (hcl : c < l.length) (hlt : atZ l c < atZ l i) (hle : ∀ k, k = 2 * i + 1 ∨ k = 2 * i + 2 → k < l.length → atZ l c ≤ atZ l k) : dnOK (swZ l i c) c := by
  have hil : i < l.length := by omega
  have hpc : (c - 1) / 2 = i := by omega
  have hg := fun k => swZ_at hil hcl k
  have len := swZ_len l i c
  obtain ⟨h1, h2⟩ := h
  refine ⟨fun j hj0 hj hne => ?_, fun hc0 j hj0 hj hpj => ?_⟩
  · rw [len] at hj
    rw [hg, hg j, if_neg hne]
    by_cases e : (j - 1) / 2 = i
    · rw [if_pos e]
      by_cases e2 : j = c
      · rw [if_pos e2]; omega
      · rw [if_neg e2, if_neg (by omega)]
        exact hle j (by omega) hj
    · rw [if_neg e, if_neg (by omega)]
      by_cases e3 : j = i
      · subst e3
        rw [if_pos rfl]
        exact h2 hj0 c (by omega) hcl hpc
      · rw [if_neg e3]
        exact h1 j hj0 hj e
  · rw [len] at hj
    rw [hg, hg j, hpc, if_neg (by omega), if_pos rfl, if_neg (by omega), if_neg (by omega)]
    have := h1 j hj0 hj (by omega)
    rw [hpj] at this
    exact this
theorem hp_least {l : List Int} (h : isHp l) : ∀ (i : Nat), i < l.length → atZ l 0 ≤ atZ l i := by
  intro i
  induction i using Nat.strongRecOn with
  | ind i ih =>
    intro hi
    rcases Nat.eq_zero_or_pos i with h0 | h0
    · subst h0; omega
    · have h1 := ih ((i - 1) / 2) (by omega) (by omega)
      have h2 := h i h0 hi
      omega
/-- a heap of the numbers S, which rise -/
def HpOf (l S : List Int) : Prop := isHp l ∧ l.Perm S
theorem hp_head {l S : List Int} {s : Int} (h : HpOf l (s :: S)) (hs : (s :: S).Pairwise (· < ·)) : 0 < l.length ∧ atZ l 0 = s := by
  have hl : 0 < l.length := by rw [h.2.length_eq]; simp
  refine ⟨hl, ?_⟩
  have hm : atZ l 0 ∈ s :: S := h.2.mem_iff.1 (by rw [atZ_lt hl]; exact List.getElem_mem hl)
  obtain ⟨i, hi, he⟩ := List.mem_iff_getElem.1 (h.2.mem_iff.2 (List.mem_cons_self (a := s) (l := S)))
  have h1 := hp_least h.1 i hi
  rw [atZ_lt hi, he] at h1
  rcases List.mem_cons.1 hm with h2 | h2
  · exact h2
  · have := (List.pairwise_cons.1 hs).1 _ h2
    omega
/-- the last goes to the front -/
theorem hp_cut2 {l : List Int} {n : Nat} (hn : l.length = n + 1) : (atZ l 0 :: (l.set 0 (atZ l n)).take n).Perm l := by
  have hl : 0 < l.length := by omega
  rw [List.perm_iff_count]
  intro x
  have h1 := set_count x (atZ l n) l 0 hl
  rw [← atZ_lt hl] at h1
  have h2 : (l.set 0 (atZ l n)) = (l.set 0 (atZ l n)).take n ++ [atZ l n] := by
    have h3 := List.take_succ_eq_append_getElem (l := l.set 0 (atZ l n)) (i := n) (by rw [List.length_set]; omega)
    rw [List.take_of_length_le (by rw [List.length_set]; omega)] at h3
    have h4 : (l.set 0 (atZ l n))[n]'(by rw [List.length_set]; omega) = atZ l n := by
      rw [List.getElem_set]
      split
      · rfl
      · exact (atZ_lt (by omega)).symm
    rw [h4] at h3
    exact h3
  rw [h2, List.count_append] at h1
  simp only [List.count_cons, List.count_singleton, List.count_nil, beq_iff_eq] at h1 ⊢
  omega
/-- the same, of a heap -/
theorem hp_cut {l S : List Int} {s : Int} (h : HpOf l (s :: S)) (hs : (s :: S).Pairwise (· < ·)) {n : Nat} (hn : l.length = n + 1) : ((l.set 0 (atZ l n)).take n).Perm S := by
  obtain ⟨hl, h0⟩ := hp_head h hs
  have hp : (((l.set 0 (atZ l n)).take n) ++ [s]).Perm (s :: S) := by
    refine List.Perm.trans ?_ h.2
    rw [List.perm_iff_count]
    intro x
    have h1 := set_count x (atZ l n) l 0 hl
    rw [← atZ_lt hl, h0] at h1
    have hlen : (l.set 0 (atZ l n)).length = n + 1 := by rw [List.length_set, hn]
    have h2 : (l.set 0 (atZ l n)) = (l.set 0 (atZ l n)).take n ++ [atZ l n] := by
      have h3 := List.take_succ_eq_append_getElem (l := l.set 0 (atZ l n)) (i := n) (by omega)
      rw [List.take_of_length_le (by omega)] at h3
      have h4 : (l.set 0 (atZ l n))[n]'(by omega) = atZ l n := by
        rw [List.getElem_set]
        split
        · rfl
        · exact (atZ_lt (by omega)).symm
      rw [h4] at h3
      exact h3
    rw [h2, List.count_append] at h1
    rw [List.count_append]
    simp only [List.count_singleton, beq_iff_eq] at h1 ⊢
    omega
  have hq : (s :: ((l.set 0 (atZ l n)).take n)).Perm (s :: S) := (List.perm_append_comm (l₁ := [s])).trans hp
  exact hq.cons_inv
end Go.Proofs.YtkpjomoofopeaaaDoor
