/- Numbers that were sorted, and of which runs were struck: one list alone is rising and has these numbers. -/
import Derived.Test.YthcafocpifjopaaDoorHrSpec
import Derived.Lib.SlicesCompact
namespace Go.Proofs.YthcafocpifjopaaDoor
set_option linter.unusedVariables false
def sortZ (l : List Int) : List Int := l.mergeSort fun x y => decide (x ≤ y)
theorem ssort_ext : ∀ (a b : List Int), a.Pairwise (· < ·) → b.Pairwise (· < ·) → (∀ x, x ∈ a ↔ x ∈ b) → a = b
  | [], [], _, _, _ => rfl
  | [], y :: b, _, _, h => absurd ((h y).2 (by simp)) (by simp)
  | x :: a, [], _, _, h => absurd ((h x).1 (by simp)) (by simp)
  | x :: a, y :: b, ha, hb, h => by
    rw [List.pairwise_cons] at ha hb
    have e : x = y := by
      have h1 := (h x).1 (by simp)
      have h2 := (h y).2 (by simp)
      rcases List.mem_cons.1 h1 with e | h1
      · exact e
      · rcases List.mem_cons.1 h2 with e | h2
        · exact e.symm
        · have := ha.1 y h2; have := hb.1 x h1; omega
    subst e
    rw [ssort_ext a b ha.2 hb.2]
    intro z
    constructor
    · intro hz
      have := ha.1 z hz
      rcases List.mem_cons.1 ((h z).1 (List.mem_cons_of_mem _ hz)) with e | h
      · omega
      · exact h
    · intro hz
      have := hb.1 z hz
      rcases List.mem_cons.1 ((h z).2 (List.mem_cons_of_mem _ hz)) with e | h
      · omega
      · exact h
theorem sortZ_mem (l : List Int) (x : Int) : x ∈ sortZ l ↔ x ∈ l := (List.mergeSort_perm l _).mem_iff
theorem sortZ_len (l : List Int) : (sortZ l).length = l.length := (List.mergeSort_perm l _).length_eq
theorem sortZ_le (l : List Int) : (sortZ l).Pairwise (· ≤ ·) := by
  have h := List.pairwise_mergeSort (le := fun x y : Int => decide (x ≤ y)) (by intro a b c h1 h2; simp at *; omega) (by intro a b; simp; omega) l
  exact h.imp (fun h => by simpa using h)
theorem sortZ_lt {l : List Int} (h : l.Nodup) : (sortZ l).Pairwise (· < ·) := by
  have h1 := sortZ_le l
  have h2 : (sortZ l).Nodup := (List.mergeSort_perm l _).nodup_iff.2 h
  exact (h1.and h2).imp (fun h => by omega)
theorem upto_lt (d : Array Int) (hs : ∀ i j, i < j → j < d.size → d[i]! ≤ d[j]!) : ∀ m, m ≤ d.size → (Lib.compactUpTo d m).Pairwise (· < ·) ∧ (∀ x, x ∈ Lib.compactUpTo d m ↔ ∃ j, j < m ∧ d[j]! = x) ∧ ∀ x ∈ Lib.compactUpTo d m, x ≤ d[m - 1]! := by
  intro m
  induction m with
  | zero => intro _; simp [Lib.compactUpTo]
  | succ m ih =>
    intro hm
    obtain ⟨h1, h2, h3⟩ := ih (by omega)
    rw [Lib.compactUpTo_succ]
    rcases Nat.eq_zero_or_pos m with h0 | h0
    · subst h0
      have hk : Lib.keeps d 0 = true := by simp [Lib.keeps]
      rw [if_pos hk]
      have e : Lib.compactUpTo d 0 = [] := by simp [Lib.compactUpTo]
      rw [e]
      refine ⟨by simp, fun x => ?_, by simp⟩
      simp only [List.nil_append, List.mem_singleton]
      constructor
      · intro h; exact ⟨0, by omega, h.symm⟩
      · rintro ⟨j, hj, h⟩
        have : j = 0 := by omega
        subst this; exact h.symm
    · have hle := hs (m - 1) m (by omega) (by omega)
      by_cases hk : Lib.keeps d m = true
      · rw [if_pos hk]
        have hne : d[m]! ≠ d[m - 1]! := by
          intro e
          unfold Lib.keeps at hk
          simp at hk
          omega
        refine ⟨?_, fun x => ?_, fun x hx => ?_⟩
        · rw [List.pairwise_append]
          refine ⟨h1, by simp, fun a ha b hb => ?_⟩
          have := h3 a ha
          simp at hb; subst hb; omega
        · rw [List.mem_append, h2]
          constructor
          · rintro (⟨j, hj, h⟩ | h)
            · exact ⟨j, by omega, h⟩
            · exact ⟨m, by omega, (List.mem_singleton.1 h).symm⟩
          · rintro ⟨j, hj, h⟩
            rcases Nat.lt_or_ge j m with hjm | hjm
            · exact .inl ⟨j, hjm, h⟩
            · have : j = m := by omega
              subst this; exact .inr (by simp [h])
        · rw [Nat.add_sub_cancel]
          rcases List.mem_append.1 hx with hx | hx
          · have := h3 x hx; omega
          · simp at hx; omega
      · rw [if_neg hk, List.append_nil]
        have he : d[m]! = d[m - 1]! := by
          unfold Lib.keeps at hk
          simp at hk
          first | exact hk.2 | exact hk.2.symm | omega
        refine ⟨h1, fun x => ?_, fun x hx => ?_⟩
        · rw [h2]
          constructor
          · rintro ⟨j, hj, h⟩; exact ⟨j, by omega, h⟩
          · rintro ⟨j, hj, h⟩
            rcases Nat.lt_or_ge j m with hjm | hjm
            · exact ⟨j, hjm, h⟩
            · have : j = m := by omega
              subst this
              exact ⟨j - 1, by omega, by rw [← he]; exact h⟩
        · rw [Nat.add_sub_cancel]
          have := h3 x hx; omega
theorem compact_sort (l : List Int) : Lib.compact (sortZ l) = sortZ (firsts l) := by
  have hs : ∀ i j, i < j → j < (sortZ l).toArray.size → (sortZ l).toArray[i]! ≤ (sortZ l).toArray[j]! := by
    intro i j hij hj
    have hj' : j < (sortZ l).length := by simpa using hj
    have h := List.pairwise_iff_getElem.1 (sortZ_le l) i j (by omega) hj' hij
    rw [getElem!_pos _ i (by simp; omega), getElem!_pos _ j (by simpa using hj')]
    simpa using h
  obtain ⟨h1, h2, _⟩ := upto_lt (sortZ l).toArray hs (sortZ l).length (by simp)
  refine ssort_ext _ _ h1 (sortZ_lt (firsts_nodup l)) (fun x => ?_)
  show x ∈ Lib.compactUpTo _ _ ↔ _
  rw [h2, sortZ_mem, firsts_mem, ← sortZ_mem l]
  constructor
  · rintro ⟨j, hj, rfl⟩
    rw [getElem!_pos _ j (by simpa using hj)]
    simp
  · intro hx
    obtain ⟨j, hj, rfl⟩ := List.getElem_of_mem hx
    exact ⟨j, hj, by rw [getElem!_pos _ j (by simpa using hj)]; simp⟩
end Go.Proofs.YthcafocpifjopaaDoor
