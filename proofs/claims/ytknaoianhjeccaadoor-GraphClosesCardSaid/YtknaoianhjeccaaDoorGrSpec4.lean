/- What is behind a node: by its first edge; in which order a graph is gone through backward. -/
import Derived.Test.YtknaoianhjeccaaDoorGrSpec3
namespace Go.Proofs.YtknaoianhjeccaaDoor
set_option linter.unusedVariables false
theorem wsh_up {E : Nat → Nat → Bool} {i j : Nat} : ∀ {k n : Nat}, k ≤ n → wsh E k i j = true → wsh E n i j = true := by
  intro k n
  induction n with
  | zero => intro h e; rw [Nat.le_zero.1 h] at e; exact e
  | succ n ih =>
    intro h e
    rcases Nat.lt_or_ge k (n + 1) with h1 | h1
    · exact wsh_mono (ih (by omega) e)
    · rw [Nat.le_antisymm h h1] at e; exact e
theorem wsh_first {E : Nat → Nat → Bool} (N : Nat) : ∀ (k : Nat) {i j : Nat}, k ≤ N → wsh E k i j = true → E i j = true ∨ ∃ m, E i m = true ∧ wsh E N m j = true := by
  intro k
  induction k with
  | zero => intro i j _ h; exact .inl h
  | succ k ih =>
    intro i j hk h
    have e : wsh E (k + 1) i j = (wsh E k i j || (wsh E k i k && wsh E k k j)) := rfl
    rw [e, Bool.or_eq_true, Bool.and_eq_true] at h
    rcases h with h | ⟨h1, h2⟩
    · exact ih (by omega) h
    · rcases ih (by omega) h1 with h3 | ⟨m, h3, h4⟩
      · exact .inr ⟨k, h3, wsh_up (by omega) h2⟩
      · exact .inr ⟨m, h3, wsh_trans N (by omega) h4 (wsh_up (by omega) h2)⟩
theorem waysE_first {N : Nat} {es : List (Nat × Nat)} (hv : ∀ a b, (a, b) ∈ es → a < N ∧ b < N) (i j : Nat) : waysE N es i j = (nxE es i).any fun m => decide (j = m) || waysE N es m j := by
  unfold waysE
  rw [Bool.eq_iff_iff, List.any_eq_true]
  constructor
  · intro h
    rcases wsh_first N N (Nat.le_refl _) h with h1 | ⟨m, h1, h2⟩
    · exact ⟨j, nxE_mem.2 (edB_iff.1 h1), by simp⟩
    · exact ⟨m, nxE_mem.2 (edB_iff.1 h1), by simp [h2]⟩
  · rintro ⟨m, hm, h⟩
    have he := nxE_mem.1 hm
    simp only [Bool.or_eq_true, decide_eq_true_eq] at h
    rcases h with h | h
    · subst h; exact wsh_edge (edB_iff.2 he) N
    · exact wsh_trans N (hv _ _ he).2 (wsh_edge (edB_iff.2 he) N) h
/-- what the first k edges of n lead to -/
def behE (N : Nat) (es : List (Nat × Nat)) (n k j : Nat) : Bool := ((nxE es n).take k).any fun m => decide (j = m) || waysE N es m j
theorem behE_zero (N : Nat) (es : List (Nat × Nat)) (n j : Nat) : behE N es n 0 j = false := by simp [behE]
theorem behE_succ {N : Nat} {es : List (Nat × Nat)} {n k : Nat} (h : k < (nxE es n).length) (j : Nat) : behE N es n (k + 1) j = (behE N es n k j || decide (j = (nxE es n)[k]) || waysE N es (nxE es n)[k] j) := by
  unfold behE
  rw [List.take_succ_eq_append_getElem h, List.any_append, Bool.or_assoc]
  simp
theorem behE_all {N : Nat} {es : List (Nat × Nat)} (hv : ∀ a b, (a, b) ∈ es → a < N ∧ b < N) (n j : Nat) : behE N es n (nxE es n).length j = waysE N es n j := by
  unfold behE
  rw [List.take_length, ← waysE_first hv]
theorem round_full {N : Nat} {es : List (Nat × Nat)} (hv : ∀ a b, (a, b) ∈ es → a < N ∧ b < N) (h : roundE N es = false) : (takeG N es).length = N := by
  rw [← round_eq hv, decide_eq_false_iff_not] at h
  have := (takeG_end N es).1.len
  omega
theorem wrongE_zero {N : Int} {ps : List (Int × Int)} (h : wrongE N ps = 0) : 0 ≤ N ∧ N ≤ 200 ∧ ps.any (badP N) = false ∧ roundE N.toNat (natsP ps) = false := by
  unfold wrongE at h
  cases hx : rangeW N ps with
  | true => rw [hx] at h; simp at h
  | false =>
    rw [hx] at h
    unfold rangeW at hx
    simp only [Bool.or_eq_false_iff, decide_eq_false_iff_not] at hx
    refine ⟨by omega, by omega, hx.2, ?_⟩
    cases hr : roundE N.toNat (natsP ps)
    · rfl
    · rw [hr] at h; simp at h
theorem idxOf_at {l : List Nat} (hn : l.Nodup) {i : Nat} (h : i < l.length) : l.idxOf l[i] = i := by
  have hj := List.idxOf_lt_length_of_mem (List.getElem_mem h)
  have e := List.getElem_idxOf hj
  rcases Nat.lt_trichotomy (l.idxOf l[i]) i with h1 | h1 | h1
  · exact absurd e (List.pairwise_iff_getElem.1 hn _ _ hj h h1)
  · exact h1
  · exact absurd e.symm (List.pairwise_iff_getElem.1 hn _ _ h hj h1)
/-- the order from the last to the first -/
def backG (N : Nat) (es : List (Nat × Nat)) : List Nat := (takeG N es).reverse
theorem backG_len {N : Nat} {es : List (Nat × Nat)} (hl : (takeG N es).length = N) : (backG N es).length = N := by unfold backG; rw [List.length_reverse, hl]
theorem backG_lt {N : Nat} {es : List (Nat × Nat)} {q : Nat} (h : q < (backG N es).length) : (backG N es)[q] < N := by
  have hm : (backG N es)[q] ∈ backG N es := List.getElem_mem h
  unfold backG at hm
  exact (takeG_end N es).1.lt _ (List.mem_reverse.1 hm)
theorem backG_mem {N : Nat} {es : List (Nat × Nat)} (hl : (takeG N es).length = N) {i : Nat} (hi : i < N) : i ∈ (backG N es).take N := by
  rw [List.take_of_length_le (by rw [backG_len hl]; omega)]
  unfold backG
  exact List.mem_reverse.2 ((takeG_end N es).1.full hl hi)
/-- what is behind a node has come before it -/
theorem backG_next {N : Nat} {es : List (Nat × Nat)} (hv : ∀ a b, (a, b) ∈ es → a < N ∧ b < N) (hl : (takeG N es).length = N) {q m : Nat} (h : q < (backG N es).length) (he : ((backG N es)[q], m) ∈ es) : m ∈ (backG N es).take q := by
  have hg := (takeG_end N es).1
  obtain ⟨o, ho⟩ : ∃ o, o = takeG N es := ⟨_, rfl⟩
  have hq : q < o.length := by unfold backG at h; rw [List.length_reverse, ← ho] at h; exact h
  have hb : (backG N es)[q] = o[o.length - 1 - q] := by unfold backG; simp [← ho, List.getElem_reverse]
  rw [hb] at he
  rw [← ho] at hg hl
  have hm : m ∈ o := by rw [ho]; exact (takeG_end N es).1.full (by rw [← ho]; exact hl) (hv _ _ he).2
  have hr := hg.rank hm he
  have hnd := hg.nd
  have hi : o.idxOf o[o.length - 1 - q] = o.length - 1 - q := idxOf_at hnd (by omega)
  rw [hi] at hr
  have hj := List.idxOf_lt_length_of_mem hm
  rw [List.mem_take_iff_getElem]
  refine ⟨o.length - 1 - o.idxOf m, by rw [backG_len (by rw [← ho]; exact hl)]; omega, ?_⟩
  unfold backG
  simp only [List.getElem_reverse, ← ho]
  have : o.length - 1 - (o.length - 1 - o.idxOf m) = o.idxOf m := by omega
  simp only [this]
  exact List.getElem_idxOf hj
end Go.Proofs.YtknaoianhjeccaaDoor
