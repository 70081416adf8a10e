/- Texts merged: HrSpec, SrtSpec. -/
import Derived.Test.YtfldajplclahfaaHbSpec
import Derived.Lib.SlicesCompact
/- The pairs of accesses that race, and their cells, plainly. -/
namespace Go.Proofs.Ytfldajplclahfaa
set_option linter.unusedVariables false
/-- both accesses to one cell, one of them a write, by known activities -/
def raceP (a b : HEv) : Bool := decide (a.kind = 1) && decide (b.kind = 1) && decide (a.cell = b.cell) && (a.write || b.write) && kn a.act && kn b.act
def raceH (l : List HEv) (j i : Nat) : Bool := raceP (evAt l i) (evAt l j) && !hr l j i
def rowR (l : List HEv) (j n : Nat) : List (Int × Int) := ((List.range n).filter (raceH l j)).map fun (i : Nat) => ((i : Int), (j : Int))
def racesH (l : List HEv) (n : Nat) : List (Int × Int) := (List.range n).flatMap fun j => rowR l j j
theorem rowR_succ (l : List HEv) (j n : Nat) : rowR l j (n + 1) = rowR l j n ++ (if raceH l j n = true then [((n : Int), (j : Int))] else []) := by
  unfold rowR
  rw [List.range_succ, List.filter_append, List.map_append]
  cases h : raceH l j n <;> simp [h]
theorem rowR_yes {l : List HEv} {j n : Nat} (h : raceH l j n = true) : rowR l j (n + 1) = rowR l j n ++ [((n : Int), (j : Int))] := by rw [rowR_succ, if_pos h]
theorem rowR_no {l : List HEv} {j n : Nat} (h : raceH l j n = false) : rowR l j (n + 1) = rowR l j n := by rw [rowR_succ, h]; simp
theorem racesH_succ (l : List HEv) (n : Nat) : racesH l (n + 1) = racesH l n ++ rowR l n n := by unfold racesH; simp [List.range_succ]
theorem rowR_len (l : List HEv) (j n : Nat) : (rowR l j n).length ≤ n := by
  unfold rowR
  rw [List.length_map]
  exact Nat.le_trans (List.length_filter_le _ _) (by simp)
theorem racesH_len (l : List HEv) (n : Nat) : (racesH l n).length ≤ n * n := by
  induction n with
  | zero => simp [racesH]
  | succ n ih =>
    rw [racesH_succ, List.length_append]
    have := rowR_len l n n
    have e : (n + 1) * (n + 1) = n * n + n + (n + 1) := by rw [Nat.add_mul, Nat.mul_add]; omega
    omega
theorem racesH_mem {l : List HEv} {n : Nat} {x : Int × Int} (h : x ∈ racesH l n) : ∃ i j : Nat, x = ((i : Int), (j : Int)) ∧ i < j ∧ j < n ∧ raceH l j i = true := by
  unfold racesH rowR at h
  rw [List.mem_flatMap] at h
  obtain ⟨j, hj, h⟩ := h
  rw [List.mem_map] at h
  obtain ⟨i, hi, rfl⟩ := h
  rw [List.mem_filter] at hi
  exact ⟨i, j, rfl, List.mem_range.1 hi.1, List.mem_range.1 hj, hi.2⟩
/-- the cells of all of them, in their order -/
def cellsH (l : List HEv) (ps : List (Int × Int)) : List Int := ps.map fun p => (evAt l p.1.toNat).cell
/-- each once, as they come first -/
def firsts (xs : List Int) : List Int := xs.foldl (fun out c => if out.contains c then out else out ++ [c]) []
theorem firsts_snoc (xs : List Int) (c : Int) : firsts (xs ++ [c]) = if (firsts xs).contains c then firsts xs else firsts xs ++ [c] := by
  unfold firsts; rw [List.foldl_append]; rfl
theorem firsts_mem (xs : List Int) (x : Int) : x ∈ firsts xs ↔ x ∈ xs := by
  have key : ∀ (ys out : List Int), x ∈ ys.foldl (fun out c => if out.contains c then out else out ++ [c]) out ↔ x ∈ out ∨ x ∈ ys := by
    intro ys
    induction ys with
    | nil => intro out; simp
    | cons y r ih =>
      intro out
      rw [List.foldl_cons, ih]
      by_cases h : out.contains y = true
      · rw [if_pos h]
        have hy : y ∈ out := List.contains_iff_mem.1 h
        constructor
        · rintro (h1 | h1)
          · exact .inl h1
          · exact .inr (List.mem_cons_of_mem _ h1)
        · rintro (h1 | h1)
          · exact .inl h1
          · rcases List.mem_cons.1 h1 with rfl | h2
            · exact .inl hy
            · exact .inr h2
      · rw [if_neg h]; simp [or_assoc]
  have := key xs []
  simpa [firsts] using this
theorem firsts_nodup (xs : List Int) : (firsts xs).Nodup := by
  have key : ∀ (ys out : List Int), out.Nodup → (ys.foldl (fun out c => if out.contains c then out else out ++ [c]) out).Nodup := by
    intro ys
    induction ys with
    | nil => intro out h; exact h
    | cons y r ih =>
      intro out h
      rw [List.foldl_cons]
      apply ih
      by_cases hc : out.contains y = true
      · rw [if_pos hc]; exact h
      · rw [if_neg hc, List.nodup_append]
        have hy : y ∉ out := fun h => hc (List.contains_iff_mem.2 h)
        exact ⟨h, by simp, fun a ha b hb e => by simp at hb; subst hb; subst e; exact hy ha⟩
  exact key xs [] List.nodup_nil
end Go.Proofs.Ytfldajplclahfaa
/- Numbers that were sorted, and of which runs were struck: one list alone is rising and has these numbers. -/
namespace Go.Proofs.Ytfldajplclahfaa
set_option linter.unusedVariables false
def sortZ (l : List Int) : List Int := l.mergeSort fun x y => decide (x ≤ y)
theorem ssort_ext : ∀ (a b : List Int), a.Pairwise (· < ·) → b.Pairwise (· < ·) → (∀ x, x ∈ a ↔ x ∈ b) → a = b
  | [], [], _, _, _ => rfl
  | [], y :: b, _, _, h => absurd ((h y).2 (by simp)) (by simp)
  | x :: a, [], _, _, h => absurd ((h x).1 (by simp)) (by simp)
  | x :: a, y :: b, ha, hb, h => by
    rw [List.pairwise_cons] at ha hb
    have e : x = y := by
      have h1 := (h x).1 (by simp)
      have h2 := (h y).2 (by simp)
      rcases List.mem_cons.1 h1 with e | h1
      · exact e
      · rcases List.mem_cons.1 h2 with e | h2
        · exact e.symm
        · have := ha.1 y h2; have := hb.1 x h1; omega
    subst e
    rw [ssort_ext a b ha.2 hb.2]
    intro z
    constructor
    · intro hz
      have := ha.1 z hz
      rcases List.mem_cons.1 ((h z).1 (List.mem_cons_of_mem _ hz)) with e | h
      · omega
      · exact h
    · intro hz
      have := hb.1 z hz
      rcases List.mem_cons.1 ((h z).2 (List.mem_cons_of_mem _ hz)) with e | h
      · omega
      · exact h
theorem sortZ_mem (l : List Int) (x : Int) : x ∈ sortZ l ↔ x ∈ l := (List.mergeSort_perm l _).mem_iff
theorem sortZ_len (l : List Int) : (sortZ l).length = l.length := (List.mergeSort_perm l _).length_eq
theorem sortZ_le (l : List Int) : (sortZ l).Pairwise (· ≤ ·) := by
  have h := List.pairwise_mergeSort (le := fun x y : Int => decide (x ≤ y)) (by intro a b c h1 h2; simp at *; omega) (by intro a b; simp; omega) l
  exact h.imp (fun h => by simpa using h)
theorem sortZ_lt {l : List Int} (h : l.Nodup) : (sortZ l).Pairwise (· < ·) := by
  have h1 := sortZ_le l
  have h2 : (sortZ l).Nodup := (List.mergeSort_perm l _).nodup_iff.2 h
  exact (h1.and h2).imp (fun h => by omega)
theorem upto_lt (d : Array Int) (hs : ∀ i j, i < j → j < d.size → d[i]! ≤ d[j]!) : ∀ m, m ≤ d.size → (Lib.compactUpTo d m).Pairwise (· < ·) ∧ (∀ x, x ∈ Lib.compactUpTo d m ↔ ∃ j, j < m ∧ d[j]! = x) ∧ ∀ x ∈ Lib.compactUpTo d m, x ≤ d[m - 1]! := by
  intro m
  induction m with
  | zero => intro _; simp [Lib.compactUpTo]
  | succ m ih =>
    intro hm
    obtain ⟨h1, h2, h3⟩ := ih (by omega)
    rw [Lib.compactUpTo_succ]
    rcases Nat.eq_zero_or_pos m with h0 | h0
    · subst h0
      have hk : Lib.keeps d 0 = true := by simp [Lib.keeps]
      rw [if_pos hk]
      have e : Lib.compactUpTo d 0 = [] := by simp [Lib.compactUpTo]
      rw [e]
      refine ⟨by simp, fun x => ?_, by simp⟩
      simp only [List.nil_append, List.mem_singleton]
      constructor
      · intro h; exact ⟨0, by omega, h.symm⟩
      · rintro ⟨j, hj, h⟩
        have : j = 0 := by omega
        subst this; exact h.symm
    · have hle := hs (m - 1) m (by omega) (by omega)
      by_cases hk : Lib.keeps d m = true
      · rw [if_pos hk]
        have hne : d[m]! ≠ d[m - 1]! := by
          intro e
          unfold Lib.keeps at hk
          simp at hk
          omega
        refine ⟨?_, fun x => ?_, fun x hx => ?_⟩
        · rw [List.pairwise_append]
          refine ⟨h1, by simp, fun a ha b hb => ?_⟩
          have := h3 a ha
          simp at hb; subst hb; omega
        · rw [List.mem_append, h2]
          constructor
          · rintro (⟨j, hj, h⟩ | h)
            · exact ⟨j, by omega, h⟩
            · exact ⟨m, by omega, (List.mem_singleton.1 h).symm⟩
          · rintro ⟨j, hj, h⟩
            rcases Nat.lt_or_ge j m with hjm | hjm
            · exact .inl ⟨j, hjm, h⟩
            · have : j = m := by omega
              subst this; exact .inr (by simp [h])
        · rw [Nat.add_sub_cancel]
          rcases List.mem_append.1 hx with hx | hx
          · have := h3 x hx; omega
          · simp at hx; omega
      · rw [if_neg hk, List.append_nil]
        have he : d[m]! = d[m - 1]! := by
          unfold Lib.keeps at hk
          simp at hk
          first | exact hk.2 | exact hk.2.symm | omega
        refine ⟨h1, fun x => ?_, fun x hx => ?_⟩
        · rw [h2]
          constructor
          · rintro ⟨j, hj, h⟩; exact ⟨j, by omega, h⟩
          · rintro ⟨j, hj, h⟩
            rcases Nat.lt_or_ge j m with hjm | hjm
            · exact ⟨j, hjm, h⟩
            · have : j = m := by omega
              subst this
              exact ⟨j - 1, by omega, by rw [← he]; exact h⟩
        · rw [Nat.add_sub_cancel]
          have := h3 x hx; omega
theorem compact_sort (l : List Int) : Lib.compact (sortZ l) = sortZ (firsts l) := by
  have hs : ∀ i j, i < j → j < (sortZ l).toArray.size → (sortZ l).toArray[i]! ≤ (sortZ l).toArray[j]! := by
    intro i j hij hj
    have hj' : j < (sortZ l).length := by simpa using hj
    have h := List.pairwise_iff_getElem.1 (sortZ_le l) i j (by omega) hj' hij
    rw [getElem!_pos _ i (by simp; omega), getElem!_pos _ j (by simpa using hj')]
    simpa using h
  obtain ⟨h1, h2, _⟩ := upto_lt (sortZ l).toArray hs (sortZ l).length (by simp)
  refine ssort_ext _ _ h1 (sortZ_lt (firsts_nodup l)) (fun x => ?_)
  show x ∈ Lib.compactUpTo _ _ ↔ _
  rw [h2, sortZ_mem, firsts_mem, ← sortZ_mem l]
  constructor
  · rintro ⟨j, hj, rfl⟩
    rw [getElem!_pos _ j (by simpa using hj)]
    simp
  · intro hx
    obtain ⟨j, hj, rfl⟩ := List.getElem_of_mem hx
    exact ⟨j, hj, by rw [getElem!_pos _ j (by simpa using hj)]; simp⟩
end Go.Proofs.Ytfldajplclahfaa
