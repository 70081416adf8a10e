/- The pairs of accesses that race, and their cells, plainly. -/
import Derived.Test.YthcafocpifjopaaDoorHbSpec
namespace Go.Proofs.YthcafocpifjopaaDoor
set_option linter.unusedVariables false
/-- both accesses to one cell, one of them a write, by known activities -/
def raceP (a b : HEv) : Bool := decide (a.kind = 1) && decide (b.kind = 1) && decide (a.cell = b.cell) && (a.write || b.write) && kn a.act && kn b.act
def raceH (l : List HEv) (j i : Nat) : Bool := raceP (evAt l i) (evAt l j) && !hr l j i
def rowR (l : List HEv) (j n : Nat) : List (Int × Int) := ((List.range n).filter (raceH l j)).map fun (i : Nat) => ((i : Int), (j : Int))
def racesH (l : List HEv) (n : Nat) : List (Int × Int) := (List.range n).flatMap fun j => rowR l j j
theorem rowR_succ (l : List HEv) (j n : Nat) : rowR l j (n + 1) = rowR l j n ++ (if raceH l j n = true then [((n : Int), (j : Int))] else []) := by
  unfold rowR
  rw [List.range_succ, List.filter_append, List.map_append]
  cases h : raceH l j n <;> simp [h]
theorem rowR_yes {l : List HEv} {j n : Nat} (h : raceH l j n = true) : rowR l j (n + 1) = rowR l j n ++ [((n : Int), (j : Int))] := by rw [rowR_succ, if_pos h]
theorem rowR_no {l : List HEv} {j n : Nat} (h : raceH l j n = false) : rowR l j (n + 1) = rowR l j n := by rw [rowR_succ, h]; simp
theorem racesH_succ (l : List HEv) (n : Nat) : racesH l (n + 1) = racesH l n ++ rowR l n n := by unfold racesH; simp [List.range_succ]
theorem rowR_len (l : List HEv) (j n : Nat) : (rowR l j n).length ≤ n := by
  unfold rowR
  rw [List.length_map]
  exact Nat.le_trans (List.length_filter_le _ _) (by simp)
theorem racesH_len (l : List HEv) (n : Nat) : (racesH l n).length ≤ n * n := by
  induction n with
  | zero => simp [racesH]
  | succ n ih =>
    rw [racesH_succ, List.length_append]
    have := rowR_len l n n
    have e : (n + 1) * (n + 1) = n * n + n + (n + 1) := by rw [Nat.add_mul, Nat.mul_add]; omega
    omega
theorem racesH_mem {l : List HEv} {n : Nat} {x : Int × Int} (h : x ∈ racesH l n) : ∃ i j : Nat, x = ((i : Int), (j : Int)) ∧ i < j ∧ j < n ∧ raceH l j i = true := by
  unfold racesH rowR at h
  rw [List.mem_flatMap] at h
  obtain ⟨j, hj, h⟩ := h
  rw [List.mem_map] at h
  obtain ⟨i, hi, rfl⟩ := h
  rw [List.mem_filter] at hi
  exact ⟨i, j, rfl, List.mem_range.1 hi.1, List.mem_range.1 hj, hi.2⟩
/-- the cells of all of them, in their order -/
def cellsH (l : List HEv) (ps : List (Int × Int)) : List Int := ps.map fun p => (evAt l p.1.toNat).cell
/-- each once, as they come first -/
def firsts (xs : List Int) : List Int := xs.foldl (fun out c => if out.contains c then out else out ++ [c]) []
theorem firsts_snoc (xs : List Int) (c : Int) : firsts (xs ++ [c]) = if (firsts xs).contains c then firsts xs else firsts xs ++ [c] := by
  unfold firsts; rw [List.foldl_append]; rfl
theorem firsts_mem (xs : List Int) (x : Int) : x ∈ firsts xs ↔ x ∈ xs := by
  have key : ∀ (ys out : List Int), x ∈ ys.foldl (fun out c => if out.contains c then out else out ++ [c]) out ↔ x ∈ out ∨ x ∈ ys := by
    intro ys
    induction ys with
    | nil => intro out; simp
    | cons y r ih =>
      intro out
      rw [List.foldl_cons, ih]
      by_cases h : out.contains y = true
      · rw [if_pos h]
        have hy : y ∈ out := List.contains_iff_mem.1 h
        constructor
        · rintro (h1 | h1)
          · exact .inl h1
          · exact .inr (List.mem_cons_of_mem _ h1)
        · rintro (h1 | h1)
          · exact .inl h1
          · rcases List.mem_cons.1 h1 with rfl | h2
            · exact .inl hy
            · exact .inr h2
      · rw [if_neg h]; simp [or_assoc]
  have := key xs []
  simpa [firsts] using this
theorem firsts_nodup (xs : List Int) : (firsts xs).Nodup := by
  have key : ∀ (ys out : List Int), out.Nodup → (ys.foldl (fun out c => if out.contains c then out else out ++ [c]) out).Nodup := by
    intro ys
    induction ys with
    | nil => intro out h; exact h
    | cons y r ih =>
      intro out h
      rw [List.foldl_cons]
      apply ih
      by_cases hc : out.contains y = true
      · rw [if_pos hc]; exact h
      · rw [if_neg hc, List.nodup_append]
        have hy : y ∉ out := fun h => hc (List.contains_iff_mem.2 h)
        exact ⟨h, by simp, fun a ha b hb e => by simp at hb; subst hb; subst e; exact hy ha⟩
  exact key xs [] List.nodup_nil
end Go.Proofs.YthcafocpifjopaaDoor
