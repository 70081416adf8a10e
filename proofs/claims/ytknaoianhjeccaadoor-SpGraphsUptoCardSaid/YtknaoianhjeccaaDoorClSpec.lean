/- Pairs out of rows: plain lists. -/
import Derived.Test.YtknaoianhjeccaaDoorGrSpec3
import Derived.Test.YtknaoianhjeccaaDoorSetSpec
namespace Go.Proofs.YtknaoianhjeccaaDoor
set_option linter.unusedVariables false
/-- the pairs of the first i rows -/
def edgU (R : Nat → List Nat) (i : Nat) : List (Nat × Nat) := (List.range i).flatMap fun a => (R a).map fun m => (a, m)
theorem edgU_succ (R : Nat → List Nat) (i : Nat) : edgU R (i + 1) = edgU R i ++ (R i).map fun m => (i, m) := by
  unfold edgU
  rw [List.range_succ, List.flatMap_append]
  simp
theorem edgU_zero (R : Nat → List Nat) : edgU R 0 = [] := rfl
theorem edgU_len (R : Nat → List Nat) (n : Nat) (h : ∀ a, (R a).length ≤ n) (i : Nat) : (edgU R i).length ≤ i * n := by
  induction i with
  | zero => simp [edgU]
  | succ i ih =>
    rw [edgU_succ, List.length_append, List.length_map, Nat.succ_mul]
    have := h i
    omega
theorem edgU_congr {R Q : Nat → List Nat} {n : Nat} (h : ∀ a, a < n → R a = Q a) : edgU R n = edgU Q n := by
  induction n with
  | zero => rfl
  | succ n ih => rw [edgU_succ, edgU_succ, ih (fun a ha => h a (by omega)), h n (by omega)]
theorem edgU_mem {R : Nat → List Nat} {i a b : Nat} (h : (a, b) ∈ edgU R i) : a < i ∧ b ∈ R a := by
  unfold edgU at h
  obtain ⟨x, hx, hm⟩ := List.mem_flatMap.1 h
  obtain ⟨m, hm2, e⟩ := List.mem_map.1 hm
  injection e with e1 e2
  subst e1 e2
  exact ⟨List.mem_range.1 hx, hm2⟩
/-- row i: those of the first n for which P holds -/
def rowP (n : Nat) (P : Nat → Nat → Bool) (i : Nat) : List Nat := (List.range n).filter (P i)
theorem rowP_len (n : Nat) (P : Nat → Nat → Bool) (i : Nat) : (rowP n P i).length ≤ n := by
  have := List.length_filter_le (P i) (List.range n)
  rwa [List.length_range] at this
theorem rowP_mem {n : Nat} {P : Nat → Nat → Bool} {i m : Nat} (h : m ∈ rowP n P i) : m < n ∧ P i m = true := by
  obtain ⟨h1, h2⟩ := List.mem_filter.1 h
  exact ⟨List.mem_range.1 h1, h2⟩
/-- what no other way stands for -/
def coreP (c : Bool) (n : Nat) (W : Nat → Nat → Bool) (i j : Nat) : Bool := W i j && (List.range n).all fun k => !(c && (W i k && W k j))
/-- .. the first q ways looked at -/
def coreQ (c : Bool) (W : Nat → Nat → Bool) (i j q : Nat) : Bool := W i j && (List.range q).all fun k => !(c && (W i k && W k j))
theorem coreQ_zero (c : Bool) (W : Nat → Nat → Bool) (i j : Nat) : coreQ c W i j 0 = W i j := by simp [coreQ]
theorem coreQ_succ (c : Bool) (W : Nat → Nat → Bool) (i j q : Nat) : coreQ c W i j (q + 1) = (coreQ c W i j q && !(c && (W i q && W q j))) := by
  unfold coreQ
  rw [List.range_succ, List.all_append, Bool.and_assoc]
  simp
theorem coreP_no (n : Nat) (W : Nat → Nat → Bool) (i j : Nat) : coreP false n W i j = W i j := by simp [coreP]
theorem coreP_out {c : Bool} {n : Nat} {W : Nat → Nat → Bool} {i j : Nat} (h : W i j = false) : coreP c n W i j = false := by simp [coreP, h]
/-- less, one by one -/
def lessW (W : Nat → Nat → Bool) (i : Nat) (l : List Nat) (j : Nat) : Bool := W i j && l.all fun k => !W k j
theorem lessW_nil (W : Nat → Nat → Bool) (i j : Nat) : lessW W i [] j = W i j := by simp [lessW]
theorem lessW_snoc (W : Nat → Nat → Bool) (i : Nat) (l : List Nat) (k j : Nat) : lessW W i (l ++ [k]) j = (lessW W i l j && !W k j) := by
  unfold lessW
  rw [List.all_append, Bool.and_assoc]
  simp
theorem lessW_all (n : Nat) (W : Nat → Nat → Bool) (i j : Nat) : lessW W i (rowP n W i) j = coreP true n W i j := by
  unfold lessW coreP rowP
  congr 1
  rw [Bool.eq_iff_iff, List.all_eq_true, List.all_eq_true]
  constructor
  · intro h k hk
    cases e : W i k with
    | false => simp
    | true => have := h k (List.mem_filter.2 ⟨hk, e⟩); simpa using this
  · intro h k hk
    obtain ⟨h1, h2⟩ := List.mem_filter.1 hk
    have := h k h1
    rw [h2] at this
    simpa using this
end Go.Proofs.YtknaoianhjeccaaDoor
