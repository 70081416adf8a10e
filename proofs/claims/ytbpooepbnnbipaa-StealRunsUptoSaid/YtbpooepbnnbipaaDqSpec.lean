/- Queues with two ends, plainly: a list; a ring that holds it. -/
import Derived.Test.YtbpooepbnnbipaaBlk
namespace Go.Proofs.Ytbpooepbnnbipaa
set_option linter.unusedVariables false
structure DOp where
  k : Int
  n : Int
deriving Inhabited
def dAns (l : List Int) (o : DOp) : List Int × (Int × Int) :=
  if o.k = 1 then (l ++ [o.n], (0, 0))
  else if o.k = 2 then (match l.getLast? with | none => (l, (7, 0)) | some x => (l.dropLast, (0, x)))
  else if o.k = 3 then (match l with | [] => ([], (7, 0)) | x :: r => (r, (0, x)))
  else (l, (9, 0))
def dRun (ops : List DOp) : List Int × List (Int × Int) :=
  ops.foldl (fun x o => ((dAns x.1 o).1, x.2 ++ [(dAns x.1 o).2])) ([], [])
theorem dRun_snoc (ops : List DOp) (o : DOp) : dRun (ops ++ [o]) = ((dAns (dRun ops).1 o).1, (dRun ops).2 ++ [(dAns (dRun ops).1 o).2]) := by
  simp [dRun, List.foldl_append]
theorem dRun_len (ops : List DOp) : (dRun ops).2.length = ops.length := by
  suffices ∀ x : List Int × List (Int × Int), (ops.foldl (fun x o => ((dAns x.1 o).1, x.2 ++ [(dAns x.1 o).2])) x).2.length = x.2.length + ops.length by
    simpa [dRun] using this ([], [])
  induction ops with
  | nil => intro x; simp
  | cons o r ih => intro x; rw [List.foldl_cons, ih]; simp; omega
theorem dAns_le (l : List Int) (o : DOp) : (dAns l o).1.length ≤ l.length + 1 := by
  unfold dAns
  split
  · simp
  · split
    · split
      · simp
      · simp; omega
    · split
      · split <;> simp; omega
      · simp
theorem dRun_le (ops : List DOp) : (dRun ops).1.length ≤ ops.length := by
  suffices ∀ x : List Int × List (Int × Int), (ops.foldl (fun x o => ((dAns x.1 o).1, x.2 ++ [(dAns x.1 o).2])) x).1.length ≤ x.1.length + ops.length by
    simpa [dRun] using this ([], [])
  induction ops with
  | nil => intro x; simp
  | cons o r ih =>
    intro x
    rw [List.foldl_cons]
    have := ih ((dAns x.1 o).1, x.2 ++ [(dAns x.1 o).2])
    have := dAns_le x.1 o
    simp only [List.length_cons] at *
    omega
def okDq (l : List Int) : Prop := ∀ x ∈ l, -9223372036854775808 ≤ x ∧ x ≤ 9223372036854775807
theorem dAns_ok {l : List Int} {o : DOp} (h : okDq l) (ho : inI o.n) : okDq (dAns l o).1 ∧ inI (dAns l o).2.1 ∧ inI (dAns l o).2.2 := by
  have h0 : inI 0 := by decide
  have h7 : inI 7 := by decide
  have h9 : inI 9 := by decide
  unfold dAns
  split
  · refine ⟨fun x hx => ?_, h0, h0⟩
    rcases List.mem_append.1 hx with hx | hx
    · exact h x hx
    · simp at hx; subst hx; exact ho
  · split
    · split
      · exact ⟨h, h7, h0⟩
      · rename_i x hx
        refine ⟨fun y hy => h y ((List.dropLast_sublist l).subset hy), h0, h x (List.mem_of_getLast? hx)⟩
    · split
      · split
        · exact ⟨h, h7, h0⟩
        · rename_i x r
          exact ⟨fun y hy => h y (by simp [hy]), h0, h x (by simp)⟩
      · exact ⟨h, h9, h0⟩

/-- the row r of m, from top on and round, holds the list -/
structure Ring (r : List Int) (m top : Nat) (l : List Int) : Prop where
  len : r.length = m
  le : l.length ≤ m
  top_lt : 0 < m → top < m
  get : ∀ (i : Nat) x, l[i]? = some x → r[(top + i) % m]? = some x
theorem mod_small {t i m : Nat} (ht : t < m) (hi : i ≤ m) : (t + i) % m = if t + i < m then t + i else t + i - m := by
  split
  · exact Nat.mod_eq_of_lt (by assumption)
  · rw [Nat.mod_eq_sub_mod (by omega), Nat.mod_eq_of_lt (by omega)]
section
variable {r : List Int} {m top : Nat} {l : List Int}
theorem Ring.push (h : Ring r m top l) (hl : l.length < m) (x : Int) : Ring (r.set ((top + l.length) % m) x) m top (l ++ [x]) := by
  have ht := h.top_lt (by omega)
  have hm : (top + l.length) % m < m := Nat.mod_lt _ (by omega)
  refine ⟨by simp [h.len], by simp; omega, h.top_lt, fun i y hy => ?_⟩
  rcases Nat.lt_trichotomy i l.length with hi | hi | hi
  · rw [List.getElem?_append_left hi] at hy
    have hne : (top + l.length) % m ≠ (top + i) % m := by
      rw [mod_small ht (by omega), mod_small ht (by omega)]
      split <;> split <;> omega
    rw [List.getElem?_set_ne hne]
    exact h.get i y hy
  · subst hi
    simp at hy
    subst hy
    rw [List.getElem?_set_self (by rw [h.len]; exact hm)]
  · rw [List.getElem?_eq_none (by simp; omega)] at hy
    cases hy
theorem Ring.last {x : Int} (h : Ring r m top (l ++ [x])) : r[(top + l.length) % m]? = some x := h.get l.length x (by simp)
theorem Ring.pop {x : Int} (h : Ring r m top (l ++ [x])) : Ring r m top l :=
  ⟨h.len, by have := h.le; simp at this; omega, h.top_lt, fun i y hy => h.get i y (by
    rw [List.getElem?_append_left (List.getElem?_eq_some_iff.1 hy).1]; exact hy)⟩
theorem Ring.first {x : Int} (h : Ring r m top (x :: l)) : r[top]? = some x := by
  have hm : 0 < m := by have := h.le; simp at this; omega
  have := h.get 0 x rfl
  rwa [Nat.add_zero, Nat.mod_eq_of_lt (h.top_lt hm)] at this
theorem Ring.steal {x : Int} (h : Ring r m top (x :: l)) : Ring r m ((top + 1) % m) l := by
  have hm : 0 < m := by have := h.le; simp at this; omega
  have ht := h.top_lt hm
  refine ⟨h.len, by have := h.le; simp at this; omega, fun _ => Nat.mod_lt _ hm, fun i y hy => ?_⟩
  have := h.get (i + 1) y (by simpa using hy)
  rw [← this]
  congr 1
  rw [Nat.mod_add_mod]
  congr 1
  omega
theorem Ring.grown (h : Ring r m top l) (hl : l.length = m) : Ring (l ++ List.replicate (m + 1) 0) (2 * m + 1) 0 l :=
  ⟨by simp; omega, by omega, fun _ => by omega, fun i x hx => by
    have hi := (List.getElem?_eq_some_iff.1 hx).1
    rw [Nat.zero_add, Nat.mod_eq_of_lt (by omega), List.getElem?_append_left hi]
    exact hx⟩
theorem Ring.empty : Ring [] 0 0 [] := ⟨rfl, Nat.le_refl _, fun h => h, fun i x h => by simp at h⟩
end
end Go.Proofs.Ytbpooepbnnbipaa
