/- What is wrong with a graph, as plain integers. -/
import Derived.Test.YtknaoianhjeccaaDoorGrSpec2
namespace Go.Proofs.YtknaoianhjeccaaDoor
set_option linter.unusedVariables false
/-- an edge that leads out of the graph -/
def badP (N : Int) (e : Int × Int) : Bool := decide (e.1 < 0 ∨ e.2 < 0 ∨ N ≤ e.1 ∨ N ≤ e.2)
def natP (e : Int × Int) : Nat × Nat := (e.1.toNat, e.2.toNat)
/-- the edges, as numbers of nodes -/
def natsP (ps : List (Int × Int)) : List (Nat × Nat) := ps.map natP
def rangeW (N : Int) (ps : List (Int × Int)) : Bool := decide (N < 0) || decide (200 < N) || ps.any (badP N)
/-- what is wrong: 2 out of range, 3 it goes round, 0 nothing -/
def wrongE (N : Int) (ps : List (Int × Int)) : Int := if rangeW N ps then 2 else if roundE N.toNat (natsP ps) then 3 else 0
theorem natsP_len (ps : List (Int × Int)) : (natsP ps).length = ps.length := by simp [natsP]
theorem badP_iff {N : Int} {e : Int × Int} : badP N e = false ↔ 0 ≤ e.1 ∧ 0 ≤ e.2 ∧ e.1 < N ∧ e.2 < N := by
  unfold badP
  rw [decide_eq_false_iff_not]
  omega
theorem good_ps {N : Int} {ps : List (Int × Int)} (h : ps.any (badP N) = false) : (natsP ps).map ceE = ps ∧ ∀ a b, (a, b) ∈ natsP ps → a < N.toNat ∧ b < N.toNat := by
  have hb : ∀ e ∈ ps, badP N e = false := by
    intro e he
    cases hx : badP N e with
    | false => rfl
    | true =>
      have : ps.any (badP N) = true := List.any_eq_true.2 ⟨e, he, hx⟩
      rw [h] at this; cases this
  constructor
  · unfold natsP
    rw [List.map_map]
    conv => rhs; rw [← List.map_id ps]
    apply List.map_congr_left
    intro e he
    have := badP_iff.1 (hb e he)
    obtain ⟨a, b⟩ := e
    simp only [Function.comp, ceE, natP, id]
    simp only at this
    rw [Int.toNat_of_nonneg this.1, Int.toNat_of_nonneg this.2.1]
  · intro a b hab
    unfold natsP at hab
    rw [List.mem_map] at hab
    obtain ⟨e, he, h2⟩ := hab
    have := badP_iff.1 (hb e he)
    unfold natP at h2
    injection h2 with h3 h4
    omega
theorem wrongE_range {N : Int} {ps : List (Int × Int)} (h : N < 0 ∨ 200 < N) : wrongE N ps = 2 := by
  unfold wrongE
  have : rangeW N ps = true := by unfold rangeW; rcases h with h | h <;> simp [h]
  rw [if_pos this]
theorem wrongE_bad {N : Int} {ps : List (Int × Int)} {q : Nat} (hq : q < ps.length) (h : badP N ps[q] = true) : wrongE N ps = 2 := by
  unfold wrongE
  have : ps.any (badP N) = true := List.any_eq_true.2 ⟨_, List.getElem_mem hq, h⟩
  have : rangeW N ps = true := by unfold rangeW; rw [this]; simp
  rw [if_pos this]
theorem wrongE_good {N : Int} {ps : List (Int × Int)} (h1 : 0 ≤ N) (h2 : N ≤ 200) (h : ps.any (badP N) = false) : wrongE N ps = if roundE N.toNat (natsP ps) then 3 else 0 := by
  unfold wrongE
  have : rangeW N ps = false := by unfold rangeW; rw [h, decide_eq_false (by omega), decide_eq_false (by omega)]; rfl
  rw [this]; rfl
theorem any_all {N : Int} {ps : List (Int × Int)} {q : Nat} (hq : ps.length ≤ q) (h : (ps.take q).any (badP N) = false) : ps.any (badP N) = false := by
  rw [List.take_of_length_le hq] at h; exact h
theorem any_succ {N : Int} {ps : List (Int × Int)} {q : Nat} (hq : q < ps.length) (h : (ps.take q).any (badP N) = false) (h2 : badP N ps[q] = false) : (ps.take (q + 1)).any (badP N) = false := by
  rw [List.take_succ_eq_append_getElem hq, List.any_append, h]
  simp [h2]
end Go.Proofs.YtknaoianhjeccaaDoor
