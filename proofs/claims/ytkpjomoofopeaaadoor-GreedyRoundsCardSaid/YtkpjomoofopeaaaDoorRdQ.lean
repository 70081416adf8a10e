/- May a node be done, edge by edge: plain lists. -/
import Derived.Test.YtkpjomoofopeaaaDoorGr6
namespace Go.Proofs.YtkpjomoofopeaaaDoor
set_option linter.unusedVariables false
theorem castL_has (l : List Nat) (n : Nat) : (castL l).contains (n : Int) = l.contains n := by
  unfold castL
  rw [Bool.eq_iff_iff, List.contains_iff_mem, List.contains_iff_mem, List.mem_map]
  constructor
  · rintro ⟨m, hm, e⟩
    have : m = n := by omega
    rw [← this]; exact hm
  · intro h; exact ⟨n, h, rfl⟩
theorem castL_snoc (l : List Nat) (n : Nat) : castL (l ++ [n]) = castL l ++ [(n : Int)] := by unfold castL; rw [List.map_append]; rfl
/-- the first q edges let n come behind out -/
def rdQ (es : List (Nat × Nat)) (out : List Nat) (n q : Nat) : Bool := !out.contains n && (es.take q).all fun e => decide (e.2 ≠ n) || out.contains e.1
theorem rdQ_zero (es : List (Nat × Nat)) (out : List Nat) (n : Nat) : rdQ es out n 0 = !out.contains n := by simp [rdQ]
theorem rdQ_succ {es : List (Nat × Nat)} (out : List Nat) (n : Nat) {q : Nat} (h : q < es.length) : rdQ es out n (q + 1) = (rdQ es out n q && (decide (es[q].2 ≠ n) || out.contains es[q].1)) := by
  unfold rdQ
  rw [List.take_succ_eq_append_getElem h, List.all_append, Bool.and_assoc]
  simp
theorem rdQ_all (es : List (Nat × Nat)) (out : List Nat) (n : Nat) : rdQ es out n es.length = rdyE es out n := by
  unfold rdQ
  rw [List.take_length, Bool.eq_iff_iff, rdyE_iff, Bool.and_eq_true, List.all_eq_true]
  constructor
  · rintro ⟨h1, h2⟩
    refine ⟨by simpa using h1, fun a ha => ?_⟩
    have := h2 (a, n) ha
    simpa using this
  · rintro ⟨h1, h2⟩
    refine ⟨by simpa using h1, fun e he => ?_⟩
    by_cases e2 : e.2 = n
    · have := h2 e.1 (by rw [← e2]; exact he)
      simp [this]
    · simp [e2]
end Go.Proofs.YtkpjomoofopeaaaDoor
