/- What a marker writes, plainly. -/
import Derived.Test.YtknaoianhjeccaaDoorSpSpec
namespace Go.Proofs.YtknaoianhjeccaaDoor
set_option linter.unusedVariables false
def zipP : Nat → List Nat → List (Int × Int)
  | _, [] => []
  | b, p :: r => ((b : Int), (p : Int)) :: zipP (b + 1) r
theorem zipP_len (b : Nat) (l : List Nat) : (zipP b l).length = l.length := by
  induction l generalizing b with
  | nil => rfl
  | cons p r ih => simp [zipP, ih]
theorem zipP_append (b : Nat) (l m : List Nat) : zipP b (l ++ m) = zipP b l ++ zipP (b + l.length) m := by
  induction l generalizing b with
  | nil => simp [zipP]
  | cons p r ih => simp only [List.cons_append, zipP, ih, List.length_cons]; rw [show b + 1 + r.length = b + (r.length + 1) by omega]
theorem zipP_get (b : Nat) (l : List Nat) (i p : Nat) (h : l[i]? = some p) : (zipP b l)[i]? = some (((b + i : Nat) : Int), (p : Int)) := by
  induction l generalizing b i with
  | nil => simp at h
  | cons x r ih =>
    match i, h with
    | 0, h => simp at h; subst h; simp [zipP]
    | i + 1, h =>
      simp only [zipP, List.getElem?_cons_succ] at h ⊢
      rw [ih (b + 1) i h, show b + 1 + i = b + (i + 1) by omega]
/-- L with the places of the leaves from b on written in -/
def mkOut (L : List (Int × Int)) (b : Nat) (ps : List Nat) : List (Int × Int) := L.take b ++ zipP b ps ++ L.drop (b + ps.length)
theorem mkOut_len {L : List (Int × Int)} {b : Nat} {ps : List Nat} (h : b + ps.length ≤ L.length) : (mkOut L b ps).length = L.length := by
  simp [mkOut, zipP_len]; omega
theorem mkOut_get {L : List (Int × Int)} {b : Nat} {ps : List Nat} (h : b + ps.length ≤ L.length) (k : Nat) : (mkOut L b ps)[k]? = if b ≤ k ∧ k < b + ps.length then (zipP b ps)[k - b]? else L[k]? := by
  unfold mkOut
  rcases Nat.lt_or_ge k b with h1 | h1
  · rw [if_neg (by omega), List.append_assoc, List.getElem?_append_left (by simp; omega), List.getElem?_take, if_pos h1]
  · rcases Nat.lt_or_ge k (b + ps.length) with h2 | h2
    · rw [if_pos ⟨h1, h2⟩, List.getElem?_append_left (by simp [zipP_len]; omega), List.getElem?_append_right (by simp; omega)]
      congr 1; simp; omega
    · rw [if_neg (by omega), List.getElem?_append_right (by simp [zipP_len]; omega), List.getElem?_drop]
      congr 1; simp [zipP_len]; omega
theorem mkOut_nil (L : List (Int × Int)) (b : Nat) : mkOut L b [] = L := by simp [mkOut, zipP]
theorem mkOut_one {L : List (Int × Int)} {b : Nat} (h : b < L.length) (p : Nat) : mkOut L b [p] = L.set b ((b : Int), (p : Int)) := by
  apply List.ext_getElem?
  intro k
  rw [mkOut_get (by simp; omega), List.getElem?_set]
  by_cases e : b = k
  · subst e; simp [h, zipP]
  · rw [if_neg (by simp; omega), if_neg e]
theorem mkOut_lr {L : List (Int × Int)} {b : Nat} {ps qs : List Nat} (h : b + ps.length + qs.length ≤ L.length) : mkOut (mkOut L b ps) (b + ps.length) qs = mkOut L b (ps ++ qs) := by
  apply List.ext_getElem?
  intro k
  have h1 : b + ps.length ≤ L.length := by omega
  rw [mkOut_get (by rw [mkOut_len h1]; omega), mkOut_get h1, mkOut_get (by simp; omega), zipP_append, List.length_append]
  by_cases c1 : b + ps.length ≤ k ∧ k < b + ps.length + qs.length
  · rw [if_pos c1, if_pos (by omega), List.getElem?_append_right (by rw [zipP_len]; omega), zipP_len]
    congr 1; omega
  · rw [if_neg c1]
    by_cases c2 : b ≤ k ∧ k < b + ps.length
    · rw [if_pos c2, if_pos (by omega), List.getElem?_append_left (by rw [zipP_len]; omega)]
    · rw [if_neg c2, if_neg (by omega)]
theorem mkOut_rl {L : List (Int × Int)} {b : Nat} {ps qs : List Nat} (h : b + ps.length + qs.length ≤ L.length) : mkOut (mkOut L (b + ps.length) qs) b ps = mkOut L b (ps ++ qs) := by
  apply List.ext_getElem?
  intro k
  rw [mkOut_get (by rw [mkOut_len h]; omega), mkOut_get h, mkOut_get (by simp; omega), zipP_append, List.length_append]
  by_cases c2 : b ≤ k ∧ k < b + ps.length
  · rw [if_pos c2, if_pos (by omega), List.getElem?_append_left (by rw [zipP_len]; omega)]
  · rw [if_neg c2]
    by_cases c1 : b + ps.length ≤ k ∧ k < b + ps.length + qs.length
    · rw [if_pos c1, if_pos (by omega), List.getElem?_append_right (by rw [zipP_len]; omega), zipP_len]
      congr 1; omega
    · rw [if_neg c1, if_neg (by omega)]
/-- two places for each leaf -/
def Tm.marks (t : Tm) : List (Int × Int) := zipP 0 (t.pos 0)
theorem Tm.marks_len (t : Tm) : t.marks.length = t.count := by unfold Tm.marks; rw [zipP_len, Tm.pos_len]
theorem mkOut_all (L : List (Int × Int)) (t : Tm) (h : L.length = t.count) : mkOut L 0 (t.pos 0) = t.marks := by
  unfold mkOut Tm.marks
  rw [List.drop_eq_nil_of_le (by rw [Tm.pos_len]; omega)]
  simp
end Go.Proofs.YtknaoianhjeccaaDoor
