/- All lists of statements; the texts put together. -/
import Derived.Test.YtijahadmaggncaaDoorKp7
import Derived.Test.YtijahadmaggncaaDoorJj1
namespace Go.Proofs.YtijahadmaggncaaDoor
open Go.RowKit
set_option linter.unusedVariables false
theorem kstmts_any (l : List St) : KxL l := St.indL (fun l h => kstmts_one l (fun k s a b body els hm => kstmt_any k s a b body els (h k s a b body els hm).1 (h k s a b body els hm).2)) l
/-- a word as a token -/
def tkW (s : Str) : ATok := ⟨0, 0, s.data.toList⟩
theorem putL_ge (ls : List Str) : ∀ (acc : List UInt8), (∀ x ∈ ls, x.size ≠ 0) → acc.length + ls.length ≤ (putL acc ls).length := by
  induction ls with
  | nil => intro acc _; exact Nat.le_refl _
  | cons s r ih =>
    intro acc h
    have h1 := ih (putB acc s) (fun x hx => h x (by simp [hx]))
    have h2 : s.data.toList.length ≠ 0 := by rw [Array.length_toList]; exact h s (by simp)
    have h3 : acc.length + 1 ≤ (putB acc s).length := by
      unfold putB
      split <;> simp only [List.length_append, List.length_singleton] <;> omega
    show acc.length + (r.length + 1) ≤ (putL (putB acc s) r).length
    omega
theorem jn_take (out : List Str) (h : ∀ x ∈ out, x.size ≠ 0) : ∀ q, q ≤ out.length → jnF (out.map tkW) q = putL [] (out.take q) := by
  intro q
  induction q with
  | zero => intro _; rfl
  | succ q ih =>
    intro hq
    have hlt : q < out.length := by omega
    rw [jnF, ih (by omega), List.take_succ_eq_append_getElem hlt, putL_app]
    have e : ((out.map tkW)[q]?).map ATok.text = some (out[q].data.toList) := by
      rw [List.getElem?_map, List.getElem?_eq_getElem hlt]; rfl
    rw [e]
    show _ = putB (putL [] (out.take q)) out[q]
    unfold putB
    have hge := putL_ge (out.take q) [] (fun x hx => h x (List.mem_of_mem_take hx))
    rw [List.length_take_of_le (by omega)] at hge
    by_cases h0 : q = 0
    · subst h0
      rfl
    · rw [if_neg h0, if_neg (by simp only [List.length_nil] at hge; omega)]
      rfl
theorem jn_put (out : List Str) (h : ∀ x ∈ out, x.size ≠ 0) : jnF (out.map tkW) (out.map tkW).length = putL [] out := by
  rw [List.length_map, jn_take out h _ (Nat.le_refl _), List.take_of_length_le (Nat.le_refl _)]
theorem texts_tsz (out : List Str) : textsL (out.map tkW) = tsz out := by
  unfold textsL tsz
  rw [List.map_map]
  congr 1
end Go.Proofs.YtijahadmaggncaaDoor
