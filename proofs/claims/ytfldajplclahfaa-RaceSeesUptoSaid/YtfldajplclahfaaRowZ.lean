/- A row of numbers of one's own, for Sort and Compact. -/
import Derived.Test.YtfldajplclahfaaGSrtI
namespace Go.Proofs.Ytfldajplclahfaa
open Go.Shelf Go.RowKit Go.Lib Go.Sort
set_option linter.unusedVariables false
theorem rowZ_of {w : World} {base : Nat} {l : List Int} {v : Value} (h : OwnI 3 w base Nowhere l v) (hne : 0 < l.length) : ∃ g c, v = .slice (some ⟨g, 0, none⟩) l.length c ∧ base ≤ g ∧ l.length ≤ c ∧ c ≤ maxLen ∧ RowZ w g l ∧ ∀ x ∈ l, inI x := by
  obtain ⟨g, c, e, h1, h2, h3, h4, h5, h6⟩ := OwnI.open_ h hne
  exact ⟨g, c, e, h1, h3, h4, ⟨h2, h5, fun q hq => (h6 q hq).2⟩, fun x hx => by obtain ⟨q, hq, rfl⟩ := List.getElem_of_mem hx; exact (h6 q hq).1⟩
theorem RowZ.rd {w : World} {g c : Nat} {l : List Int} (h : RowZ w g l) (hc : l.length ≤ c) (hm : c ≤ maxLen) (hok : ∀ x ∈ l, inI x) (hby : l.length * 8 ≤ 140737488355328) : RdI w (Is g) l (.slice (some ⟨g, 0, none⟩) l.length c) :=
  ⟨_, c, l.map fun x => [.int .i64 x], rfl, hc, hm, hby, by simp, ⟨fun cs hcs => by obtain ⟨x, _, rfl⟩ := List.mem_map.1 hcs; rfl, fun _ => ⟨g, 0, rfl, rfl, fun i cs hi j v hv => by
    rw [List.getElem?_map] at hi
    obtain ⟨y, hy, rfl⟩ := Option.map_eq_some_iff.1 hi
    have hi' := (List.getElem?_eq_some_iff.1 hy).1
    have hj : j = 0 := by have := (List.getElem?_eq_some_iff.1 hv).1; simp at this; exact this
    subst hj
    simp at hv; subst hv
    have hc := h.cell i hi'
    rw [(List.getElem?_eq_some_iff.1 hy).2] at hc
    simpa using hc⟩⟩, fun i e cs hi hc => by
    rw [List.getElem?_map, hi] at hc
    simp at hc; subst hc
    exact ⟨rfl, hok _ (List.mem_of_getElem? hi)⟩⟩
end Go.Proofs.Ytfldajplclahfaa
