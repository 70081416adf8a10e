/- A store into a row of the call's own: one cell of an element. -/
import Derived.Test.YtbpooepbnnbipaaFlat
namespace Go.Proofs.Ytbpooepbnnbipaa
open Go.RowKit
set_option linter.unusedVariables false
section
variable {α : Type} {enc : α → List Value} {ok : α → Prop} {size : Nat} {E : TypeId} {w w' : World} {base : Nat} {S : Blocks} {l : List α}
theorem flat_set (hlen : ∀ e, (enc e).length = size) : ∀ (l : List α) (q : Nat) (hq : q < l.length) (j : Nat), j < size → ∀ (x : α) (u : Value), enc x = (enc l[q]).set j u → ((l.set q x).map enc).flatten = ((l.map enc).flatten).set (q * size + j) u := by
  intro l
  induction l with
  | nil => intro q hq; simp at hq
  | cons a r ih =>
    intro q hq j hj x u hx
    cases q with
    | zero =>
      simp only [List.getElem_cons_zero] at hx
      simp only [List.set_cons_zero, List.map_cons, List.flatten_cons, hx, Nat.zero_mul, Nat.zero_add]
      rw [List.set_append_left _ _ (by rw [hlen]; exact hj)]
    | succ q =>
      simp only [List.getElem_cons_succ] at hx
      simp only [List.set_cons_succ, List.map_cons, List.flatten_cons]
      rw [List.set_append_right _ _ (by rw [hlen, Nat.succ_mul]; omega), hlen, ih q (by simpa using hq) j hj x u hx, Nat.succ_mul]
      congr 2
      omega
theorem flat_map {css : List (List Value)} (h1 : css.length = l.length) (h4 : ∀ (i : Nat) e cs, l[i]? = some e → css[i]? = some cs → cs = enc e ∧ ok e) : css = l.map enc := by
  apply List.ext_getElem?
  intro i
  rcases Nat.lt_or_ge i l.length with h | h
  · have hc : css[i]? = some css[i] := List.getElem?_eq_getElem (by omega)
    rw [hc, List.getElem?_map, List.getElem?_eq_getElem h]
    simp [(h4 i _ _ (List.getElem?_eq_getElem h) hc).1]
  · rw [List.getElem?_eq_none (by omega), List.getElem?_eq_none (by simpa using h)]
theorem OwnL.setJ {g n cap : Nat} (h : OwnL (Flat enc ok) size E w base S l (.slice (some ⟨g, 0, none⟩) n cap)) (hlen : ∀ e, (enc e).length = size) {q j : Nat} (hq : q < l.length) (hj : j < size) (x : α) (u : Value) (hx : enc x = (enc l[q]).set j u) (hok : ok x) :
    OwnL (Flat enc ok) size E (w.setCell ⟨g, q * size + j, none⟩ u) base S (l.set q x) (.slice (some ⟨g, 0, none⟩) n cap) := by
  obtain ⟨T, css, t1, t2, t3, h1, h2, h3, h4⟩ := h
  have hcs := flat_map (ok := ok) h1 (fun i e cs a b => h4 i e cs a b)
  subst hcs
  obtain ⟨hl, h3⟩ := h3
  rcases h3 with ⟨hv, _⟩ | ⟨g', cap', cur, hv, hbg, hg, hn, hcap, hsz, htake⟩
  · cases hv
  · injection hv with e1 e2 e3
    injection e1 with e1
    injection e1 with e1
    subst e1 e2 e3
    have hm := flat_set hlen l q hq j hj x u hx
    refine ⟨T, (l.set q x).map enc, t1, by simpa [World.setCell] using t2, t3, by simp, (fun cs hcs => by obtain ⟨y, _, rfl⟩ := List.mem_map.1 hcs; exact hlen y), ⟨by rw [hm]; simpa using hl, .inr ⟨g, cap, cur.setIfInBounds (q * size + j) u, by simp, hbg, ?_, by simpa using hn, hcap, by simpa using hsz, ?_⟩⟩, fun i e cs hi hc => ?_⟩
    · simp [World.setCell, Array.getElem?_modify, hg]
    · rw [hm, ← htake]
      simp only [List.length_set, Array.toList_setIfInBounds]
      rw [List.take_set]
    · rw [List.getElem?_map, hi] at hc
      simp at hc
      subst hc
      refine ⟨rfl, ?_⟩
      rcases Nat.lt_or_ge i l.length with hil | hil
      · by_cases hiq : q = i
        · subst hiq
          rw [List.getElem?_set_self hq] at hi
          simp at hi; subst hi; exact hok
        · rw [List.getElem?_set_ne hiq] at hi
          exact (h4 i e _ hi (by rw [List.getElem?_map, hi]; rfl)).2
      · rw [List.getElem?_eq_none (by simpa using hil)] at hi
        cases hi
end
end Go.Proofs.Ytbpooepbnnbipaa
