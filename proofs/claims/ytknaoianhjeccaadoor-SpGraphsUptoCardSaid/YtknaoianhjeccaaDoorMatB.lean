/- A square table of truth values that the call itself has made, row by row. -/
import Derived.Test.YtknaoianhjeccaaDoorBlk
import Derived.Test.YtknaoianhjeccaaDoorFlat
namespace Go.Proofs.YtknaoianhjeccaaDoor
open Go.RowKit
set_option linter.unusedVariables false
def rowB (n : Nat) (R : Nat → Bool) : List Value := (List.range n).map fun k => Value.bool (R k)
/-- block g holds the rows in blocks gs, of n values each; the rest of its n cells are empty -/
structure MatB (base : Nat) (w : World) (g n : Nat) (gs : List Nat) (rows : Nat → Nat → Bool) : Prop where
  out : Blk base w g ((gs.map fun b => Value.slice (some ⟨b, 0, none⟩) n n) ++ List.replicate (n - gs.length) (.slice none 0 0))
  le : gs.length ≤ n
  row : ∀ (i b : Nat), gs[i]? = some b → Blk base w b (rowB n (rows i)) ∧ b ≠ g
  nd : ∀ (i j b : Nat), gs[i]? = some b → gs[j]? = some b → i = j
def setR (rows : Nat → Nat → Bool) (i k : Nat) (x : Bool) : Nat → Nat → Bool := fun i' k' => if i' = i ∧ k' = k then x else rows i' k'
def putR (rows : Nat → Nat → Bool) (i : Nat) (R : Nat → Bool) : Nat → Nat → Bool := fun i' => if i' = i then R else rows i'
section
variable {base g n : Nat} {gs : List Nat} {rows : Nat → Nat → Bool} {w w' : World}
theorem rowB_congr {R R' : Nat → Bool} (h : ∀ k, k < n → R k = R' k) : rowB n R = rowB n R' := by
  unfold rowB
  apply List.map_congr_left
  intro k hk
  rw [h k (List.mem_range.1 hk)]
theorem rowB_get {R : Nat → Bool} {k : Nat} (h : k < n) : (rowB n R)[k]? = some (.bool (R k)) := by
  unfold rowB
  rw [List.getElem?_map, List.getElem?_range h]; rfl
theorem rowB_len {R : Nat → Bool} : (rowB n R).length = n := by simp [rowB]
theorem MatB.made (w : World) (n : Nat) (E : TypeId) (rows : Nat → Nat → Bool) (hb : base ≤ w.heap.size) : MatB base (w.alloc (.cells (Array.replicate n (.slice none 0 0)) E)) w.heap.size n [] rows :=
  ⟨by simpa using Blk.madeN w n (.slice none 0 0) E hb, Nat.zero_le _, fun i b h => by simp at h, fun i j b h => by simp at h⟩
theorem MatB.but {T : Blocks} (h : MatB base w g n gs rows) (hb : But T w w') (h1 : ¬ T g) (h2 : ∀ (i b : Nat), gs[i]? = some b → ¬ T b) : MatB base w' g n gs rows :=
  ⟨h.out.but hb h1, h.le, fun i b hi => ⟨(h.row i b hi).1.but hb (h2 i b hi), (h.row i b hi).2⟩, h.nd⟩
theorem MatB.below (h : MatB base w g n gs rows) (hb : Below w.heap.size w w') : MatB base w' g n gs rows :=
  ⟨h.out.below hb, h.le, fun i b hi => ⟨(h.row i b hi).1.below hb, (h.row i b hi).2⟩, h.nd⟩
theorem MatB.drewN (h : MatB base w g n gs rows) (k : Nat) : MatB base (w.drewN k) g n gs rows := h.below (below_drewN (Below.refl _ _) _)
theorem MatB.congr (h : MatB base w g n gs rows) {rows' : Nat → Nat → Bool} (hr : ∀ i k, i < gs.length → k < n → rows i k = rows' i k) : MatB base w g n gs rows' :=
  ⟨h.out, h.le, fun i b hi => by
    rw [← rowB_congr (n := n) (R := rows i) (R' := rows' i) (fun k hk => hr i k (List.getElem?_eq_some_iff.1 hi).1 hk)]
    exact h.row i b hi, h.nd⟩
/-- the slice at place i -/
theorem MatB.at_ (h : MatB base w g n gs rows) {i b : Nat} (hi : gs[i]? = some b) : w.cell? ⟨g, i, none⟩ = some (.slice (some ⟨b, 0, none⟩) n n) :=
  h.out.cell i _ (by
    have hlt := (List.getElem?_eq_some_iff.1 hi).1
    rw [List.getElem?_append_left (by simpa using hlt), List.getElem?_map, hi]; rfl)
/-- the value at place k of row i -/
theorem MatB.at2 (h : MatB base w g n gs rows) {i b k : Nat} (hi : gs[i]? = some b) (hk : k < n) : w.cell? ⟨b, k, none⟩ = some (.bool (rows i k)) :=
  (h.row i b hi).1.cell k _ (rowB_get hk)
theorem MatB.set (h : MatB base w g n gs rows) {i b k : Nat} (hi : gs[i]? = some b) (hk : k < n) (x : Bool) : MatB base (w.setCell ⟨b, k, none⟩ (.bool x)) g n gs (setR rows i k x) := by
  refine ⟨h.out.other (p := ⟨b, k, none⟩) (h.row i b hi).2 _, h.le, fun i' b' hi' => ⟨?_, (h.row i' b' hi').2⟩, h.nd⟩
  by_cases e : i' = i
  · subst e
    have eb : b' = b := Option.some.inj (hi'.symm.trans hi)
    subst eb
    have h2 := (h.row i' b' hi).1.set (i := k) (by rw [rowB_len]; exact hk) (.bool x)
    have e2 : (rowB n (rows i')).set k (.bool x) = rowB n (setR rows i' k x i') := by
      apply List.ext_getElem?
      intro j
      rw [List.getElem?_set, rowB_len]
      by_cases hj : j < n
      · rw [rowB_get hj, rowB_get hj]
        by_cases ek : k = j
        · subst ek; simp [setR, hk]
        · rw [if_neg ek]
          have : setR rows i' k x i' j = rows i' j := by unfold setR; rw [if_neg (by omega)]
          rw [this]
      · rw [List.getElem?_eq_none (by rw [rowB_len]; omega), List.getElem?_eq_none (by rw [rowB_len]; omega)]
        split
        · omega
        · rfl
    rw [← e2]; exact h2
  · have e2 : rowB n (setR rows i k x i') = rowB n (rows i') := rowB_congr fun j _ => by simp [setR, e]
    rw [e2]
    exact (h.row i' b' hi').1.other (p := ⟨b, k, none⟩) (fun eb => e (h.nd i' i b' hi' (by rw [hi]; exact congrArg some eb))) _
/-- a new row, all false, at the first empty place -/
theorem MatB.push (h : MatB base w g n gs rows) (hlt : gs.length < n) (E : TypeId) (hb : base ≤ w.heap.size) :
    MatB base ((w.alloc (.cells (Array.replicate n (.bool false)) E)).setCell ⟨g, gs.length, none⟩ (.slice (some ⟨w.heap.size, 0, none⟩) n n)) g n (gs ++ [w.heap.size]) (putR rows gs.length (fun _ => false)) := by
  have hg := h.out.lt
  have h1 := h.below ((Below.refl _ _).alloc (Nat.le_refl _) (.cells (Array.replicate n (.bool false)) E))
  refine ⟨?_, by simp; omega, fun i b hi => ?_, fun i j b hi hj => ?_⟩
  · have h2 := h1.out.set (i := gs.length) (by simp; omega) (.slice (some ⟨w.heap.size, 0, none⟩) n n)
    have e : ((gs.map fun b => Value.slice (some ⟨b, 0, none⟩) n n) ++ List.replicate (n - gs.length) (Value.slice none 0 0)).set gs.length (.slice (some ⟨w.heap.size, 0, none⟩) n n)
        = (((gs ++ [w.heap.size]).map fun b => Value.slice (some ⟨b, 0, none⟩) n n) ++ List.replicate (n - (gs ++ [w.heap.size]).length) (Value.slice none 0 0)) := by
      rw [List.set_append_right _ _ (by simp), List.map_append, List.append_assoc]
      congr 1
      rw [List.length_map, Nat.sub_self, show n - gs.length = (n - (gs.length + 1)) + 1 by omega, List.replicate_succ]
      simp
    rw [e] at h2
    exact h2
  · rcases Nat.lt_or_ge i gs.length with hi' | hi'
    · rw [List.getElem?_append_left hi'] at hi
      have e2 : putR rows gs.length (fun _ => false) i = rows i := by unfold putR; rw [if_neg (by omega)]
      rw [e2]
      exact ⟨(h1.row i b hi).1.other (p := ⟨g, gs.length, none⟩) (fun e => (h.row i b hi).2 e.symm) _, (h.row i b hi).2⟩
    · rw [List.getElem?_append_right hi'] at hi
      have hi0 : i = gs.length := by
        have := (List.getElem?_eq_some_iff.1 hi).1
        simp at this; omega
      subst hi0
      simp at hi
      subst hi
      have e2 : putR rows gs.length (fun _ => false) gs.length = fun _ => false := by unfold putR; rw [if_pos rfl]
      have e3 : rowB n (fun _ => false) = List.replicate n (.bool false) := by unfold rowB; apply List.ext_getElem <;> simp
      rw [e2, e3]
      have h3 := Blk.madeN w n (.bool false) E (base := base) hb
      exact ⟨h3.other (p := ⟨g, gs.length, none⟩) (by simp; omega) _, by omega⟩
  · have hw : ∀ (i b : Nat), gs[i]? = some b → b < w.heap.size := fun i b hi => (h.row i b hi).1.lt
    have key : ∀ (i : Nat), (gs ++ [w.heap.size])[i]? = some b → (gs[i]? = some b ∧ b < w.heap.size) ∨ (i = gs.length ∧ b = w.heap.size) := by
      intro i hi
      rcases Nat.lt_or_ge i gs.length with hi' | hi'
      · rw [List.getElem?_append_left hi'] at hi
        exact .inl ⟨hi, hw i b hi⟩
      · rw [List.getElem?_append_right hi'] at hi
        have hi0 : i = gs.length := by
          have := (List.getElem?_eq_some_iff.1 hi).1
          simp at this; omega
        subst hi0
        simp at hi
        exact .inr ⟨rfl, hi.symm⟩
    rcases key i hi with ⟨a1, a2⟩ | ⟨a1, a2⟩ <;> rcases key j hj with ⟨b1, b2⟩ | ⟨b1, b2⟩
    · exact h.nd i j b a1 b1
    · omega
    · omega
    · omega
end
end Go.Proofs.YtknaoianhjeccaaDoor
