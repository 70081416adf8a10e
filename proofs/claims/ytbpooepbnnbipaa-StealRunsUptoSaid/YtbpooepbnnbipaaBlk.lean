/- A block of the call's own, known cell by cell. -/
import Derived.Test.YtbpooepbnnbipaaBut
namespace Go.Proofs.Ytbpooepbnnbipaa
open Go.RowKit
set_option linter.unusedVariables false
/-- block b, from base on, holds the cells vs, and may be written -/
structure Blk (base : Nat) (w : World) (b : Nat) (vs : List Value) : Prop where
  ge : base ≤ b
  lt : b < w.heap.size
  cell : ∀ (q : Nat) v, vs[q]? = some v → w.cell? ⟨b, q, none⟩ = some v
  fr : ∀ o, w.frozen? ⟨b, o, none⟩ = false
section
variable {base : Nat} {w w' : World} {b : Nat} {vs : List Value}
theorem Blk.but {T : Blocks} (r : Blk base w b vs) (h : But T w w') (ht : ¬ T b) : Blk base w' b vs :=
  ⟨r.ge, Nat.lt_of_lt_of_le r.lt h.size, fun q v hq => h.cell ht (r.cell q v hq), fun o => (frozen_of_block (h.block _ r.lt ht)).trans (r.fr o)⟩
theorem Blk.below (r : Blk base w b vs) (h : Below w.heap.size w w') : Blk base w' b vs := r.but (T := Nowhere) (But.of_below h) (fun h => h)
theorem Blk.drewN (r : Blk base w b vs) (n : Nat) : Blk base (w.drewN n) b vs := ⟨r.ge, r.lt, r.cell, r.fr⟩
theorem Blk.drew (r : Blk base w b vs) : Blk base w.drew b vs := ⟨r.ge, r.lt, r.cell, r.fr⟩
theorem Blk.set (r : Blk base w b vs) {i : Nat} (hi : i < vs.length) (x : Value) : Blk base (w.setCell ⟨b, i, none⟩ x) b (vs.set i x) := by
  refine ⟨r.ge, by rw [size_setCell]; exact r.lt, fun q v hq => ?_, fun o => by rw [World.frozen?_setCell]; exact r.fr o⟩
  rw [List.getElem?_set] at hq
  by_cases e : i = q
  · subst e
    rw [if_pos rfl, if_pos hi] at hq
    injection hq with hq; subst hq
    exact World.cell?_setCell_same' _ _ _ (by rw [r.cell i vs[i] (List.getElem?_eq_getElem hi)]; rfl)
  · rw [if_neg e] at hq
    rw [World.cell?_setCell_other _ _ _ _ (fun h => e (by injection h with _ h))]
    exact r.cell q v hq
theorem Blk.other (r : Blk base w b vs) {p : Addr} (hp : p.block ≠ b) (x : Value) : Blk base (w.setCell p x) b vs := by
  refine ⟨r.ge, by rw [size_setCell]; exact r.lt, fun q v hq => ?_, fun o => by rw [World.frozen?_setCell]; exact r.fr o⟩
  rw [World.cell?_setCell_other _ _ _ _ (fun h => hp (by rw [h]))]
  exact r.cell q v hq
theorem Blk.made (w : World) (vs : List Value) (E : TypeId) {base : Nat} (hb : base ≤ w.heap.size) : Blk base (w.alloc (.cells vs.toArray E)) w.heap.size vs := by
  have h := heap_alloc_new w (.cells vs.toArray E)
  refine ⟨hb, by simp, fun q v hq => ?_, fun o => ?_⟩
  · unfold World.cell?
    simp only [h]
    simpa using hq
  · unfold World.frozen?
    simp only [h]
    simp
theorem Blk.rebase (r : Blk base w b vs) {base' : Nat} (h : base' ≤ base) : Blk base' w b vs := ⟨Nat.le_trans h r.ge, r.lt, r.cell, r.fr⟩
end
/-- the same, for a row of one cell an element -/
theorem Blk.mapAt {α : Type} {f : α → Value} {base : Nat} {w : World} {b : Nat} {l : List α} (r : Blk base w b (l.map f)) {q : Nat} {x : α} (h : l[q]? = some x) : w.cell? ⟨b, q, none⟩ = some (f x) :=
  r.cell q _ (by rw [List.getElem?_map, h]; rfl)
theorem Blk.mapSet {α : Type} {f : α → Value} {base : Nat} {w : World} {b : Nat} {l : List α} (r : Blk base w b (l.map f)) {q : Nat} (hq : q < l.length) (x : α) : Blk base (w.setCell ⟨b, q, none⟩ (f x)) b ((l.set q x).map f) := by
  rw [List.map_set]
  exact r.set (by simpa using hq) _
theorem Blk.madeN (w : World) (n : Nat) (v : Value) (E : TypeId) {base : Nat} (hb : base ≤ w.heap.size) : Blk base (w.alloc (.cells (Array.replicate n v) E)) w.heap.size (List.replicate n v) := by
  have := Blk.made w (List.replicate n v) E hb
  simpa using this
end Go.Proofs.Ytbpooepbnnbipaa
