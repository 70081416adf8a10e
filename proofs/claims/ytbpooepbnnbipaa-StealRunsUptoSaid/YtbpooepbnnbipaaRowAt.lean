/- A row of the call's own, of elements of some cells each, known element by element. -/
import Derived.Test.YtbpooepbnnbipaaBlk
namespace Go.Proofs.Ytbpooepbnnbipaa
open Go.RowKit
set_option linter.unusedVariables false
/-- block g, from base on, holds the elements of L, and may be written -/
structure RowAt {α : Type} (enc : α → List Value) (size : Nat) (base : Nat) (w : World) (g : Nat) (L : List α) : Prop where
  ge : base ≤ g
  lt : g < w.heap.size
  cell : ∀ (i : Nat) x, L[i]? = some x → ∀ (j : Nat) v, (enc x)[j]? = some v → w.cell? ⟨g, i * size + j, none⟩ = some v
  fr : ∀ o, w.frozen? ⟨g, o, none⟩ = false
/-- 'make([]T, n)', T of some cells -/
theorem run_makeN {P : Program} (t e : TypeId) (i : TypeInfo) (z : Value) {zc : Array Value} {size : Nat} (ht : P.underlying t = some (.slice e)) (hi : P.info? e = some i) (hz : i.zero = some z) (hs : i.size = size) (hc : z.cells = zc)
    (n : Nat) (hbytes : i.bytes * n ≤ 281474976710656) (h63 : n ≤ 9223372036854775807) (w : World) :
    (Instr.makeSlice t (.int .i64 (n : Int)) (.int .i64 (n : Int))).run P w = .ok (.slice (some ⟨w.heap.size, 0, none⟩) n n) (w.alloc (.cells (madeCells zc (n * size)) e)) := by
  have hb : (i.bytes : Int) * (n : Int) ≤ 281474976710656 := by
    have h : ((i.bytes * n : Nat) : Int) ≤ 281474976710656 := by omega
    rwa [Int.natCast_mul] at h
  have hr := run_make (P := P) w t e i z ht hi hz .i64 .i64 n n (by omega) (by omega) hb (by omega)
  simp only [Int.toNat_natCast, hs, hc] at hr
  exact hr
section
variable {α : Type} {enc : α → List Value} {size base : Nat} {w w' : World} {g : Nat} {L : List α}
theorem RowAt.but {T : Blocks} (r : RowAt enc size base w g L) (h : But T w w') (ht : ¬ T g) : RowAt enc size base w' g L :=
  ⟨r.ge, Nat.lt_of_lt_of_le r.lt h.size, fun i x hi j v hv => h.cell ht (r.cell i x hi j v hv), fun o => (frozen_of_block (h.block _ r.lt ht)).trans (r.fr o)⟩
theorem RowAt.below (r : RowAt enc size base w g L) (h : Below w.heap.size w w') : RowAt enc size base w' g L := r.but (T := Nowhere) (But.of_below h) (fun h => h)
theorem RowAt.drewN (r : RowAt enc size base w g L) (n : Nat) : RowAt enc size base (w.drewN n) g L := ⟨r.ge, r.lt, r.cell, r.fr⟩
theorem RowAt.drew (r : RowAt enc size base w g L) : RowAt enc size base w.drew g L := ⟨r.ge, r.lt, r.cell, r.fr⟩
theorem RowAt.rebase (r : RowAt enc size base w g L) {base' : Nat} (h : base' ≤ base) : RowAt enc size base' w g L := ⟨Nat.le_trans h r.ge, r.lt, r.cell, r.fr⟩
theorem RowAt.other (r : RowAt enc size base w g L) {p : Addr} (hp : p.block ≠ g) (x : Value) : RowAt enc size base (w.setCell p x) g L := by
  refine ⟨r.ge, by rw [size_setCell]; exact r.lt, fun i y hi j v hv => ?_, fun o => by rw [World.frozen?_setCell]; exact r.fr o⟩
  rw [World.cell?_setCell_other _ _ _ _ (fun h => hp (by rw [h]))]
  exact r.cell i y hi j v hv
/-- one cell of an element -/
theorem RowAt.at_ (r : RowAt enc size base w g L) {i : Nat} {x : α} (hi : L[i]? = some x) (j : Nat) {v : Value} (hv : (enc x)[j]? = some v) : w.cell? ⟨g, i * size + j, none⟩ = some v := r.cell i x hi j v hv
theorem mul_eq_two {i k j j' : Nat} (hj : j < 2) (hj' : j' < 2) (h : i * 2 + j = k * 2 + j') : i = k ∧ j = j' := by omega
theorem RowAt.set2 (r : RowAt enc 2 base w g L) {i : Nat} (hi : i < L.length) (x : α) {v0 v1 : Value} (hx : enc x = [v0, v1]) (he : ∀ y, (enc y).length = 2) :
    RowAt enc 2 base ((w.setCell ⟨g, i * 2, none⟩ v0).setCell ⟨g, i * 2 + 1, none⟩ v1) g (L.set i x) := by
  have hold : ∀ j, j < 2 → (w.cell? ⟨g, i * 2 + j, none⟩).isSome = true := fun j hj => by
    have := r.cell i L[i] (List.getElem?_eq_getElem hi) j ((enc L[i])[j]'(by rw [he]; exact hj)) (List.getElem?_eq_getElem (by rw [he]; exact hj))
    rw [this]; rfl
  refine ⟨r.ge, by rw [size_setCell, size_setCell]; exact r.lt, fun k y hk j v hv => ?_, fun o => by rw [World.frozen?_setCell, World.frozen?_setCell]; exact r.fr o⟩
  have hj : j < 2 := by have := (List.getElem?_eq_some_iff.1 hv).1; rw [he] at this; exact this
  rw [List.getElem?_set] at hk
  by_cases e : i = k
  · subst e
    rw [if_pos rfl, if_pos hi] at hk
    injection hk with hk; subst hk
    rw [hx] at hv
    match j, hj, hv with
    | 0, _, hv =>
      simp at hv; subst hv
      rw [World.cell?_setCell_other _ _ _ _ (fun h => by injection h with _ h; omega)]
      exact World.cell?_setCell_same' _ _ _ (hold 0 (by omega))
    | 1, _, hv =>
      simp at hv; subst hv
      refine World.cell?_setCell_same' _ _ _ ?_
      rw [World.cell?_setCell_other _ _ _ _ (fun h => by injection h with _ h; omega)]
      exact hold 1 (by omega)
  · rw [if_neg e] at hk
    rw [World.cell?_setCell_other _ _ _ _ (fun h => by injection h with _ h; omega), World.cell?_setCell_other _ _ _ _ (fun h => by injection h with _ h; omega)]
    exact r.cell k y hk j v hv
/-- as a list that is read -/
theorem RowAt.toRd {ok : α → Prop} {bytes c : Nat} {S : Blocks} (r : RowAt enc size base w g L) (he : ∀ y, (enc y).length = size) (hok : ∀ y ∈ L, ok y) (hS : S g) (hc : L.length ≤ c) (hcm : c ≤ maxLen) (hb : L.length * bytes ≤ 140737488355328) :
    RdL (Flat enc ok) size bytes w S L (.slice (some ⟨g, 0, none⟩) L.length c) :=
  ⟨_, c, L.map enc, rfl, hc, hcm, hb, by simp, ⟨fun cs hcs => by obtain ⟨y, _, rfl⟩ := List.mem_map.1 hcs; exact he y, fun _ => ⟨g, 0, rfl, hS, fun i cs hi j v hv => by
    rw [List.getElem?_map] at hi
    obtain ⟨y, hy, rfl⟩ := Option.map_eq_some_iff.1 hi
    rw [Nat.zero_add]
    exact r.cell i y hy j v hv⟩⟩, fun i e cs hi hc => by
    rw [List.getElem?_map, hi] at hc
    simp at hc; subst hc
    exact ⟨rfl, hok e (List.mem_of_getElem? hi)⟩⟩
/-- a row that was just made -/
theorem RowAt.made (w : World) (n : Nat) (x : α) (E : TypeId) {z : Array Value} (hz : enc x = z.toList) (hs : z.size = size) (hpos : 0 < size) (hb : base ≤ w.heap.size) :
    RowAt enc size base (w.alloc (.cells (madeCells z (n * size)) E)) w.heap.size (List.replicate n x) := by
  have h := heap_alloc_new w (.cells (madeCells z (n * size)) E)
  refine ⟨hb, by simp, fun i y hi j v hv => ?_, fun o => ?_⟩
  · rw [List.getElem?_replicate] at hi
    split at hi
    · rename_i hin
      injection hi with hi; subst hi
      rw [hz] at hv
      have hj : j < z.size := by simpa using (List.getElem?_eq_some_iff.1 hv).1
      have hv' : z[j] = v := by simpa using (List.getElem?_eq_some_iff.1 hv).2
      unfold World.cell?
      simp only [h]
      have hlt : i * size + j < n * size := by
        have : i * size + size ≤ n * size := by rw [← Nat.succ_mul]; exact Nat.mul_le_mul_right _ hin
        omega
      have hmod : (i * size + j) % z.size = j := by
        rw [hs, Nat.mul_comm, Nat.mul_add_mod]; exact Nat.mod_eq_of_lt (by omega)
      have : (madeCells z (n * size))[i * size + j]? = some v := by
        unfold madeCells
        rw [Array.getElem?_map]
        have : (Array.range (n * size))[i * size + j]? = some (i * size + j) := by simp [hlt]
        rw [this]
        simp only [Option.map_some, hmod]
        rw [getElem!_pos z j hj, hv']
      simpa using this
    · cases hi
  · unfold World.frozen?
    simp only [h]
    simp
end
end Go.Proofs.Ytbpooepbnnbipaa
