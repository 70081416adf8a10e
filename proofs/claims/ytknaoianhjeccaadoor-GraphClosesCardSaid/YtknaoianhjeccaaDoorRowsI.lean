/- A row of rows of integers that the call itself has made, each row in a block of its own that grows. -/
import Derived.Test.YtknaoianhjeccaaDoorBlk
import Derived.Test.YtknaoianhjeccaaDoorAppStep
namespace Go.Proofs.YtknaoianhjeccaaDoor
open Go.RowKit
set_option linter.unusedVariables false
theorem infoII : (Tryd.prog.info? 3).map (fun i => (i.zero, i.size, i.bytes)) = some (some (.int .i64 0), 1, 8) := by kernel_rfl
theorem infoIIs : (Tryd.prog.info? 71).map (fun i => (i.zero, i.size, i.bytes)) = some (some (.slice none 0 0), 1, 24) := by kernel_rfl
/-- block g holds N slices vs; the i-th reads as L i; their blocks lie from base on, each its own -/
structure NextT (base : Nat) (w : World) (g N : Nat) (L : Nat → List Int) (vs : List Value) : Prop where
  out : Blk 0 w g vs
  len : vs.length = N
  lo : g < base
  row : ∀ (i : Nat) v, vs[i]? = some v → OwnI 3 w base Nowhere (L i) v
  nd : ∀ (i j : Nat) v u k, vs[i]? = some v → vs[j]? = some u → v.ownBlock = some k → u.ownBlock = some k → i = j
section
variable {base g N : Nat} {w w' : World} {L : Nat → List Int} {vs : List Value}
theorem NextT.made (w : World) (N : Nat) (E : TypeId) {base : Nat} (hb : w.heap.size < base) : NextT base (w.alloc (.cells (Array.replicate N (.slice none 0 0)) E)) w.heap.size N (fun _ => []) (List.replicate N (.slice none 0 0)) := by
  refine ⟨Blk.madeN w N (.slice none 0 0) E (Nat.zero_le _), by simp, hb, fun i v h => ?_, fun i j v u k h1 h2 h3 _ => ?_⟩
  · rw [List.getElem?_replicate] at h
    split at h
    · injection h with h; subst h; exact OwnL.nil _ _ _
    · cases h
  · rw [List.getElem?_replicate] at h1
    split at h1
    · injection h1 with h; subst h; cases h3
    · cases h1
theorem NextT.but {T : Blocks} (h : NextT base w g N L vs) (hb : But T w w') (h1 : ¬ T g) (h2 : ∀ (i : Nat) v k, vs[i]? = some v → v.ownBlock = some k → ¬ T k) : NextT base w' g N L vs :=
  ⟨h.out.but hb h1, h.len, h.lo, fun i v hi => (h.row i v hi).but hb (fun k hk => h2 i v k hi hk), h.nd⟩
theorem NextT.below (h : NextT base w g N L vs) (hb : Below w.heap.size w w') : NextT base w' g N L vs := h.but (T := Nowhere) (But.of_below hb) (fun h => h) (fun _ _ _ _ _ h => h)
/-- blocks below base do not matter, but for its own -/
theorem NextT.low {T : Blocks} (h : NextT base w g N L vs) (hb : But T w w') (h1 : ¬ T g) (h2 : ∀ k, T k → k < base) : NextT base w' g N L vs :=
  h.but hb h1 (fun i v k hi hk ht => by have := ((h.row i v hi).lt k hk).1; have := h2 k ht; omega)
theorem NextT.congr (h : NextT base w g N L vs) {L' : Nat → List Int} (hL : ∀ i, i < N → L i = L' i) : NextT base w g N L' vs :=
  ⟨h.out, h.len, h.lo, fun i v hi => by rw [← hL i (by rw [← h.len]; exact (List.getElem?_eq_some_iff.1 hi).1)]; exact h.row i v hi, h.nd⟩
theorem NextT.at_ (h : NextT base w g N L vs) {i : Nat} (hi : i < N) : ∃ A cap, vs[i]? = some (.slice A (L i).length cap) ∧ w.cell? ⟨g, i, none⟩ = some (.slice A (L i).length cap) ∧ OwnI 3 w base Nowhere (L i) (.slice A (L i).length cap) := by
  have hlt : i < vs.length := by rw [h.len]; exact hi
  have e : vs[i]? = some vs[i] := List.getElem?_eq_getElem hlt
  have ho := h.row i _ e
  obtain ⟨A, cap, hv⟩ := ho.form
  rw [hv] at e ho
  exact ⟨A, cap, e, h.out.cell i _ e, ho⟩
/-- one row has grown: its new slice is stored -/
theorem NextT.app (h : NextT base w g N L vs) {i k0 : Nat} {v v' : Value} {x : Int} (hi : vs[i]? = some v) (hg : w.grownBy w' v.ownBlock) (ho : OwnI 3 w' base Nowhere (L i ++ [x]) v') (hv' : v'.ownBlock = v.ownBlock ∨ v'.ownBlock = some k0) (hk0 : w.heap.size ≤ k0) :
    NextT base (w'.setCell ⟨g, i, none⟩ v') g N (fun j => if j = i then L i ++ [x] else L j) (vs.set i v') := by
  have hlen : i < vs.length := (List.getElem?_eq_some_iff.1 hi).1
  have hbt : But (fun k => v.ownBlock = some k) w w' := But.of_grown hg
  have hset : But (Is g) w' (w'.setCell ⟨g, i, none⟩ v') := (But.refl (Is g) w').setCell (p := ⟨g, i, none⟩) (show Is g g from rfl) v'
  have hvb : ∀ k, v.ownBlock = some k → base ≤ k ∧ k < w.heap.size := (h.row i v hi).lt
  have hnew : ∀ k, v'.ownBlock = some k → base ≤ k := fun k hk => (ho.lt k hk).1
  refine ⟨(h.out.but hbt (fun e => by have := (hvb _ e).1; have := h.lo; omega)).set hlen v', by simpa using h.len, h.lo, fun j u hj => ?_, fun j1 j2 u1 u2 k h1 h2 k1 k2 => ?_⟩
  · rw [List.getElem?_set] at hj
    by_cases e : i = j
    · subst e
      rw [if_pos rfl, if_pos hlen] at hj
      injection hj with hj; subst hj
      simp only [if_pos]
      exact ho.but hset (fun k hk hT => by have := hnew k hk; have := h.lo; unfold Is at hT; omega)
    · rw [if_neg e] at hj
      have e2 : (if j = i then L i ++ [x] else L j) = L j := if_neg (fun h => e h.symm)
      rw [e2]
      refine ((h.row j u hj).but hbt (fun k hk hT => e (h.nd i j v u k hi hj hT hk))).but hset (fun k hk hT => ?_)
      have := ((h.row j u hj).lt k hk).1
      have := h.lo
      unfold Is at hT
      omega
  · rw [List.getElem?_set] at h1 h2
    have old : ∀ {j : Nat} {u : Value}, vs[j]? = some u → ∀ k, u.ownBlock = some k → k < w.heap.size := fun hj k hk => ((h.row _ _ hj).lt k hk).2
    by_cases e1 : i = j1 <;> by_cases e2 : i = j2
    · omega
    · rw [if_pos e1, if_pos hlen] at h1
      rw [if_neg e2] at h2
      injection h1 with h1; subst h1
      rcases hv' with hv' | hv'
      · exact absurd (h.nd i j2 v u2 k hi h2 (by rw [← hv']; exact k1) k2) e2
      · rw [hv'] at k1
        injection k1 with k1
        have := old h2 k k2
        omega
    · rw [if_neg e1] at h1
      rw [if_pos e2, if_pos hlen] at h2
      injection h2 with h2; subst h2
      rcases hv' with hv' | hv'
      · exact absurd (h.nd i j1 v u1 k hi h1 (by rw [← hv']; exact k2) k1) e1
      · rw [hv'] at k2
        injection k2 with k2
        have := old h1 k k1
        omega
    · rw [if_neg e1] at h1
      rw [if_neg e2] at h2
      exact h.nd j1 j2 u1 u2 k h1 h2 k1 k2
end
end Go.Proofs.YtknaoianhjeccaaDoor
