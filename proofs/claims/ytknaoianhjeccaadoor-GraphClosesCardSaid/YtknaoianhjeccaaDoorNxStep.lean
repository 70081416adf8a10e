/- One edge is laid into the rows of those behind; a union of sets. -/
import Derived.Test.YtknaoianhjeccaaDoorRowsI
import Derived.Test.YtknaoianhjeccaaDoorGrSpec2
import Derived.Test.YtknaoianhjeccaaDoorBsLess
namespace Go.Proofs.YtknaoianhjeccaaDoor
open Go.RowKit
set_option linter.unusedVariables false
/-- those behind n, as the program has them -/
def nxI (es : List (Nat × Nat)) (n : Nat) : List Int := (nxE es n).map fun (m : Nat) => (m : Int)
theorem nxI_len (es : List (Nat × Nat)) (n : Nat) : (nxI es n).length = (nxE es n).length := by simp [nxI]
theorem ceE_at {es : List (Nat × Nat)} {q : Nat} {a b : Nat} (h : q < es.length) (e : es[q] = (a, b)) (h2 : q < (es.map ceE).length) : (es.map ceE)[q] = ((a : Int), (b : Int)) := by
  rw [List.getElem_map, e]; rfl
theorem nxI_zero (n : Nat) : nxI ([] : List (Nat × Nat)) n = [] := by simp [nxI, nxE]
/-- how things stand behind q edges -/
def NxAt (n : Nat) (es : List (Nat × Nat)) (h q : Nat) (W wr : World) : Prop := ∃ vs : List Value, Hid (NextT (h + 1) wr h n (nxI (es.take q)) vs) ∧ Hid (But (Is h) W wr)
theorem nx_step {n h q a b : Nat} {es : List (Nat × Nat)} {W W3 : World} {vs : List Value} {o : Obj} (hW : W.heap.size = h + 1) (htk : es.take (q + 1) = es.take q ++ [(a, b)]) (X3 : NextT (h + 1) W3 h n (nxI (es.take q)) vs) (hb3 : But (Is h) W W3)
    (Ai : Option Addr) (ci : Nat) (v' : Value) (w2 : World) (hvs : vs[a]? = some (.slice Ai (nxI (es.take q) a).length ci)) (ho1 : OwnI 3 w2 (h + 1) Nowhere (nxI (es.take q) a ++ [(b : Int)]) v')
    (hg1 : (W3.alloc o).drew.grownBy w2 (Value.slice Ai (nxI (es.take q) a).length ci).ownBlock)
    (hw1 : v'.ownBlock = (Value.slice Ai (nxI (es.take q) a).length ci).ownBlock ∨ v'.ownBlock = some (W3.alloc o).drew.heap.size) :
    NxAt n es h (q + 1) W (w2.setCell ⟨h, a, none⟩ v') := by
  have hbl := (Below.refl W3.heap.size W3).alloc (Nat.le_refl _) o |>.drew
  have hvl := (X3.row a _ hvs).lt
  have X5 := (X3.below hbl).app hvs hg1 ho1 hw1 (Nat.le_refl _)
  refine ⟨_, Lib.hid (X5.congr fun i _ => ?_), Lib.hid (((hb3.trans (But.of_below hbl)).grew hg1 (fun k e => by have := (hvl k e).1; omega)).setCell (p := ⟨h, a, none⟩) (show Is h h from rfl) v')⟩
  rw [htk]
  unfold nxI
  rw [nxE_snoc]
  by_cases e : i = a
  · subst e; rw [if_pos rfl, if_pos rfl, List.map_append]; rfl
  · rw [if_neg e, if_neg (fun h => e h.symm)]
theorem or_is {l m : List Nat} {P Q : Nat → Bool} (h : SetIs l P) (h' : SetIs m Q) : SetIs (zipB (fun a b => a ||| b) l m) (fun n => P n || Q n) :=
  h.zip h' (g := fun a b => a || b) (fun a b ha hb => okU_or ha hb) (fun a b j _ _ _ => Nat.testBit_or a b j) rfl
theorem and_is {l m : List Nat} {P Q : Nat → Bool} (h : SetIs l P) (h' : SetIs m Q) : SetIs (zipB (fun a b => a &&& b) l m) (fun n => P n && Q n) :=
  h.zip h' (g := fun a b => a && b) (fun a b ha _ => okU_and ha) (fun a b j _ _ _ => Nat.testBit_and a b j) rfl
end Go.Proofs.YtknaoianhjeccaaDoor
