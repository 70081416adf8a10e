/- A map from numbers that the call itself has made: what it has, number by number (v, ok := m[k]). -/
import Derived.Test.YthbbecmffndgdabDoorBut
import Derived.Maps.OwnSet
import Derived.Maps.OwnOps
namespace Go.Proofs.YthbbecmffndgdabDoor
open Go.RowKit
open Go.Maps (Keyed IsMap)
set_option linter.unusedVariables false
def heldO (v : Value) : Option (DataW Value × List MemPlace) := some (.held v, [])
/-- block b is a map from numbers, of at most n entries, that has 'f q' at q -/
structure OwnO (P : Program) (w : World) (k : TypeId) (b n : Nat) (f : Int → Option Value) : Prop where
  ex : ∃ D : DataW Value, w.ownsMap P k heldO b n D ∧ ∀ q, inI q → ∀ zd, D.atKey (.int .i64 q) zd = match f q with | none => zd | some v => .held v
def setO (f : Int → Option Value) (a : Int) (v : Value) : Int → Option Value := fun x => if x = a then some v else f x
section
variable {P : Program} {w w' : World} {k : TypeId} {b n : Nat} {f : Int → Option Value}
theorem OwnO.made (w : World) : OwnO P (w.alloc (.map #[] 0)) k w.heap.size 0 (fun _ => none) :=
  ⟨.map [], World.ownsMap_made w P k heldO, fun q _ zd => WideAt.atKey_none zd (by simp)⟩
theorem OwnO.lt (h : OwnO P w k b n f) : b < w.heap.size := by obtain ⟨D, h1, _⟩ := h.ex; exact h1.lt
theorem OwnO.same (h : OwnO P w k b n f) (hb : w'.heap[b]? = w.heap[b]?) : OwnO P w' k b n f := by
  obtain ⟨D, ⟨es, clock, h1, h2⟩, h3⟩ := h.ex
  exact ⟨D, ⟨es, clock, hb.trans h1, h2⟩, h3⟩
theorem OwnO.but {T : Blocks} (h : OwnO P w k b n f) (hb : But T w w') (ht : ¬ T b) : OwnO P w' k b n f := h.same (hb.block b h.lt ht)
theorem OwnO.below (h : OwnO P w k b n f) (hb : Below w.heap.size w w') : OwnO P w' k b n f := h.same (hb.block b h.lt)
theorem OwnO.look {t e : TypeId} {q : Int} {z : Value} (h : OwnO P w k b n f) (hk : P.underlying k = some (.int .i64)) (ht : P.underlying t = some (.map k e)) (hz : (zeroValue e).run P w = .ok z w) (hq : inI q) :
    (Instr.lookup t (.map (some b)) (.int .i64 q) true).run P w = .ok (match f q with | none => .tuple #[z, .bool false] | some v => .tuple #[v, .bool true]) w := by
  obtain ⟨D, h1, h2⟩ := h.ex
  obtain ⟨v, ps, hrun, hv⟩ := h1.look_ok (Maps.int_keyed hk) ht hz (zd := .held z) (zp := []) rfl (Maps.keyOf_int_mk hk (wf_inI hq))
  have h3 := h2 q hq
  rw [h3 (.held z)] at hv
  rw [hrun]
  cases hf : f q with
  | none =>
    rw [hf] at hv h3
    simp only [heldO, Option.some.injEq, Prod.mk.injEq, DataW.held.injEq] at hv
    rw [Maps.has_false_of_atKey h3, hv.1]
  | some u =>
    rw [hf] at hv h3
    simp only [heldO, Option.some.injEq, Prod.mk.injEq, DataW.held.injEq] at hv
    rw [Maps.has_true_of_atKey h3, hv.1]
theorem OwnO.put {t e : TypeId} {q : Int} (h : OwnO P w k b n f) (hk : P.underlying k = some (.int .i64)) (ht : P.underlying t = some (.map k e)) (hq : inI q) (hn : n < maxLen) (v : Value) :
    ∃ w', (Instr.mapUpdate t (.map (some b)) (.int .i64 q) v).run P w = .ok () w' ∧ OwnO P w' k b (n + 1) (setO f q v) ∧ w.grownBy w' (some b) := by
  obtain ⟨D, h1, h2⟩ := h.ex
  obtain ⟨w', hrun, h3, h4⟩ := h1.update (Maps.int_keyed hk) ht hn (d := .held v) (ps := []) (val := v) (Maps.keyOf_int_mk hk (wf_inI hq)) rfl
  refine ⟨w', hrun, ⟨_, h3, fun x hx zd => ?_⟩, h4⟩
  unfold setO
  by_cases e : x = q
  · subst e
    rw [if_pos rfl, Maps.atKey_put_same (k := .int .i64 x) h1.isMap trivial]
  · rw [if_neg e, Maps.atKey_put_other (by intro h; injection h with _ h; exact e h), h2 x hx]
/-- 'v, ok := m[q]' at the operation: nothing is there -/
theorem wpList_lookO_none {ops : Array Oper} {rest : List Oper} {o : Oper} {a : Act} {Q : Exit → Act → World → Prop} (hg : o.guard = none) (m x : Operand) (t : TypeId) (hop : o.op = Op.lookup t m x true)
    (e : TypeId) (q : Int) {z : Value} (hk : P.underlying k = some (.int .i64)) (ht : P.underlying t = some (.map k e)) (hz : (zeroValue e).run P w = .ok z w)
    (hm : a.eval m = .map (some b)) (hown : OwnO P w k b n f) (hx : a.eval x = .int .i64 q) (hq : inI q) (hf : f q = none)
    (hK : wpList P ops Q rest (a.put o.dst (.tuple #[z, .bool false])) w) : wpList P ops Q (o :: rest) a w := by
  refine wpList_plain hg fun K' hK' => ?_
  have hrun := hown.look hk ht hz hq
  rw [hf] at hrun
  unfold Oper.wp
  simp [execOp, hop, hm, hx, hrun, Result.andThen]
  exact hK' _ _ hK
/-- .. v is there -/
theorem wpList_lookO_some {ops : Array Oper} {rest : List Oper} {o : Oper} {a : Act} {Q : Exit → Act → World → Prop} (hg : o.guard = none) (m x : Operand) (t : TypeId) (hop : o.op = Op.lookup t m x true)
    (e : TypeId) (q : Int) {z v : Value} (hk : P.underlying k = some (.int .i64)) (ht : P.underlying t = some (.map k e)) (hz : (zeroValue e).run P w = .ok z w)
    (hm : a.eval m = .map (some b)) (hown : OwnO P w k b n f) (hx : a.eval x = .int .i64 q) (hq : inI q) (hf : f q = some v)
    (hK : wpList P ops Q rest (a.put o.dst (.tuple #[v, .bool true])) w) : wpList P ops Q (o :: rest) a w := by
  refine wpList_plain hg fun K' hK' => ?_
  have hrun := hown.look hk ht hz hq
  rw [hf] at hrun
  unfold Oper.wp
  simp [execOp, hop, hm, hx, hrun, Result.andThen]
  exact hK' _ _ hK
/-- 'm[q] = v' at the operation -/
theorem wpList_putO {ops : Array Oper} {rest : List Oper} {o : Oper} {a : Act} {Q : Exit → Act → World → Prop} (hg : o.guard = none) (m x y : Operand) (t : TypeId) (hop : o.op = Op.mapUpdate t m x y)
    (e : TypeId) (q : Int) (v : Value) (hk : P.underlying k = some (.int .i64)) (ht : P.underlying t = some (.map k e))
    (hm : a.eval m = .map (some b)) (hown : OwnO P w k b n f) (hx : a.eval x = .int .i64 q) (hv : a.eval y = v) (hq : inI q) (hn : n < maxLen)
    (hK : ∀ w', OwnO P w' k b (n + 1) (setO f q v) → w.grownBy w' (some b) → wpList P ops Q rest (a.put o.dst undef) w') : wpList P ops Q (o :: rest) a w := by
  refine wpList_plain hg fun K' hK' => ?_
  obtain ⟨w', hrun, r1, r2⟩ := hown.put hk ht hq hn v
  unfold Oper.wp
  simp [execOp, hop, hm, hx, hv, hrun, Result.andThen]
  exact hK' _ _ (hK w' r1 r2)
end
end Go.Proofs.YthbbecmffndgdabDoor
