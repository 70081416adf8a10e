/- A map from numbers that the call itself has made: what it gives, number by number, said of bare values. -/
import Derived.Test.YtikjegfjgfhiaaaBut
import Derived.Maps.OwnSet
import Derived.Maps.OwnOps
namespace Go.Proofs.Ytikjegfjgfhiaaa
open Go.RowKit
open Go.Maps (Keyed IsMap)
set_option linter.unusedVariables false
def heldR (v : Value) : Option (DataW Value × List MemPlace) := some (.held v, [])
/-- block b is a map from numbers, of at most n entries, that gives 'f q' at q; z: what it gives where nothing is -/
structure OwnM (P : Program) (w : World) (k : TypeId) (z : Value) (b n : Nat) (f : Int → Value) : Prop where
  ex : ∃ D : DataW Value, w.ownsMap P k heldR b n D ∧ ∀ q, inI q → D.atKey (.int .i64 q) (.held z) = .held (f q)
def updV {α : Type} (f : Int → α) (a : Int) (v : α) : Int → α := fun x => if x = a then v else f x
theorem updV_same {α : Type} (f : Int → α) (a : Int) (v : α) : updV f a v a = v := by simp [updV]
theorem updV_other {α : Type} (f : Int → α) {a x : Int} (v : α) (h : x ≠ a) : updV f a v x = f x := by simp [updV, h]
section
variable {P : Program} {w w' : World} {k : TypeId} {z : Value} {b n : Nat} {f : Int → Value}
theorem OwnM.made (w : World) : OwnM P (w.alloc (.map #[] 0)) k z w.heap.size 0 (fun _ => z) :=
  ⟨.map [], World.ownsMap_made w P k heldR, fun q _ => WideAt.atKey_none (.held z) (by simp)⟩
theorem OwnM.lt (h : OwnM P w k z b n f) : b < w.heap.size := by obtain ⟨D, h1, _⟩ := h.ex; exact h1.lt
theorem OwnM.same (h : OwnM P w k z b n f) (hb : w'.heap[b]? = w.heap[b]?) : OwnM P w' k z b n f := by
  obtain ⟨D, ⟨es, clock, h1, h2⟩, h3⟩ := h.ex
  exact ⟨D, ⟨es, clock, hb.trans h1, h2⟩, h3⟩
theorem OwnM.below (h : OwnM P w k z b n f) (hb : Below w.heap.size w w') : OwnM P w' k z b n f := h.same (hb.block b h.lt)
theorem OwnM.but {T : Blocks} (h : OwnM P w k z b n f) (hb : But T w w') (ht : ¬ T b) : OwnM P w' k z b n f := h.same (hb.block b h.lt ht)
theorem OwnM.grown {row : Option Nat} (h : OwnM P w k z b n f) (hg : w.grownBy w' row) (hne : some b ≠ row) : OwnM P w' k z b n f := h.same (hg.block b h.lt hne)
theorem OwnM.drew (h : OwnM P w k z b n f) : OwnM P w.drew k z b n f := h.same rfl
theorem OwnM.more (h : OwnM P w k z b n f) {n' : Nat} (hn : n ≤ n') : OwnM P w k z b n' f := by
  obtain ⟨D, h1, h2⟩ := h.ex
  exact ⟨D, h1.mono hn, h2⟩
theorem OwnM.look {t e : TypeId} {q : Int} (h : OwnM P w k z b n f) (hk : P.underlying k = some (.int .i64)) (ht : P.underlying t = some (.map k e)) (hz : (zeroValue e).run P w = .ok z w) (hq : inI q) :
    (Instr.lookup t (.map (some b)) (.int .i64 q) false).run P w = .ok (f q) w := by
  obtain ⟨D, h1, h2⟩ := h.ex
  obtain ⟨v, ps, hrun, hv⟩ := h1.lookup (Maps.int_keyed hk) ht hz (zd := .held z) (zp := []) rfl (Maps.keyOf_int_mk hk (wf_inI hq))
  rw [h2 q hq] at hv
  simp only [heldR, Option.some.injEq, Prod.mk.injEq, DataW.held.injEq] at hv
  rw [hrun, hv.1]
theorem OwnM.put {t e : TypeId} {q : Int} (h : OwnM P w k z b n f) (hk : P.underlying k = some (.int .i64)) (ht : P.underlying t = some (.map k e)) (hq : inI q) (hn : n < maxLen) (v : Value) :
    ∃ w', (Instr.mapUpdate t (.map (some b)) (.int .i64 q) v).run P w = .ok () w' ∧ OwnM P w' k z b (n + 1) (updV f q v) ∧ w.grownBy w' (some b) := by
  obtain ⟨D, h1, h2⟩ := h.ex
  obtain ⟨w', hrun, h3, h4⟩ := h1.update (Maps.int_keyed hk) ht hn (d := .held v) (ps := []) (val := v) (Maps.keyOf_int_mk hk (wf_inI hq)) rfl
  refine ⟨w', hrun, ⟨_, h3, fun x hx => ?_⟩, h4⟩
  by_cases e : x = q
  · subst e
    rw [updV_same, Maps.atKey_put_same (k := .int .i64 x) h1.isMap trivial]
  · rw [updV_other _ _ e, Maps.atKey_put_other (by intro h; injection h with _ h; exact e h), h2 x hx]
/-- 'm[q]' at the operation -/
theorem wpList_look {ops : Array Oper} {rest : List Oper} {o : Oper} {a : Act} {Q : Exit → Act → World → Prop} (hg : o.guard = none) (m x : Operand) (t : TypeId) (hop : o.op = Op.lookup t m x false)
    (e : TypeId) (q : Int) (hk : P.underlying k = some (.int .i64)) (ht : P.underlying t = some (.map k e)) (hz : (zeroValue e).run P w = .ok z w)
    (hm : a.eval m = .map (some b)) (hown : OwnM P w k z b n f) (hx : a.eval x = .int .i64 q) (hq : inI q)
    (hK : wpList P ops Q rest (a.put o.dst (f q)) w) : wpList P ops Q (o :: rest) a w := by
  refine wpList_plain hg fun K' hK' => ?_
  have hrun := hown.look hk ht hz hq
  unfold Oper.wp
  simp [execOp, hop, hm, hx, hrun, Result.andThen]
  exact hK' _ _ hK
/-- 'm[q] = v' at the operation -/
theorem wpList_put {ops : Array Oper} {rest : List Oper} {o : Oper} {a : Act} {Q : Exit → Act → World → Prop} (hg : o.guard = none) (m x y : Operand) (t : TypeId) (hop : o.op = Op.mapUpdate t m x y)
    (e : TypeId) (q : Int) (v : Value) (hk : P.underlying k = some (.int .i64)) (ht : P.underlying t = some (.map k e))
    (hm : a.eval m = .map (some b)) (hown : OwnM P w k z b n f) (hx : a.eval x = .int .i64 q) (hv : a.eval y = v) (hq : inI q) (hn : n < maxLen)
    (hK : ∀ w', OwnM P w' k z b (n + 1) (updV f q v) → w.grownBy w' (some b) → wpList P ops Q rest (a.put o.dst undef) w') : wpList P ops Q (o :: rest) a w := by
  refine wpList_plain hg fun K' hK' => ?_
  obtain ⟨w', hrun, r1, r2⟩ := hown.put hk ht hq hn v
  unfold Oper.wp
  simp [execOp, hop, hm, hx, hv, hrun, Result.andThen]
  exact hK' _ _ (hK w' r1 r2)
end
end Go.Proofs.Ytikjegfjgfhiaaa
