/- A map from strings that the call itself has made: what it gives, string by string, said of bare values. -/
import Derived.Test.YtbpooepbnnbipaaBut
import Derived.Maps.OwnSet
import Derived.Maps.OwnOps
import Derived.StringKeys
namespace Go.Proofs.Ytbpooepbnnbipaa
open Go.RowKit
open Go.Maps (Keyed IsMap)
set_option linter.unusedVariables false
/-- a text that may be a key -/
def okKy (q : ByteArray) : Prop := q.size ≤ maxLen
theorem bytes_inj {x q : ByteArray} (h : x.data.toList = q.data.toList) : x = q := by
  obtain ⟨⟨a⟩⟩ := x
  obtain ⟨⟨b⟩⟩ := q
  simp only at h
  rw [h]
def heldK (v : Value) : Option (DataW Value × List MemPlace) := some (.held v, [])
/-- block b is a map from strings, of at most n entries, that gives 'f q' at q; z: what it gives where nothing is -/
structure OwnK (P : Program) (w : World) (k : TypeId) (z : Value) (b n : Nat) (f : ByteArray → Value) : Prop where
  ex : ∃ D : DataW Value, w.ownsMap P k heldK b n D ∧ ∀ q, okKy q → D.atKey (.string q.data.toList) (.held z) = .held (f q)
def updK {α : Type} (f : ByteArray → α) (a : ByteArray) (v : α)   : ByteArray → α := fun x => if x = a then v else f x
theorem updK_same {α : Type} (f : ByteArray → α) (a : ByteArray) (v : α) : updK f a v a = v := by simp [updK]
theorem updK_other {α : Type} (f : ByteArray → α) {a x : ByteArray} (v : α) (h : x ≠ a) : updK f a v x = f x := by simp [updK, h]
section
variable {P : Program} {w w' : World} {k : TypeId} {z : Value} {b n : Nat} {f : ByteArray → Value}
theorem OwnK.made (w : World) : OwnK P (w.alloc (.map #[] 0)) k z w.heap.size 0 (fun _ => z) :=
  ⟨.map [], World.ownsMap_made w P k heldK, fun q _ => WideAt.atKey_none (.held z) (by simp)⟩
theorem OwnK.lt (h : OwnK P w k z b n f) : b < w.heap.size := by obtain ⟨D, h1, _⟩ := h.ex; exact h1.lt
theorem OwnK.same (h : OwnK P w k z b n f) (hb : w'.heap[b]? = w.heap[b]?) : OwnK P w' k z b n f := by
  obtain ⟨D, ⟨es, clock, h1, h2⟩, h3⟩ := h.ex
  exact ⟨D, ⟨es, clock, hb.trans h1, h2⟩, h3⟩
theorem OwnK.below (h : OwnK P w k z b n f) (hb : Below w.heap.size w w') : OwnK P w' k z b n f := h.same (hb.block b h.lt)
theorem OwnK.but {T : Blocks} (h : OwnK P w k z b n f) (hb : But T w w') (ht : ¬ T b) : OwnK P w' k z b n f := h.same (hb.block b h.lt ht)
theorem OwnK.grown {row : Option Nat} (h : OwnK P w k z b n f) (hg : w.grownBy w' row) (hne : some b ≠ row) : OwnK P w' k z b n f := h.same (hg.block b h.lt hne)
theorem OwnK.drew (h : OwnK P w k z b n f) : OwnK P w.drew k z b n f := h.same rfl
theorem OwnK.more (h : OwnK P w k z b n f) {n' : Nat} (hn : n ≤ n') : OwnK P w k z b n' f := by
  obtain ⟨D, h1, h2⟩ := h.ex
  exact ⟨D, h1.mono hn, h2⟩
theorem OwnK.look {t e : TypeId} {q : ByteArray} (h : OwnK P w k z b n f) (hk : P.underlying k = some .string) (ht : P.underlying t = some (.map k e)) (hz : (zeroValue e).run P w = .ok z w) (hq : okKy q) :
    (Instr.lookup t (.map (some b)) (.string q) false).run P w = .ok (f q) w := by
  obtain ⟨D, h1, h2⟩ := h.ex
  obtain ⟨v, ps, hrun, hv⟩ := h1.lookup (Maps.string_keyed hk) ht hz (zd := .held z) (zp := []) rfl (WideMaps.keyOf_string_mk hk hq)
  rw [h2 q hq] at hv
  simp only [heldK, Option.some.injEq, Prod.mk.injEq, DataW.held.injEq] at hv
  rw [hrun, hv.1]
theorem OwnK.put {t e : TypeId} {q : ByteArray} (h : OwnK P w k z b n f) (hk : P.underlying k = some .string) (ht : P.underlying t = some (.map k e)) (hq : okKy q) (hn : n < maxLen) (v : Value) :
    ∃ w', (Instr.mapUpdate t (.map (some b)) (.string q) v).run P w = .ok () w' ∧ OwnK P w' k z b (n + 1) (updK f q v) ∧ w.grownBy w' (some b) := by
  obtain ⟨D, h1, h2⟩ := h.ex
  obtain ⟨w', hrun, h3, h4⟩ := h1.update (Maps.string_keyed hk) ht hn (d := .held v) (ps := []) (val := v) (WideMaps.keyOf_string_mk hk hq) rfl
  refine ⟨w', hrun, ⟨_, h3, fun x hx => ?_⟩, h4⟩
  by_cases e : x = q
  · subst e
    rw [updK_same, Maps.atKey_put_same (k := .string x.data.toList) h1.isMap trivial]
  · rw [updK_other _ _ e, Maps.atKey_put_other (by intro h; injection h with h; exact e (bytes_inj h)), h2 x hx]
/-- 'm[q]' at the operation -/
theorem wpList_lookK {ops : Array Oper} {rest : List Oper} {o : Oper} {a : Act} {Q : Exit → Act → World → Prop} (hg : o.guard = none) (m x : Operand) (t : TypeId) (hop : o.op = Op.lookup t m x false)
    (e : TypeId) (q : ByteArray) (hk : P.underlying k = some .string) (ht : P.underlying t = some (.map k e)) (hz : (zeroValue e).run P w = .ok z w)
    (hm : a.eval m = .map (some b)) (hown : OwnK P w k z b n f) (hx : a.eval x = .string q) (hq : okKy q)
    (hK : wpList P ops Q rest (a.put o.dst (f q)) w) : wpList P ops Q (o :: rest) a w := by
  refine wpList_plain hg fun K' hK' => ?_
  have hrun := hown.look hk ht hz hq
  unfold Oper.wp
  simp [execOp, hop, hm, hx, hrun, Result.andThen]
  exact hK' _ _ hK
/-- 'm[q] = v' at the operation -/
theorem wpList_putK {ops : Array Oper} {rest : List Oper} {o : Oper} {a : Act} {Q : Exit → Act → World → Prop} (hg : o.guard = none) (m x y : Operand) (t : TypeId) (hop : o.op = Op.mapUpdate t m x y)
    (e : TypeId) (q : ByteArray) (v : Value) (hk : P.underlying k = some .string) (ht : P.underlying t = some (.map k e))
    (hm : a.eval m = .map (some b)) (hown : OwnK P w k z b n f) (hx : a.eval x = .string q) (hv : a.eval y = v) (hq : okKy q) (hn : n < maxLen)
    (hK : ∀ w', OwnK P w' k z b (n + 1) (updK f q v) → w.grownBy w' (some b) → wpList P ops Q rest (a.put o.dst undef) w') : wpList P ops Q (o :: rest) a w := by
  refine wpList_plain hg fun K' hK' => ?_
  obtain ⟨w', hrun, r1, r2⟩ := hown.put hk ht hq hn v
  unfold Oper.wp
  simp [execOp, hop, hm, hx, hv, hrun, Result.andThen]
  exact hK' _ _ (hK w' r1 r2)
end
end Go.Proofs.Ytbpooepbnnbipaa
