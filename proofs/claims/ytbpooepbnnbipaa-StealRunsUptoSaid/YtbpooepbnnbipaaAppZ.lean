/- 'append' in a region that draws its order: onto an empty slice without room, onto what came of that; values that read as lists in whatever blocks, carried from world to world. -/
import Derived.Test.YtbpooepbnnbipaaAppStep
import Derived.Test.YtbpooepbnnbipaaBut
namespace Go.Proofs.Ytbpooepbnnbipaa
open Go.RowKit
set_option linter.unusedVariables false
theorem run_append_cap0 {P : Program} (w : World) (t ty e : TypeId) (i : TypeInfo) (ht : P.underlying t = some (.slice e)) (hi : P.info? e = some i)
    (a0 : Addr) (x : Option Addr) (m c : Nat) (hm : 0 < m) (hb : m * i.bytes ≤ 281474976710656) :
    (Builtin.append_ #[t, t] ty #[.slice (some a0) 0 0, .slice x m c]).run P w = (Builtin.append_ #[t, t] ty #[.slice none 0 0, .slice x m c]).run P w := by
  have h1 : m ≠ 0 := by omega
  have h2 : Builtin.nextslicecap m 0 = m := by unfold Builtin.nextslicecap; rw [if_pos (by omega)]
  have h3 : ¬ (281474976710656 < m * i.bytes) := by omega
  simp [Builtin.append_, run_underlying ht, sizeOf, typeInfo, hi, Builtin.lenOf, Builtin.firstCells, h1, h2, h3, loadCells, loadCellsFrom]
theorem run_append_cap00 {P : Program} (w : World) (t ty e : TypeId) (i : TypeInfo) (ht : P.underlying t = some (.slice e)) (hi : P.info? e = some i)
    (A x : Option Addr) (c : Nat) : ∃ w', (Builtin.append_ #[t, t] ty #[.slice A 0 0, .slice none 0 c]).run P w = .ok (.slice A 0 0) w' ∧ w' = w := by
  cases A <;> simp [Builtin.append_, run_underlying ht, sizeOf, typeInfo, hi, Builtin.lenOf, Builtin.firstCells, loadCells, loadCellsFrom, storeCells]

/-- x reads as l, in whatever blocks there are -/
def Fr {α : Type} (enc : α → List Value) (ok : α → Prop) (size bytes : Nat) (w : World) (l : List α) (x : Value) : Prop := ∃ T, Sub T (Upto w.heap.size) ∧ RdL (Flat enc ok) size bytes w T l x
/-- x may be appended to: an own row, or empty without room -/
def AppL {α : Type} (enc : α → List Value) (ok : α → Prop) (size : Nat) (E : TypeId) (w : World) (base : Nat) (l : List α) (x : Value) : Prop := OwnL (Flat enc ok) size E w base Nowhere l x ∨ (l = [] ∧ ∃ A, x = .slice A 0 0)
section
variable {α : Type} {enc : α → List Value} {ok : α → Prop} {size bytes : Nat} {E : TypeId} {w w' : World} {base : Nat} {l m : List α} {x : Value}
theorem Fr.drew (h : Fr enc ok size bytes w l x) : Fr enc ok size bytes w.drew l x := h
theorem Fr.alloc {o : Obj} (h : Fr enc ok size bytes w l x) : Fr enc ok size bytes (w.alloc o) l x := by
  obtain ⟨T, hT, r⟩ := h
  exact ⟨T, hT.trans (Sub.upto (by simp)), r.keep Flat.keeps (Sub.refl _) ((Same.refl _ _).alloc hT o)⟩
theorem Fr.via (hb : Below w.heap.size w w') (h : Fr enc ok size bytes w l x) : Fr enc ok size bytes w' l x := by
  obtain ⟨T, hT, r⟩ := h
  exact ⟨T, hT.trans (Sub.upto hb.size), r.go Flat.keeps hb hT (Sub.refl _)⟩
theorem Fr.form (h : Fr enc ok size bytes w l x) : ∃ A cap, x = .slice A l.length cap ∧ l.length ≤ cap ∧ cap ≤ maxLen ∧ l.length * bytes ≤ 140737488355328 := by
  obtain ⟨T, hT, r⟩ := h
  exact r.form
theorem Fr.of {T : Blocks} (h : RdL (Flat enc ok) size bytes w T l x) (hT : Sub T (Upto w.heap.size)) : Fr enc ok size bytes w l x := ⟨T, hT, h⟩
theorem Fr.nil {A : Option Addr} {cap : Nat} (hc : cap ≤ maxLen) : Fr enc ok size bytes w [] (.slice A 0 cap) := ⟨Nowhere, Sub.nowhere _, RdL.nil hc⟩
theorem AppL.drew (h : AppL enc ok size E w base l x) : AppL enc ok size E w.drew base l x := h.imp (fun h => h.keep Flat.keeps (Below.refl _ _).drew) id
theorem AppL.alloc {o : Obj} (h : AppL enc ok size E w base l x) : AppL enc ok size E (w.alloc o) base l x := h.imp (fun h => h.keep Flat.keeps ((Below.refl _ _).alloc (Nat.le_refl _) _)) id
theorem AppL.via (hb : Below w.heap.size w w') (h : AppL enc ok size E w base l x) : AppL enc ok size E w' base l x := h.imp (fun h => h.keep Flat.keeps hb) id
theorem AppL.form (h : AppL enc ok size E w base l x) : ∃ A cap, x = .slice A l.length cap := by
  rcases h with h | ⟨rfl, A, rfl⟩
  · exact h.form
  · exact ⟨A, 0, rfl⟩
theorem AppL.toRd {S' : Blocks} (h : AppL enc ok size E w base l x) (hb : l.length * bytes ≤ 140737488355328) (hB : ∀ b, base ≤ b → b < w.heap.size → S' b) : RdL (Flat enc ok) size bytes w S' l x := by
  rcases h with h | ⟨rfl, A, rfl⟩
  · exact h.toRd Flat.keeps hb (Sub.nowhere _) hB
  · exact RdL.nil (by simp [maxLen])
theorem AppL.zero (w : World) (base : Nat) (A : Option Addr) : AppL enc ok size E w base [] (.slice A 0 0) := .inr ⟨rfl, A, rfl⟩
end
section
variable {P : Program} {α : Type} {enc : α → List Value} {ok : α → Prop} {size bytes : Nat} {E : TypeId} {w : World} {base : Nat} {l m : List α} {v : Value} {A : Option Addr} {n c : Nat}
theorem run_append_zero (t ty : TypeId) (i : TypeInfo) (z : Value) (ht : P.underlying t = some (.slice E)) (hi : P.info? E = some i) (hz : i.zero = some z) (hsize : i.size = size) (hby : i.bytes = bytes) (hzs : z.cells.size = size) (hsz : 0 < size)
    (A0 : Option Addr) (hx : Fr enc ok size bytes w m (.slice A n c)) (h1 : ∀ e, ok e → ∀ u ∈ enc e, u.oneCell' = true) (hbase : base ≤ w.heap.size) :
    ∃ v' w', (Builtin.append_ #[t, t] ty #[.slice A0 0 0, .slice A n c]).run P w = .ok v' w' ∧ AppL enc ok size E w' base m v' ∧ Below w.heap.size w w' := by
  obtain ⟨T, hT, r⟩ := hx
  obtain ⟨A', cap', hv, hl, hcm, hb⟩ := r.form
  injection hv with e1 e2 e3
  subst e1 e2 e3
  rcases Nat.eq_zero_or_pos m.length with h0 | h0
  · have hm : m = [] := List.eq_nil_of_length_eq_zero h0
    subst hm
    have hst : ∀ (A0 A1 : Option Addr), (Builtin.append_ #[t, t] ty #[.slice A0 0 0, .slice A1 0 c]).run P w = .ok (.slice A0 0 0) w := by
      intro A0 A1
      cases A0 <;> cases A1 <;> simp [Builtin.append_, run_underlying ht, sizeOf, typeInfo, hi, Builtin.lenOf, Builtin.firstCells, loadCells, loadCellsFrom, storeCells]
    exact ⟨_, _, hst A0 A, AppL.zero _ _ _, Below.refl _ _⟩
  · have hnil : ∃ v' w', (Builtin.append_ #[t, t] ty #[.slice none 0 0, .slice A m.length c]).run P w = .ok v' w' ∧ OwnL (Flat enc ok) size E w' base Nowhere ([] ++ m) v' ∧ w.grownBy w' none := by
      obtain ⟨v', w', hr, h2, h3, h4⟩ := run_append_list (P := P) (rd := Flat enc ok) (S := Nowhere) (Tx := Nowhere) (U := T) (l := []) (v := .slice none 0 0) (m := m) (A := A) (n := m.length) (c := c) t ty i z ht hi hz hsize hby hzs hsz Flat.keeps (OwnL.nil w base Nowhere) (r.bare _) (Sub.nowhere _) (Sub.nowhere _) not_nowhere
        (fun e cs h u hu => by obtain ⟨rfl, hok⟩ := h; exact h1 e hok u hu) (by simp; omega) (by simpa using hb) hbase
      exact ⟨v', w', hr, h2, h3⟩
    obtain ⟨v', w', hr, h2, h3⟩ := hnil
    have hbel : Below w.heap.size w w' := ⟨h3.os, h3.tape, h3.output, h3.size, fun k hk => h3.block k hk (by simp)⟩
    have hrun : (Builtin.append_ #[t, t] ty #[.slice A0 0 0, .slice A m.length c]).run P w = .ok v' w' := by
      cases A0 with
      | none => exact hr
      | some a0 => rw [run_append_cap0 w t ty E i ht hi a0 A m.length c h0 (by rw [hby]; omega)]; exact hr
    exact ⟨v', w', hrun, .inl (by simpa using h2), hbel⟩
/-- onto an empty slice without room: what was there is as it was -/
theorem step_append_zero {ops : Array Oper} {o : Oper} {a : Act} {K : Act → World → Prop} {Q : Exit → Act → World → Prop} {Z : Prop} (hgd : o.guard = none) (s y : Operand) (t : TypeId) (ho : o.op = .call { callee := .builtin .append, args := #[s, y], argTypes := #[t, t] })
    (A0 : Option Addr) (hs : a.eval s = .slice A0 0 0) (hy : a.eval y = .slice A n c)
    (i : TypeInfo) (z : Value) (ht : P.underlying t = some (.slice E)) (hi : P.info? E = some i) (hz : i.zero = some z) (hsize : i.size = size) (hby : i.bytes = bytes) (hzs : z.cells.size = size) (hsz : 0 < size)
    (h1 : ∀ e, ok e → ∀ u ∈ enc e, u.oneCell' = true) (hx : Fr enc ok size bytes w m (.slice A n c)) (hbase : base ≤ w.heap.size)
    (h : ∀ v' w', AppL enc ok size E w' base m v' → Below w.heap.size w w' → K (a.put o.dst v') w') :
    if Region.wanted o (yielded ops a.tmps) = true then Oper.wp P o a w K Q else Z := by
  have hw : Region.wanted o (yielded ops a.tmps) = true := by simp [Region.wanted, hgd]
  rw [if_pos hw]
  obtain ⟨v', w', hrun, h2, h3⟩ := run_append_zero (P := P) (base := base) t o.type i z ht hi hz hsize hby hzs hsz A0 hx h1 hbase
  unfold Oper.wp execOp
  simp only [ho, resolve, invoke, builtin, Sem.run_bind, Sem.run_pure, Result.andThen_ok, List.map_toArray, List.map_cons, List.map_nil, hs, hy, hrun]
  exact h v' w' h2 h3
/-- onto what may be appended to -/
theorem step_append_app {ops : Array Oper} {o : Oper} {a : Act} {K : Act → World → Prop} {Q : Exit → Act → World → Prop} {Z : Prop} (hgd : o.guard = none) (s y : Operand) (t : TypeId) (ho : o.op = .call { callee := .builtin .append, args := #[s, y], argTypes := #[t, t] })
    (hs : a.eval s = v) (hy : a.eval y = .slice A n c)
    (i : TypeInfo) (z : Value) (ht : P.underlying t = some (.slice E)) (hi : P.info? E = some i) (hz : i.zero = some z) (hsize : i.size = size) (hby : i.bytes = bytes) (hzs : z.cells.size = size) (hsz : 0 < size)
    (h1 : ∀ e, ok e → ∀ u ∈ enc e, u.oneCell' = true) (hx : Fr enc ok size bytes w m (.slice A n c)) (hv : AppL enc ok size E w base l v) (hbase : base ≤ w.heap.size) (hbytes : (l.length + m.length) * bytes ≤ 140737488355328) (h63 : l.length + m.length ≤ maxLen)
    (h : ∀ v' w', AppL enc ok size E w' base (l ++ m) v' → Below base w w' → K (a.put o.dst v') w') :
    if Region.wanted o (yielded ops a.tmps) = true then Oper.wp P o a w K Q else Z := by
  rcases hv with hv | ⟨rfl, A0, rfl⟩
  · obtain ⟨T, hT, r⟩ := hx
    refine step_append_list hgd s y t ho hs hy i z ht hi hz hsize hby hzs hsz Flat.keeps (r.bare Nowhere) hv (Sub.nowhere _) (Sub.nowhere _) not_nowhere (fun e cs h u hu => by obtain ⟨rfl, hok⟩ := h; exact h1 e hok u hu) h63 hbytes hbase ?_
    intro v' w' h2 h3 h4
    exact h v' w' (.inl h2) ⟨h3.os, h3.tape, h3.output, h3.size, fun k hk => h3.block k (by omega) (fun e => by have := (hv.lt k e.symm).1; omega)⟩
  · refine step_append_zero hgd s y t ho A0 hs hy i z ht hi hz hsize hby hzs hsz h1 hx hbase ?_
    intro v' w' h2 h3
    exact h v' w' h2 (h3.mono hbase)
end
end Go.Proofs.Ytbpooepbnnbipaa
