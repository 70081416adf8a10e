/- Words for a region in which a row grows while other rows are made; the reference's lfree. -/
import Derived.Test.YtdelngmbpjgphaaSc9
namespace Go.Proofs.Ytdelngmbpjgphaa
open Go.RowKit
set_option linter.unusedVariables false
theorem oneS' : ∀ e : Str, okS e → ∀ u ∈ encS e, u.oneCell' = true := by
  intro e _ u hu
  simp only [encS, List.mem_singleton] at hu
  subst hu; rfl
/-- x reads as l, in blocks that are not from p up to q -/
def FrR (p q : Nat) (w : World) (l : List Str) (x : Value) : Prop := ∃ T, Sub T (Upto w.heap.size) ∧ (∀ k, T k → k < p ∨ q ≤ k) ∧ RdSs w T l x
/-- v may be appended to: empty without room, or a row of its own from p up to q -/
def AppM (n0 p q : Nat) (w : World) (l : List Str) (v : Value) : Prop := n0 ≤ p ∧ p ≤ w.heap.size ∧ ((l = [] ∧ ∃ A, v = .slice A 0 0) ∨ (OwnSs 9 w p Nowhere l v ∧ ∀ k, v.ownBlock = some k → k < q))
section
variable {p q : Nat} {w w' : World} {l m : List Str} {x v : Value}
theorem FrR.drew (h : FrR p q w l x) : FrR p q w.drew l x := h
theorem FrR.alloc {o : Obj} (h : FrR p q w l x) : FrR p q (w.alloc o) l x := by
  obtain ⟨T, hT, hn, r⟩ := h
  exact ⟨T, hT.trans (Sub.upto (by simp)), hn, r.keep Flat.keeps (Sub.refl _) ((Same.refl _ _).alloc hT o)⟩
theorem FrR.via (hb : Below w.heap.size w w') (h : FrR p q w l x) : FrR p q w' l x := by
  obtain ⟨T, hT, hn, r⟩ := h
  exact ⟨T, hT.trans (Sub.upto hb.size), hn, r.go Flat.keeps hb hT (Sub.refl _)⟩
theorem FrR.old (q : Nat) (h : FrS w l x) : FrR w.heap.size q w l x := by
  obtain ⟨T, hT, r⟩ := h
  exact ⟨T, hT, fun k hk => .inl (hT k hk), r⟩
theorem FrR.new {n : Nat} (p : Nat) (h : RdSs w (Plus Nowhere n w.heap.size) l x) (hq : q ≤ n) : FrR p q w l x :=
  ⟨_, Sub.plus_upto (Sub.nowhere _), fun k hk => .inr (by rcases hk with hk | hk; exact hk.elim; omega), h⟩
theorem FrR.but (h : FrR p q w l x) (hb : But (fun k => p ≤ k ∧ k < q) w w') : FrS w' l x := by
  obtain ⟨T, hT, hn, r⟩ := h
  exact ⟨T, hT.trans (Sub.upto hb.size), r.keep Flat.keeps (Sub.refl _) (hb.same hT (fun k hk hh => by have := hn k hk; omega))⟩
theorem AppM.of {n0 : Nat} (h : AppL encS okS 1 9 w p l v) (hn : n0 ≤ p) (hp : p ≤ w.heap.size) : AppM n0 p w.heap.size w l v := ⟨hn, hp, h.elim (fun h => .inr ⟨h, fun k hk => (h.lt k hk).2⟩) .inl⟩
theorem AppM.drew {n0 : Nat} (h : AppM n0 p q w l v) : AppM n0 p q w.drew l v := ⟨h.1, h.2.1, h.2.2.imp id (fun h => ⟨h.1.keep Flat.keeps (Below.refl _ _).drew, h.2⟩)⟩
theorem AppM.alloc {n0 : Nat} {o : Obj} (h : AppM n0 p q w l v) : AppM n0 p q (w.alloc o) l v := ⟨h.1, Nat.le_trans h.2.1 (by simp), h.2.2.imp id (fun h => ⟨h.1.keep Flat.keeps ((Below.refl _ _).alloc (Nat.le_refl _) _), h.2⟩)⟩
theorem AppM.via {n0 : Nat} (hb : Below w.heap.size w w') (h : AppM n0 p q w l v) : AppM n0 p q w' l v := ⟨h.1, Nat.le_trans h.2.1 hb.size, h.2.2.imp id (fun h => ⟨h.1.keep Flat.keeps hb, h.2⟩)⟩
theorem AppM.top {n0 : Nat} (h : AppM n0 p q w l v) : AppM n0 p w.heap.size w l v := ⟨h.1, h.2.1, h.2.2.imp id (fun h => ⟨h.1, fun k hk => (h.1.lt k hk).2⟩)⟩
theorem AppM.form {n0 : Nat} (h : AppM n0 p q w l v) : ∃ A cap, v = .slice A l.length cap := by
  rcases h.2.2 with ⟨rfl, A, rfl⟩ | h
  · exact ⟨A, 0, rfl⟩
  · exact h.1.form
theorem AppL.fr (h : AppL encS okS 1 9 w p l v) (hb : l.length * 16 ≤ 140737488355328) : FrS w l v :=
  ⟨Plus Nowhere p w.heap.size, Sub.plus_upto (Sub.nowhere _), h.toRd hb (fun b h1 h2 => .inr ⟨h1, h2⟩)⟩
theorem frS_new (w : World) {s : Str} (hs : okS s) {g : Nat} (hg : w.heap.size = g) : FrS (w.alloc (.cells #[.string s] 9)) [s] (.slice (some ⟨g, 0, none⟩) 1 1) := by
  subst hg
  exact ⟨Is w.heap.size, fun b hb => by unfold Is at hb; subst hb; simp [Upto], rdS_one (by simp) hs rfl⟩
end
section
variable {w : World} {l m lm : List Str} {v xm : Value} {A : Option Addr} {n c : Nat}
theorem step_append_m {ops : Array Oper} {o : Oper} {a : Act} {K : Act → World → Prop} {Q : Exit → Act → World → Prop} {Z : Prop} (hgd : o.guard = none) (s y : Operand) (ho : o.op = .call { callee := .builtin .append, args := #[s, y], argTypes := #[69, 69] })
    (hs : a.eval s = v) (hy : a.eval y = .slice A n c)
    (n0 p q : Nat) (hv : AppM n0 p q w l v) (hx : FrS w m (.slice A n c)) (hlen : l.length + m.length ≤ 1073741824)
    (h : ∀ v' w', AppL encS okS 1 9 w' p (l ++ m) v' → FrS w' (l ++ m) v' → Below n0 w w' → But (fun k => p ≤ k ∧ k < q) w w' → K (a.put o.dst v') w') :
    if Region.wanted o (yielded ops a.tmps) = true then Oper.wp Try.prog o a w K Q else Z := by
  obtain ⟨i0, hi, hz0, hz1, hz2⟩ := info_parts infoStr
  have hl : (l ++ m).length * 16 ≤ 140737488355328 := by rw [List.length_append]; omega
  obtain ⟨hn0, hbase, hv⟩ := hv
  rcases hv with ⟨rfl, A0, rfl⟩ | ⟨hv, hq⟩
  · refine step_append_zero hgd s y 69 ho A0 hs hy i0 _ Try.underlying69 hi hz0 hz1 hz2 rfl (by decide) oneS' hx hbase ?_
    intro v' w' h2 h3
    exact h v' w' h2 (AppL.fr h2 hl) (h3.mono (Nat.le_trans hn0 hbase)) (But.of_below h3)
  · obtain ⟨T, hT, r⟩ := hx
    refine step_append_list hgd s y 69 ho hs hy i0 _ Try.underlying69 hi hz0 hz1 hz2 rfl (by decide) Flat.keeps (r.bare Nowhere) hv (Sub.nowhere _) (Sub.nowhere _) not_nowhere oneS (by unfold maxLen; omega) (by omega) hbase ?_
    intro v' w' h2 h3 h4
    exact h v' w' (.inl h2) (AppL.fr (.inl h2) hl) ⟨h3.os, h3.tape, h3.output, h3.size, fun k hk => h3.block k (by omega) (fun e => by have := (hv.lt k e.symm).1; omega)⟩
      ⟨h3.os, h3.tape, h3.output, h3.size, fun k hk ht => h3.block k hk (fun e => ht ⟨(hv.lt k e.symm).1, hq k e.symm⟩)⟩
theorem step_append_x {ops : Array Oper} {o : Oper} {a : Act} {K : Act → World → Prop} {Q : Exit → Act → World → Prop} {Z : Prop} (hgd : o.guard = none) (s y : Operand) (ho : o.op = .call { callee := .builtin .append, args := #[s, y], argTypes := #[69, 69] })
    (hs : a.eval s = v) (hy : a.eval y = .slice A n c)
    (n0 p q : Nat) (x : Str) (hv : AppM n0 p q w l v) (hx : FrS w [x] (.slice A n c)) (hlen : l.length + 1 ≤ 1073741824)
    (h : ∀ A' c' w', FrS w' (l ++ [x]) (.slice A' (l.length + 1) c') → Below n0 w w' → But (fun k => p ≤ k ∧ k < q) w w' → K (a.put o.dst (.slice A' (l.length + 1) c')) w') :
    if Region.wanted o (yielded ops a.tmps) = true then Oper.wp Try.prog o a w K Q else Z :=
  step_append_m hgd s y ho hs hy n0 p q hv hx hlen fun v' w' h1 h2 h3 h4 => by
    obtain ⟨A', c', rfl⟩ := h1.form
    have e : (l ++ [x]).length = l.length + 1 := by simp
    rw [e] at h2 ⊢
    exact h A' c' w' h2 h3 h4
theorem step_append_x2 {ops : Array Oper} {o : Oper} {a : Act} {K : Act → World → Prop} {Q : Exit → Act → World → Prop} {Z : Prop} (hgd : o.guard = none) (s y : Operand) (ho : o.op = .call { callee := .builtin .append, args := #[s, y], argTypes := #[69, 69] })
    (hs : a.eval s = v) (hy : a.eval y = .slice A n c)
    (n0 p q : Nat) (x : Str) (hm : FrR p q w lm xm) (hv : AppM n0 p q w l v) (hx : FrS w [x] (.slice A n c)) (hlen : l.length + 1 ≤ 1073741824)
    (h : ∀ A' c' w', FrS w' lm xm → FrS w' (l ++ [x]) (.slice A' (l.length + 1) c') → Below n0 w w' → K (a.put o.dst (.slice A' (l.length + 1) c')) w') :
    if Region.wanted o (yielded ops a.tmps) = true then Oper.wp Try.prog o a w K Q else Z :=
  step_append_x hgd s y ho hs hy n0 p q x hv hx hlen fun A' c' w' h2 h3 h4 => h A' c' w' (hm.but h4) h2 h3
/-- onto an empty literal -/
theorem step_append_0 {ops : Array Oper} {o : Oper} {a : Act} {K : Act → World → Prop} {Q : Exit → Act → World → Prop} {Z : Prop} (hgd : o.guard = none) (s y : Operand) (ho : o.op = .call { callee := .builtin .append, args := #[s, y], argTypes := #[69, 69] })
    (A0 : Option Addr) (hs : a.eval s = .slice A0 0 0) (hy : a.eval y = .slice A n c) (n0 : Nat) (hx : FrS w m (.slice A n c)) (hn : n0 ≤ w.heap.size)
    (h : ∀ v' w' p q, AppM n0 p q w' m v' → Below w.heap.size w w' → K (a.put o.dst v') w') :
    if Region.wanted o (yielded ops a.tmps) = true then Oper.wp Try.prog o a w K Q else Z := by
  obtain ⟨i0, hi, hz0, hz1, hz2⟩ := info_parts infoStr
  refine step_append_zero hgd s y 69 ho A0 hs hy i0 _ Try.underlying69 hi hz0 hz1 hz2 rfl (by decide) oneS' hx (base := n0) hn ?_
  intro v' w' h2 h3
  exact h v' w' _ _ (AppM.of h2 (Nat.le_refl _) (Nat.le_trans hn h3.size)) h3
theorem step_append_02 {ops : Array Oper} {o : Oper} {a : Act} {K : Act → World → Prop} {Q : Exit → Act → World → Prop} {Z : Prop} (hgd : o.guard = none) (s y : Operand) (ho : o.op = .call { callee := .builtin .append, args := #[s, y], argTypes := #[69, 69] })
    (A0 : Option Addr) (hs : a.eval s = .slice A0 0 0) (hy : a.eval y = .slice A n c) (n0 : Nat) (hm : FrS w lm xm) (hx : FrS w m (.slice A n c)) (hn : n0 ≤ w.heap.size)
    (h : ∀ v' w' p q, FrR p q w' lm xm → AppM n0 p q w' m v' → Below w.heap.size w w' → K (a.put o.dst v') w') :
    if Region.wanted o (yielded ops a.tmps) = true then Oper.wp Try.prog o a w K Q else Z := by
  obtain ⟨i0, hi, hz0, hz1, hz2⟩ := info_parts infoStr
  refine step_append_zero hgd s y 69 ho A0 hs hy i0 _ Try.underlying69 hi hz0 hz1 hz2 rfl (by decide) oneS' hx (base := w.heap.size) (Nat.le_refl _) ?_
  intro v' w' h2 h3
  exact h v' w' _ _ (FrR.via h3 (FrR.old w'.heap.size hm)) (AppM.of h2 hn h3.size) h3
end
theorem merge_own (n0 p q : Nat) {B : List Str} {V : Value} (a b : List Str) (w : World) (v u : Value) (ho : AppM n0 p q w B V) (r0 : FrS w a v) (r1 : FrS w b u) (hlen : a.length + b.length ≤ 1073741824) :
    Calls Try.prog 72 #[v, u] w fun e w' => ∃ x q', e = .returned x ∧ FrR p q' w' (merge a b) x ∧ AppM n0 p q' w' B V ∧ Below w.heap.size w w' := by
  refine (merge_new a b w v u r0 r1 hlen).mono ?_
  rintro e w' ⟨x, rfl, h, hb⟩
  exact ⟨x, _, rfl, FrR.new p h (Nat.le_refl _), AppM.via hb ho.top, hb⟩
def LFs (l : List St) : Prop := ∀ (B : List Str) (w : World) (S : Blocks) (v u : Value), Sub S (Upto w.heap.size) → RdSts w S l v → FrS w B u → St.wts l ≤ 1048576 → B.length + St.wts l ≤ 1073741824 →
  Calls Try.prog 56 #[v, u] w fun e w' => ∃ x, e = .returned x ∧ FrS w' (lfree l B) x ∧ Below w.heap.size w w'
theorem lfs_nil : LFs [] := by
  intro B w S v u hS r hu hwl hB
  obtain ⟨A, cap, rfl, _⟩ := r.form
  clear r hu
  go_enter Try.func56, Try.ntmps56
  go_wp2
  go_ret
  exact ⟨_, rfl, by rw [lfree]; exact Fr.nil (by simp [maxLen]), Below.refl _ _⟩
end Go.Proofs.Ytdelngmbpjgphaa
