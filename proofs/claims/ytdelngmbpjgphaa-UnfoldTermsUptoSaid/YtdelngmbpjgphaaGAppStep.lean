/- Texts merged: NtSpec, But, Blk, RdT, AppStep. -/
import Derived.Test.YtdelngmbpjgphaaUnSpec
import Derived.Test.YtdelngmbpjgphaaFlat
import Derived.Test.YtdelngmbpjgphaaGScSpec
import Derived.Deep.AppendLies
/- Marks in a row, and the term that is read of them. -/
namespace Go.Proofs.Ytdelngmbpjgphaa
set_option linter.unusedVariables false
structure NM where
  kind : Int
  a : Acc
def acc0 : Acc := ⟨0, false, 0⟩
mutual
def flat1 : Mk → List NM
  | .acc a => [⟨1, a⟩]
  | .par l => ⟨2, acc0⟩ :: (flatL l ++ [⟨4, acc0⟩])
  | .fin l => ⟨3, acc0⟩ :: (flatL l ++ [⟨4, acc0⟩])
def flatL : List Mk → List NM
  | [] => []
  | m :: r => flat1 m ++ flatL r
end
theorem flatL_nil : flatL [] = [] := by rw [flatL]
theorem flatL_cons (m : Mk) (r : List Mk) : flatL (m :: r) = flat1 m ++ flatL r := by rw [flatL]
theorem flat_acc (a : Acc) : flat1 (.acc a) = [⟨1, a⟩] := by rw [flat1]
theorem flat_par (l : List Mk) : flat1 (.par l) = ⟨2, acc0⟩ :: (flatL l ++ [⟨4, acc0⟩]) := by rw [flat1]
theorem flat_fin (l : List Mk) : flat1 (.fin l) = ⟨3, acc0⟩ :: (flatL l ++ [⟨4, acc0⟩]) := by rw [flat1]
theorem flatL_app (a b : List Mk) : flatL (a ++ b) = flatL a ++ flatL b := by
  induction a with
  | nil => rw [List.nil_append, flatL_nil, List.nil_append]
  | cons m r ih => rw [List.cons_append, flatL_cons, flatL_cons, ih, List.append_assoc]
/-- the marks of one within, by its kind -/
def wrapM (p : Int) (l : List Mk) : Mk := if p = 2 then .par l else .fin l
def flatN (ms : List Mk) : List NM := flatL ms
/-- the end of what marks are in -/
def endN : List NM → Prop
  | [] => True
  | m :: _ => m.kind = 4
end Go.Proofs.Ytdelngmbpjgphaa
/- Worlds that differ in a few old blocks only. -/
namespace Go.Proofs.Ytdelngmbpjgphaa
open Go.RowKit
set_option linter.unusedVariables false
/-- all that was there is as it was, but for the blocks of T -/
structure But (T : Blocks) (w w' : World) : Prop where
  os : w'.os = w.os
  tape : w'.tape = w.tape
  output : w'.output = w.output
  size : w.heap.size ≤ w'.heap.size
  block : ∀ k, k < w.heap.size → ¬ T k → w'.heap[k]? = w.heap[k]?
def Is (b : Nat) : Blocks := fun k => k = b
def Is2 (b c : Nat) : Blocks := fun k => k = b ∨ k = c
theorem But.refl (T : Blocks) (w : World) : But T w w := ⟨rfl, rfl, rfl, Nat.le_refl _, fun _ _ _ => rfl⟩
theorem But.trans {T : Blocks} {a b c : World} (h : But T a b) (k : But T b c) : But T a c :=
  ⟨k.os.trans h.os, k.tape.trans h.tape, k.output.trans h.output, Nat.le_trans h.size k.size, fun i hi ht => (k.block i (Nat.lt_of_lt_of_le hi h.size) ht).trans (h.block i hi ht)⟩
theorem But.sub {T U : Blocks} {a b : World} (h : But T a b) (hs : Sub T U) : But U a b := ⟨h.os, h.tape, h.output, h.size, fun k hk ht => h.block k hk (fun e => ht (hs _ e))⟩
theorem But.drewN {T : Blocks} {a b : World} (h : But T a b) (n : Nat) : But T a (b.drewN n) := ⟨h.os, h.tape, h.output, h.size, h.block⟩
theorem But.drew {T : Blocks} {a b : World} (h : But T a b) : But T a b.drew := ⟨h.os, h.tape, h.output, h.size, h.block⟩
theorem But.of_below {T : Blocks} {a b : World} (h : Below a.heap.size a b) : But T a b := ⟨h.os, h.tape, h.output, h.size, fun k hk _ => h.block k hk⟩
theorem But.alloc {T : Blocks} {a b : World} (h : But T a b) (o : Obj) : But T a (b.alloc o) := h.trans (.of_below ((Below.refl _ _).alloc (Nat.le_refl _) _))
theorem But.setCell {T : Blocks} {a b : World} (h : But T a b) {p : Addr} (hp : T p.block) (u : Value) : But T a (b.setCell p u) :=
  h.trans ⟨rfl, rfl, rfl, by simp [World.setCell], fun k hk ht => by
    have hne : p.block ≠ k := fun e => ht (e ▸ hp)
    simp [World.setCell, Array.getElem?_modify, hne]⟩
theorem But.setNew {T : Blocks} {a b : World} (h : But T a b) {p : Addr} (hp : T p.block ∨ a.heap.size ≤ p.block) (u : Value) : But T a (b.setCell p u) :=
  ⟨h.os, h.tape, h.output, by rw [size_setCell]; exact h.size, fun k hk ht => by
    have hne : p.block ≠ k := fun e => hp.elim (fun h => ht (e ▸ h)) (fun h => by omega)
    have h2 : (b.setCell p u).heap[k]? = b.heap[k]? := by simp [World.setCell, Array.getElem?_modify, hne]
    exact h2.trans (h.block k hk ht)⟩
/-- blocks of T that are all younger than B -/
theorem But.below {T : Blocks} {B : Nat} {a b : World} (h : But T a b) (hB : B ≤ a.heap.size) (hT : ∀ k, T k → B ≤ k) : Below B a b :=
  ⟨h.os, h.tape, h.output, h.size, fun k hk => h.block k (by omega) (fun e => by have := hT k e; omega)⟩
theorem But.cell {T : Blocks} {w w' : World} (h : But T w w') {p : Addr} {v : Value} (hT : ¬ T p.block) (hc : w.cell? p = some v) : w'.cell? p = some v := by
  have hlt : p.block < w.heap.size := World.block_lt_of_cell? w _ hc
  rw [World.cell?_of_block (h.block _ hlt hT)]; exact hc
theorem But.same {T S : Blocks} {w w' : World} (h : But T w w') (hS : Sub S (Upto w.heap.size)) (hT : ∀ k, S k → ¬ T k) : Same S w w' :=
  fun p hp => World.cell?_of_block (h.block _ (hS _ hp) (hT _ hp))
theorem frozen_of_block {w w' : World} {b o : Nat} {sp : Option Nat} (h : w'.heap[b]? = w.heap[b]?) : w'.frozen? ⟨b, o, sp⟩ = w.frozen? ⟨b, o, sp⟩ := by
  simp only [World.frozen?, h]
/-- a flat row of the call's own, while others' blocks turn -/
theorem OwnL.but {α : Type} {enc : α → List Value} {ok : α → Prop} {size : Nat} {E : TypeId} {w w' : World} {base : Nat} {S T : Blocks} {l : List α} {v : Value} (h : OwnL (Flat enc ok) size E w base S l v) (hb : But T w w') (hT : ∀ k, v.ownBlock = some k → ¬ T k) : OwnL (Flat enc ok) size E w' base S l v := by
  obtain ⟨U, css, t1, t2, t3, h1, h2, h3, h4⟩ := h
  refine ⟨U, css, t1, t2.lift hb.size, t3, h1, h2, ?_, h4⟩
  obtain ⟨e, h3⟩ := h3
  refine ⟨e, ?_⟩
  rcases h3 with h3 | ⟨g, cap, cur, rfl, hbg, hg, hn, hcap, hsz, htake⟩
  · exact .inl h3
  · refine .inr ⟨g, cap, cur, rfl, hbg, ?_, hn, hcap, hsz, htake⟩
    rw [hb.block g (Array.getElem?_eq_some_iff.1 hg).1 (hT g rfl)]; exact hg
theorem But.of_grown {w w' : World} {row : Option Nat} (h : w.grownBy w' row) : But (fun k => row = some k) w w' :=
  ⟨h.os, h.tape, h.output, h.size, fun k hk ht => h.block k hk (fun e => ht e.symm)⟩
end Go.Proofs.Ytdelngmbpjgphaa
/- A block of the call's own, known cell by cell. -/
namespace Go.Proofs.Ytdelngmbpjgphaa
open Go.RowKit
set_option linter.unusedVariables false
/-- block b, from base on, holds the cells vs, and may be written -/
structure Blk (base : Nat) (w : World) (b : Nat) (vs : List Value) : Prop where
  ge : base ≤ b
  lt : b < w.heap.size
  cell : ∀ (q : Nat) v, vs[q]? = some v → w.cell? ⟨b, q, none⟩ = some v
  fr : ∀ o, w.frozen? ⟨b, o, none⟩ = false
section
variable {base : Nat} {w w' : World} {b : Nat} {vs : List Value}
theorem Blk.but {T : Blocks} (r : Blk base w b vs) (h : But T w w') (ht : ¬ T b) : Blk base w' b vs :=
  ⟨r.ge, Nat.lt_of_lt_of_le r.lt h.size, fun q v hq => h.cell ht (r.cell q v hq), fun o => (frozen_of_block (h.block _ r.lt ht)).trans (r.fr o)⟩
theorem Blk.below (r : Blk base w b vs) (h : Below w.heap.size w w') : Blk base w' b vs := r.but (T := Nowhere) (But.of_below h) (fun h => h)
theorem Blk.drewN (r : Blk base w b vs) (n : Nat) : Blk base (w.drewN n) b vs := ⟨r.ge, r.lt, r.cell, r.fr⟩
theorem Blk.drew (r : Blk base w b vs) : Blk base w.drew b vs := ⟨r.ge, r.lt, r.cell, r.fr⟩
theorem Blk.set (r : Blk base w b vs) {i : Nat} (hi : i < vs.length) (x : Value) : Blk base (w.setCell ⟨b, i, none⟩ x) b (vs.set i x) := by
  refine ⟨r.ge, by rw [size_setCell]; exact r.lt, fun q v hq => ?_, fun o => by rw [World.frozen?_setCell]; exact r.fr o⟩
  rw [List.getElem?_set] at hq
  by_cases e : i = q
  · subst e
    rw [if_pos rfl, if_pos hi] at hq
    injection hq with hq; subst hq
    exact World.cell?_setCell_same' _ _ _ (by rw [r.cell i vs[i] (List.getElem?_eq_getElem hi)]; rfl)
  · rw [if_neg e] at hq
    rw [World.cell?_setCell_other _ _ _ _ (fun h => e (by injection h with _ h))]
    exact r.cell q v hq
theorem Blk.other (r : Blk base w b vs) {p : Addr} (hp : p.block ≠ b) (x : Value) : Blk base (w.setCell p x) b vs := by
  refine ⟨r.ge, by rw [size_setCell]; exact r.lt, fun q v hq => ?_, fun o => by rw [World.frozen?_setCell]; exact r.fr o⟩
  rw [World.cell?_setCell_other _ _ _ _ (fun h => hp (by rw [h]))]
  exact r.cell q v hq
theorem Blk.made (w : World) (vs : List Value) (E : TypeId) {base : Nat} (hb : base ≤ w.heap.size) : Blk base (w.alloc (.cells vs.toArray E)) w.heap.size vs := by
  have h := heap_alloc_new w (.cells vs.toArray E)
  refine ⟨hb, by simp, fun q v hq => ?_, fun o => ?_⟩
  · unfold World.cell?
    simp only [h]
    simpa using hq
  · unfold World.frozen?
    simp only [h]
    simp
theorem Blk.rebase (r : Blk base w b vs) {base' : Nat} (h : base' ≤ base) : Blk base' w b vs := ⟨Nat.le_trans h r.ge, r.lt, r.cell, r.fr⟩
end
/-- the same, for a row of one cell an element -/
theorem Blk.mapAt {α : Type} {f : α → Value} {base : Nat} {w : World} {b : Nat} {l : List α} (r : Blk base w b (l.map f)) {q : Nat} {x : α} (h : l[q]? = some x) : w.cell? ⟨b, q, none⟩ = some (f x) :=
  r.cell q _ (by rw [List.getElem?_map, h]; rfl)
theorem Blk.mapSet {α : Type} {f : α → Value} {base : Nat} {w : World} {b : Nat} {l : List α} (r : Blk base w b (l.map f)) {q : Nat} (hq : q < l.length) (x : α) : Blk base (w.setCell ⟨b, q, none⟩ (f x)) b ((l.set q x).map f) := by
  rw [List.map_set]
  exact r.set (by simpa using hq) _
theorem Blk.madeN (w : World) (n : Nat) (v : Value) (E : TypeId) {base : Nat} (hb : base ≤ w.heap.size) : Blk base (w.alloc (.cells (Array.replicate n v) E)) w.heap.size (List.replicate n v) := by
  have := Blk.made w (List.replicate n v) E hb
  simpa using this
end Go.Proofs.Ytdelngmbpjgphaa
/- Words for a term that is a value. -/
namespace Go.Proofs.Ytdelngmbpjgphaa
open Go.RowKit
set_option linter.unusedVariables false
abbrev tmV (k c : Int) (wr : Bool) (lb : Int) (v : Value) : Value := .agg #[.int .i64 k, .int .i64 c, .bool wr, .int .i64 lb, v]
/-- the value V reads as the term t -/
def RdT (w : World) (S : Blocks) (t : Tm) (V : Value) : Prop := ∃ k c wr lb kids v, t = .mk k c wr lb kids ∧ V = tmV k c wr lb v ∧ inI k ∧ inI c ∧ inI lb ∧ RdTms w S kids v
theorem RdT.keep {w w' : World} {S S' : Blocks} {t : Tm} {V : Value} (h : RdT w S t V) (hS : Sub S S') (hk : Same S w w') : RdT w' S' t V := by
  obtain ⟨k, c, wr, lb, kids, v, e1, e2, h1, h2, h3, h4⟩ := h
  exact ⟨k, c, wr, lb, kids, v, e1, e2, h1, h2, h3, h4.keep RdTm.keeps hS hk⟩
theorem RdT.go {B : Nat} {w w' : World} {S : Blocks} {t : Tm} {V : Value} (h : RdT w S t V) (hb : Below B w w') (hS : Sub S (Upto B)) : RdT w' S t V := h.keep (Sub.refl _) (same_of_below hb hS)
theorem RdT.but {T : Blocks} {w w' : World} {S : Blocks} {t : Tm} {V : Value} (h : RdT w S t V) (hb : But T w w') (hS : Sub S (Upto w.heap.size)) (hT : ∀ b, S b → ¬ T b) : RdT w' S t V := h.keep (Sub.refl _) (hb.same hS hT)
theorem RdT.slice {w : World} {S : Blocks} {t : Tm} {k c : Int} {wr : Bool} {lb : Int} {v : Value} (h : RdT w S t (tmV k c wr lb v)) : ∃ A n cap, v = .slice A n cap := by
  obtain ⟨k', c', wr', lb', kids, v', _, e, _, _, _, h4⟩ := h
  obtain ⟨A, cap, rfl, _⟩ := h4.form
  injection e with e
  simp only [Array.mk.injEq, List.cons.injEq, and_true] at e
  exact ⟨_, _, _, e.2.2.2.2⟩
/-- a kid -/
theorem RdTms.kid {w : World} {S : Blocks} {l : List Tm} {A : Option Addr} {n cap : Nat} (h : RdTms w S l (.slice A n cap)) {q : Nat} (hq : q < l.length) :
    ∃ b off k c wr lb v, A = some ⟨b, off, none⟩ ∧ S b ∧ w.cell? ⟨b, off + q * 5, none⟩ = some (.int .i64 k) ∧ w.cell? ⟨b, off + q * 5 + 1, none⟩ = some (.int .i64 c) ∧ w.cell? ⟨b, off + q * 5 + 2, none⟩ = some (.bool wr) ∧
      w.cell? ⟨b, off + q * 5 + 3, none⟩ = some (.int .i64 lb) ∧ w.cell? ⟨b, off + q * 5 + 4, none⟩ = some v ∧ RdT w S l[q] (tmV k c wr lb v) := by
  obtain ⟨b, off, cs, hA, hb, _, hc, hr⟩ := RdL.at_ h hq
  generalize l[q] = t at hr
  obtain ⟨k, c, wr, lb, kids⟩ := t
  obtain ⟨h1, h2, h3, v, rfl, h4⟩ := RdTm.open_ hr
  exact ⟨b, off, k, c, wr, lb, v, hA, hb, hc 0 _ rfl, by rw [Nat.add_assoc]; exact hc 1 _ rfl, by rw [Nat.add_assoc]; exact hc 2 _ rfl, by rw [Nat.add_assoc]; exact hc 3 _ rfl, by rw [Nat.add_assoc]; exact hc 4 _ rfl, k, c, wr, lb, kids, v, rfl, rfl, h1, h2, h3, h4⟩
end Go.Proofs.Ytdelngmbpjgphaa
/- 'append' at a step of a region that draws its order, said of rows that read as lists. -/
namespace Go.Proofs.Ytdelngmbpjgphaa
open Go.RowKit
set_option linter.unusedVariables false
section
variable {P : Program} {α : Type} {rd : World → Blocks → α → List Value → Prop} {size bytes : Nat} {E : TypeId} {w : World} {base : Nat} {S Tx U : Blocks} {l m : List α} {v : Value} {A : Option Addr} {n c : Nat}
/-- 'append(s, y...)' at a step of a region that draws -/
theorem step_append_list {ops : Array Oper} {o : Oper} {a : Act} {K : Act → World → Prop} {Q : Exit → Act → World → Prop} {Z : Prop} (hgd : o.guard = none) (s y : Operand) (t : TypeId) (ho : o.op = .call { callee := .builtin .append, args := #[s, y], argTypes := #[t, t] })
    (hs : a.eval s = v) (hy : a.eval y = .slice A n c)
    (i : TypeInfo) (z : Value) (ht : P.underlying t = some (.slice E)) (hi : P.info? E = some i) (hz : i.zero = some z) (hsize : i.size = size) (hby : i.bytes = bytes) (hzs : z.cells.size = size) (hsz : 0 < size)
    (hr : Keeps rd) (hx : RdL (fun w' _ e cs => rd w' Tx e cs) size bytes w U m (.slice A n c)) (hown : OwnL rd size E w base S l v) (t1 : Sub Tx S) (t2 : Sub Tx (Upto w.heap.size)) (t3 : ∀ k, v.ownBlock = some k → ¬ Tx k)
    (h1 : ∀ e cs, rd w Tx e cs → ∀ u ∈ cs, u.oneCell' = true) (h63 : l.length + m.length ≤ maxLen) (hbytes : (l.length + m.length) * bytes ≤ 140737488355328) (hbase : base ≤ w.heap.size)
    (h : ∀ v' w', OwnL rd size E w' base S (l ++ m) v' → w.grownBy w' v.ownBlock → (v'.ownBlock = v.ownBlock ∨ v'.ownBlock = some w.heap.size) → K (a.put o.dst v') w') :
    if Region.wanted o (yielded ops a.tmps) = true then Oper.wp P o a w K Q else Z := by
  have hw : Region.wanted o (yielded ops a.tmps) = true := by simp [Region.wanted, hgd]
  rw [if_pos hw]
  exact wp_append_list s y t ho i z ht hi hz hsize hby hzs hsz hr hown hx hs hy t1 t2 t3 h1 h63 hbytes hbase h
end
theorem rdI_one {w : World} {S : Blocks} {g : Nat} {x : Int} (h : w.cell? ⟨g, 0, none⟩ = some (.int .i64 x)) (hx : inI x) (hg : S g) : RdI w S [x] (.slice (some ⟨g, 0, none⟩) 1 1) :=
  ⟨_, 1, [[.int .i64 x]], rfl, Nat.le_refl _, by simp [maxLen], by simp, rfl, ⟨by simp, fun _ => ⟨g, 0, rfl, hg, fun i cs hi j v hv => by
    match i, hi with
    | 0, hi =>
      simp at hi; subst hi
      match j, hv with
      | 0, hv => simp at hv; subst hv; simpa using h⟩⟩, fun i e cs hi hc => by
    match i, hi, hc with
    | 0, hi, hc => simp at hi hc; subst hi hc; exact ⟨rfl, hx⟩⟩
theorem frozen_of_heap {w w' : World} {b o : Nat} {sp : Option Nat} (h : w'.heap[b]? = w.heap[b]?) : w'.frozen? ⟨b, o, sp⟩ = w.frozen? ⟨b, o, sp⟩ := by
  simp only [World.frozen?, h]
theorem rd_one {α : Type} {enc : α → List Value} {ok : α → Prop} {size bytes : Nat} {w : World} {S : Blocks} {g : Nat} {x : α} (hlen : (enc x).length = size) (h : ∀ (j : Nat) v, (enc x)[j]? = some v → w.cell? ⟨g, j, none⟩ = some v) (hx : ok x) (hg : S g) (hb : bytes ≤ 140737488355328) : RdL (Flat enc ok) size bytes w S [x] (.slice (some ⟨g, 0, none⟩) 1 1) :=
  ⟨_, 1, [enc x], rfl, Nat.le_refl _, by simp [maxLen], by simpa using hb, rfl, ⟨by simpa using hlen, fun _ => ⟨g, 0, rfl, hg, fun i cs hi j v hv => by
    match i, hi with
    | 0, hi => simp at hi; subst hi; simpa using h j v hv⟩⟩, fun i e cs hi hc => by
    match i, hi, hc with
    | 0, hi, hc => simp at hi hc; subst hi hc; exact ⟨rfl, hx⟩⟩
theorem cells_newAt (w : World) (vs : List Value) (E : TypeId) {g : Nat} (h : w.heap.size = g) : ∀ (j : Nat) v, vs[j]? = some v → (w.alloc (.cells vs.toArray E)).drew.cell? ⟨g, j, none⟩ = some v := by
  subst h
  intro j v hv
  have h := heap_alloc_new w (.cells vs.toArray E)
  show (w.alloc (.cells vs.toArray E)).cell? ⟨w.heap.size, j, none⟩ = some v
  unfold World.cell?
  simp only [h]
  simpa using hv
theorem grown_frozen {w w' : World} {row : Option Nat} (h : w.grownBy w' row) {b o : Nat} (hf : w.frozen? ⟨b, o, none⟩ = false) (hlt : b < w.heap.size) (hn : row ≠ some b) : w'.frozen? ⟨b, o, none⟩ = false := by
  rw [frozen_of_heap (h.block b hlt (fun e => hn e.symm))]; exact hf
theorem Sub.plus_mono2 {S : Blocks} (n m : Nat) : Sub (Plus Nowhere n m) (Plus S n m) := fun b h => h.elim (fun h => h.elim) .inr
theorem cell_new1 (w : World) (x : Value) (E : TypeId) : (w.alloc (.cells #[x] E)).cell? ⟨w.heap.size, 0, none⟩ = some x := by simp
theorem cell_newAt (w : World) (x : Value) (E : TypeId) {g : Nat} (h : w.heap.size = g) : (w.alloc (.cells #[x] E)).drew.cell? ⟨g, 0, none⟩ = some x := by subst h; exact cell_new1 w x E
theorem cell_oldAt (w : World) (x : Value) (E : TypeId) (o : Obj) : ((w.alloc (.cells #[x] E)).alloc o).drew.cell? ⟨w.heap.size, 0, none⟩ = some x :=
  (World.cell?_alloc_lt (w.alloc (.cells #[x] E)) o ⟨w.heap.size, 0, none⟩ (by simp)).trans (cell_new1 w x E)
theorem ownBlock_ne {g k n c : Nat} (h : g ≠ k) : (Value.slice (some ⟨g, 0, none⟩) n c).ownBlock ≠ some k := fun e => h (Option.some.inj e)
/-- the world after an append keeps the cells of other blocks -/
theorem grown_cell {w w' : World} {row : Option Nat} (h : w.grownBy w' row) {b o : Nat} {v : Value} (hc : w.cell? ⟨b, o, none⟩ = some v) (hn : row ≠ some b) : w'.cell? ⟨b, o, none⟩ = some v := by
  have hlt : b < w.heap.size := World.block_lt_of_cell? w _ hc
  rw [World.cell?_of_block (a := ⟨b, o, none⟩) (h.block b hlt (fun e => hn e.symm))]; exact hc
section
variable {α : Type} {rd : World → Blocks → α → List Value → Prop} {size bytes : Nat} {w : World} {S : Blocks} {l : List α}
theorem OwnL.emptyAt {E : TypeId} {base g : Nat} (hb : base ≤ w.heap.size) (hg : w.heap.size = g) : OwnL rd size E (w.alloc (.cells #[] E)) base S [] (.slice (some ⟨g, 0, none⟩) 0 0) := by
  subst hg; exact OwnL.empty w hb
/-- behind the first k of it -/
theorem RdL.drop {A : Option Addr} {n cap k : Nat} (h : RdL rd size bytes w S l (.slice A n cap)) (hk : k ≤ l.length) :
    RdL rd size bytes w S (l.drop k) (.slice (A.map fun a => a.add (k * size)) (n - k) (cap - k)) := by
  obtain ⟨A', cap', css, h1, h2, h3, h4, h5, h6, h7⟩ := h
  injection h1 with e1 e2 e3
  subst e1 e2 e3
  refine ⟨_, _, css.drop k, by rw [List.length_drop], by rw [List.length_drop]; omega, by omega, ?_, by simp [h5], ⟨fun cs hcs => h6.1 cs (List.mem_of_mem_drop hcs), fun hne => ?_⟩, fun i e cs hi hc => ?_⟩
  · rw [List.length_drop]; exact Nat.le_trans (Nat.mul_le_mul_right _ (by omega)) h4
  · obtain ⟨b, off, hA, hb, hc⟩ := h6.2 (by intro h; subst h; simp at hne)
    subst hA
    refine ⟨b, off + k * size, by simp only [Option.map_some, Addr.add]; split <;> simp_all, hb, fun i cs hi j v hv => ?_⟩
    rw [List.getElem?_drop] at hi
    have := hc (k + i) cs hi j v hv
    rw [Nat.add_mul] at this
    rw [show off + k * size + (i * size + j) = off + (k * size + i * size + j) by omega]
    exact this
  · rw [List.getElem?_drop] at hi hc
    exact h7 _ e cs hi hc
/-- the same at an end of the capacity: where it lies says nothing -/
theorem RdL.any {A A' : Option Addr} {cap cap' : Nat} (h : RdL rd size bytes w S [] (.slice A 0 cap)) (hc : cap' ≤ maxLen) : RdL rd size bytes w S [] (.slice A' 0 cap') := RdL.nil hc
end
end Go.Proofs.Ytdelngmbpjgphaa
