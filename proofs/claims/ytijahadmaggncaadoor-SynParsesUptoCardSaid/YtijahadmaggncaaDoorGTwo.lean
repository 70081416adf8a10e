/- Texts merged: But, Blk, Data, Two. -/
import Derived.Test.YtijahadmaggncaaDoorFlat
import Derived.Test.YtijahadmaggncaaDoorBase
/- Worlds that differ in a few old blocks only. -/
namespace Go.Proofs.YtijahadmaggncaaDoor
open Go.RowKit
set_option linter.unusedVariables false
/-- all that was there is as it was, but for the blocks of T -/
structure But (T : Blocks) (w w' : World) : Prop where
  os : w'.os = w.os
  tape : w'.tape = w.tape
  output : w'.output = w.output
  size : w.heap.size ≤ w'.heap.size
  block : ∀ k, k < w.heap.size → ¬ T k → w'.heap[k]? = w.heap[k]?
def Is (b : Nat) : Blocks := fun k => k = b
def Is2 (b c : Nat) : Blocks := fun k => k = b ∨ k = c
theorem But.refl (T : Blocks) (w : World) : But T w w := ⟨rfl, rfl, rfl, Nat.le_refl _, fun _ _ _ => rfl⟩
theorem But.trans {T : Blocks} {a b c : World} (h : But T a b) (k : But T b c) : But T a c :=
  ⟨k.os.trans h.os, k.tape.trans h.tape, k.output.trans h.output, Nat.le_trans h.size k.size, fun i hi ht => (k.block i (Nat.lt_of_lt_of_le hi h.size) ht).trans (h.block i hi ht)⟩
theorem But.sub {T U : Blocks} {a b : World} (h : But T a b) (hs : Sub T U) : But U a b := ⟨h.os, h.tape, h.output, h.size, fun k hk ht => h.block k hk (fun e => ht (hs _ e))⟩
theorem But.drewN {T : Blocks} {a b : World} (h : But T a b) (n : Nat) : But T a (b.drewN n) := ⟨h.os, h.tape, h.output, h.size, h.block⟩
theorem But.drew {T : Blocks} {a b : World} (h : But T a b) : But T a b.drew := ⟨h.os, h.tape, h.output, h.size, h.block⟩
theorem But.of_below {T : Blocks} {a b : World} (h : Below a.heap.size a b) : But T a b := ⟨h.os, h.tape, h.output, h.size, fun k hk _ => h.block k hk⟩
theorem But.alloc {T : Blocks} {a b : World} (h : But T a b) (o : Obj) : But T a (b.alloc o) := h.trans (.of_below ((Below.refl _ _).alloc (Nat.le_refl _) _))
theorem But.setCell {T : Blocks} {a b : World} (h : But T a b) {p : Addr} (hp : T p.block) (u : Value) : But T a (b.setCell p u) :=
  h.trans ⟨rfl, rfl, rfl, by simp [World.setCell], fun k hk ht => by
    have hne : p.block ≠ k := fun e => ht (e ▸ hp)
    simp [World.setCell, Array.getElem?_modify, hne]⟩
theorem But.setNew {T : Blocks} {a b : World} (h : But T a b) {p : Addr} (hp : T p.block ∨ a.heap.size ≤ p.block) (u : Value) : But T a (b.setCell p u) :=
  ⟨h.os, h.tape, h.output, by rw [size_setCell]; exact h.size, fun k hk ht => by
    have hne : p.block ≠ k := fun e => hp.elim (fun h => ht (e ▸ h)) (fun h => by omega)
    have h2 : (b.setCell p u).heap[k]? = b.heap[k]? := by simp [World.setCell, Array.getElem?_modify, hne]
    exact h2.trans (h.block k hk ht)⟩
/-- blocks of T that are all younger than B -/
theorem But.below {T : Blocks} {B : Nat} {a b : World} (h : But T a b) (hB : B ≤ a.heap.size) (hT : ∀ k, T k → B ≤ k) : Below B a b :=
  ⟨h.os, h.tape, h.output, h.size, fun k hk => h.block k (by omega) (fun e => by have := hT k e; omega)⟩
theorem But.cell {T : Blocks} {w w' : World} (h : But T w w') {p : Addr} {v : Value} (hT : ¬ T p.block) (hc : w.cell? p = some v) : w'.cell? p = some v := by
  have hlt : p.block < w.heap.size := World.block_lt_of_cell? w _ hc
  rw [World.cell?_of_block (h.block _ hlt hT)]; exact hc
theorem But.same {T S : Blocks} {w w' : World} (h : But T w w') (hS : Sub S (Upto w.heap.size)) (hT : ∀ k, S k → ¬ T k) : Same S w w' :=
  fun p hp => World.cell?_of_block (h.block _ (hS _ hp) (hT _ hp))
theorem frozen_of_block {w w' : World} {b o : Nat} {sp : Option Nat} (h : w'.heap[b]? = w.heap[b]?) : w'.frozen? ⟨b, o, sp⟩ = w.frozen? ⟨b, o, sp⟩ := by
  simp only [World.frozen?, h]
/-- a flat row of the call's own, while others' blocks turn -/
theorem OwnL.but {α : Type} {enc : α → List Value} {ok : α → Prop} {size : Nat} {E : TypeId} {w w' : World} {base : Nat} {S T : Blocks} {l : List α} {v : Value} (h : OwnL (Flat enc ok) size E w base S l v) (hb : But T w w') (hT : ∀ k, v.ownBlock = some k → ¬ T k) : OwnL (Flat enc ok) size E w' base S l v := by
  obtain ⟨U, css, t1, t2, t3, h1, h2, h3, h4⟩ := h
  refine ⟨U, css, t1, t2.lift hb.size, t3, h1, h2, ?_, h4⟩
  obtain ⟨e, h3⟩ := h3
  refine ⟨e, ?_⟩
  rcases h3 with h3 | ⟨g, cap, cur, rfl, hbg, hg, hn, hcap, hsz, htake⟩
  · exact .inl h3
  · refine .inr ⟨g, cap, cur, rfl, hbg, ?_, hn, hcap, hsz, htake⟩
    rw [hb.block g (Array.getElem?_eq_some_iff.1 hg).1 (hT g rfl)]; exact hg
theorem But.of_grown {w w' : World} {row : Option Nat} (h : w.grownBy w' row) : But (fun k => row = some k) w w' :=
  ⟨h.os, h.tape, h.output, h.size, fun k hk ht => h.block k hk (fun e => ht e.symm)⟩
end Go.Proofs.YtijahadmaggncaaDoor
/- A block of the call's own, known cell by cell. -/
namespace Go.Proofs.YtijahadmaggncaaDoor
open Go.RowKit
set_option linter.unusedVariables false
/-- block b, from base on, holds the cells vs, and may be written -/
structure Blk (base : Nat) (w : World) (b : Nat) (vs : List Value) : Prop where
  ge : base ≤ b
  lt : b < w.heap.size
  cell : ∀ (q : Nat) v, vs[q]? = some v → w.cell? ⟨b, q, none⟩ = some v
  fr : ∀ o, w.frozen? ⟨b, o, none⟩ = false
section
variable {base : Nat} {w w' : World} {b : Nat} {vs : List Value}
theorem Blk.but {T : Blocks} (r : Blk base w b vs) (h : But T w w') (ht : ¬ T b) : Blk base w' b vs :=
  ⟨r.ge, Nat.lt_of_lt_of_le r.lt h.size, fun q v hq => h.cell ht (r.cell q v hq), fun o => (frozen_of_block (h.block _ r.lt ht)).trans (r.fr o)⟩
theorem Blk.below (r : Blk base w b vs) (h : Below w.heap.size w w') : Blk base w' b vs := r.but (T := Nowhere) (But.of_below h) (fun h => h)
theorem Blk.drewN (r : Blk base w b vs) (n : Nat) : Blk base (w.drewN n) b vs := ⟨r.ge, r.lt, r.cell, r.fr⟩
theorem Blk.drew (r : Blk base w b vs) : Blk base w.drew b vs := ⟨r.ge, r.lt, r.cell, r.fr⟩
theorem Blk.set (r : Blk base w b vs) {i : Nat} (hi : i < vs.length) (x : Value) : Blk base (w.setCell ⟨b, i, none⟩ x) b (vs.set i x) := by
  refine ⟨r.ge, by rw [size_setCell]; exact r.lt, fun q v hq => ?_, fun o => by rw [World.frozen?_setCell]; exact r.fr o⟩
  rw [List.getElem?_set] at hq
  by_cases e : i = q
  · subst e
    rw [if_pos rfl, if_pos hi] at hq
    injection hq with hq; subst hq
    exact World.cell?_setCell_same' _ _ _ (by rw [r.cell i vs[i] (List.getElem?_eq_getElem hi)]; rfl)
  · rw [if_neg e] at hq
    rw [World.cell?_setCell_other _ _ _ _ (fun h => e (by injection h with _ h))]
    exact r.cell q v hq
theorem Blk.other (r : Blk base w b vs) {p : Addr} (hp : p.block ≠ b) (x : Value) : Blk base (w.setCell p x) b vs := by
  refine ⟨r.ge, by rw [size_setCell]; exact r.lt, fun q v hq => ?_, fun o => by rw [World.frozen?_setCell]; exact r.fr o⟩
  rw [World.cell?_setCell_other _ _ _ _ (fun h => hp (by rw [h]))]
  exact r.cell q v hq
theorem Blk.made (w : World) (vs : List Value) (E : TypeId) {base : Nat} (hb : base ≤ w.heap.size) : Blk base (w.alloc (.cells vs.toArray E)) w.heap.size vs := by
  have h := heap_alloc_new w (.cells vs.toArray E)
  refine ⟨hb, by simp, fun q v hq => ?_, fun o => ?_⟩
  · unfold World.cell?
    simp only [h]
    simpa using hq
  · unfold World.frozen?
    simp only [h]
    simp
theorem Blk.rebase (r : Blk base w b vs) {base' : Nat} (h : base' ≤ base) : Blk base' w b vs := ⟨Nat.le_trans h r.ge, r.lt, r.cell, r.fr⟩
end
/-- the same, for a row of one cell an element -/
theorem Blk.mapAt {α : Type} {f : α → Value} {base : Nat} {w : World} {b : Nat} {l : List α} (r : Blk base w b (l.map f)) {q : Nat} {x : α} (h : l[q]? = some x) : w.cell? ⟨b, q, none⟩ = some (f x) :=
  r.cell q _ (by rw [List.getElem?_map, h]; rfl)
theorem Blk.mapSet {α : Type} {f : α → Value} {base : Nat} {w : World} {b : Nat} {l : List α} (r : Blk base w b (l.map f)) {q : Nat} (hq : q < l.length) (x : α) : Blk base (w.setCell ⟨b, q, none⟩ (f x)) b ((l.set q x).map f) := by
  rw [List.map_set]
  exact r.set (by simpa using hq) _
theorem Blk.madeN (w : World) (n : Nat) (v : Value) (E : TypeId) {base : Nat} (hb : base ≤ w.heap.size) : Blk base (w.alloc (.cells (Array.replicate n v) E)) w.heap.size (List.replicate n v) := by
  have := Blk.made w (List.replicate n v) E hb
  simpa using this
end Go.Proofs.YtijahadmaggncaaDoor
/- The recursive data of the program as plain Lean data, and what it means that cells read as such data. -/
namespace Go.Proofs.YtijahadmaggncaaDoor
open Go.RowKit
set_option linter.unusedVariables false

inductive Ex where
  | mk (kind n : Int) (name : ByteArray) (args : List Ex)
inductive St where
  | mk (kind : Int) (name : ByteArray) (a b : Ex) (body els : List St)
inductive Tm where
  | mk (kind cell : Int) (write : Bool) (label : Int) (kids : List Tm)

def Ex.kind : Ex → Int | .mk k _ _ _ => k
def Ex.num : Ex → Int | .mk _ n _ _ => n
def Ex.name : Ex → ByteArray | .mk _ _ s _ => s
def Ex.args : Ex → List Ex | .mk _ _ _ a => a

inductive RdEx (w : World) (S : Blocks) : Ex → List Value → Prop
  | mk (k n : Int) (s : ByteArray) (args : List Ex) (A : Option Addr) (cap : Nat) (css : List (List Value)) (hk : inI k) (hn : inI n) (hs : s.size ≤ 140737488355328)
      (hl : args.length ≤ cap) (hm : cap ≤ maxLen) (hc : args.length * 56 ≤ 140737488355328) (hcl : css.length = args.length) (ha : Arr w S 4 A css) (hr : ∀ (i : Nat) e cs, args[i]? = some e → css[i]? = some cs → RdEx w S e cs) :
      RdEx w S (.mk k n s args) [.int .i64 k, .int .i64 n, .string s, .slice A args.length cap]
abbrev RdExs := RdL RdEx 4 56
theorem RdEx.keeps : Keeps RdEx := by
  intro w w' S S' x cs hB hk h
  induction h with
  | mk k n s args A cap css hkk hn hs hl hm hc hcl ha hr ih => exact .mk k n s args A cap css hkk hn hs hl hm hc hcl (ha.keep hB hk) ih
theorem RdEx.len {w : World} {S : Blocks} {e : Ex} {cs : List Value} (h : RdEx w S e cs) : cs.length = 4 := by cases h; rfl
theorem RdEx.open_ {w : World} {S : Blocks} {k n : Int} {s : ByteArray} {args : List Ex} {cs : List Value} (h : RdEx w S (.mk k n s args) cs) :
    inI k ∧ inI n ∧ s.size ≤ 140737488355328 ∧ ∃ v, cs = [.int .i64 k, .int .i64 n, .string s, v] ∧ RdExs w S args v := by
  cases h with
  | mk _ _ _ _ A cap css hkk hn hs hl hm hc hcl ha hr => exact ⟨hkk, hn, hs, _, rfl, A, cap, css, rfl, hl, hm, hc, hcl, ha, hr⟩
theorem RdEx.shut {w : World} {S : Blocks} {k n : Int} {s : ByteArray} {args : List Ex} {v : Value} (hk : inI k) (hn : inI n) (hs : s.size ≤ 140737488355328) (h : RdExs w S args v) :
    RdEx w S (.mk k n s args) [.int .i64 k, .int .i64 n, .string s, v] := by
  obtain ⟨A, cap, css, rfl, hl, hm, hc, hcl, ha, hr⟩ := h
  exact .mk k n s args A cap css hk hn hs hl hm hc hcl ha hr

theorem RdEx.cells {w : World} {S : Blocks} {e : Ex} {cs : List Value} (h : RdEx w S e cs) : ∃ k n s A c c', cs = [.int .i64 k, .int .i64 n, .string s, .slice A c c'] := by
  cases h with
  | mk k n s args A cap css _ _ _ _ _ _ _ _ _ => exact ⟨k, n, s, A, _, cap, rfl⟩

inductive RdSt (w : World) (S : Blocks) : St → List Value → Prop
  | mk (k : Int) (s : ByteArray) (a b : Ex) (body els : List St) (a0 a1 a2 a3 b0 b1 b2 b3 : Value) (A A' : Option Addr) (cap cap' : Nat) (css css' : List (List Value)) (hk : inI k) (hs : s.size ≤ 140737488355328)
      (h1 : RdEx w S a [a0, a1, a2, a3]) (h2 : RdEx w S b [b0, b1, b2, b3])
      (hl : body.length ≤ cap) (hm : cap ≤ maxLen) (hc : body.length * 184 ≤ 140737488355328) (hcl : css.length = body.length) (ha : Arr w S 12 A css) (hr : ∀ (i : Nat) e cs, body[i]? = some e → css[i]? = some cs → RdSt w S e cs)
      (hl' : els.length ≤ cap') (hm' : cap' ≤ maxLen) (hc' : els.length * 184 ≤ 140737488355328) (hcl' : css'.length = els.length) (ha' : Arr w S 12 A' css') (hr' : ∀ (i : Nat) e cs, els[i]? = some e → css'[i]? = some cs → RdSt w S e cs) :
      RdSt w S (.mk k s a b body els) [.int .i64 k, .string s, a0, a1, a2, a3, b0, b1, b2, b3, .slice A body.length cap, .slice A' els.length cap']
abbrev RdSts := RdL RdSt 12 184
theorem RdSt.keeps : Keeps RdSt := by
  intro w w' S S' x cs hB hk h
  induction h with
  | mk k s a b body els a0 a1 a2 a3 b0 b1 b2 b3 A A' cap cap' css css' hkk hs h1 h2 hl hm hc hcl ha hr hl' hm' hc' hcl' ha' hr' ih ih' =>
    exact .mk k s a b body els a0 a1 a2 a3 b0 b1 b2 b3 A A' cap cap' css css' hkk hs (RdEx.keeps _ _ _ _ _ _ hB hk h1) (RdEx.keeps _ _ _ _ _ _ hB hk h2) hl hm hc hcl (ha.keep hB hk) ih hl' hm' hc' hcl' (ha'.keep hB hk) ih'
theorem RdSt.open_ {w : World} {S : Blocks} {k : Int} {s : ByteArray} {a b : Ex} {body els : List St} {cs : List Value} (h : RdSt w S (.mk k s a b body els) cs) :
    inI k ∧ s.size ≤ 140737488355328 ∧ ∃ a0 a1 a2 a3 b0 b1 b2 b3 v v', cs = [.int .i64 k, .string s, a0, a1, a2, a3, b0, b1, b2, b3, v, v'] ∧ RdEx w S a [a0, a1, a2, a3] ∧ RdEx w S b [b0, b1, b2, b3] ∧ RdSts w S body v ∧ RdSts w S els v' := by
  cases h with
  | mk _ _ _ _ _ _ a0 a1 a2 a3 b0 b1 b2 b3 A A' cap cap' css css' hkk hs h1 h2 hl hm hc hcl ha hr hl' hm' hc' hcl' ha' hr' =>
    exact ⟨hkk, hs, a0, a1, a2, a3, b0, b1, b2, b3, _, _, rfl, h1, h2, ⟨A, cap, css, rfl, hl, hm, hc, hcl, ha, hr⟩, ⟨A', cap', css', rfl, hl', hm', hc', hcl', ha', hr'⟩⟩
/-- every cell of a statement written out -/
theorem RdSt.cells {w : World} {S : Blocks} {k : Int} {s : ByteArray} {a b : Ex} {body els : List St} {cs : List Value} (h : RdSt w S (.mk k s a b body els) cs) :
    ∃ k1 n1 s1 A1 c1 m1 k2 n2 s2 A2 c2 m2 A3 m3 A4 m4, cs = [.int .i64 k, .string s, .int .i64 k1, .int .i64 n1, .string s1, .slice A1 c1 m1, .int .i64 k2, .int .i64 n2, .string s2, .slice A2 c2 m2, .slice A3 body.length m3, .slice A4 els.length m4] ∧
      inI k ∧ s.size ≤ 140737488355328 ∧ RdEx w S a [.int .i64 k1, .int .i64 n1, .string s1, .slice A1 c1 m1] ∧ RdEx w S b [.int .i64 k2, .int .i64 n2, .string s2, .slice A2 c2 m2] ∧
      RdSts w S body (.slice A3 body.length m3) ∧ RdSts w S els (.slice A4 els.length m4) := by
  obtain ⟨hk, hs, a0, a1, a2, a3, b0, b1, b2, b3, v, v', rfl, h1, h2, h3, h4⟩ := h.open_
  obtain ⟨k1, n1, s1, A1, c1, m1, e1⟩ := h1.cells
  obtain ⟨k2, n2, s2, A2, c2, m2, e2⟩ := h2.cells
  obtain ⟨A3, m3, rfl, _, _⟩ := h3.form
  obtain ⟨A4, m4, rfl, _, _⟩ := h4.form
  simp only [List.cons.injEq, and_true] at e1 e2
  obtain ⟨rfl, rfl, rfl, rfl⟩ := e1
  obtain ⟨rfl, rfl, rfl, rfl⟩ := e2
  exact ⟨k1, n1, s1, A1, c1, m1, k2, n2, s2, A2, c2, m2, A3, m3, A4, m4, rfl, hk, hs, h1, h2, h3, h4⟩
theorem RdSt.shut {w : World} {S : Blocks} {k : Int} {s : ByteArray} {a b : Ex} {body els : List St} {a0 a1 a2 a3 b0 b1 b2 b3 v v' : Value} (hk : inI k) (hs : s.size ≤ 140737488355328)
    (h1 : RdEx w S a [a0, a1, a2, a3]) (h2 : RdEx w S b [b0, b1, b2, b3]) (h3 : RdSts w S body v) (h4 : RdSts w S els v') :
    RdSt w S (.mk k s a b body els) [.int .i64 k, .string s, a0, a1, a2, a3, b0, b1, b2, b3, v, v'] := by
  obtain ⟨A, cap, css, rfl, hl, hm, hc, hcl, ha, hr⟩ := h3
  obtain ⟨A', cap', css', rfl, hl', hm', hc', hcl', ha', hr'⟩ := h4
  exact .mk k s a b body els a0 a1 a2 a3 b0 b1 b2 b3 A A' cap cap' css css' hk hs h1 h2 hl hm hc hcl ha hr hl' hm' hc' hcl' ha' hr'

inductive RdTm (w : World) (S : Blocks) : Tm → List Value → Prop
  | mk (k c : Int) (wr : Bool) (lb : Int) (kids : List Tm) (A : Option Addr) (cap : Nat) (css : List (List Value)) (hk : inI k) (hn : inI c) (hs : inI lb)
      (hl : kids.length ≤ cap) (hm : cap ≤ maxLen) (hc : kids.length * 56 ≤ 140737488355328) (hcl : css.length = kids.length) (ha : Arr w S 5 A css) (hr : ∀ (i : Nat) e cs, kids[i]? = some e → css[i]? = some cs → RdTm w S e cs) :
      RdTm w S (.mk k c wr lb kids) [.int .i64 k, .int .i64 c, .bool wr, .int .i64 lb, .slice A kids.length cap]
abbrev RdTms := RdL RdTm 5 56
theorem RdTm.keeps : Keeps RdTm := by
  intro w w' S S' x cs hB hk h
  induction h with
  | mk k n s lb args A cap css hkk hn hs hl hm hc hcl ha hr ih => exact .mk k n s lb args A cap css hkk hn hs hl hm hc hcl (ha.keep hB hk) ih
theorem RdTm.open_ {w : World} {S : Blocks} {k c : Int} {wr : Bool} {lb : Int} {kids : List Tm} {cs : List Value} (h : RdTm w S (.mk k c wr lb kids) cs) :
    inI k ∧ inI c ∧ inI lb ∧ ∃ v, cs = [.int .i64 k, .int .i64 c, .bool wr, .int .i64 lb, v] ∧ RdTms w S kids v := by
  cases h with
  | mk _ _ _ _ _ A cap css hkk hn hs hl hm hc hcl ha hr => exact ⟨hkk, hn, hs, _, rfl, A, cap, css, rfl, hl, hm, hc, hcl, ha, hr⟩
theorem RdTm.shut {w : World} {S : Blocks} {k c : Int} {wr : Bool} {lb : Int} {kids : List Tm} {v : Value} (hk : inI k) (hn : inI c) (hs : inI lb) (h : RdTms w S kids v) :
    RdTm w S (.mk k c wr lb kids) [.int .i64 k, .int .i64 c, .bool wr, .int .i64 lb, v] := by
  obtain ⟨A, cap, css, rfl, hl, hm, hc, hcl, ha, hr⟩ := h
  exact .mk k c wr lb kids A cap css hk hn hs hl hm hc hcl ha hr

theorem one_size {α : Type} [SizeOf α] {l : List α} {q : Nat} (hq : q < l.length) : SizeOf.sizeOf l[q] < SizeOf.sizeOf l := List.sizeOf_lt_of_mem (List.getElem_mem hq)
end Go.Proofs.YtijahadmaggncaaDoor
/- The two arguments of an expression, plainly. -/
namespace Go.Proofs.YtijahadmaggncaaDoor
set_option linter.unusedVariables false
def Ex.two : Ex → Option (Ex × Ex)
  | .mk k _ _ (a :: b :: _) => if 3 ≤ k ∧ k ≤ 9 then some (a, b) else none
  | _ => none
theorem Ex.two_size {t a b : Ex} (h : t.two = some (a, b)) : SizeOf.sizeOf a < SizeOf.sizeOf t ∧ SizeOf.sizeOf b < SizeOf.sizeOf t := by
  match t, h with
  | .mk k c w (x :: y :: r), h =>
    simp only [Ex.two] at h
    split at h
    · simp only [Option.some.injEq, Prod.mk.injEq] at h
      obtain ⟨rfl, rfl⟩ := h
      simp only [Ex.mk.sizeOf_spec, List.cons.sizeOf_spec]
      omega
    · cases h
theorem Ex.two_kind {t a b : Ex} (h : t.two = some (a, b)) : (3 ≤ t.kind ∧ t.kind ≤ 9) ∧ ∃ r, t.args = a :: b :: r := by
  match t, h with
  | .mk k c w (x :: y :: r), h =>
    simp only [Ex.two] at h
    split at h
    · simp only [Option.some.injEq, Prod.mk.injEq] at h
      obtain ⟨rfl, rfl⟩ := h
      exact ⟨by assumption, r, rfl⟩
    · cases h
theorem Ex.two_none {t : Ex} (h : t.two = none) : (t.kind < 3 ∨ 9 < t.kind) ∨ t.args.length < 2 := by
  match t, h with
  | .mk k c w [], h => exact .inr (by simp [Ex.args])
  | .mk k c w [x], h => exact .inr (by simp [Ex.args])
  | .mk k c w (x :: y :: r), h =>
    simp only [Ex.two] at h
    split at h
    · cases h
    · left; simp only [Ex.kind]; omega
theorem Ex.ind {motive : Ex → Prop} (one : ∀ t, t.two = none → motive t) (two : ∀ t a b, t.two = some (a, b) → motive a → motive b → motive t) (t : Ex) : motive t := by
  match h : t.two with
  | none => exact one t h
  | some (a, b) =>
    have hs := Ex.two_size h
    exact two t a b h (Ex.ind one two a) (Ex.ind one two b)
termination_by SizeOf.sizeOf t
end Go.Proofs.YtijahadmaggncaaDoor
