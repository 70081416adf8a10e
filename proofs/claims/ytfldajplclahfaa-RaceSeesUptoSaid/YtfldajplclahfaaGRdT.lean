/- Texts merged: But, Blk, RowAt, PairRow, RdT. -/
import Derived.Test.YtfldajplclahfaaFlat
import Derived.Test.YtfldajplclahfaaData
/- Worlds that differ in a few old blocks only. -/
namespace Go.Proofs.Ytfldajplclahfaa
open Go.RowKit
set_option linter.unusedVariables false
/-- all that was there is as it was, but for the blocks of T -/
structure But (T : Blocks) (w w' : World) : Prop where
  os : w'.os = w.os
  tape : w'.tape = w.tape
  output : w'.output = w.output
  size : w.heap.size ≤ w'.heap.size
  block : ∀ k, k < w.heap.size → ¬ T k → w'.heap[k]? = w.heap[k]?
def Is (b : Nat) : Blocks := fun k => k = b
def Is2 (b c : Nat) : Blocks := fun k => k = b ∨ k = c
theorem But.refl (T : Blocks) (w : World) : But T w w := ⟨rfl, rfl, rfl, Nat.le_refl _, fun _ _ _ => rfl⟩
theorem But.trans {T : Blocks} {a b c : World} (h : But T a b) (k : But T b c) : But T a c :=
  ⟨k.os.trans h.os, k.tape.trans h.tape, k.output.trans h.output, Nat.le_trans h.size k.size, fun i hi ht => (k.block i (Nat.lt_of_lt_of_le hi h.size) ht).trans (h.block i hi ht)⟩
theorem But.sub {T U : Blocks} {a b : World} (h : But T a b) (hs : Sub T U) : But U a b := ⟨h.os, h.tape, h.output, h.size, fun k hk ht => h.block k hk (fun e => ht (hs _ e))⟩
theorem But.drewN {T : Blocks} {a b : World} (h : But T a b) (n : Nat) : But T a (b.drewN n) := ⟨h.os, h.tape, h.output, h.size, h.block⟩
theorem But.drew {T : Blocks} {a b : World} (h : But T a b) : But T a b.drew := ⟨h.os, h.tape, h.output, h.size, h.block⟩
theorem But.of_below {T : Blocks} {a b : World} (h : Below a.heap.size a b) : But T a b := ⟨h.os, h.tape, h.output, h.size, fun k hk _ => h.block k hk⟩
theorem But.alloc {T : Blocks} {a b : World} (h : But T a b) (o : Obj) : But T a (b.alloc o) := h.trans (.of_below ((Below.refl _ _).alloc (Nat.le_refl _) _))
theorem But.setCell {T : Blocks} {a b : World} (h : But T a b) {p : Addr} (hp : T p.block) (u : Value) : But T a (b.setCell p u) :=
  h.trans ⟨rfl, rfl, rfl, by simp [World.setCell], fun k hk ht => by
    have hne : p.block ≠ k := fun e => ht (e ▸ hp)
    simp [World.setCell, Array.getElem?_modify, hne]⟩
theorem But.setNew {T : Blocks} {a b : World} (h : But T a b) {p : Addr} (hp : T p.block ∨ a.heap.size ≤ p.block) (u : Value) : But T a (b.setCell p u) :=
  ⟨h.os, h.tape, h.output, by rw [size_setCell]; exact h.size, fun k hk ht => by
    have hne : p.block ≠ k := fun e => hp.elim (fun h => ht (e ▸ h)) (fun h => by omega)
    have h2 : (b.setCell p u).heap[k]? = b.heap[k]? := by simp [World.setCell, Array.getElem?_modify, hne]
    exact h2.trans (h.block k hk ht)⟩
/-- blocks of T that are all younger than B -/
theorem But.below {T : Blocks} {B : Nat} {a b : World} (h : But T a b) (hB : B ≤ a.heap.size) (hT : ∀ k, T k → B ≤ k) : Below B a b :=
  ⟨h.os, h.tape, h.output, h.size, fun k hk => h.block k (by omega) (fun e => by have := hT k e; omega)⟩
theorem But.cell {T : Blocks} {w w' : World} (h : But T w w') {p : Addr} {v : Value} (hT : ¬ T p.block) (hc : w.cell? p = some v) : w'.cell? p = some v := by
  have hlt : p.block < w.heap.size := World.block_lt_of_cell? w _ hc
  rw [World.cell?_of_block (h.block _ hlt hT)]; exact hc
theorem But.same {T S : Blocks} {w w' : World} (h : But T w w') (hS : Sub S (Upto w.heap.size)) (hT : ∀ k, S k → ¬ T k) : Same S w w' :=
  fun p hp => World.cell?_of_block (h.block _ (hS _ hp) (hT _ hp))
theorem frozen_of_block {w w' : World} {b o : Nat} {sp : Option Nat} (h : w'.heap[b]? = w.heap[b]?) : w'.frozen? ⟨b, o, sp⟩ = w.frozen? ⟨b, o, sp⟩ := by
  simp only [World.frozen?, h]
/-- a flat row of the call's own, while others' blocks turn -/
theorem OwnL.but {α : Type} {enc : α → List Value} {ok : α → Prop} {size : Nat} {E : TypeId} {w w' : World} {base : Nat} {S T : Blocks} {l : List α} {v : Value} (h : OwnL (Flat enc ok) size E w base S l v) (hb : But T w w') (hT : ∀ k, v.ownBlock = some k → ¬ T k) : OwnL (Flat enc ok) size E w' base S l v := by
  obtain ⟨U, css, t1, t2, t3, h1, h2, h3, h4⟩ := h
  refine ⟨U, css, t1, t2.lift hb.size, t3, h1, h2, ?_, h4⟩
  obtain ⟨e, h3⟩ := h3
  refine ⟨e, ?_⟩
  rcases h3 with h3 | ⟨g, cap, cur, rfl, hbg, hg, hn, hcap, hsz, htake⟩
  · exact .inl h3
  · refine .inr ⟨g, cap, cur, rfl, hbg, ?_, hn, hcap, hsz, htake⟩
    rw [hb.block g (Array.getElem?_eq_some_iff.1 hg).1 (hT g rfl)]; exact hg
theorem But.of_grown {w w' : World} {row : Option Nat} (h : w.grownBy w' row) : But (fun k => row = some k) w w' :=
  ⟨h.os, h.tape, h.output, h.size, fun k hk ht => h.block k hk (fun e => ht e.symm)⟩
end Go.Proofs.Ytfldajplclahfaa
/- A block of the call's own, known cell by cell. -/
namespace Go.Proofs.Ytfldajplclahfaa
open Go.RowKit
set_option linter.unusedVariables false
/-- block b, from base on, holds the cells vs, and may be written -/
structure Blk (base : Nat) (w : World) (b : Nat) (vs : List Value) : Prop where
  ge : base ≤ b
  lt : b < w.heap.size
  cell : ∀ (q : Nat) v, vs[q]? = some v → w.cell? ⟨b, q, none⟩ = some v
  fr : ∀ o, w.frozen? ⟨b, o, none⟩ = false
section
variable {base : Nat} {w w' : World} {b : Nat} {vs : List Value}
theorem Blk.but {T : Blocks} (r : Blk base w b vs) (h : But T w w') (ht : ¬ T b) : Blk base w' b vs :=
  ⟨r.ge, Nat.lt_of_lt_of_le r.lt h.size, fun q v hq => h.cell ht (r.cell q v hq), fun o => (frozen_of_block (h.block _ r.lt ht)).trans (r.fr o)⟩
theorem Blk.below (r : Blk base w b vs) (h : Below w.heap.size w w') : Blk base w' b vs := r.but (T := Nowhere) (But.of_below h) (fun h => h)
theorem Blk.drewN (r : Blk base w b vs) (n : Nat) : Blk base (w.drewN n) b vs := ⟨r.ge, r.lt, r.cell, r.fr⟩
theorem Blk.drew (r : Blk base w b vs) : Blk base w.drew b vs := ⟨r.ge, r.lt, r.cell, r.fr⟩
theorem Blk.set (r : Blk base w b vs) {i : Nat} (hi : i < vs.length) (x : Value) : Blk base (w.setCell ⟨b, i, none⟩ x) b (vs.set i x) := by
  refine ⟨r.ge, by rw [size_setCell]; exact r.lt, fun q v hq => ?_, fun o => by rw [World.frozen?_setCell]; exact r.fr o⟩
  rw [List.getElem?_set] at hq
  by_cases e : i = q
  · subst e
    rw [if_pos rfl, if_pos hi] at hq
    injection hq with hq; subst hq
    exact World.cell?_setCell_same' _ _ _ (by rw [r.cell i vs[i] (List.getElem?_eq_getElem hi)]; rfl)
  · rw [if_neg e] at hq
    rw [World.cell?_setCell_other _ _ _ _ (fun h => e (by injection h with _ h))]
    exact r.cell q v hq
theorem Blk.other (r : Blk base w b vs) {p : Addr} (hp : p.block ≠ b) (x : Value) : Blk base (w.setCell p x) b vs := by
  refine ⟨r.ge, by rw [size_setCell]; exact r.lt, fun q v hq => ?_, fun o => by rw [World.frozen?_setCell]; exact r.fr o⟩
  rw [World.cell?_setCell_other _ _ _ _ (fun h => hp (by rw [h]))]
  exact r.cell q v hq
theorem Blk.made (w : World) (vs : List Value) (E : TypeId) {base : Nat} (hb : base ≤ w.heap.size) : Blk base (w.alloc (.cells vs.toArray E)) w.heap.size vs := by
  have h := heap_alloc_new w (.cells vs.toArray E)
  refine ⟨hb, by simp, fun q v hq => ?_, fun o => ?_⟩
  · unfold World.cell?
    simp only [h]
    simpa using hq
  · unfold World.frozen?
    simp only [h]
    simp
theorem Blk.rebase (r : Blk base w b vs) {base' : Nat} (h : base' ≤ base) : Blk base' w b vs := ⟨Nat.le_trans h r.ge, r.lt, r.cell, r.fr⟩
end
/-- the same, for a row of one cell an element -/
theorem Blk.mapAt {α : Type} {f : α → Value} {base : Nat} {w : World} {b : Nat} {l : List α} (r : Blk base w b (l.map f)) {q : Nat} {x : α} (h : l[q]? = some x) : w.cell? ⟨b, q, none⟩ = some (f x) :=
  r.cell q _ (by rw [List.getElem?_map, h]; rfl)
theorem Blk.mapSet {α : Type} {f : α → Value} {base : Nat} {w : World} {b : Nat} {l : List α} (r : Blk base w b (l.map f)) {q : Nat} (hq : q < l.length) (x : α) : Blk base (w.setCell ⟨b, q, none⟩ (f x)) b ((l.set q x).map f) := by
  rw [List.map_set]
  exact r.set (by simpa using hq) _
theorem Blk.madeN (w : World) (n : Nat) (v : Value) (E : TypeId) {base : Nat} (hb : base ≤ w.heap.size) : Blk base (w.alloc (.cells (Array.replicate n v) E)) w.heap.size (List.replicate n v) := by
  have := Blk.made w (List.replicate n v) E hb
  simpa using this
end Go.Proofs.Ytfldajplclahfaa
/- A row of the call's own, of elements of some cells each, known element by element. -/
namespace Go.Proofs.Ytfldajplclahfaa
open Go.RowKit
set_option linter.unusedVariables false
/-- block g, from base on, holds the elements of L, and may be written -/
structure RowAt {α : Type} (enc : α → List Value) (size : Nat) (base : Nat) (w : World) (g : Nat) (L : List α) : Prop where
  ge : base ≤ g
  lt : g < w.heap.size
  cell : ∀ (i : Nat) x, L[i]? = some x → ∀ (j : Nat) v, (enc x)[j]? = some v → w.cell? ⟨g, i * size + j, none⟩ = some v
  fr : ∀ o, w.frozen? ⟨g, o, none⟩ = false
/-- 'make([]T, n)', T of some cells -/
theorem run_makeN {P : Program} (t e : TypeId) (i : TypeInfo) (z : Value) {zc : Array Value} {size : Nat} (ht : P.underlying t = some (.slice e)) (hi : P.info? e = some i) (hz : i.zero = some z) (hs : i.size = size) (hc : z.cells = zc)
    (n : Nat) (hbytes : i.bytes * n ≤ 281474976710656) (h63 : n ≤ 9223372036854775807) (w : World) :
    (Instr.makeSlice t (.int .i64 (n : Int)) (.int .i64 (n : Int))).run P w = .ok (.slice (some ⟨w.heap.size, 0, none⟩) n n) (w.alloc (.cells (madeCells zc (n * size)) e)) := by
  have hb : (i.bytes : Int) * (n : Int) ≤ 281474976710656 := by
    have h : ((i.bytes * n : Nat) : Int) ≤ 281474976710656 := by omega
    rwa [Int.natCast_mul] at h
  have hr := run_make (P := P) w t e i z ht hi hz .i64 .i64 n n (by omega) (by omega) hb (by omega)
  simp only [Int.toNat_natCast, hs, hc] at hr
  exact hr
section
variable {α : Type} {enc : α → List Value} {size base : Nat} {w w' : World} {g : Nat} {L : List α}
theorem RowAt.but {T : Blocks} (r : RowAt enc size base w g L) (h : But T w w') (ht : ¬ T g) : RowAt enc size base w' g L :=
  ⟨r.ge, Nat.lt_of_lt_of_le r.lt h.size, fun i x hi j v hv => h.cell ht (r.cell i x hi j v hv), fun o => (frozen_of_block (h.block _ r.lt ht)).trans (r.fr o)⟩
theorem RowAt.below (r : RowAt enc size base w g L) (h : Below w.heap.size w w') : RowAt enc size base w' g L := r.but (T := Nowhere) (But.of_below h) (fun h => h)
theorem RowAt.drewN (r : RowAt enc size base w g L) (n : Nat) : RowAt enc size base (w.drewN n) g L := ⟨r.ge, r.lt, r.cell, r.fr⟩
theorem RowAt.drew (r : RowAt enc size base w g L) : RowAt enc size base w.drew g L := ⟨r.ge, r.lt, r.cell, r.fr⟩
theorem RowAt.rebase (r : RowAt enc size base w g L) {base' : Nat} (h : base' ≤ base) : RowAt enc size base' w g L := ⟨Nat.le_trans h r.ge, r.lt, r.cell, r.fr⟩
theorem RowAt.other (r : RowAt enc size base w g L) {p : Addr} (hp : p.block ≠ g) (x : Value) : RowAt enc size base (w.setCell p x) g L := by
  refine ⟨r.ge, by rw [size_setCell]; exact r.lt, fun i y hi j v hv => ?_, fun o => by rw [World.frozen?_setCell]; exact r.fr o⟩
  rw [World.cell?_setCell_other _ _ _ _ (fun h => hp (by rw [h]))]
  exact r.cell i y hi j v hv
/-- one cell of an element -/
theorem RowAt.at_ (r : RowAt enc size base w g L) {i : Nat} {x : α} (hi : L[i]? = some x) (j : Nat) {v : Value} (hv : (enc x)[j]? = some v) : w.cell? ⟨g, i * size + j, none⟩ = some v := r.cell i x hi j v hv
theorem mul_eq_two {i k j j' : Nat} (hj : j < 2) (hj' : j' < 2) (h : i * 2 + j = k * 2 + j') : i = k ∧ j = j' := by omega
theorem RowAt.set2 (r : RowAt enc 2 base w g L) {i : Nat} (hi : i < L.length) (x : α) {v0 v1 : Value} (hx : enc x = [v0, v1]) (he : ∀ y, (enc y).length = 2) :
    RowAt enc 2 base ((w.setCell ⟨g, i * 2, none⟩ v0).setCell ⟨g, i * 2 + 1, none⟩ v1) g (L.set i x) := by
  have hold : ∀ j, j < 2 → (w.cell? ⟨g, i * 2 + j, none⟩).isSome = true := fun j hj => by
    have := r.cell i L[i] (List.getElem?_eq_getElem hi) j ((enc L[i])[j]'(by rw [he]; exact hj)) (List.getElem?_eq_getElem (by rw [he]; exact hj))
    rw [this]; rfl
  refine ⟨r.ge, by rw [size_setCell, size_setCell]; exact r.lt, fun k y hk j v hv => ?_, fun o => by rw [World.frozen?_setCell, World.frozen?_setCell]; exact r.fr o⟩
  have hj : j < 2 := by have := (List.getElem?_eq_some_iff.1 hv).1; rw [he] at this; exact this
  rw [List.getElem?_set] at hk
  by_cases e : i = k
  · subst e
    rw [if_pos rfl, if_pos hi] at hk
    injection hk with hk; subst hk
    rw [hx] at hv
    match j, hj, hv with
    | 0, _, hv =>
      simp at hv; subst hv
      rw [World.cell?_setCell_other _ _ _ _ (fun h => by injection h with _ h; omega)]
      exact World.cell?_setCell_same' _ _ _ (hold 0 (by omega))
    | 1, _, hv =>
      simp at hv; subst hv
      refine World.cell?_setCell_same' _ _ _ ?_
      rw [World.cell?_setCell_other _ _ _ _ (fun h => by injection h with _ h; omega)]
      exact hold 1 (by omega)
  · rw [if_neg e] at hk
    rw [World.cell?_setCell_other _ _ _ _ (fun h => by injection h with _ h; omega), World.cell?_setCell_other _ _ _ _ (fun h => by injection h with _ h; omega)]
    exact r.cell k y hk j v hv
/-- as a list that is read -/
theorem RowAt.toRd {ok : α → Prop} {bytes c : Nat} {S : Blocks} (r : RowAt enc size base w g L) (he : ∀ y, (enc y).length = size) (hok : ∀ y ∈ L, ok y) (hS : S g) (hc : L.length ≤ c) (hcm : c ≤ maxLen) (hb : L.length * bytes ≤ 140737488355328) :
    RdL (Flat enc ok) size bytes w S L (.slice (some ⟨g, 0, none⟩) L.length c) :=
  ⟨_, c, L.map enc, rfl, hc, hcm, hb, by simp, ⟨fun cs hcs => by obtain ⟨y, _, rfl⟩ := List.mem_map.1 hcs; exact he y, fun _ => ⟨g, 0, rfl, hS, fun i cs hi j v hv => by
    rw [List.getElem?_map] at hi
    obtain ⟨y, hy, rfl⟩ := Option.map_eq_some_iff.1 hi
    rw [Nat.zero_add]
    exact r.cell i y hy j v hv⟩⟩, fun i e cs hi hc => by
    rw [List.getElem?_map, hi] at hc
    simp at hc; subst hc
    exact ⟨rfl, hok e (List.mem_of_getElem? hi)⟩⟩
/-- a row that was just made -/
theorem RowAt.made (w : World) (n : Nat) (x : α) (E : TypeId) {z : Array Value} (hz : enc x = z.toList) (hs : z.size = size) (hpos : 0 < size) (hb : base ≤ w.heap.size) :
    RowAt enc size base (w.alloc (.cells (madeCells z (n * size)) E)) w.heap.size (List.replicate n x) := by
  have h := heap_alloc_new w (.cells (madeCells z (n * size)) E)
  refine ⟨hb, by simp, fun i y hi j v hv => ?_, fun o => ?_⟩
  · rw [List.getElem?_replicate] at hi
    split at hi
    · rename_i hin
      injection hi with hi; subst hi
      rw [hz] at hv
      have hj : j < z.size := by simpa using (List.getElem?_eq_some_iff.1 hv).1
      have hv' : z[j] = v := by simpa using (List.getElem?_eq_some_iff.1 hv).2
      unfold World.cell?
      simp only [h]
      have hlt : i * size + j < n * size := by
        have : i * size + size ≤ n * size := by rw [← Nat.succ_mul]; exact Nat.mul_le_mul_right _ hin
        omega
      have hmod : (i * size + j) % z.size = j := by
        rw [hs, Nat.mul_comm, Nat.mul_add_mod]; exact Nat.mod_eq_of_lt (by omega)
      have : (madeCells z (n * size))[i * size + j]? = some v := by
        unfold madeCells
        rw [Array.getElem?_map]
        have : (Array.range (n * size))[i * size + j]? = some (i * size + j) := by simp [hlt]
        rw [this]
        simp only [Option.map_some, hmod]
        rw [getElem!_pos z j hj, hv']
      simpa using this
    · cases hi
  · unfold World.frozen?
    simp only [h]
    simp
end
end Go.Proofs.Ytfldajplclahfaa
/- Rows of pairs of integers. -/
namespace Go.Proofs.Ytfldajplclahfaa
open Go.RowKit
set_option linter.unusedVariables false
def encP (x : Int × Int) : List Value := [.int .i64 x.1, .int .i64 x.2]
def okPr (x : Int × Int) : Prop := inI x.1 ∧ inI x.2
abbrev RdP := RdL (Flat encP okPr) 2 16
abbrev OwnP := OwnL (Flat encP okPr) 2
theorem RdP.at1 {w : World} {S : Blocks} {l : List (Int × Int)} {A : Option Addr} {n cap : Nat} (h : RdP w S l (.slice A n cap)) {q : Nat} (hq : q < l.length) :
    ∃ b off, A = some ⟨b, off, none⟩ ∧ S b ∧ okPr l[q] ∧ w.cell? ⟨b, off + q * 2, none⟩ = some (.int .i64 l[q].1) ∧ w.cell? ⟨b, off + q * 2 + 1, none⟩ = some (.int .i64 l[q].2) := by
  obtain ⟨b, off, hA, hb, hok, hc⟩ := RdL.flat h hq
  exact ⟨b, off, hA, hb, hok, hc 0 _ rfl, by rw [Nat.add_assoc]; exact hc 1 _ rfl⟩
theorem encP_len (y : Int × Int) : (encP y).length = 2 := rfl
end Go.Proofs.Ytfldajplclahfaa
/- Words for a term that is a value. -/
namespace Go.Proofs.Ytfldajplclahfaa
open Go.RowKit
set_option linter.unusedVariables false
abbrev tmV (k c : Int) (wr : Bool) (lb : Int) (v : Value) : Value := .agg #[.int .i64 k, .int .i64 c, .bool wr, .int .i64 lb, v]
/-- the value V reads as the term t -/
def RdT (w : World) (S : Blocks) (t : Tm) (V : Value) : Prop := ∃ k c wr lb kids v, t = .mk k c wr lb kids ∧ V = tmV k c wr lb v ∧ inI k ∧ inI c ∧ inI lb ∧ RdTms w S kids v
theorem RdT.keep {w w' : World} {S S' : Blocks} {t : Tm} {V : Value} (h : RdT w S t V) (hS : Sub S S') (hk : Same S w w') : RdT w' S' t V := by
  obtain ⟨k, c, wr, lb, kids, v, e1, e2, h1, h2, h3, h4⟩ := h
  exact ⟨k, c, wr, lb, kids, v, e1, e2, h1, h2, h3, h4.keep RdTm.keeps hS hk⟩
theorem RdT.go {B : Nat} {w w' : World} {S : Blocks} {t : Tm} {V : Value} (h : RdT w S t V) (hb : Below B w w') (hS : Sub S (Upto B)) : RdT w' S t V := h.keep (Sub.refl _) (same_of_below hb hS)
theorem RdT.but {T : Blocks} {w w' : World} {S : Blocks} {t : Tm} {V : Value} (h : RdT w S t V) (hb : But T w w') (hS : Sub S (Upto w.heap.size)) (hT : ∀ b, S b → ¬ T b) : RdT w' S t V := h.keep (Sub.refl _) (hb.same hS hT)
theorem RdT.slice {w : World} {S : Blocks} {t : Tm} {k c : Int} {wr : Bool} {lb : Int} {v : Value} (h : RdT w S t (tmV k c wr lb v)) : ∃ A n cap, v = .slice A n cap := by
  obtain ⟨k', c', wr', lb', kids, v', _, e, _, _, _, h4⟩ := h
  obtain ⟨A, cap, rfl, _⟩ := h4.form
  injection e with e
  simp only [Array.mk.injEq, List.cons.injEq, and_true] at e
  exact ⟨_, _, _, e.2.2.2.2⟩
/-- a kid -/
theorem RdTms.kid {w : World} {S : Blocks} {l : List Tm} {A : Option Addr} {n cap : Nat} (h : RdTms w S l (.slice A n cap)) {q : Nat} (hq : q < l.length) :
    ∃ b off k c wr lb v, A = some ⟨b, off, none⟩ ∧ S b ∧ w.cell? ⟨b, off + q * 5, none⟩ = some (.int .i64 k) ∧ w.cell? ⟨b, off + q * 5 + 1, none⟩ = some (.int .i64 c) ∧ w.cell? ⟨b, off + q * 5 + 2, none⟩ = some (.bool wr) ∧
      w.cell? ⟨b, off + q * 5 + 3, none⟩ = some (.int .i64 lb) ∧ w.cell? ⟨b, off + q * 5 + 4, none⟩ = some v ∧ RdT w S l[q] (tmV k c wr lb v) := by
  obtain ⟨b, off, cs, hA, hb, _, hc, hr⟩ := RdL.at_ h hq
  generalize l[q] = t at hr
  obtain ⟨k, c, wr, lb, kids⟩ := t
  obtain ⟨h1, h2, h3, v, rfl, h4⟩ := RdTm.open_ hr
  exact ⟨b, off, k, c, wr, lb, v, hA, hb, hc 0 _ rfl, by rw [Nat.add_assoc]; exact hc 1 _ rfl, by rw [Nat.add_assoc]; exact hc 2 _ rfl, by rw [Nat.add_assoc]; exact hc 3 _ rfl, by rw [Nat.add_assoc]; exact hc 4 _ rfl, k, c, wr, lb, kids, v, rfl, rfl, h1, h2, h3, h4⟩
end Go.Proofs.Ytfldajplclahfaa
