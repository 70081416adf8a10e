/- Texts merged: But, Blk, Open, ScW. -/
import Derived.Test.YtnpgpcnkdocknaaDoorGRdEW
import Derived.ProofKit
import Derived.OpenShut
import Derived.SizedLaws
import Derived.JoinedCond
import Derived.Deep.CondSized
import Derived.Deep.Slices
import Derived.Laws.Strings
namespace Go.Proofs.YtnpgpcnkdocknaaDoor
open Go.RowKit
set_option linter.unusedVariables false
/-- all that was there is as it was, but for the blocks of T -/
structure But (T : Blocks) (w w' : World) : Prop where
  os : w'.os = w.os
  tape : w'.tape = w.tape
  output : w'.output = w.output
  size : w.heap.size ≤ w'.heap.size
  block : ∀ k, k < w.heap.size → ¬ T k → w'.heap[k]? = w.heap[k]?
def Is (b : Nat) : Blocks := fun k => k = b
def Is2 (b c : Nat) : Blocks := fun k => k = b ∨ k = c
theorem But.refl (T : Blocks) (w : World) : But T w w := ⟨rfl, rfl, rfl, Nat.le_refl _, fun _ _ _ => rfl⟩
theorem But.trans {T : Blocks} {a b c : World} (h : But T a b) (k : But T b c) : But T a c :=
  ⟨k.os.trans h.os, k.tape.trans h.tape, k.output.trans h.output, Nat.le_trans h.size k.size, fun i hi ht => (k.block i (Nat.lt_of_lt_of_le hi h.size) ht).trans (h.block i hi ht)⟩
theorem But.sub {T U : Blocks} {a b : World} (h : But T a b) (hs : Sub T U) : But U a b := ⟨h.os, h.tape, h.output, h.size, fun k hk ht => h.block k hk (fun e => ht (hs _ e))⟩
theorem But.drewN {T : Blocks} {a b : World} (h : But T a b) (n : Nat) : But T a (b.drewN n) := ⟨h.os, h.tape, h.output, h.size, h.block⟩
theorem But.drew {T : Blocks} {a b : World} (h : But T a b) : But T a b.drew := ⟨h.os, h.tape, h.output, h.size, h.block⟩
theorem But.of_below {T : Blocks} {a b : World} (h : Below a.heap.size a b) : But T a b := ⟨h.os, h.tape, h.output, h.size, fun k hk _ => h.block k hk⟩
theorem But.alloc {T : Blocks} {a b : World} (h : But T a b) (o : Obj) : But T a (b.alloc o) := h.trans (.of_below ((Below.refl _ _).alloc (Nat.le_refl _) _))
theorem But.setCell {T : Blocks} {a b : World} (h : But T a b) {p : Addr} (hp : T p.block) (u : Value) : But T a (b.setCell p u) :=
  h.trans ⟨rfl, rfl, rfl, by simp [World.setCell], fun k hk ht => by
    have hne : p.block ≠ k := fun e => ht (e ▸ hp)
    simp [World.setCell, Array.getElem?_modify, hne]⟩
theorem But.setNew {T : Blocks} {a b : World} (h : But T a b) {p : Addr} (hp : T p.block ∨ a.heap.size ≤ p.block) (u : Value) : But T a (b.setCell p u) :=
  ⟨h.os, h.tape, h.output, by rw [size_setCell]; exact h.size, fun k hk ht => by
    have hne : p.block ≠ k := fun e => hp.elim (fun h => ht (e ▸ h)) (fun h => by omega)
    have h2 : (b.setCell p u).heap[k]? = b.heap[k]? := by simp [World.setCell, Array.getElem?_modify, hne]
    exact h2.trans (h.block k hk ht)⟩
/-- blocks of T that are all younger than B -/
theorem But.below {T : Blocks} {B : Nat} {a b : World} (h : But T a b) (hB : B ≤ a.heap.size) (hT : ∀ k, T k → B ≤ k) : Below B a b :=
  ⟨h.os, h.tape, h.output, h.size, fun k hk => h.block k (by omega) (fun e => by have := hT k e; omega)⟩
theorem But.cell {T : Blocks} {w w' : World} (h : But T w w') {p : Addr} {v : Value} (hT : ¬ T p.block) (hc : w.cell? p = some v) : w'.cell? p = some v := by
  have hlt : p.block < w.heap.size := World.block_lt_of_cell? w _ hc
  rw [World.cell?_of_block (h.block _ hlt hT)]; exact hc
theorem But.same {T S : Blocks} {w w' : World} (h : But T w w') (hS : Sub S (Upto w.heap.size)) (hT : ∀ k, S k → ¬ T k) : Same S w w' :=
  fun p hp => World.cell?_of_block (h.block _ (hS _ hp) (hT _ hp))
theorem frozen_of_block {w w' : World} {b o : Nat} {sp : Option Nat} (h : w'.heap[b]? = w.heap[b]?) : w'.frozen? ⟨b, o, sp⟩ = w.frozen? ⟨b, o, sp⟩ := by
  simp only [World.frozen?, h]
/-- a flat row of the call's own, while others' blocks turn -/
theorem OwnL.but {α : Type} {enc : α → List Value} {ok : α → Prop} {size : Nat} {E : TypeId} {w w' : World} {base : Nat} {S T : Blocks} {l : List α} {v : Value} (h : OwnL (Flat enc ok) size E w base S l v) (hb : But T w w') (hT : ∀ k, v.ownBlock = some k → ¬ T k) : OwnL (Flat enc ok) size E w' base S l v := by
  obtain ⟨U, css, t1, t2, t3, h1, h2, h3, h4⟩ := h
  refine ⟨U, css, t1, t2.lift hb.size, t3, h1, h2, ?_, h4⟩
  obtain ⟨e, h3⟩ := h3
  refine ⟨e, ?_⟩
  rcases h3 with h3 | ⟨g, cap, cur, rfl, hbg, hg, hn, hcap, hsz, htake⟩
  · exact .inl h3
  · refine .inr ⟨g, cap, cur, rfl, hbg, ?_, hn, hcap, hsz, htake⟩
    rw [hb.block g (Array.getElem?_eq_some_iff.1 hg).1 (hT g rfl)]; exact hg
theorem But.of_grown {w w' : World} {row : Option Nat} (h : w.grownBy w' row) : But (fun k => row = some k) w w' :=
  ⟨h.os, h.tape, h.output, h.size, fun k hk ht => h.block k hk (fun e => ht e.symm)⟩
/-- block b, from base on, holds the cells vs, and may be written -/
structure Blk (base : Nat) (w : World) (b : Nat) (vs : List Value) : Prop where
  ge : base ≤ b
  lt : b < w.heap.size
  cell : ∀ (q : Nat) v, vs[q]? = some v → w.cell? ⟨b, q, none⟩ = some v
  fr : ∀ o, w.frozen? ⟨b, o, none⟩ = false
section
variable {base : Nat} {w w' : World} {b : Nat} {vs : List Value}
theorem Blk.but {T : Blocks} (r : Blk base w b vs) (h : But T w w') (ht : ¬ T b) : Blk base w' b vs :=
  ⟨r.ge, Nat.lt_of_lt_of_le r.lt h.size, fun q v hq => h.cell ht (r.cell q v hq), fun o => (frozen_of_block (h.block _ r.lt ht)).trans (r.fr o)⟩
theorem Blk.below (r : Blk base w b vs) (h : Below w.heap.size w w') : Blk base w' b vs := r.but (T := Nowhere) (But.of_below h) (fun h => h)
theorem Blk.drewN (r : Blk base w b vs) (n : Nat) : Blk base (w.drewN n) b vs := ⟨r.ge, r.lt, r.cell, r.fr⟩
theorem Blk.drew (r : Blk base w b vs) : Blk base w.drew b vs := ⟨r.ge, r.lt, r.cell, r.fr⟩
theorem Blk.set (r : Blk base w b vs) {i : Nat} (hi : i < vs.length) (x : Value) : Blk base (w.setCell ⟨b, i, none⟩ x) b (vs.set i x) := by
  refine ⟨r.ge, by rw [size_setCell]; exact r.lt, fun q v hq => ?_, fun o => by rw [World.frozen?_setCell]; exact r.fr o⟩
  rw [List.getElem?_set] at hq
  by_cases e : i = q
  · subst e
    rw [if_pos rfl, if_pos hi] at hq
    injection hq with hq; subst hq
    exact World.cell?_setCell_same' _ _ _ (by rw [r.cell i vs[i] (List.getElem?_eq_getElem hi)]; rfl)
  · rw [if_neg e] at hq
    rw [World.cell?_setCell_other _ _ _ _ (fun h => e (by injection h with _ h))]
    exact r.cell q v hq
theorem Blk.other (r : Blk base w b vs) {p : Addr} (hp : p.block ≠ b) (x : Value) : Blk base (w.setCell p x) b vs := by
  refine ⟨r.ge, by rw [size_setCell]; exact r.lt, fun q v hq => ?_, fun o => by rw [World.frozen?_setCell]; exact r.fr o⟩
  rw [World.cell?_setCell_other _ _ _ _ (fun h => hp (by rw [h]))]
  exact r.cell q v hq
theorem Blk.made (w : World) (vs : List Value) (E : TypeId) {base : Nat} (hb : base ≤ w.heap.size) : Blk base (w.alloc (.cells vs.toArray E)) w.heap.size vs := by
  have h := heap_alloc_new w (.cells vs.toArray E)
  refine ⟨hb, by simp, fun q v hq => ?_, fun o => ?_⟩
  · unfold World.cell?
    simp only [h]
    simpa using hq
  · unfold World.frozen?
    simp only [h]
    simp
theorem Blk.rebase (r : Blk base w b vs) {base' : Nat} (h : base' ≤ base) : Blk base' w b vs := ⟨Nat.le_trans h r.ge, r.lt, r.cell, r.fr⟩
end
/-- the same, for a row of one cell an element -/
theorem Blk.mapAt {α : Type} {f : α → Value} {base : Nat} {w : World} {b : Nat} {l : List α} (r : Blk base w b (l.map f)) {q : Nat} {x : α} (h : l[q]? = some x) : w.cell? ⟨b, q, none⟩ = some (f x) :=
  r.cell q _ (by rw [List.getElem?_map, h]; rfl)
theorem Blk.mapSet {α : Type} {f : α → Value} {base : Nat} {w : World} {b : Nat} {l : List α} (r : Blk base w b (l.map f)) {q : Nat} (hq : q < l.length) (x : α) : Blk base (w.setCell ⟨b, q, none⟩ (f x)) b ((l.set q x).map f) := by
  rw [List.map_set]
  exact r.set (by simpa using hq) _
theorem Blk.madeN (w : World) (n : Nat) (v : Value) (E : TypeId) {base : Nat} (hb : base ≤ w.heap.size) : Blk base (w.alloc (.cells (Array.replicate n v) E)) w.heap.size (List.replicate n v) := by
  have := Blk.made w (List.replicate n v) E hb
  simpa using this
end Go.Proofs.YtnpgpcnkdocknaaDoor
namespace Go.Proofs.YtnpgpcnkdocknaaDoor
open Go.ChangeShapes Go.WideShapes Go.ChangeAt Go.RowKit Go.Deep
set_option linter.unusedVariables false

mutual
/-- how many values and letters an expression holds, at least -/
def Ex.wt : Ex → Nat
  | .mk _ _ s args => 1 + s.size + Ex.wts args
def Ex.wts : List Ex → Nat
  | [] => 0
  | e :: r => Ex.wt e + Ex.wts r
end
mutual
def St.wt : St → Nat
  | .mk _ s a b body els => 1 + s.size + Ex.wt a + Ex.wt b + St.wts body + St.wts els
def St.wts : List St → Nat
  | [] => 0
  | e :: r => St.wt e + St.wts r
end
mutual
def Tm.wt : Tm → Nat
  | .mk _ _ _ _ kids => 1 + Tm.wts kids
def Tm.wts : List Tm → Nat
  | [] => 0
  | e :: r => Tm.wt e + Tm.wts r
end
theorem Ex.wts_eq (l : List Ex) : Ex.wts l = (l.map Ex.wt).sum := by induction l <;> simp [Ex.wts, *]
theorem St.wts_eq (l : List St) : St.wts l = (l.map St.wt).sum := by induction l <;> simp [St.wts, *]
theorem Tm.wts_eq (l : List Tm) : Tm.wts l = (l.map Tm.wt).sum := by induction l <;> simp [Tm.wts, *]

/-- each string, slice and map in d takes at most what the form's reach allows -/
def Light {H : Type} (P : Program) (t : TypeId) (d : DataW H) : Prop := ∀ n ∈ d.weights P t, n ≤ reachBytes
theorem weightsAll_mem {H : Type} {P : Program} {e : TypeId} : ∀ {l : List (DataW H)} {d : DataW H}, d ∈ l → ∀ n ∈ d.weights P e, n ∈ DataW.weightsAll P e l
  | x :: r, d, h, n, hn => by
    simp only [DataW.weightsAll, List.mem_append]
    rcases List.mem_cons.1 h with rfl | h
    · exact .inl hn
    · exact .inr (weightsAll_mem h n hn)
theorem Light.elem {H : Type} {P : Program} {t e : TypeId} {elems spare : List (DataW H)} (h : Light P t (.slice elems spare)) (ht : P.underlying t = some (.slice e)) : (∀ d ∈ elems, Light P e d) ∧ (elems.length + spare.length) * P.bytesOf e ≤ reachBytes := by
  refine ⟨fun d hd n hn => h n ?_, h _ ?_⟩
  · simp only [DataW.weights, ht, List.mem_cons, List.mem_append]
    exact .inr (.inl (weightsAll_mem hd n hn))
  · simp [DataW.weights, ht]
theorem Light.field {H : Type} {P : Program} {t : TypeId} {fs : Array Field} {parts : List (DataW H)} (h : Light P t (.agg parts)) (ht : P.underlying t = some (.struct fs)) {i : Nat} {f : Field} {d : DataW H} (hf : fs[i]? = some f) (hd : parts[i]? = some d) : Light P f.type d := fun n hn => h n (by
  simp only [DataW.weights, ht]
  exact DataW.weights_mem_each (j := i) (by simpa using congrArg (Option.map (·.type)) hf) hd n hn)
theorem Light.string {H : Type} {P : Program} {t : TypeId} {s : ByteArray} (h : Light (H := H) P t (.lit (.string s.data.toList))) : s.size ≤ 140737488355328 := by
  have := h s.size (by simp only [DataW.weights, List.mem_singleton]; rw [Array.length_toList]; rfl)
  unfold reachBytes at this
  omega
theorem light_of {H : Type} {P : Program} {ts : List TypeId} {ds : List (DataW H)} (h : (DataW.weightsEach P ts ds).all (· ≤ reachBytes) = true) {j : Nat} {t : TypeId} {d : DataW H} (ht : ts[j]? = some t) (hd : ds[j]? = some d) : Light P t d :=
  fun n hn => by simpa using List.all_eq_true.1 h _ (DataW.weights_mem_each ht hd n hn)

theorem len1 {α : Type} {l : List α} (h : l.length = 1) : ∃ c0, l = [c0] := by
  match l, h with
  | [c0], _ => exact ⟨c0, rfl⟩
theorem len2 {α : Type} {l : List α} (h : l.length = 2) : ∃ c0 c1, l = [c0, c1] := by
  match l, h with
  | [c0, c1], _ => exact ⟨c0, c1, rfl⟩
theorem len3 {α : Type} {l : List α} (h : l.length = 3) : ∃ c0 c1 c2, l = [c0, c1, c2] := by
  match l, h with
  | [c0, c1, c2], _ => exact ⟨c0, c1, c2, rfl⟩
theorem len4 {α : Type} {l : List α} (h : l.length = 4) : ∃ c0 c1 c2 c3, l = [c0, c1, c2, c3] := by
  match l, h with
  | [c0, c1, c2, c3], _ => exact ⟨c0, c1, c2, c3, rfl⟩
theorem len5 {α : Type} {l : List α} (h : l.length = 5) : ∃ c0 c1 c2 c3 c4, l = [c0, c1, c2, c3, c4] := by
  match l, h with
  | [c0, c1, c2, c3, c4], _ => exact ⟨c0, c1, c2, c3, c4, rfl⟩
theorem len6 {α : Type} {l : List α} (h : l.length = 6) : ∃ c0 c1 c2 c3 c4 c5, l = [c0, c1, c2, c3, c4, c5] := by
  match l, h with
  | [c0, c1, c2, c3, c4, c5], _ => exact ⟨c0, c1, c2, c3, c4, c5, rfl⟩
theorem len7 {α : Type} {l : List α} (h : l.length = 7) : ∃ c0 c1 c2 c3 c4 c5 c6, l = [c0, c1, c2, c3, c4, c5, c6] := by
  match l, h with
  | [c0, c1, c2, c3, c4, c5, c6], _ => exact ⟨c0, c1, c2, c3, c4, c5, c6, rfl⟩
theorem len8 {α : Type} {l : List α} (h : l.length = 8) : ∃ c0 c1 c2 c3 c4 c5 c6 c7, l = [c0, c1, c2, c3, c4, c5, c6, c7] := by
  match l, h with
  | [c0, c1, c2, c3, c4, c5, c6, c7], _ => exact ⟨c0, c1, c2, c3, c4, c5, c6, c7, rfl⟩
theorem len12 {α : Type} {l : List α} (h : l.length = 12) : ∃ c0 c1 c2 c3 c4 c5 c6 c7 c8 c9 c10 c11, l = [c0, c1, c2, c3, c4, c5, c6, c7, c8, c9, c10, c11] := by
  match l, h with
  | [c0, c1, c2, c3, c4, c5, c6, c7, c8, c9, c10, c11], _ => exact ⟨c0, c1, c2, c3, c4, c5, c6, c7, c8, c9, c10, c11, rfl⟩
theorem bulk_mem {H : Type} : ∀ {l : List (DataW H)} {i : Nat} {d : DataW H}, l[i]? = some d → Rows.uptoBulk d ≤ Rows.uptoBulkAll l
  | x :: r, 0, d, h => by simp at h; subst h; simp [Rows.uptoBulkAll]
  | x :: r, i + 1, d, h => by
    have := bulk_mem (l := r) (i := i) (by simpa using h)
    simp only [Rows.uptoBulkAll]
    omega

section
variable {H : Type} {enc : TypeId × Value → H} {P : Program} {w : World} {spare : Nat → Bool} {held : Bool}
/-- a slice argument, element by element: rd is the elements' reading, mu what an element weighs -/
theorem slice_open {α : Type} [Inhabited α] {rd : World → Blocks → α → List Value → Prop} {mu : α → Nat} {size bytes : Nat} {t e : TypeId} {fuel : Nat} {cs : List Value} {x : DataW H × List MemPlace} (ht : P.underlying t = some (.slice e)) (hC : P.cellsOf e = size) (hB : P.bytesOf e = bytes) (hpos : 0 < size)
    (hL : Light P t x.1) (h : DataW.trod enc P w 0 spare held fuel t cs = some x)
    (IH : ∀ n cs' y, n < fuel → DataW.trod enc P w 0 spare held n e cs' = some y → Light P e y.1 → ∃ a, rd w (Upto w.heap.size) a cs' ∧ mu a ≤ Rows.uptoBulk y.1) :
    ∃ l v, cs = [v] ∧ RdL rd size bytes w (Upto w.heap.size) l v ∧ (l.map mu).sum + 1 ≤ Rows.uptoBulk x.1 := by
  rcases DataW.trod_slice ht h with ⟨rfl, rfl⟩ | ⟨a, len, cap, elems, rest, n, rfl, rfl, rfl, _, hl, hm, hlen, hel, hsp, hns⟩
  · exact ⟨[], _, rfl, RdL.nil (by simp [maxLen]), by simp [Rows.uptoBulk]⟩
  · obtain ⟨hLe, hLb⟩ := hL.elem ht
    have hi : ∀ i, i < len → ∃ y : α × List Value, w.cells? 0 (a.add (i * size)) size = some y.2 ∧ rd w (Upto w.heap.size) y.1 y.2 ∧ ∃ z, elems[i]? = some z ∧ mu y.1 ≤ Rows.uptoBulk z.1 := fun i hi => by
      have h1 := hel i hi
      have hz : elems[i]? = some (elems[i]'(by omega)) := List.getElem?_eq_getElem (by omega)
      rw [hz, hC] at h1
      obtain ⟨cs', h2, h3⟩ := Option.bind_eq_some_iff.1 h1
      obtain ⟨b, hb, hmu⟩ := IH n cs' _ (by omega) h3 (hLe _ (List.mem_map.2 ⟨_, List.getElem_mem _, rfl⟩))
      exact ⟨(b, cs'), h2, hb, _, hz, hmu⟩
    obtain ⟨f, hf⟩ := choose_lt hi
    have hbytes : len * bytes ≤ 140737488355328 := by
      rw [hB] at hLb
      unfold reachBytes at hLb
      simp only [List.length_map, hlen] at hLb
      have : len * bytes ≤ (len + rest.length) * bytes := Nat.mul_le_mul_right _ (by omega)
      omega
    refine ⟨(List.range len).map fun i => (f i).1, _, rfl, ⟨some a, cap, (List.range len).map fun i => (f i).2, by simp, by simpa using hl, hm, by simpa using hbytes, by simp, ⟨?_, ?_⟩, ?_⟩, ?_⟩
    · intro cs hcs
      obtain ⟨i, hi, rfl⟩ := List.mem_map.1 hcs
      exact (World.cells?_some (hf i (List.mem_range.1 hi)).1).2.1
    · intro hne
      have hlen0 : 0 < len := by
        rcases Nat.eq_zero_or_pos len with h0 | h0
        · subst h0; exact absurd rfl hne
        · exact h0
      obtain ⟨b, off, sp⟩ := a
      have h0 := World.cells?_some (hf 0 hlen0).1
      have h00 := h0.2.2 0 hpos
      have hl0 : 0 < (f 0).2.length := by rw [h0.2.1]; exact hpos
      rw [List.getElem?_eq_getElem hl0] at h00
      have hadd0 : ((⟨b, off, sp⟩ : Addr).add (0 * size)).add 0 = ⟨b, off, sp⟩ := by simp [Addr.add]
      rw [hadd0] at h00
      have hs := World.cell?_spot h00
      simp only at hs
      subst hs
      refine ⟨b, off, rfl, World.block_lt_of_cell? w _ h00, fun i cs hi j v hv => ?_⟩
      have hil : i < len := by
        have := (List.getElem?_eq_some_iff.1 hi).1
        simpa using this
      have hcs : (f i).2 = cs := by simpa [hil] using hi
      have h1 := World.cells?_some (hf i hil).1
      have hj : j < size := by
        have := (List.getElem?_eq_some_iff.1 hv).1
        rw [← hcs, h1.2.1] at this
        exact this
      have h2 := h1.2.2 j hj
      rw [hcs, hv] at h2
      have hadd : ((⟨b, off, none⟩ : Addr).add (i * size)).add j = ⟨b, off + (i * size + j), none⟩ := by
        rw [add_of_add]
        unfold Addr.add
        split <;> simp_all
      rwa [hadd] at h2
    · intro i e' cs' he hcs
      have hil : i < len := by
        have := (List.getElem?_eq_some_iff.1 he).1
        simpa using this
      have h1 : (f i).1 = e' := by simpa [hil] using he
      have h2 : (f i).2 = cs' := by simpa [hil] using hcs
      subst h1; subst h2
      exact (hf i hil).2.1
    · have hsum : ∀ k, k ≤ len → (((List.range k).map fun i => (f i).1).map mu).sum ≤ Rows.uptoBulkAll ((elems.map (·.1)).take k) := by
        intro k
        induction k with
        | zero => intro _; simp
        | succ k ih =>
          intro hk
          obtain ⟨z, hz, hmu⟩ := (hf k (by omega)).2.2
          have hke : (elems.map (·.1))[k]? = some z.1 := by simp [hz]
          have hkl : k < (elems.map (·.1)).length := (List.getElem?_eq_some_iff.1 hke).1
          have htk : (elems.map (·.1)).take (k + 1) = (elems.map (·.1)).take k ++ [z.1] := by
            rw [List.take_succ_eq_append_getElem hkl]
            congr 2
            exact (List.getElem?_eq_some_iff.1 hke).2
          have happ : ∀ (l r : List (DataW H)), Rows.uptoBulkAll (l ++ r) = Rows.uptoBulkAll l + Rows.uptoBulkAll r := by
            intro l r
            induction l with
            | nil => simp [Rows.uptoBulkAll]
            | cons x l ih => simp only [List.cons_append, Rows.uptoBulkAll, ih]; omega
          rw [htk, happ, List.range_succ]
          simp only [List.map_append, List.sum_append, List.map_cons, List.map_nil, List.sum_cons, List.sum_nil, Rows.uptoBulkAll]
          have := ih (by omega)
          omega
      have := hsum len (Nat.le_refl _)
      rw [List.take_of_length_le (by simp [hlen])] at this
      simp only [Rows.uptoBulk]
      omega
end
end Go.Proofs.YtnpgpcnkdocknaaDoor
namespace Go.Proofs.YtnpgpcnkdocknaaDoor
open Go.RowKit
set_option linter.unusedVariables false
theorem OwnL.take {α : Type} {rd : World → Blocks → α → List Value → Prop} {size : Nat} {E : TypeId} {w : World} {base : Nat} {S : Blocks} {l : List α} {A : Option Addr} {n c m : Nat} (h : OwnL rd size E w base S l (.slice A n c)) (hm : m ≤ l.length) : OwnL rd size E w base S (l.take m) (.slice A m c) := by
  obtain ⟨T, css, t1, t2, t3, h1, h2, h3, h4⟩ := h
  have hl : (l.take m).length = m := by simp; omega
  have hfl : ∀ (css : List (List Value)), (∀ cs ∈ css, cs.length = size) → ∀ m, (css.take m).flatten = css.flatten.take (m * size) := by
    intro css
    induction css with
    | nil => intro _ m; simp
    | cons x r ih =>
      intro hs m
      cases m with
      | zero => simp
      | succ m =>
        have hx : x.length = size := hs x (by simp)
        rw [List.take_succ_cons, List.flatten_cons, List.flatten_cons, ih (fun cs h => hs cs (by simp [h]))]
        rw [show (m + 1) * size = x.length + m * size by rw [hx, Nat.succ_mul]; omega, List.take_length_add_append]
  have hcl : (css.take m).flatten.length = m * size := by
    have : ∀ (css : List (List Value)), (∀ cs ∈ css, cs.length = size) → css.flatten.length = css.length * size := by
      intro css
      induction css with
      | nil => intro _; simp
      | cons x r ih => intro hs; rw [List.flatten_cons, List.length_append, ih (fun cs h => hs cs (by simp [h])), hs x (by simp), List.length_cons, Nat.succ_mul]; omega
    rw [this _ (fun cs h => h2 cs (List.mem_of_mem_take h)), List.length_take, Nat.min_eq_left (by rw [h1]; exact hm)]
  refine ⟨T, css.take m, t1, t2, (by cases A <;> exact t3), by simp [h1], fun cs h => h2 cs (List.mem_of_mem_take h), ?_, fun i e cs hi hc => ?_⟩
  · rw [hl]
    obtain ⟨e, h3⟩ := h3
    refine ⟨hcl, ?_⟩
    rcases h3 with ⟨hv, h0⟩ | ⟨g, cap, cur, hv, hbg, hg, hn, hcap, hsz, htake⟩
    · injection hv with e1 e2 e3
      subst e1 e3
      left
      have : m = 0 := by omega
      subst this
      exact ⟨rfl, rfl⟩
    · injection hv with e1 e2 e3
      subst e1 e3
      refine .inr ⟨g, c, cur, rfl, hbg, hg, by omega, hcap, hsz, ?_⟩
      rw [hfl css h2 m, ← htake, List.take_take, Nat.min_eq_left (Nat.mul_le_mul_right _ hm)]
  · rw [List.getElem?_take] at hi hc
    split at hi
    · rename_i hlt
      rw [if_pos hlt] at hc
      exact h4 i e cs hi hc
    · cases hi
theorem OwnL.cap_le {α : Type} {rd : World → Blocks → α → List Value → Prop} {size : Nat} {E : TypeId} {w : World} {base : Nat} {S : Blocks} {l : List α} {A : Option Addr} {n c : Nat} (h : OwnL rd size E w base S l (.slice A n c)) : l.length ≤ c ∧ c ≤ maxLen := by
  obtain ⟨T, css, _, _, _, h1, h2, h3, h4⟩ := h
  rcases h3.2 with ⟨hv, h0⟩ | ⟨g, cap, cur, hv, hbg, hg, hn, hcap, hsz, htake⟩
  · injection hv with e1 e2 e3
    subst e3
    exact ⟨by omega, by simp [maxLen]⟩
  · injection hv with e1 e2 e3
    subst e3
    exact ⟨hn, hcap⟩
theorem St.wt_pos (s : St) : 1 ≤ s.wt := by obtain ⟨k, n, a, b, body, els⟩ := s; simp only [St.wt]; omega
theorem wts_app (l m : List St) : St.wts (l ++ m) = St.wts l + St.wts m := by
  induction l with
  | nil => simp [St.wts]
  | cons s r ih => rw [List.cons_append, St.wts, St.wts, ih]; omega
theorem wts_take (l : List St) {q : Nat} (hq : q < l.length) : St.wts (l.take q) + l[q].wt ≤ St.wts l := by
  have h : St.wts l = St.wts (l.take (q + 1)) + St.wts (l.drop (q + 1)) := by rw [← wts_app, List.take_append_drop]
  rw [List.take_succ_eq_append_getElem hq, wts_app, St.wts, St.wts] at h
  omega
theorem RdEx.toE {w : World} {S : Blocks} {e : Ex} {k n : Int} {s : ByteArray} {v : Value} (h : RdEx w S e [.int .i64 k, .int .i64 n, .string s, v]) : RdE w S e (exV k n s v) := by
  obtain ⟨k', n', s', args⟩ := e
  obtain ⟨h1, h2, h3, v', e, h4⟩ := h.open_
  simp only [List.cons.injEq, Value.int.injEq, true_and, Value.string.injEq, and_true] at e
  obtain ⟨rfl, rfl, rfl, rfl⟩ := e
  exact ⟨_, _, _, args, _, rfl, rfl, h1, h2, h3, h4⟩
/-- what a round reads: the statement's own block d, its expressions and its blocks of statements -/
structure Rnd (base : Nat) (S : Blocks) (d : Nat) (cs : List Value) (a b : Ex) (VA VB : Value) (body els : List St) (v1 v2 : Value) (w : World) : Prop where
  bd : Blk base w d cs
  ra : RdE w S a VA
  rb : RdE w S b VB
  r1 : RdSts w S body v1
  r2 : RdSts w S els v2
theorem Rnd.but {base : Nat} {S T : Blocks} {d : Nat} {cs : List Value} {a b : Ex} {VA VB : Value} {body els : List St} {v1 v2 : Value} {w w' : World} (h : Rnd base S d cs a b VA VB body els v1 v2 w) (hb : But T w w') (hT : ∀ k, T k → base ≤ k) (hd : ¬ T d) (hS : Sub S (Upto base)) : Rnd base S d cs a b VA VB body els v1 v2 w' := by
  have hs : Same S w w' := hb.same (hS.trans (Sub.upto (Nat.le_trans h.bd.ge (Nat.le_of_lt h.bd.lt)))) (fun k hk ht => by have := hT k ht; have := hS k hk; unfold Upto at this; omega)
  exact ⟨h.bd.but hb hd, h.ra.keep (Sub.refl _) hs, h.rb.keep (Sub.refl _) hs, h.r1.keep RdSt.keeps (Sub.refl _) hs, h.r2.keep RdSt.keeps (Sub.refl _) hs⟩
end Go.Proofs.YtnpgpcnkdocknaaDoor
