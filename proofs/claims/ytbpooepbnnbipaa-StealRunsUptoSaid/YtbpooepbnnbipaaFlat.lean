/- Slices of flat things (integers, structs of integers, bools and strings): their readings need no further memory. -/
import Derived.Test.YtbpooepbnnbipaaBase
import Derived.Laws.MakeOwn
import Derived.Laws.OwnMore
namespace Go.Proofs.Ytbpooepbnnbipaa
open Go.RowKit
set_option linter.unusedVariables false

/-- the cells are those of x -/
def Flat {α : Type} (enc : α → List Value) (ok : α → Prop) : World → Blocks → α → List Value → Prop := fun _ _ x cs => cs = enc x ∧ ok x
theorem Flat.keeps {α : Type} {enc : α → List Value} {ok : α → Prop} : Keeps (Flat enc ok) := fun _ _ _ _ _ _ _ _ h => h

def encU (x : Nat) : List Value := [.int .u64 (x : Int)]
def okU (x : Nat) : Prop := x < 18446744073709551616
abbrev RdU := RdL (Flat encU okU) 1 8
def encI (x : Int) : List Value := [.int .i64 x]
abbrev RdI := RdL (Flat encI inI) 1 8

section
variable {α : Type} {enc : α → List Value} {ok : α → Prop} {size bytes : Nat} {E : TypeId} {w w' : World} {base : Nat} {S S' : Blocks} {l : List α} {v : Value}
/-- a flat slice: the cells one by one -/
theorem RdL.flat {A : Option Addr} {n cap : Nat} (h : RdL (Flat enc ok) size bytes w S l (.slice A n cap)) {q : Nat} (hq : q < l.length) :
    ∃ b off, A = some ⟨b, off, none⟩ ∧ S b ∧ ok l[q] ∧ ∀ (j : Nat) v, (enc l[q])[j]? = some v → w.cell? ⟨b, off + (q * size + j), none⟩ = some v := by
  obtain ⟨b, off, cs, hA, hb, _, hc, rfl, hok⟩ := h.at_ hq
  exact ⟨b, off, hA, hb, hok, hc⟩
/-- a flat slice of one cell an element -/
theorem RdL.one {f : α → Value} {A : Option Addr} {n cap : Nat} (h : RdL (Flat (fun x => [f x]) ok) 1 bytes w S l (.slice A n cap)) {q : Nat} (hq : q < l.length) :
    ∃ b off, A = some ⟨b, off, none⟩ ∧ S b ∧ ok l[q] ∧ w.cell? ⟨b, off + q, none⟩ = some (f l[q]) := by
  obtain ⟨b, off, hA, hb, hok, hc⟩ := h.flat hq
  have := hc 0 (f l[q]) rfl
  simp only [Nat.mul_one, Nat.add_zero] at this
  exact ⟨b, off, hA, hb, hok, this⟩
/-- a flat slice, said as the append law wants it: its elements lie nowhere -/
theorem RdL.bare (h : RdL (Flat enc ok) size bytes w S l v) (T : Blocks) : RdL (fun w' _ e cs => Flat enc ok w' T e cs) size bytes w S l v := h
theorem RdL.oks {A : Option Addr} {n cap : Nat} (h : RdL (Flat enc ok) size bytes w S l (.slice A n cap)) : ∀ x ∈ l, ok x := by
  intro x hx
  obtain ⟨q, hq, rfl⟩ := List.getElem_of_mem hx
  obtain ⟨_, _, _, _, h2, _⟩ := h.flat hq
  exact h2
/-- the first n of it -/
theorem RdL.take {rd : World → Blocks → α → List Value → Prop} {A : Option Addr} {n cap m : Nat} (h : RdL rd size bytes w S l (.slice A n cap)) (hm : m ≤ l.length) : RdL rd size bytes w S (l.take m) (.slice A m cap) := by
  obtain ⟨A', cap', css, h1, h2, h3, h4, h5, h6, h7⟩ := h
  injection h1 with e1 e2 e3
  subst e1 e2 e3
  have hl : (l.take m).length = m := by simp; omega
  refine ⟨A, cap, css.take m, by rw [hl], by omega, h3, ?_, by simp; omega, ⟨fun cs hcs => h6.1 cs (List.mem_of_mem_take hcs), fun hne => ?_⟩, fun i e cs hi hc => ?_⟩
  · rw [hl]; exact Nat.le_trans (Nat.mul_le_mul_right _ hm) h4
  · obtain ⟨b, off, hA, hb, hc⟩ := h6.2 (by intro h; subst h; simp at hne)
    refine ⟨b, off, hA, hb, fun i cs hi j v hv => hc i cs ?_ j v hv⟩
    rw [List.getElem?_take] at hi
    split at hi
    · exact hi
    · cases hi
  · rw [List.getElem?_take] at hi hc
    split at hi
    · rename_i hlt
      rw [if_pos hlt] at hc
      exact h7 i e cs hi hc
    · cases hi

/-- a row of the call's own, flat: where it lies -/
theorem OwnL.flat (h : OwnL (Flat enc ok) size E w base S l v) (hne : 0 < l.length) : ∃ g cap, v = .slice (some ⟨g, 0, none⟩) l.length cap ∧ base ≤ g ∧ g < w.heap.size ∧ l.length ≤ cap ∧ cap ≤ maxLen ∧
    (∀ o, w.frozen? ⟨g, o, none⟩ = false) ∧ ∀ (q : Nat) (hq : q < l.length), ok l[q] ∧ ∀ (j : Nat) u, (enc l[q])[j]? = some u → w.cell? ⟨g, q * size + j, none⟩ = some u := by
  obtain ⟨T, css, _, _, _, h1, h2, h3, h4⟩ := h
  have hc := fun g hg => h3.cells (g := g) hg
  rcases h3.2 with ⟨rfl, h0⟩ | ⟨g, cap, cur, rfl, hbg, hg, hn, hcap, hsz, htake⟩
  · omega
  · refine ⟨g, cap, rfl, hbg, (Array.getElem?_eq_some_iff.1 hg).1, hn, hcap, fun o => by simp [World.frozen?, hg], fun q hq => ?_⟩
    have hqc : css[q]? = some css[q] := List.getElem?_eq_getElem (by omega)
    obtain ⟨e, hok⟩ := h4 q _ _ (List.getElem?_eq_getElem hq) hqc
    refine ⟨hok, fun j u hu => ?_⟩
    rw [← e] at hu
    have := hc g rfl (q * size + j) u (flatten_at h2 hqc hu)
    have hadd : (⟨g, 0, none⟩ : Addr).add (q * size + j) = ⟨g, q * size + j, none⟩ := by unfold Addr.add; split <;> simp_all
    rwa [hadd] at this
theorem OwnL.oks (h : OwnL (Flat enc ok) size E w base S l v) : ∀ x ∈ l, ok x := by
  intro x hx
  obtain ⟨q, hq, rfl⟩ := List.getElem_of_mem hx
  obtain ⟨_, _, _, _, _, _, _, _, h2⟩ := h.flat (by omega)
  exact (h2 q hq).1
end
section
variable {α : Type} {f : α → Value} {ok : α → Prop} {E : TypeId} {w w' : World} {base : Nat} {S S' : Blocks} {l : List α}
theorem flat_one {css : List (List Value)} {l : List α} (h1 : css.length = l.length) (h4 : ∀ (i : Nat) e cs, l[i]? = some e → css[i]? = some cs → cs = [f e] ∧ ok e) : css.flatten = l.map f := by
  induction l generalizing css with
  | nil => simp at h1; subst h1; rfl
  | cons x r ih =>
    match css, h1 with
    | c :: cr, h1 =>
      have := (h4 0 x c rfl rfl).1
      subst this
      simp only [List.flatten_cons, List.map_cons, List.singleton_append, List.cons.injEq, true_and]
      exact ih (by simpa using h1) (fun i e cs a b => h4 (i + 1) e cs (by simpa using a) (by simpa using b))
/-- a store into a row of one cell an element -/
theorem OwnL.set1 {g n cap : Nat} (h : OwnL (Flat (fun x => [f x]) ok) 1 E w base S l (.slice (some ⟨g, 0, none⟩) n cap)) {q : Nat} (hq : q < l.length) (x : α) (hx : ok x) :
    OwnL (Flat (fun x => [f x]) ok) 1 E (w.setCell ⟨g, q, none⟩ (f x)) base S (l.set q x) (.slice (some ⟨g, 0, none⟩) n cap) := by
  obtain ⟨T, css, t1, t2, t3, h1, h2, h3, h4⟩ := h
  have hflat := flat_one (f := f) (ok := ok) h1 h4
  rw [hflat] at h3
  obtain ⟨hl, h3⟩ := h3
  rcases h3 with ⟨hv, _⟩ | ⟨g', cap', cur, hv, hbg, hg, hn, hcap, hsz, htake⟩
  · cases hv
  · injection hv with e1 e2 e3
    injection e1 with e1
    injection e1 with e1
    subst e1 e2 e3
    have hm : ((l.set q x).map fun y => [f y]).flatten = (l.map f).set q (f x) := by
      rw [← List.map_set]
      induction (l.set q x) with
      | nil => rfl
      | cons a r ih => simp [ih]
    refine ⟨T, (l.set q x).map fun y => [f y], t1, by simpa [World.setCell] using t2, t3, by simp, (fun cs hcs => by obtain ⟨y, _, rfl⟩ := List.mem_map.1 hcs; rfl), ⟨by rw [hm]; simp, .inr ⟨g, cap, cur.setIfInBounds q (f x), by simp, hbg, ?_, by simpa using hn, hcap, by simpa using hsz, ?_⟩⟩, fun i e cs hi hc => ?_⟩
    · simp [World.setCell, Array.getElem?_modify, hg]
    · rw [hm, ← htake]
      simp only [List.length_set, Nat.mul_one, Array.toList_setIfInBounds]
      rw [List.take_set]
    · rw [List.getElem?_map] at hc
      rw [hi] at hc
      simp at hc
      subst hc
      refine ⟨rfl, ?_⟩
      rcases Nat.lt_or_ge i l.length with hil | hil
      · by_cases hiq : q = i
        · subst hiq
          rw [List.getElem?_set_self hq] at hi
          simp at hi; subst hi; exact hx
        · rw [List.getElem?_set_ne hiq] at hi
          have hic : css[i]? = some css[i] := List.getElem?_eq_getElem (by omega)
          exact (h4 i e _ hi hic).2
      · rw [List.getElem?_eq_none (by simpa using hil)] at hi
        cases hi
/-- a row that was just made: all its elements are x -/
theorem OwnL.made {n : Nat} (x : α) (hx : ok x) (hb : base ≤ w.heap.size) (hn : n ≤ maxLen) : OwnL (Flat (fun x => [f x]) ok) 1 E (w.alloc (.cells (Array.replicate n (f x)) E)) base S (List.replicate n x) (.slice (some ⟨w.heap.size, 0, none⟩) n n) := by
  refine ⟨fun _ => False, (List.replicate n x).map fun y => [f y], fun _ h => h.elim, fun _ h => h.elim, fun _ _ h => h, by simp, by simp, ⟨by simp, .inr ⟨w.heap.size, n, Array.replicate n (f x), by simp, hb, heap_alloc_new w _, by simp, hn, by simp, ?_⟩⟩, fun i e cs hi hc => ?_⟩
  · have hm : ((List.replicate n x).map fun y => [f y]).flatten = List.replicate n (f x) := by
      induction n with
      | zero => rfl
      | succ n ih => simp [List.replicate_succ]
    rw [hm]
    simp
  · rw [List.getElem?_map, hi] at hc
    simp at hc
    subst hc
    rw [List.getElem?_replicate] at hi
    split at hi
    · simp at hi; subst hi; exact ⟨rfl, hx⟩
    · cases hi
/-- what an append law leaves, read as a flat row -/
theorem OwnL.of_cells {v : Value} (h : w.ownsRow base E 1 v l.length (l.map f)) (hok : ∀ x ∈ l, ok x) : OwnL (Flat (fun x => [f x]) ok) 1 E w base S l v := by
  refine ⟨fun _ => False, l.map fun y => [f y], fun _ h => h.elim, fun _ h => h.elim, fun _ _ h => h, by simp, by simp, ?_, fun i e cs hi hc => ?_⟩
  · have hm : (l.map fun y => [f y]).flatten = l.map f := by
      clear hok h
      induction l with
      | nil => rfl
      | cons a r ih => simp [ih]
    rw [hm]; exact h
  · rw [List.getElem?_map, hi] at hc
    simp at hc
    subst hc
    exact ⟨rfl, hok _ (List.mem_of_getElem? hi)⟩
end
/-- 'make([]T, n)', T of one cell: an equation for every world, laid ahead of a walk -/
theorem run_make1 {P : Program} (t e : TypeId) (i : TypeInfo) (z : Value) (ht : P.underlying t = some (.slice e)) (hi : P.info? e = some i) (hz : i.zero = some z) (h1 : i.size = 1) (hc : z.cells = #[z])
    (n : Nat) (hbytes : i.bytes * n ≤ 281474976710656) (h63 : n ≤ 9223372036854775807) (w : World) :
    (Instr.makeSlice t (.int .i64 (n : Int)) (.int .i64 (n : Int))).run P w = .ok (.slice (some ⟨w.heap.size, 0, none⟩) n n) (w.alloc (.cells (Array.replicate n z) e)) := by
  have hb : (i.bytes : Int) * (n : Int) ≤ 281474976710656 := by
    have h : ((i.bytes * n : Nat) : Int) ≤ 281474976710656 := by omega
    rwa [Int.natCast_mul] at h
  have hr := run_make (P := P) w t e i z ht hi hz .i64 .i64 n n (by omega) (by omega) hb (by omega)
  simp only [Int.toNat_natCast, h1, Nat.mul_one, hc] at hr
  have he : madeCells #[z] n = Array.replicate n z := by
    apply Array.toList_inj.1
    rw [toList_madeCells_one]
    simp
  rw [he] at hr
  exact hr
def Nowhere : Blocks := fun _ => False
theorem Sub.nowhere (S : Blocks) : Sub Nowhere S := fun _ h => h.elim
theorem not_nowhere {v : Value} : ∀ k, v.ownBlock = some k → ¬ Nowhere k := fun _ _ h => h
theorem oneU {w : World} {S : Blocks} : ∀ (e : Nat) (cs : List Value), Flat encU okU w S e cs → ∀ u ∈ cs, u.oneCell' = true := by
  rintro e _ ⟨rfl, _⟩ u hu
  simp only [encU, List.mem_singleton] at hu
  subst hu; rfl
theorem oneI {w : World} {S : Blocks} : ∀ (e : Int) (cs : List Value), Flat encI inI w S e cs → ∀ u ∈ cs, u.oneCell' = true := by
  rintro e _ ⟨rfl, _⟩ u hu
  simp only [encI, List.mem_singleton] at hu
  subst hu; rfl
theorem RdU.at1 {w : World} {S : Blocks} {l : List Nat} {A : Option Addr} {n cap : Nat} (h : RdU w S l (.slice A n cap)) {q : Nat} (hq : q < l.length) :
    ∃ b off, A = some ⟨b, off, none⟩ ∧ S b ∧ l[q] < 18446744073709551616 ∧ w.cell? ⟨b, off + q, none⟩ = some (.int .u64 ((l[q] : Nat) : Int)) :=
  RdL.one (f := fun (x : Nat) => Value.int .u64 (x : Int)) (ok := okU) h hq
theorem RdI.at1 {w : World} {S : Blocks} {l : List Int} {A : Option Addr} {n cap : Nat} (h : RdI w S l (.slice A n cap)) {q : Nat} (hq : q < l.length) :
    ∃ b off, A = some ⟨b, off, none⟩ ∧ S b ∧ inI l[q] ∧ w.cell? ⟨b, off + q, none⟩ = some (.int .i64 l[q]) :=
  RdL.one (f := fun (x : Int) => Value.int .i64 x) (ok := inI) h hq
abbrev OwnU := OwnL (Flat encU okU) 1
abbrev OwnI := OwnL (Flat encI inI) 1
theorem OwnU.open_ {E : TypeId} {w : World} {base : Nat} {S : Blocks} {l : List Nat} {v : Value} (h : OwnU E w base S l v) (hne : 0 < l.length) : ∃ g cap, v = .slice (some ⟨g, 0, none⟩) l.length cap ∧ base ≤ g ∧ g < w.heap.size ∧ l.length ≤ cap ∧ cap ≤ maxLen ∧
    (∀ o, w.frozen? ⟨g, o, none⟩ = false) ∧ ∀ (q : Nat) (hq : q < l.length), l[q] < 18446744073709551616 ∧ w.cell? ⟨g, q, none⟩ = some (.int .u64 ((l[q] : Nat) : Int)) := by
  obtain ⟨g, cap, h1, h2, h3, h4, h5, h6, h7⟩ := h.flat hne
  exact ⟨g, cap, h1, h2, h3, h4, h5, h6, fun q hq => ⟨(h7 q hq).1, by simpa using (h7 q hq).2 0 _ rfl⟩⟩
theorem OwnI.open_ {E : TypeId} {w : World} {base : Nat} {S : Blocks} {l : List Int} {v : Value} (h : OwnI E w base S l v) (hne : 0 < l.length) : ∃ g cap, v = .slice (some ⟨g, 0, none⟩) l.length cap ∧ base ≤ g ∧ g < w.heap.size ∧ l.length ≤ cap ∧ cap ≤ maxLen ∧
    (∀ o, w.frozen? ⟨g, o, none⟩ = false) ∧ ∀ (q : Nat) (hq : q < l.length), inI l[q] ∧ w.cell? ⟨g, q, none⟩ = some (.int .i64 l[q]) := by
  obtain ⟨g, cap, h1, h2, h3, h4, h5, h6, h7⟩ := h.flat hne
  exact ⟨g, cap, h1, h2, h3, h4, h5, h6, fun q hq => ⟨(h7 q hq).1, by simpa using (h7 q hq).2 0 _ rfl⟩⟩
theorem OwnU.set_ {E : TypeId} {w : World} {base : Nat} {S : Blocks} {l : List Nat} {g n cap : Nat} (h : OwnU E w base S l (.slice (some ⟨g, 0, none⟩) n cap)) {q : Nat} (hq : q < l.length) (x : Nat) (hx : x < 18446744073709551616) :
    OwnU E (w.setCell ⟨g, q, none⟩ (.int .u64 (x : Int))) base S (l.set q x) (.slice (some ⟨g, 0, none⟩) n cap) := OwnL.set1 (f := fun (x : Nat) => Value.int .u64 (x : Int)) (ok := okU) h hq x hx
theorem OwnI.set_ {E : TypeId} {w : World} {base : Nat} {S : Blocks} {l : List Int} {g n cap : Nat} (h : OwnI E w base S l (.slice (some ⟨g, 0, none⟩) n cap)) {q : Nat} (hq : q < l.length) (x : Int) (hx : inI x) :
    OwnI E (w.setCell ⟨g, q, none⟩ (.int .i64 x)) base S (l.set q x) (.slice (some ⟨g, 0, none⟩) n cap) := OwnL.set1 (f := fun (x : Int) => Value.int .i64 x) (ok := inI) h hq x hx
end Go.Proofs.Ytbpooepbnnbipaa
