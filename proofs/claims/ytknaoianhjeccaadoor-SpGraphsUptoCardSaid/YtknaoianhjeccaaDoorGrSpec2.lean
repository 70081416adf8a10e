/- What graph.take does in a round, as plain lists; the rows that it keeps. -/
import Derived.Test.YtknaoianhjeccaaDoorGrSpec
import Derived.Test.YtknaoianhjeccaaDoorSetSpec
import Derived.Test.YtknaoianhjeccaaDoorBlk
namespace Go.Proofs.YtknaoianhjeccaaDoor
open Go.RowKit
set_option linter.unusedVariables false
/-- an edge as the program has it -/
def ceE (e : Nat × Nat) : Int × Int := ((e.1 : Int), (e.2 : Int))
/-- waits behind k of n's edges -/
def wkE (es : List (Nat × Nat)) (out : List Nat) (n k m : Nat) : Nat := wtE es out m - ((nxE es n).take k).count m
def rkE (N : Nat) (es : List (Nat × Nat)) (out : List Nat) (n k m : Nat) : Bool := decide (m < N) && (!(out ++ [n]).contains m && wkE es out n k m == 0)
section
variable {N : Nat} {es : List (Nat × Nat)} {out : List Nat} {n : Nat}
theorem wkE_zero (es : List (Nat × Nat)) (out : List Nat) (n m : Nat) : wkE es out n 0 m = wtE es out m := by simp [wkE]
theorem wkE_all (hn : n ∉ out) (m : Nat) : wkE es out n (nxE es n).length m = wtE es (out ++ [n]) m := by
  unfold wkE
  rw [List.take_length]
  have := wtE_take es hn m
  omega
theorem take_count {l : List Nat} {k : Nat} (h : k < l.length) (x : Nat) : (l.take (k + 1)).count x = (l.take k).count x + if x = l[k] then 1 else 0 := by
  rw [List.take_succ_eq_append_getElem h, List.count_append]
  congr 1
  by_cases e : x = l[k]
  · subst e; simp
  · rw [if_neg e]
    exact List.count_eq_zero_of_not_mem (by simpa using e)
theorem wkE_succ (hn : n ∉ out) {k : Nat} (h : k < (nxE es n).length) (x : Nat) : wkE es out n (k + 1) x = if x = (nxE es n)[k] then wkE es out n k x - 1 else wkE es out n k x := by
  unfold wkE
  rw [take_count h]
  split <;> omega
theorem wkE_pos (hn : n ∉ out) {k : Nat} (h : k < (nxE es n).length) : 1 ≤ wkE es out n k (nxE es n)[k] := by
  have h1 := take_count h (nxE es n)[k]
  rw [if_pos rfl] at h1
  have h2 : ((nxE es n).take (k + 1)).count (nxE es n)[k] ≤ (nxE es n).count (nxE es n)[k] := (List.take_sublist _ _).count_le _
  have h3 := wtE_take es hn (nxE es n)[k]
  unfold wkE
  omega
theorem rkE_zero (es : List (Nat × Nat)) (out : List Nat) (n N m : Nat) : ((decide (m < N) && rdyE es out m) && !(decide (m = n))) = rkE N es out n 0 m := by
  unfold rkE rdyE
  rw [wkE_zero]
  have : (out ++ [n]).contains m = (out.contains m || decide (m = n)) := by rw [Bool.eq_iff_iff]; simp
  rw [this]
  cases decide (m < N) <;> cases out.contains m <;> cases decide (m = n) <;> simp
theorem rkE_all (hn : n ∉ out) (m : Nat) : rkE N es out n (nxE es n).length m = (decide (m < N) && rdyE es (out ++ [n]) m) := by
  unfold rkE rdyE
  rw [wkE_all hn]
theorem nx_new (hg : GO N es out) (hr : rdyE es out n = true) {m : Nat} (hm : m ∈ nxE es n) : (out ++ [n]).contains m = false := by
  obtain ⟨h1, h2⟩ := rdyE_iff.1 hr
  have he := nxE_mem.1 hm
  have a : m ∉ out := fun h => h1 (hg.pre h he)
  have b : m ≠ n := fun h => by subst h; exact h1 (h2 _ he)
  simp [a, b]
theorem rkE_yes (hv : ∀ a b, (a, b) ∈ es → a < N ∧ b < N) (hg : GO N es out) (hr : rdyE es out n = true) {k : Nat} (h : k < (nxE es n).length) (h0 : wkE es out n (k + 1) (nxE es n)[k] = 0) (m : Nat) :
    rkE N es out n (k + 1) m = (rkE N es out n k m || decide (m = (nxE es n)[k])) := by
  have hn := (rdyE_iff.1 hr).1
  by_cases e : m = (nxE es n)[k]
  · have hm : (nxE es n)[k] ∈ nxE es n := List.getElem_mem h
    rw [decide_eq_true e, Bool.or_true]
    unfold rkE
    rw [e, nx_new hg hr hm, h0, decide_eq_true (hv _ _ (nxE_mem.1 hm)).2]
    rfl
  · rw [decide_eq_false e, Bool.or_false]
    unfold rkE
    rw [wkE_succ hn h, if_neg e]
theorem rkE_no (hn : n ∉ out) {k : Nat} (h : k < (nxE es n).length) (h0 : wkE es out n (k + 1) (nxE es n)[k] ≠ 0) (m : Nat) :
    rkE N es out n (k + 1) m = rkE N es out n k m := by
  unfold rkE
  rw [wkE_succ hn h]
  by_cases e : m = (nxE es n)[k]
  · rw [if_pos e]
    have := wkE_succ hn h m
    rw [if_pos e] at this
    rw [← e] at h0
    have h1 : ((wkE es out n k m - 1 : Nat) == 0) = false := by simp; omega
    have h2 : ((wkE es out n k m : Nat) == 0) = false := by simp; omega
    rw [h1, h2]
  · rw [if_neg e]
theorem wkE_le (es : List (Nat × Nat)) (out : List Nat) (n k m : Nat) : wkE es out n k m ≤ es.length := by
  have := wtE_le es out m
  unfold wkE; omega
end
/-- the first of a set of those ready -/
theorem set_least {N : Nat} {es : List (Nat × Nat)} {out l : List Nat} (h : SetIs l (fun m => decide (m < N) && rdyE es out m)) : memB l l.length = (List.range N).filter (rdyE es out) := by
  rw [h.mem (N := N) (fun n hn => by rw [decide_eq_false (by omega)]; rfl)]
  apply List.filter_congr
  intro m hm
  rw [decide_eq_true (List.mem_range.1 hm)]; rfl
theorem set_none {N : Nat} {es : List (Nat × Nat)} {out l : List Nat} (h : SetIs l (fun m => decide (m < N) && rdyE es out m)) (h0 : l.length = 0) : leastE N es out = none := by
  unfold leastE
  rw [List.find?_eq_none]
  intro m hm
  have := h.none h0 m
  rw [decide_eq_true (List.mem_range.1 hm), Bool.true_and] at this
  rw [this]; simp
theorem set_some {N : Nat} {es : List (Nat × Nat)} {out l : List Nat} (h : SetIs l (fun m => decide (m < N) && rdyE es out m)) (h0 : 0 < l.length) : ∃ n r, leastE N es out = some n ∧ memB l l.length = n :: r := by
  have hm := set_least h
  cases hl : leastE N es out with
  | none =>
    obtain ⟨m, hP⟩ := h.some h0
    simp only [Bool.and_eq_true, decide_eq_true_eq] at hP
    have := List.find?_eq_none.1 hl m (List.mem_range.2 hP.1)
    exact absurd hP.2 (by simpa using this)
  | some n =>
    unfold leastE at hl
    rw [← List.head?_filter, ← hm] at hl
    cases he : memB l l.length with
    | nil => rw [he] at hl; cases hl
    | cons a r => rw [he] at hl; simp at hl; exact ⟨n, r, rfl, by rw [hl]⟩
/-- N numbers, said one by one -/
def rowN (N : Nat) (f : Nat → Nat) : List Value := (List.range N).map fun m => Value.int .i64 (f m : Int)
theorem rowN_len {N : Nat} {f : Nat → Nat} : (rowN N f).length = N := by simp [rowN]
theorem rowN_get {N : Nat} {f : Nat → Nat} {k : Nat} (h : k < N) : (rowN N f)[k]? = some (.int .i64 (f k : Int)) := by
  unfold rowN; rw [List.getElem?_map, List.getElem?_range h]; rfl
theorem rowN_congr {N : Nat} {f g : Nat → Nat} (h : ∀ k, k < N → f k = g k) : rowN N f = rowN N g := by
  unfold rowN
  apply List.map_congr_left
  intro k hk
  rw [h k (List.mem_range.1 hk)]
theorem rowN_set {N : Nat} {f : Nat → Nat} {m y : Nat} : (rowN N f).set m (.int .i64 (y : Int)) = rowN N (fun k => if k = m then y else f k) := by
  apply List.ext_getElem?
  intro j
  rw [List.getElem?_set, rowN_len]
  by_cases hj : j < N
  · rw [rowN_get hj, rowN_get hj]
    by_cases e : m = j
    · subst e; simp [hj]
    · rw [if_neg e, if_neg (fun h => e h.symm)]
  · rw [List.getElem?_eq_none (l := rowN N f) (by rw [rowN_len]; omega), List.getElem?_eq_none (l := rowN N _) (by rw [rowN_len]; omega)]
    by_cases e : m = j
    · subst e; rw [if_pos rfl, if_neg hj]
    · rw [if_neg e]
theorem rowN_zero (N : Nat) : List.replicate N (Value.int .i64 0) = rowN N (fun _ => 0) := by
  unfold rowN; apply List.ext_getElem <;> simp
section
variable {base : Nat} {w w' : World} {b N : Nat} {f : Nat → Nat}
theorem Blk.atN (h : Blk base w b (rowN N f)) {k : Nat} (hk : k < N) : w.cell? ⟨b, k, none⟩ = some (.int .i64 (f k : Int)) := h.cell k _ (rowN_get hk)
theorem Blk.setN (h : Blk base w b (rowN N f)) {k y : Nat} (hk : k < N) : Blk base (w.setCell ⟨b, k, none⟩ (.int .i64 (y : Int))) b (rowN N (fun j => if j = k then y else f j)) := by
  rw [← rowN_set]
  exact h.set (by rw [rowN_len]; exact hk) _
theorem Blk.congrN (h : Blk base w b (rowN N f)) {g : Nat → Nat} (e : ∀ k, k < N → f k = g k) : Blk base w b (rowN N g) := by
  rw [← rowN_congr e]; exact h
end
/-- a row of others' grows, that is none of the old blocks -/
theorem But.grew {T : Blocks} {a b c : World} {row : Option Nat} (h : But T a b) (hg : b.grownBy c row) (hr : ∀ k, row = some k → a.heap.size ≤ k) : But T a c :=
  ⟨hg.os.trans h.os, hg.tape.trans h.tape, hg.output.trans h.output, Nat.le_trans h.size hg.size, fun k hk ht => (hg.block k (Nat.lt_of_lt_of_le hk h.size) (fun e => by have := hr k e.symm; omega)).trans (h.block k hk ht)⟩
/-- a set that lies apart from the row o and from the blocks below lo -/
structure RS (lo : Nat) (w : World) (lst : List Nat) (s o : Value) : Prop where
  ex : ∃ T, Sub T (Upto w.heap.size) ∧ (∀ k, T k → lo ≤ k) ∧ (∀ k, o.ownBlock = some k → ¬ T k) ∧ RdU w T lst s
section
variable {lo : Nat} {w w' : World} {lst : List Nat} {s o : Value}
theorem RS.below (h : RS lo w lst s o) (hb : Below w.heap.size w w') : RS lo w' lst s o := by
  obtain ⟨T, h1, h2, h3, h4⟩ := h.ex
  exact ⟨T, h1.lift hb.size, h2, h3, h4.keep Flat.keeps (Sub.refl _) (same_of_below hb h1)⟩
theorem RS.set (h : RS lo w lst s o) {p : Addr} (hp : p.block < lo) (u : Value) : RS lo (w.setCell p u) lst s o := by
  obtain ⟨T, h1, h2, h3, h4⟩ := h.ex
  exact ⟨T, by rw [size_setCell]; exact h1, h2, h3, h4.stored Flat.keeps (fun e => by have := h2 _ e; omega) u⟩
theorem RS.new {n : Nat} (h : RdU w (Plus Nowhere n w.heap.size) lst s) (hn : lo ≤ n) (ho : ∀ k, o.ownBlock = some k → k < n) : RS lo w lst s o :=
  ⟨⟨_, fun b h => h.elim (fun h => h.elim) (fun h => h.2), fun k h => h.elim (fun h => h.elim) (fun h => Nat.le_trans hn h.1), fun k hk h => h.elim (fun h => h.elim) (fun h => by have := ho k hk; have := h.1; omega), h⟩⟩
theorem RS.grown {o' : Value} {k0 : Nat} (h : RS lo w lst s o) (hg : w.grownBy w' o.ownBlock) (ho : o'.ownBlock = o.ownBlock ∨ o'.ownBlock = some k0) (hk : w.heap.size ≤ k0) : RS lo w' lst s o' := by
  obtain ⟨T, h1, h2, h3, h4⟩ := h.ex
  refine ⟨T, h1.lift hg.size, h2, fun k hk' hT => ?_, h4.keep Flat.keeps (Sub.refl _) (fun p hp => World.cell?_of_block (hg.block p.block (h1 _ hp) (fun e => h3 _ e.symm hp)))⟩
  rcases ho with ho | ho <;> rw [ho] at hk'
  · exact h3 k hk' hT
  · injection hk' with hk'
    have : k < w.heap.size := h1 k hT
    omega
theorem RS.more {T : Blocks} {w' : World} {u : Value} (h1 : Sub T (Upto w.heap.size)) (h2 : ∀ k, T k → lo ≤ k) (h3 : ∀ k, o.ownBlock = some k → ¬ T k) (hr : RdU w' (Plus T w.heap.size w'.heap.size) lst u) (hb : w.heap.size ≤ w'.heap.size) (hl : lo ≤ w.heap.size) (ho : ∀ k, o.ownBlock = some k → k < w.heap.size) : RS lo w' lst u o :=
  ⟨⟨_, fun b h => h.elim (fun h => Nat.lt_of_lt_of_le (h1 b h) hb) (fun h => h.2), fun k h => h.elim (h2 k) (fun h => Nat.le_trans hl h.1), fun k hk h => h.elim (h3 k hk) (fun h => by have := ho k hk; have := h.1; omega), hr⟩⟩
theorem OwnL.low {α : Type} {rd : World → Blocks → α → List Value → Prop} {size : Nat} {E : TypeId} {w : World} {base base' : Nat} {S : Blocks} {l : List α} {v : Value} (h : OwnL rd size E w base S l v) (hb : base' ≤ base) : OwnL rd size E w base' S l v := by
  obtain ⟨T, css, t1, t2, t3, h1, h2, ⟨e, h3⟩, h4⟩ := h
  refine ⟨T, css, t1, t2, t3, h1, h2, ⟨e, ?_⟩, h4⟩
  rcases h3 with h3 | ⟨g, cap, cur, rfl, hbg, hg, hn, hcap, hsz, htake⟩
  · exact .inl h3
  · exact .inr ⟨g, cap, cur, rfl, Nat.le_trans hb hbg, hg, hn, hcap, hsz, htake⟩
end
end Go.Proofs.YtknaoianhjeccaaDoor
