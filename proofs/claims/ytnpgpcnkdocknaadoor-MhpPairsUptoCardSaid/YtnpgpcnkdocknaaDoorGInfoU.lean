/- Texts merged: GrSpec2, GrSpec3, ClSpec, MpSpec, InfoU. -/
import Derived.Test.YtnpgpcnkdocknaaDoorGGrSpec
import Derived.Test.YtnpgpcnkdocknaaDoorGSetSpec
import Derived.Test.YtnpgpcnkdocknaaDoorGScW
import Derived.Test.YtnpgpcnkdocknaaDoorBase
namespace Go.Proofs.YtnpgpcnkdocknaaDoor
open Go.RowKit
set_option linter.unusedVariables false
/-- an edge as the program has it -/
def ceE (e : Nat × Nat) : Int × Int := ((e.1 : Int), (e.2 : Int))
/-- waits behind k of n's edges -/
def wkE (es : List (Nat × Nat)) (out : List Nat) (n k m : Nat) : Nat := wtE es out m - ((nxE es n).take k).count m
def rkE (N : Nat) (es : List (Nat × Nat)) (out : List Nat) (n k m : Nat) : Bool := decide (m < N) && (!(out ++ [n]).contains m && wkE es out n k m == 0)
section
variable {N : Nat} {es : List (Nat × Nat)} {out : List Nat} {n : Nat}
theorem wkE_zero (es : List (Nat × Nat)) (out : List Nat) (n m : Nat) : wkE es out n 0 m = wtE es out m := by simp [wkE]
theorem wkE_all (hn : n ∉ out) (m : Nat) : wkE es out n (nxE es n).length m = wtE es (out ++ [n]) m := by
  unfold wkE
  rw [List.take_length]
  have := wtE_take es hn m
  omega
theorem take_count {l : List Nat} {k : Nat} (h : k < l.length) (x : Nat) : (l.take (k + 1)).count x = (l.take k).count x + if x = l[k] then 1 else 0 := by
  rw [List.take_succ_eq_append_getElem h, List.count_append]
  congr 1
  by_cases e : x = l[k]
  · subst e; simp
  · rw [if_neg e]
    exact List.count_eq_zero_of_not_mem (by simpa using e)
theorem wkE_succ (hn : n ∉ out) {k : Nat} (h : k < (nxE es n).length) (x : Nat) : wkE es out n (k + 1) x = if x = (nxE es n)[k] then wkE es out n k x - 1 else wkE es out n k x := by
  unfold wkE
  rw [take_count h]
  split <;> omega
theorem wkE_pos (hn : n ∉ out) {k : Nat} (h : k < (nxE es n).length) : 1 ≤ wkE es out n k (nxE es n)[k] := by
  have h1 := take_count h (nxE es n)[k]
  rw [if_pos rfl] at h1
  have h2 : ((nxE es n).take (k + 1)).count (nxE es n)[k] ≤ (nxE es n).count (nxE es n)[k] := (List.take_sublist _ _).count_le _
  have h3 := wtE_take es hn (nxE es n)[k]
  unfold wkE
  omega
theorem rkE_zero (es : List (Nat × Nat)) (out : List Nat) (n N m : Nat) : ((decide (m < N) && rdyE es out m) && !(decide (m = n))) = rkE N es out n 0 m := by
  unfold rkE rdyE
  rw [wkE_zero]
  have : (out ++ [n]).contains m = (out.contains m || decide (m = n)) := by rw [Bool.eq_iff_iff]; simp
  rw [this]
  cases decide (m < N) <;> cases out.contains m <;> cases decide (m = n) <;> simp
theorem rkE_all (hn : n ∉ out) (m : Nat) : rkE N es out n (nxE es n).length m = (decide (m < N) && rdyE es (out ++ [n]) m) := by
  unfold rkE rdyE
  rw [wkE_all hn]
theorem nx_new (hg : GO N es out) (hr : rdyE es out n = true) {m : Nat} (hm : m ∈ nxE es n) : (out ++ [n]).contains m = false := by
  obtain ⟨h1, h2⟩ := rdyE_iff.1 hr
  have he := nxE_mem.1 hm
  have a : m ∉ out := fun h => h1 (hg.pre h he)
  have b : m ≠ n := fun h => by subst h; exact h1 (h2 _ he)
  simp [a, b]
theorem rkE_yes (hv : ∀ a b, (a, b) ∈ es → a < N ∧ b < N) (hg : GO N es out) (hr : rdyE es out n = true) {k : Nat} (h : k < (nxE es n).length) (h0 : wkE es out n (k + 1) (nxE es n)[k] = 0) (m : Nat) :
    rkE N es out n (k + 1) m = (rkE N es out n k m || decide (m = (nxE es n)[k])) := by
  have hn := (rdyE_iff.1 hr).1
  by_cases e : m = (nxE es n)[k]
  · have hm : (nxE es n)[k] ∈ nxE es n := List.getElem_mem h
    rw [decide_eq_true e, Bool.or_true]
    unfold rkE
    rw [e, nx_new hg hr hm, h0, decide_eq_true (hv _ _ (nxE_mem.1 hm)).2]
    rfl
  · rw [decide_eq_false e, Bool.or_false]
    unfold rkE
    rw [wkE_succ hn h, if_neg e]
theorem rkE_no (hn : n ∉ out) {k : Nat} (h : k < (nxE es n).length) (h0 : wkE es out n (k + 1) (nxE es n)[k] ≠ 0) (m : Nat) :
    rkE N es out n (k + 1) m = rkE N es out n k m := by
  unfold rkE
  rw [wkE_succ hn h]
  by_cases e : m = (nxE es n)[k]
  · rw [if_pos e]
    have := wkE_succ hn h m
    rw [if_pos e] at this
    rw [← e] at h0
    have h1 : ((wkE es out n k m - 1 : Nat) == 0) = false := by simp; omega
    have h2 : ((wkE es out n k m : Nat) == 0) = false := by simp; omega
    rw [h1, h2]
  · rw [if_neg e]
theorem wkE_le (es : List (Nat × Nat)) (out : List Nat) (n k m : Nat) : wkE es out n k m ≤ es.length := by
  have := wtE_le es out m
  unfold wkE; omega
end
/-- the first of a set of those ready -/
theorem set_least {N : Nat} {es : List (Nat × Nat)} {out l : List Nat} (h : SetIs l (fun m => decide (m < N) && rdyE es out m)) : memB l l.length = (List.range N).filter (rdyE es out) := by
  rw [h.mem (N := N) (fun n hn => by rw [decide_eq_false (by omega)]; rfl)]
  apply List.filter_congr
  intro m hm
  rw [decide_eq_true (List.mem_range.1 hm)]; rfl
theorem set_none {N : Nat} {es : List (Nat × Nat)} {out l : List Nat} (h : SetIs l (fun m => decide (m < N) && rdyE es out m)) (h0 : l.length = 0) : leastE N es out = none := by
  unfold leastE
  rw [List.find?_eq_none]
  intro m hm
  have := h.none h0 m
  rw [decide_eq_true (List.mem_range.1 hm), Bool.true_and] at this
  rw [this]; simp
theorem set_some {N : Nat} {es : List (Nat × Nat)} {out l : List Nat} (h : SetIs l (fun m => decide (m < N) && rdyE es out m)) (h0 : 0 < l.length) : ∃ n r, leastE N es out = some n ∧ memB l l.length = n :: r := by
  have hm := set_least h
  cases hl : leastE N es out with
  | none =>
    obtain ⟨m, hP⟩ := h.some h0
    simp only [Bool.and_eq_true, decide_eq_true_eq] at hP
    have := List.find?_eq_none.1 hl m (List.mem_range.2 hP.1)
    exact absurd hP.2 (by simpa using this)
  | some n =>
    unfold leastE at hl
    rw [← List.head?_filter, ← hm] at hl
    cases he : memB l l.length with
    | nil => rw [he] at hl; cases hl
    | cons a r => rw [he] at hl; simp at hl; exact ⟨n, r, rfl, by rw [hl]⟩
/-- N numbers, said one by one -/
def rowN (N : Nat) (f : Nat → Nat) : List Value := (List.range N).map fun m => Value.int .i64 (f m : Int)
theorem rowN_len {N : Nat} {f : Nat → Nat} : (rowN N f).length = N := by simp [rowN]
theorem rowN_get {N : Nat} {f : Nat → Nat} {k : Nat} (h : k < N) : (rowN N f)[k]? = some (.int .i64 (f k : Int)) := by
  unfold rowN; rw [List.getElem?_map, List.getElem?_range h]; rfl
theorem rowN_congr {N : Nat} {f g : Nat → Nat} (h : ∀ k, k < N → f k = g k) : rowN N f = rowN N g := by
  unfold rowN
  apply List.map_congr_left
  intro k hk
  rw [h k (List.mem_range.1 hk)]
theorem rowN_set {N : Nat} {f : Nat → Nat} {m y : Nat} : (rowN N f).set m (.int .i64 (y : Int)) = rowN N (fun k => if k = m then y else f k) := by
  apply List.ext_getElem?
  intro j
  rw [List.getElem?_set, rowN_len]
  by_cases hj : j < N
  · rw [rowN_get hj, rowN_get hj]
    by_cases e : m = j
    · subst e; simp [hj]
    · rw [if_neg e, if_neg (fun h => e h.symm)]
  · rw [List.getElem?_eq_none (l := rowN N f) (by rw [rowN_len]; omega), List.getElem?_eq_none (l := rowN N _) (by rw [rowN_len]; omega)]
    by_cases e : m = j
    · subst e; rw [if_pos rfl, if_neg hj]
    · rw [if_neg e]
theorem rowN_zero (N : Nat) : List.replicate N (Value.int .i64 0) = rowN N (fun _ => 0) := by
  unfold rowN; apply List.ext_getElem <;> simp
section
variable {base : Nat} {w w' : World} {b N : Nat} {f : Nat → Nat}
theorem Blk.atN (h : Blk base w b (rowN N f)) {k : Nat} (hk : k < N) : w.cell? ⟨b, k, none⟩ = some (.int .i64 (f k : Int)) := h.cell k _ (rowN_get hk)
theorem Blk.setN (h : Blk base w b (rowN N f)) {k y : Nat} (hk : k < N) : Blk base (w.setCell ⟨b, k, none⟩ (.int .i64 (y : Int))) b (rowN N (fun j => if j = k then y else f j)) := by
  rw [← rowN_set]
  exact h.set (by rw [rowN_len]; exact hk) _
theorem Blk.congrN (h : Blk base w b (rowN N f)) {g : Nat → Nat} (e : ∀ k, k < N → f k = g k) : Blk base w b (rowN N g) := by
  rw [← rowN_congr e]; exact h
end
/-- a row of others' grows, that is none of the old blocks -/
theorem But.grew {T : Blocks} {a b c : World} {row : Option Nat} (h : But T a b) (hg : b.grownBy c row) (hr : ∀ k, row = some k → a.heap.size ≤ k) : But T a c :=
  ⟨hg.os.trans h.os, hg.tape.trans h.tape, hg.output.trans h.output, Nat.le_trans h.size hg.size, fun k hk ht => (hg.block k (Nat.lt_of_lt_of_le hk h.size) (fun e => by have := hr k e.symm; omega)).trans (h.block k hk ht)⟩
/-- a set that lies apart from the row o and from the blocks below lo -/
structure RS (lo : Nat) (w : World) (lst : List Nat) (s o : Value) : Prop where
  ex : ∃ T, Sub T (Upto w.heap.size) ∧ (∀ k, T k → lo ≤ k) ∧ (∀ k, o.ownBlock = some k → ¬ T k) ∧ RdU w T lst s
section
variable {lo : Nat} {w w' : World} {lst : List Nat} {s o : Value}
theorem RS.below (h : RS lo w lst s o) (hb : Below w.heap.size w w') : RS lo w' lst s o := by
  obtain ⟨T, h1, h2, h3, h4⟩ := h.ex
  exact ⟨T, h1.lift hb.size, h2, h3, h4.keep Flat.keeps (Sub.refl _) (same_of_below hb h1)⟩
theorem RS.set (h : RS lo w lst s o) {p : Addr} (hp : p.block < lo) (u : Value) : RS lo (w.setCell p u) lst s o := by
  obtain ⟨T, h1, h2, h3, h4⟩ := h.ex
  exact ⟨T, by rw [size_setCell]; exact h1, h2, h3, h4.stored Flat.keeps (fun e => by have := h2 _ e; omega) u⟩
theorem RS.new {n : Nat} (h : RdU w (Plus Nowhere n w.heap.size) lst s) (hn : lo ≤ n) (ho : ∀ k, o.ownBlock = some k → k < n) : RS lo w lst s o :=
  ⟨⟨_, fun b h => h.elim (fun h => h.elim) (fun h => h.2), fun k h => h.elim (fun h => h.elim) (fun h => Nat.le_trans hn h.1), fun k hk h => h.elim (fun h => h.elim) (fun h => by have := ho k hk; have := h.1; omega), h⟩⟩
theorem RS.grown {o' : Value} {k0 : Nat} (h : RS lo w lst s o) (hg : w.grownBy w' o.ownBlock) (ho : o'.ownBlock = o.ownBlock ∨ o'.ownBlock = some k0) (hk : w.heap.size ≤ k0) : RS lo w' lst s o' := by
  obtain ⟨T, h1, h2, h3, h4⟩ := h.ex
  refine ⟨T, h1.lift hg.size, h2, fun k hk' hT => ?_, h4.keep Flat.keeps (Sub.refl _) (fun p hp => World.cell?_of_block (hg.block p.block (h1 _ hp) (fun e => h3 _ e.symm hp)))⟩
  rcases ho with ho | ho <;> rw [ho] at hk'
  · exact h3 k hk' hT
  · injection hk' with hk'
    have : k < w.heap.size := h1 k hT
    omega
theorem RS.more {T : Blocks} {w' : World} {u : Value} (h1 : Sub T (Upto w.heap.size)) (h2 : ∀ k, T k → lo ≤ k) (h3 : ∀ k, o.ownBlock = some k → ¬ T k) (hr : RdU w' (Plus T w.heap.size w'.heap.size) lst u) (hb : w.heap.size ≤ w'.heap.size) (hl : lo ≤ w.heap.size) (ho : ∀ k, o.ownBlock = some k → k < w.heap.size) : RS lo w' lst u o :=
  ⟨⟨_, fun b h => h.elim (fun h => Nat.lt_of_lt_of_le (h1 b h) hb) (fun h => h.2), fun k h => h.elim (h2 k) (fun h => Nat.le_trans hl h.1), fun k hk h => h.elim (h3 k hk) (fun h => by have := ho k hk; have := h.1; omega), hr⟩⟩
theorem OwnL.low {α : Type} {rd : World → Blocks → α → List Value → Prop} {size : Nat} {E : TypeId} {w : World} {base base' : Nat} {S : Blocks} {l : List α} {v : Value} (h : OwnL rd size E w base S l v) (hb : base' ≤ base) : OwnL rd size E w base' S l v := by
  obtain ⟨T, css, t1, t2, t3, h1, h2, ⟨e, h3⟩, h4⟩ := h
  refine ⟨T, css, t1, t2, t3, h1, h2, ⟨e, ?_⟩, h4⟩
  rcases h3 with h3 | ⟨g, cap, cur, rfl, hbg, hg, hn, hcap, hsz, htake⟩
  · exact .inl h3
  · exact .inr ⟨g, cap, cur, rfl, Nat.le_trans hb hbg, hg, hn, hcap, hsz, htake⟩
end
end Go.Proofs.YtnpgpcnkdocknaaDoor
namespace Go.Proofs.YtnpgpcnkdocknaaDoor
set_option linter.unusedVariables false
/-- an edge that leads out of the graph -/
def badP (N : Int) (e : Int × Int) : Bool := decide (e.1 < 0 ∨ e.2 < 0 ∨ N ≤ e.1 ∨ N ≤ e.2)
def natP (e : Int × Int) : Nat × Nat := (e.1.toNat, e.2.toNat)
/-- the edges, as numbers of nodes -/
def natsP (ps : List (Int × Int)) : List (Nat × Nat) := ps.map natP
def rangeW (N : Int) (ps : List (Int × Int)) : Bool := decide (N < 0) || decide (200 < N) || ps.any (badP N)
/-- what is wrong: 2 out of range, 3 it goes round, 0 nothing -/
def wrongE (N : Int) (ps : List (Int × Int)) : Int := if rangeW N ps then 2 else if roundE N.toNat (natsP ps) then 3 else 0
theorem natsP_len (ps : List (Int × Int)) : (natsP ps).length = ps.length := by simp [natsP]
theorem badP_iff {N : Int} {e : Int × Int} : badP N e = false ↔ 0 ≤ e.1 ∧ 0 ≤ e.2 ∧ e.1 < N ∧ e.2 < N := by
  unfold badP
  rw [decide_eq_false_iff_not]
  omega
theorem good_ps {N : Int} {ps : List (Int × Int)} (h : ps.any (badP N) = false) : (natsP ps).map ceE = ps ∧ ∀ a b, (a, b) ∈ natsP ps → a < N.toNat ∧ b < N.toNat := by
  have hb : ∀ e ∈ ps, badP N e = false := by
    intro e he
    cases hx : badP N e with
    | false => rfl
    | true =>
      have : ps.any (badP N) = true := List.any_eq_true.2 ⟨e, he, hx⟩
      rw [h] at this; cases this
  constructor
  · unfold natsP
    rw [List.map_map]
    conv => rhs; rw [← List.map_id ps]
    apply List.map_congr_left
    intro e he
    have := badP_iff.1 (hb e he)
    obtain ⟨a, b⟩ := e
    simp only [Function.comp, ceE, natP, id]
    simp only at this
    rw [Int.toNat_of_nonneg this.1, Int.toNat_of_nonneg this.2.1]
  · intro a b hab
    unfold natsP at hab
    rw [List.mem_map] at hab
    obtain ⟨e, he, h2⟩ := hab
    have := badP_iff.1 (hb e he)
    unfold natP at h2
    injection h2 with h3 h4
    omega
theorem wrongE_range {N : Int} {ps : List (Int × Int)} (h : N < 0 ∨ 200 < N) : wrongE N ps = 2 := by
  unfold wrongE
  have : rangeW N ps = true := by unfold rangeW; rcases h with h | h <;> simp [h]
  rw [if_pos this]
theorem wrongE_bad {N : Int} {ps : List (Int × Int)} {q : Nat} (hq : q < ps.length) (h : badP N ps[q] = true) : wrongE N ps = 2 := by
  unfold wrongE
  have : ps.any (badP N) = true := List.any_eq_true.2 ⟨_, List.getElem_mem hq, h⟩
  have : rangeW N ps = true := by unfold rangeW; rw [this]; simp
  rw [if_pos this]
theorem wrongE_good {N : Int} {ps : List (Int × Int)} (h1 : 0 ≤ N) (h2 : N ≤ 200) (h : ps.any (badP N) = false) : wrongE N ps = if roundE N.toNat (natsP ps) then 3 else 0 := by
  unfold wrongE
  have : rangeW N ps = false := by unfold rangeW; rw [h, decide_eq_false (by omega), decide_eq_false (by omega)]; rfl
  rw [this]; rfl
theorem any_all {N : Int} {ps : List (Int × Int)} {q : Nat} (hq : ps.length ≤ q) (h : (ps.take q).any (badP N) = false) : ps.any (badP N) = false := by
  rw [List.take_of_length_le hq] at h; exact h
theorem any_succ {N : Int} {ps : List (Int × Int)} {q : Nat} (hq : q < ps.length) (h : (ps.take q).any (badP N) = false) (h2 : badP N ps[q] = false) : (ps.take (q + 1)).any (badP N) = false := by
  rw [List.take_succ_eq_append_getElem hq, List.any_append, h]
  simp [h2]
/-- the pairs of the first i rows -/
def edgU (R : Nat → List Nat) (i : Nat) : List (Nat × Nat) := (List.range i).flatMap fun a => (R a).map fun m => (a, m)
theorem edgU_succ (R : Nat → List Nat) (i : Nat) : edgU R (i + 1) = edgU R i ++ (R i).map fun m => (i, m) := by
  unfold edgU
  rw [List.range_succ, List.flatMap_append]
  simp
theorem edgU_zero (R : Nat → List Nat) : edgU R 0 = [] := rfl
theorem edgU_len (R : Nat → List Nat) (n : Nat) (h : ∀ a, (R a).length ≤ n) (i : Nat) : (edgU R i).length ≤ i * n := by
  induction i with
  | zero => simp [edgU]
  | succ i ih =>
    rw [edgU_succ, List.length_append, List.length_map, Nat.succ_mul]
    have := h i
    omega
theorem edgU_congr {R Q : Nat → List Nat} {n : Nat} (h : ∀ a, a < n → R a = Q a) : edgU R n = edgU Q n := by
  induction n with
  | zero => rfl
  | succ n ih => rw [edgU_succ, edgU_succ, ih (fun a ha => h a (by omega)), h n (by omega)]
theorem edgU_mem {R : Nat → List Nat} {i a b : Nat} (h : (a, b) ∈ edgU R i) : a < i ∧ b ∈ R a := by
  unfold edgU at h
  obtain ⟨x, hx, hm⟩ := List.mem_flatMap.1 h
  obtain ⟨m, hm2, e⟩ := List.mem_map.1 hm
  injection e with e1 e2
  subst e1 e2
  exact ⟨List.mem_range.1 hx, hm2⟩
/-- row i: those of the first n for which P holds -/
def rowP (n : Nat) (P : Nat → Nat → Bool) (i : Nat) : List Nat := (List.range n).filter (P i)
theorem rowP_len (n : Nat) (P : Nat → Nat → Bool) (i : Nat) : (rowP n P i).length ≤ n := by
  have := List.length_filter_le (P i) (List.range n)
  rwa [List.length_range] at this
theorem rowP_mem {n : Nat} {P : Nat → Nat → Bool} {i m : Nat} (h : m ∈ rowP n P i) : m < n ∧ P i m = true := by
  obtain ⟨h1, h2⟩ := List.mem_filter.1 h
  exact ⟨List.mem_range.1 h1, h2⟩
/-- what no other way stands for -/
def coreP (c : Bool) (n : Nat) (W : Nat → Nat → Bool) (i j : Nat) : Bool := W i j && (List.range n).all fun k => !(c && (W i k && W k j))
/-- .. the first q ways looked at -/
def coreQ (c : Bool) (W : Nat → Nat → Bool) (i j q : Nat) : Bool := W i j && (List.range q).all fun k => !(c && (W i k && W k j))
theorem coreQ_zero (c : Bool) (W : Nat → Nat → Bool) (i j : Nat) : coreQ c W i j 0 = W i j := by simp [coreQ]
theorem coreQ_succ (c : Bool) (W : Nat → Nat → Bool) (i j q : Nat) : coreQ c W i j (q + 1) = (coreQ c W i j q && !(c && (W i q && W q j))) := by
  unfold coreQ
  rw [List.range_succ, List.all_append, Bool.and_assoc]
  simp
theorem coreP_no (n : Nat) (W : Nat → Nat → Bool) (i j : Nat) : coreP false n W i j = W i j := by simp [coreP]
theorem coreP_out {c : Bool} {n : Nat} {W : Nat → Nat → Bool} {i j : Nat} (h : W i j = false) : coreP c n W i j = false := by simp [coreP, h]
/-- less, one by one -/
def lessW (W : Nat → Nat → Bool) (i : Nat) (l : List Nat) (j : Nat) : Bool := W i j && l.all fun k => !W k j
theorem lessW_nil (W : Nat → Nat → Bool) (i j : Nat) : lessW W i [] j = W i j := by simp [lessW]
theorem lessW_snoc (W : Nat → Nat → Bool) (i : Nat) (l : List Nat) (k j : Nat) : lessW W i (l ++ [k]) j = (lessW W i l j && !W k j) := by
  unfold lessW
  rw [List.all_append, Bool.and_assoc]
  simp
theorem lessW_all (n : Nat) (W : Nat → Nat → Bool) (i j : Nat) : lessW W i (rowP n W i) j = coreP true n W i j := by
  unfold lessW coreP rowP
  congr 1
  rw [Bool.eq_iff_iff, List.all_eq_true, List.all_eq_true]
  constructor
  · intro h k hk
    cases e : W i k with
    | false => simp
    | true => have := h k (List.mem_filter.2 ⟨hk, e⟩); simpa using this
  · intro h k hk
    obtain ⟨h1, h2⟩ := List.mem_filter.1 hk
    have := h k h1
    rw [h2] at this
    simpa using this
/-- m numbers from a on -/
def rngB (a m n : Nat) : Bool := decide (a ≤ n ∧ n < a + m)
theorem rngB_iff {a m n : Nat} : rngB a m n = true ↔ a ≤ n ∧ n < a + m := by unfold rngB; exact decide_eq_true_iff
theorem rngB_zero (a n : Nat) : rngB a 0 n = false := by unfold rngB; rw [decide_eq_false_iff_not]; omega
/-- each of A with each of B, the lesser first -/
def mixB (A B : Nat → Bool) (i j : Nat) : Bool := decide (i ≤ j) && ((A i && B j) || (A j && B i))
theorem mixB_iff {A B : Nat → Bool} {i j : Nat} : mixB A B i j = true ↔ i ≤ j ∧ ((A i = true ∧ B j = true) ∨ (A j = true ∧ B i = true)) := by unfold mixB; simp
mutual
/-- what may still be done behind a statement whose first label is at_ -/
def opS : St → Nat → Nat → Bool
  | .mk k s a b body els, at_, n => if k = 4 then rngB at_ (labelsL body) n else if k = 6 then opL body at_ n || opL els (at_ + labelsL body) n else if k = 7 then opL body at_ n else false
def opL : List St → Nat → Nat → Bool
  | [], _, _ => false
  | s :: r, at_, n => opS s at_ n || opL r (at_ + labelsS s) n
end
mutual
/-- what may be done at once within a statement -/
def prS : St → Nat → Nat → Nat → Bool
  | .mk k s a b body els, at_, i, j => if k = 4 ∨ k = 5 then prL body at_ i j else if k = 6 then prL body at_ i j || prL els (at_ + labelsL body) i j
    else if k = 7 then prL body at_ i j || mixB (opL body at_) (rngB at_ (labelsL body)) i j else false
def prL : List St → Nat → Nat → Nat → Bool
  | [], _, _, _ => false
  | s :: r, at_, i, j => prS s at_ i j || mixB (opS s at_) (rngB (at_ + labelsS s) (labelsL r)) i j || prL r (at_ + labelsS s) i j
end
theorem opL_snoc (l : List St) : ∀ (s : St) (at_ n : Nat), opL (l ++ [s]) at_ n = (opL l at_ n || opS s (at_ + labelsL l) n) := by
  induction l with
  | nil => intro s at_ n; simp [opL, labelsL]
  | cons t l ih => intro s at_ n; rw [List.cons_append, opL, opL, ih, labelsL, Nat.add_assoc, Bool.or_assoc]
theorem bool_ext {a b : Bool} (h : a = true ↔ b = true) : a = b := by cases a <;> cases b <;> simp_all
theorem prL_snoc (l : List St) : ∀ (s : St) (at_ i j : Nat), prL (l ++ [s]) at_ i j = (prL l at_ i j || mixB (opL l at_) (rngB (at_ + labelsL l) (labelsS s)) i j || prS s (at_ + labelsL l) i j) := by
  induction l with
  | nil =>
    intro s at_ i j
    refine bool_ext ?_
    simp only [List.nil_append, prL, labelsL, Bool.or_eq_true, mixB_iff, rngB_iff, opL, Nat.add_zero]
    constructor
    · rintro ((h | ⟨_, ⟨_, h⟩ | ⟨_, h⟩⟩) | h)
      · exact .inr h
      · omega
      · omega
      · cases h
    · rintro ((h | ⟨_, ⟨h, _⟩ | ⟨h, _⟩⟩) | h)
      · cases h
      · cases h
      · cases h
      · exact .inl (.inl h)
  | cons t l ih =>
    intro s at_ i j
    rw [List.cons_append]
    refine bool_ext ?_
    simp only [prL, ih, labelsL, labelsL_snoc, Bool.or_eq_true, mixB_iff, rngB_iff, opL]
    have e1 : ∀ x, (at_ + labelsS t ≤ x ∧ x < at_ + labelsS t + (labelsL l + labelsS s)) ↔ ((at_ + labelsS t ≤ x ∧ x < at_ + labelsS t + labelsL l) ∨ (at_ + labelsS t + labelsL l ≤ x ∧ x < at_ + labelsS t + labelsL l + labelsS s)) := fun x => by omega
    rw [e1 i, e1 j]
    rw [show at_ + (labelsS t + labelsL l) = at_ + labelsS t + labelsL l by omega]
    constructor
    · rintro ((h | ⟨h0, ⟨h, h1 | h1⟩ | ⟨h, h1 | h1⟩⟩) | ((h | ⟨h0, ⟨h, h1⟩ | ⟨h, h1⟩⟩) | h))
      · exact .inl (.inl (.inl (.inl h)))
      · exact .inl (.inl (.inl (.inr ⟨h0, .inl ⟨h, h1⟩⟩)))
      · exact .inl (.inr ⟨h0, .inl ⟨.inl h, h1⟩⟩)
      · exact .inl (.inl (.inl (.inr ⟨h0, .inr ⟨h, h1⟩⟩)))
      · exact .inl (.inr ⟨h0, .inr ⟨.inl h, h1⟩⟩)
      · exact .inl (.inl (.inr h))
      · exact .inl (.inr ⟨h0, .inl ⟨.inr h, h1⟩⟩)
      · exact .inl (.inr ⟨h0, .inr ⟨.inr h, h1⟩⟩)
      · exact .inr h
    · rintro ((((h | ⟨h0, ⟨h, h1⟩ | ⟨h, h1⟩⟩) | h) | ⟨h0, ⟨h | h, h1⟩ | ⟨h | h, h1⟩⟩) | h)
      · exact .inl (.inl h)
      · exact .inl (.inr ⟨h0, .inl ⟨h, .inl h1⟩⟩)
      · exact .inl (.inr ⟨h0, .inr ⟨h, .inl h1⟩⟩)
      · exact .inr (.inl (.inl h))
      · exact .inl (.inr ⟨h0, .inl ⟨h, .inr h1⟩⟩)
      · exact .inr (.inl (.inr ⟨h0, .inl ⟨h, h1⟩⟩))
      · exact .inl (.inr ⟨h0, .inr ⟨h, .inr h1⟩⟩)
      · exact .inr (.inl (.inr ⟨h0, .inr ⟨h, h1⟩⟩))
      · exact .inr (.inr h)
mutual
theorem opS_rng : ∀ (s : St) (at_ n : Nat), opS s at_ n = true → at_ ≤ n ∧ n < at_ + labelsS s
  | .mk k s a b body els, at_, n, h => by
    rw [opS] at h
    split at h
    · rw [labels_one (by omega)]; exact rngB_iff.1 h
    · split at h
      · rename_i h6; subst h6
        rw [labels_if]
        rw [Bool.or_eq_true] at h
        rcases h with h | h
        · have := opL_rng body at_ n h; omega
        · have := opL_rng els _ n h; omega
      · split at h
        · rw [labels_one (by omega)]; exact opL_rng body at_ n h
        · cases h
theorem opL_rng : ∀ (l : List St) (at_ n : Nat), opL l at_ n = true → at_ ≤ n ∧ n < at_ + labelsL l
  | [], at_, n, h => by rw [opL] at h; cases h
  | s :: r, at_, n, h => by
    rw [opL, Bool.or_eq_true] at h
    rw [labelsL]
    rcases h with h | h
    · have := opS_rng s at_ n h; omega
    · have := opL_rng r _ n h; omega
end
mutual
theorem prS_rng : ∀ (s : St) (at_ i j : Nat), prS s at_ i j = true → at_ ≤ i ∧ i ≤ j ∧ j < at_ + labelsS s
  | .mk k s a b body els, at_, i, j, h => by
    rw [prS] at h
    split at h
    · rw [labels_one (by omega)]; exact prL_rng body at_ i j h
    · split at h
      · rename_i h6; subst h6
        rw [labels_if]
        rw [Bool.or_eq_true] at h
        rcases h with h | h
        · have := prL_rng body at_ i j h; omega
        · have := prL_rng els _ i j h; omega
      · split at h
        · rw [labels_one (by omega)]
          rw [Bool.or_eq_true, mixB_iff] at h
          rcases h with h | ⟨h0, ⟨h, h1⟩ | ⟨h, h1⟩⟩
          · exact prL_rng body at_ i j h
          · have := opL_rng body at_ i h; have := rngB_iff.1 h1; omega
          · have := opL_rng body at_ j h; have := rngB_iff.1 h1; omega
        · cases h
theorem prL_rng : ∀ (l : List St) (at_ i j : Nat), prL l at_ i j = true → at_ ≤ i ∧ i ≤ j ∧ j < at_ + labelsL l
  | [], at_, i, j, h => by rw [prL] at h; cases h
  | s :: r, at_, i, j, h => by
    rw [prL, Bool.or_eq_true, Bool.or_eq_true, mixB_iff] at h
    rw [labelsL]
    rcases h with (h | ⟨h0, ⟨h, h1⟩ | ⟨h, h1⟩⟩) | h
    · have := prS_rng s at_ i j h; omega
    · have := opS_rng s at_ i h; have := rngB_iff.1 h1; omega
    · have := opS_rng s at_ j h; have := rngB_iff.1 h1; omega
    · have := prL_rng r _ i j h; omega
end
end Go.Proofs.YtnpgpcnkdocknaaDoor
namespace Go.Proofs.YtnpgpcnkdocknaaDoor
open Go.RowKit
theorem infoU : (Tryd.prog.info? 60).map (fun i => (i.zero, i.size, i.bytes)) = some (some (.int .u64 0), 1, 8) := by kernel_rfl
end Go.Proofs.YtnpgpcnkdocknaaDoor
