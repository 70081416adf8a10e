/- Texts merged: HrSpec, SrtSpec, SrtI. -/
import Derived.Test.YtfldajplclahfaaHbSpec
import Derived.Lib.SlicesCompact
import Derived.Shelf.Sort.Plain
import Derived.Shelf.Slices.In.SortNone
import Derived.Shelf.Slices.CompactI
import Derived.Test.YtfldajplclahfaaGAppStep
import Derived.Test.YtfldajplclahfaaGMapO
/- The pairs of accesses that race, and their cells, plainly. -/
namespace Go.Proofs.Ytfldajplclahfaa
set_option linter.unusedVariables false
/-- both accesses to one cell, one of them a write, by known activities -/
def raceP (a b : HEv) : Bool := decide (a.kind = 1) && decide (b.kind = 1) && decide (a.cell = b.cell) && (a.write || b.write) && kn a.act && kn b.act
def raceH (l : List HEv) (j i : Nat) : Bool := raceP (evAt l i) (evAt l j) && !hr l j i
def rowR (l : List HEv) (j n : Nat) : List (Int × Int) := ((List.range n).filter (raceH l j)).map fun (i : Nat) => ((i : Int), (j : Int))
def racesH (l : List HEv) (n : Nat) : List (Int × Int) := (List.range n).flatMap fun j => rowR l j j
theorem rowR_succ (l : List HEv) (j n : Nat) : rowR l j (n + 1) = rowR l j n ++ (if raceH l j n = true then [((n : Int), (j : Int))] else []) := by
  unfold rowR
  rw [List.range_succ, List.filter_append, List.map_append]
  cases h : raceH l j n <;> simp [h]
theorem rowR_yes {l : List HEv} {j n : Nat} (h : raceH l j n = true) : rowR l j (n + 1) = rowR l j n ++ [((n : Int), (j : Int))] := by rw [rowR_succ, if_pos h]
theorem rowR_no {l : List HEv} {j n : Nat} (h : raceH l j n = false) : rowR l j (n + 1) = rowR l j n := by rw [rowR_succ, h]; simp
theorem racesH_succ (l : List HEv) (n : Nat) : racesH l (n + 1) = racesH l n ++ rowR l n n := by unfold racesH; simp [List.range_succ]
theorem rowR_len (l : List HEv) (j n : Nat) : (rowR l j n).length ≤ n := by
  unfold rowR
  rw [List.length_map]
  exact Nat.le_trans (List.length_filter_le _ _) (by simp)
theorem racesH_len (l : List HEv) (n : Nat) : (racesH l n).length ≤ n * n := by
  induction n with
  | zero => simp [racesH]
  | succ n ih =>
    rw [racesH_succ, List.length_append]
    have := rowR_len l n n
    have e : (n + 1) * (n + 1) = n * n + n + (n + 1) := by rw [Nat.add_mul, Nat.mul_add]; omega
    omega
theorem racesH_mem {l : List HEv} {n : Nat} {x : Int × Int} (h : x ∈ racesH l n) : ∃ i j : Nat, x = ((i : Int), (j : Int)) ∧ i < j ∧ j < n ∧ raceH l j i = true := by
  unfold racesH rowR at h
  rw [List.mem_flatMap] at h
  obtain ⟨j, hj, h⟩ := h
  rw [List.mem_map] at h
  obtain ⟨i, hi, rfl⟩ := h
  rw [List.mem_filter] at hi
  exact ⟨i, j, rfl, List.mem_range.1 hi.1, List.mem_range.1 hj, hi.2⟩
/-- the cells of all of them, in their order -/
def cellsH (l : List HEv) (ps : List (Int × Int)) : List Int := ps.map fun p => (evAt l p.1.toNat).cell
/-- each once, as they come first -/
def firsts (xs : List Int) : List Int := xs.foldl (fun out c => if out.contains c then out else out ++ [c]) []
theorem firsts_snoc (xs : List Int) (c : Int) : firsts (xs ++ [c]) = if (firsts xs).contains c then firsts xs else firsts xs ++ [c] := by
  unfold firsts; rw [List.foldl_append]; rfl
theorem firsts_mem (xs : List Int) (x : Int) : x ∈ firsts xs ↔ x ∈ xs := by
  have key : ∀ (ys out : List Int), x ∈ ys.foldl (fun out c => if out.contains c then out else out ++ [c]) out ↔ x ∈ out ∨ x ∈ ys := by
    intro ys
    induction ys with
    | nil => intro out; simp
    | cons y r ih =>
      intro out
      rw [List.foldl_cons, ih]
      by_cases h : out.contains y = true
      · rw [if_pos h]
        have hy : y ∈ out := List.contains_iff_mem.1 h
        constructor
        · rintro (h1 | h1)
          · exact .inl h1
          · exact .inr (List.mem_cons_of_mem _ h1)
        · rintro (h1 | h1)
          · exact .inl h1
          · rcases List.mem_cons.1 h1 with rfl | h2
            · exact .inl hy
            · exact .inr h2
      · rw [if_neg h]; simp [or_assoc]
  have := key xs []
  simpa [firsts] using this
theorem firsts_nodup (xs : List Int) : (firsts xs).Nodup := by
  have key : ∀ (ys out : List Int), out.Nodup → (ys.foldl (fun out c => if out.contains c then out else out ++ [c]) out).Nodup := by
    intro ys
    induction ys with
    | nil => intro out h; exact h
    | cons y r ih =>
      intro out h
      rw [List.foldl_cons]
      apply ih
      by_cases hc : out.contains y = true
      · rw [if_pos hc]; exact h
      · rw [if_neg hc, List.nodup_append]
        have hy : y ∉ out := fun h => hc (List.contains_iff_mem.2 h)
        exact ⟨h, by simp, fun a ha b hb e => by simp at hb; subst hb; subst e; exact hy ha⟩
  exact key xs [] List.nodup_nil
end Go.Proofs.Ytfldajplclahfaa
/- Numbers that were sorted, and of which runs were struck: one list alone is rising and has these numbers. -/
namespace Go.Proofs.Ytfldajplclahfaa
set_option linter.unusedVariables false
def sortZ (l : List Int) : List Int := l.mergeSort fun x y => decide (x ≤ y)
theorem ssort_ext : ∀ (a b : List Int), a.Pairwise (· < ·) → b.Pairwise (· < ·) → (∀ x, x ∈ a ↔ x ∈ b) → a = b
  | [], [], _, _, _ => rfl
  | [], y :: b, _, _, h => absurd ((h y).2 (by simp)) (by simp)
  | x :: a, [], _, _, h => absurd ((h x).1 (by simp)) (by simp)
  | x :: a, y :: b, ha, hb, h => by
    rw [List.pairwise_cons] at ha hb
    have e : x = y := by
      have h1 := (h x).1 (by simp)
      have h2 := (h y).2 (by simp)
      rcases List.mem_cons.1 h1 with e | h1
      · exact e
      · rcases List.mem_cons.1 h2 with e | h2
        · exact e.symm
        · have := ha.1 y h2; have := hb.1 x h1; omega
    subst e
    rw [ssort_ext a b ha.2 hb.2]
    intro z
    constructor
    · intro hz
      have := ha.1 z hz
      rcases List.mem_cons.1 ((h z).1 (List.mem_cons_of_mem _ hz)) with e | h
      · omega
      · exact h
    · intro hz
      have := hb.1 z hz
      rcases List.mem_cons.1 ((h z).2 (List.mem_cons_of_mem _ hz)) with e | h
      · omega
      · exact h
theorem sortZ_mem (l : List Int) (x : Int) : x ∈ sortZ l ↔ x ∈ l := (List.mergeSort_perm l _).mem_iff
theorem sortZ_len (l : List Int) : (sortZ l).length = l.length := (List.mergeSort_perm l _).length_eq
theorem sortZ_le (l : List Int) : (sortZ l).Pairwise (· ≤ ·) := by
  have h := List.pairwise_mergeSort (le := fun x y : Int => decide (x ≤ y)) (by intro a b c h1 h2; simp at *; omega) (by intro a b; simp; omega) l
  exact h.imp (fun h => by simpa using h)
theorem sortZ_lt {l : List Int} (h : l.Nodup) : (sortZ l).Pairwise (· < ·) := by
  have h1 := sortZ_le l
  have h2 : (sortZ l).Nodup := (List.mergeSort_perm l _).nodup_iff.2 h
  exact (h1.and h2).imp (fun h => by omega)
theorem upto_lt (d : Array Int) (hs : ∀ i j, i < j → j < d.size → d[i]! ≤ d[j]!) : ∀ m, m ≤ d.size → (Lib.compactUpTo d m).Pairwise (· < ·) ∧ (∀ x, x ∈ Lib.compactUpTo d m ↔ ∃ j, j < m ∧ d[j]! = x) ∧ ∀ x ∈ Lib.compactUpTo d m, x ≤ d[m - 1]! := by
  intro m
  induction m with
  | zero => intro _; simp [Lib.compactUpTo]
  | succ m ih =>
    intro hm
    obtain ⟨h1, h2, h3⟩ := ih (by omega)
    rw [Lib.compactUpTo_succ]
    rcases Nat.eq_zero_or_pos m with h0 | h0
    · subst h0
      have hk : Lib.keeps d 0 = true := by simp [Lib.keeps]
      rw [if_pos hk]
      have e : Lib.compactUpTo d 0 = [] := by simp [Lib.compactUpTo]
      rw [e]
      refine ⟨by simp, fun x => ?_, by simp⟩
      simp only [List.nil_append, List.mem_singleton]
      constructor
      · intro h; exact ⟨0, by omega, h.symm⟩
      · rintro ⟨j, hj, h⟩
        have : j = 0 := by omega
        subst this; exact h.symm
    · have hle := hs (m - 1) m (by omega) (by omega)
      by_cases hk : Lib.keeps d m = true
      · rw [if_pos hk]
        have hne : d[m]! ≠ d[m - 1]! := by
          intro e
          unfold Lib.keeps at hk
          simp at hk
          omega
        refine ⟨?_, fun x => ?_, fun x hx => ?_⟩
        · rw [List.pairwise_append]
          refine ⟨h1, by simp, fun a ha b hb => ?_⟩
          have := h3 a ha
          simp at hb; subst hb; omega
        · rw [List.mem_append, h2]
          constructor
          · rintro (⟨j, hj, h⟩ | h)
            · exact ⟨j, by omega, h⟩
            · exact ⟨m, by omega, (List.mem_singleton.1 h).symm⟩
          · rintro ⟨j, hj, h⟩
            rcases Nat.lt_or_ge j m with hjm | hjm
            · exact .inl ⟨j, hjm, h⟩
            · have : j = m := by omega
              subst this; exact .inr (by simp [h])
        · rw [Nat.add_sub_cancel]
          rcases List.mem_append.1 hx with hx | hx
          · have := h3 x hx; omega
          · simp at hx; omega
      · rw [if_neg hk, List.append_nil]
        have he : d[m]! = d[m - 1]! := by
          unfold Lib.keeps at hk
          simp at hk
          first | exact hk.2 | exact hk.2.symm | omega
        refine ⟨h1, fun x => ?_, fun x hx => ?_⟩
        · rw [h2]
          constructor
          · rintro ⟨j, hj, h⟩; exact ⟨j, by omega, h⟩
          · rintro ⟨j, hj, h⟩
            rcases Nat.lt_or_ge j m with hjm | hjm
            · exact ⟨j, hjm, h⟩
            · have : j = m := by omega
              subst this
              exact ⟨j - 1, by omega, by rw [← he]; exact h⟩
        · rw [Nat.add_sub_cancel]
          have := h3 x hx; omega
theorem compact_sort (l : List Int) : Lib.compact (sortZ l) = sortZ (firsts l) := by
  have hs : ∀ i j, i < j → j < (sortZ l).toArray.size → (sortZ l).toArray[i]! ≤ (sortZ l).toArray[j]! := by
    intro i j hij hj
    have hj' : j < (sortZ l).length := by simpa using hj
    have h := List.pairwise_iff_getElem.1 (sortZ_le l) i j (by omega) hj' hij
    rw [getElem!_pos _ i (by simp; omega), getElem!_pos _ j (by simpa using hj')]
    simpa using h
  obtain ⟨h1, h2, _⟩ := upto_lt (sortZ l).toArray hs (sortZ l).length (by simp)
  refine ssort_ext _ _ h1 (sortZ_lt (firsts_nodup l)) (fun x => ?_)
  show x ∈ Lib.compactUpTo _ _ ↔ _
  rw [h2, sortZ_mem, firsts_mem, ← sortZ_mem l]
  constructor
  · rintro ⟨j, hj, rfl⟩
    rw [getElem!_pos _ j (by simpa using hj)]
    simp
  · intro hx
    obtain ⟨j, hj, rfl⟩ := List.getElem_of_mem hx
    exact ⟨j, hj, by rw [getElem!_pos _ j (by simpa using hj)]; simp⟩
end Go.Proofs.Ytfldajplclahfaa
/- slices.Sort and slices.Compact at numbers, by the shelf's contracts. -/
namespace Go.Proofs.Ytfldajplclahfaa
open Go.Shelf Go.RowKit Go.Lib Go.Sort
set_option linter.unusedVariables false
def laysSort_ren : Go.Shelf.Ren := ⟨fun | 189 => 25 | 125 => 43 | 257 => 42 | 128 => 63 | 129 => 64 | 294 => 54 | 295 => 55 | 296 => 56 | 297 => 57 | 298 => 58 | 299 => 59 | 216 => 60 | 300 => 61 | 301 => 62 | 328 => 78 | 329 => 79 | 330 => 80 | 331 => 81 | 332 => 82 | 215 => 73 | 343 => 86 | n => n, fun | 28 => 34 | 3 => 3 | 46 => 69 | 0 => 0 | 51 => 98 | 53 => 100 | 4 => 4 | 183 => 91 | 182 => 90 | 131 => 87 | 5 => 5 | 9 => 9 | 218 => 116 | 222 => 120 | 228 => 124 | 229 => 125 | n => n, fun | n => n⟩
theorem laysSort : Go.Proofs.Lays.n189 Try.prog laysSort_ren where
  mixed := by kernel_rfl
  f125 := Try.func43.trans (congrArg some (by kernel_rfl))
  f128 := Try.func63.trans (congrArg some (by kernel_rfl))
  f129 := Try.func64.trans (congrArg some (by kernel_rfl))
  f189 := Try.func25.trans (congrArg some (by kernel_rfl))
  f215 := Try.func73.trans (congrArg some (by kernel_rfl))
  f216 := Try.func60.trans (congrArg some (by kernel_rfl))
  f257 := Try.func42.trans (congrArg some (by kernel_rfl))
  f294 := Try.func54.trans (congrArg some (by kernel_rfl))
  f295 := Try.func55.trans (congrArg some (by kernel_rfl))
  f296 := Try.func56.trans (congrArg some (by kernel_rfl))
  f297 := Try.func57.trans (congrArg some (by kernel_rfl))
  f298 := Try.func58.trans (congrArg some (by kernel_rfl))
  f299 := Try.func59.trans (congrArg some (by kernel_rfl))
  f300 := Try.func61.trans (congrArg some (by kernel_rfl))
  f301 := Try.func62.trans (congrArg some (by kernel_rfl))
  f328 := Try.func78.trans (congrArg some (by kernel_rfl))
  f329 := Try.func79.trans (congrArg some (by kernel_rfl))
  f330 := Try.func80.trans (congrArg some (by kernel_rfl))
  f331 := Try.func81.trans (congrArg some (by kernel_rfl))
  f332 := Try.func82.trans (congrArg some (by kernel_rfl))
  f343 := Try.func86.trans (congrArg some (by kernel_rfl))
  t0 := Try.underlying0
  a0 := Try.isAgg0
  z0 := Try.sizeOf0
  v0 := Try.zeroValue0
  t3 := Try.underlying3
  a3 := Try.isAgg3
  z3 := Try.sizeOf3
  v3 := Try.zeroValue3
  t4 := Try.underlying4
  a4 := Try.isAgg4
  z4 := Try.sizeOf4
  v4 := Try.zeroValue4
  t5 := Try.underlying5
  a5 := Try.isAgg5
  z5 := Try.sizeOf5
  v5 := Try.zeroValue5
  t9 := Try.underlying9
  a9 := Try.isAgg9
  z9 := Try.sizeOf9
  v9 := Try.zeroValue9
  t28 := Try.underlying34
  a28 := Try.isAgg34
  z28 := Try.sizeOf34
  v28 := Try.zeroValue34
  t46 := Try.underlying69
  a46 := Try.isAgg69
  z46 := Try.sizeOf69
  v46 := Try.zeroValue69
  t51 := Try.underlying98
  a51 := Try.isAgg98
  z51 := Try.sizeOf98
  v51 := Try.zeroValue98
  t53 := Try.underlying100
  a53 := Try.isAgg100
  z53 := Try.sizeOf100
  v53 := Try.zeroValue100
  t131 := Try.underlying87
  a131 := Try.isAgg87
  z131 := Try.sizeOf87
  v131 := Try.zeroValue87
  t182 := Try.underlying90
  a182 := Try.isAgg90
  z182 := Try.sizeOf90
  v182 := Try.zeroValue90
  t183 := Try.underlying91
  a183 := Try.isAgg91
  z183 := Try.sizeOf91
  v183 := Try.zeroValue91
  t218 := Try.underlying116
  a218 := Try.isAgg116
  z218 := Try.sizeOf116
  v218 := Try.zeroValue116
  t222 := Try.underlying120
  a222 := Try.isAgg120
  z222 := Try.sizeOf120
  v222 := Try.zeroValue120
  t228 := Try.underlying124
  a228 := Try.isAgg124
  z228 := Try.sizeOf124
  v228 := Try.zeroValue124
  t229 := Try.underlying125
  a229 := Try.isAgg125
  z229 := Try.sizeOf125
  v229 := Try.zeroValue125
def laysComp_ren : Go.Shelf.Ren := ⟨fun | 20 => 33 | n => n, fun | 22 => 34 | 3 => 3 | 4 => 4 | 0 => 0 | n => n, fun | n => n⟩
theorem laysComp : Go.Proofs.Lays2.n20 Try.prog laysComp_ren where
  mixed := by kernel_rfl
  f20 := Try.func33.trans (congrArg some (by kernel_rfl))
  t0 := Try.underlying0
  a0 := Try.isAgg0
  z0 := Try.sizeOf0
  v0 := Try.zeroValue0
  t3 := Try.underlying3
  a3 := Try.isAgg3
  z3 := Try.sizeOf3
  v3 := Try.zeroValue3
  t4 := Try.underlying4
  a4 := Try.isAgg4
  z4 := Try.sizeOf4
  v4 := Try.zeroValue4
  t22 := Try.underlying34
  a22 := Try.isAgg34
  z22 := Try.sizeOf34
  v22 := Try.zeroValue34
  i3 := by kernel_rfl
/-- block g holds the numbers of l, and may be written -/
structure RowZ (w : World) (g : Nat) (l : List Int) : Prop where
  lt : g < w.heap.size
  fr : ∀ o, w.frozen? ⟨g, o, none⟩ = false
  cell : ∀ (q : Nat) (hq : q < l.length), w.cell? ⟨g, q, none⟩ = some (.int .i64 l[q])
theorem RowZ.holds {w : World} {g : Nat} {l : List Int} (h : RowZ w g l) : Holds (Value.int .i64) w g 0 l.toArray := fun j hj => by
  have hj' : j < l.length := by simpa using hj
  refine ⟨?_, by rw [Nat.zero_add]; exact h.fr _⟩
  rw [Nat.zero_add, h.cell j hj', getElem!_pos l.toArray j hj]
  simp
theorem put_but (w : World) (q g : Nat) (l : List Int) : But (Is g) w (putRow (Value.int .i64) (Sort.ahead w q) g 0 l.toArray) := by
  refine ⟨rfl, rfl, rfl, by rw [size_putRow]; exact Nat.le_refl _, fun k hk hne => ?_⟩
  have h : (putRow (Value.int .i64) (Sort.ahead w q) g 0 l.toArray).heap[k]? = (Sort.ahead w q).heap[k]? := by
    unfold putRow mapBlock
    simp only [Array.getElem?_modify]
    rw [if_neg (fun e => hne e.symm)]
  exact h
theorem put_row {w : World} {g : Nat} {l m : List Int} (h : RowZ w g l) (hm : m.length = l.length) (q : Nat) : RowZ (putRow (Value.int .i64) (Sort.ahead w q) g 0 m.toArray) g m := by
  refine ⟨by rw [size_putRow]; exact h.lt, fun o => by rw [frozen?_putRow]; exact h.fr o, fun i hi => ?_⟩
  have h := cell?_putRow (Value.int .i64) (Sort.ahead w q) g 0 l.toArray m.toArray (holds_ahead (Value.int .i64) w q g 0 l.toArray h.holds) (by simpa using hm) i (by simp; omega)
  rw [Nat.zero_add] at h
  rw [h]
  congr 2
  rw [getElem!_pos _ i (by simpa using hi)]
  simp
theorem grow_but (w : World) (os : Array Obj) : Below w.heap.size w (grow w os) :=
  ⟨rfl, rfl, rfl, by simp [grow], fun k hk => by simp [grow, Array.getElem?_append, hk]⟩
theorem RowZ.below {w w' : World} {g : Nat} {l : List Int} (h : RowZ w g l) (hb : Below w.heap.size w w') : RowZ w' g l :=
  ⟨Nat.lt_of_lt_of_le h.lt hb.size, fun o => (frozen_of_block (hb.block _ h.lt)).trans (h.fr o), fun q hq => (hb.cell (p := ⟨g, q, none⟩) h.lt).trans (h.cell q hq)⟩
theorem sort_any (l : List Int) (g cap : Nat) (w : World) (h : RowZ w g l) (hl : l.length < 4611686018427387904) :
    Calls Try.prog 25 #[.slice (some ⟨g, 0, none⟩) l.length cap] w fun e w' => (∃ x, e = .returned x) ∧ RowZ w' g (sortZ l) ∧ But (Is g) w w' := by
  refine (Any.slices_Sort_int laysSort g 0 cap l w h.holds h.lt hl).mono ?_
  rintro e w' ⟨rfl, q, os, rfl⟩
  have hr := put_row h (sortZ_len l) q
  have hb := grow_but (putRow (Value.int .i64) (Sort.ahead w q) g 0 (sortZ l).toArray) os
  exact ⟨⟨_, rfl⟩, hr.below hb, (put_but w q g _).trans (But.of_below hb)⟩
theorem sort_none (A : Option Addr) (cap : Nat) (w : World) : Calls Try.prog 25 #[.slice A 0 cap] w fun e w' => (∃ x, e = .returned x) ∧ w = w' := by
  refine (Any.slices_Sort_int_none laysSort A cap w).mono ?_
  rintro e w' ⟨rfl, rfl⟩
  exact ⟨⟨_, rfl⟩, rfl⟩
theorem compact_le (l : List Int) : (Lib.compact l).length ≤ l.length := by
  unfold Lib.compact Lib.compactUpTo
  rw [List.length_map]
  exact Nat.le_trans (List.length_filter_le _ _) (by simp)
theorem compact_any (l : List Int) (g cap : Nat) (w : World) (h : RowZ w g l) (hl : l.length ≤ cap) (hc : cap ≤ maxLen) (hok : ∀ x ∈ l, inI x) (hby : l.length * 8 ≤ 140737488355328) (hin : ∀ x ∈ Lib.compact l, x ∈ l) :
    Calls Try.prog 33 #[.slice (some ⟨g, 0, none⟩) l.length cap] w fun e w' => ∃ u, e = .returned u ∧ RdI w' (Is g) (Lib.compact l) u ∧ But (Is g) w w' := by
  have hle := compact_le l
  refine (Any.slices_Compact_int laysComp g 0 cap l w h.holds (by unfold maxLen at hc; omega) hl).mono ?_
  rintro e w' ⟨rfl, q, rfl⟩
  have hr := put_row h (m := Lib.compact l ++ List.replicate (l.length - (Lib.compact l).length) 0) (by simp; omega) q
  refine ⟨_, rfl, ?_, put_but w q g _⟩
  generalize (putRow (Value.int .i64) (Sort.ahead w q) g 0 (Lib.compact l ++ List.replicate (l.length - (Lib.compact l).length) 0).toArray) = W at *
  have hby2 := Nat.mul_le_mul_right 8 hle
  exact ⟨_, cap, (Lib.compact l).map fun x => [.int .i64 x], rfl, by omega, hc, by omega, by simp, ⟨fun cs hcs => by obtain ⟨x, _, rfl⟩ := List.mem_map.1 hcs; rfl, fun _ => ⟨g, 0, rfl, rfl, fun i cs hi j v hv => by
    rw [List.getElem?_map] at hi
    obtain ⟨y, hy, rfl⟩ := Option.map_eq_some_iff.1 hi
    have hi' := (List.getElem?_eq_some_iff.1 hy).1
    have hj : j = 0 := by have := (List.getElem?_eq_some_iff.1 hv).1; simp at this; exact this
    subst hj
    simp at hv; subst hv
    have hc := hr.cell i (by simp; omega)
    rw [List.getElem_append_left hi', (List.getElem?_eq_some_iff.1 hy).2] at hc
    simpa using hc⟩⟩, fun i e cs hi hc => by
    rw [List.getElem?_map, hi] at hc
    simp at hc; subst hc
    exact ⟨rfl, hok _ (hin _ (List.mem_of_getElem? hi))⟩⟩
theorem compact_none (A : Option Addr) (cap : Nat) (w : World) : Calls Try.prog 33 #[.slice A 0 cap] w fun e w' => e = .returned (.slice A 0 cap) ∧ w = w' := by
  refine (Any.slices_Compact_int_empty laysComp A cap w).mono ?_
  rintro e w' ⟨rfl, rfl⟩
  exact ⟨rfl, rfl⟩
theorem compact_mem {l : List Int} {x : Int} (h : x ∈ Lib.compact l) : x ∈ l := by
  unfold Lib.compact Lib.compactUpTo at h
  rw [List.mem_map] at h
  obtain ⟨j, hj, rfl⟩ := h
  have hj := List.mem_range.1 (List.mem_filter.1 hj).1
  rw [getElem!_pos _ j (by simpa using hj)]
  simp
end Go.Proofs.Ytfldajplclahfaa
