/- slices.Sort and slices.Compact at numbers, by the shelf's contracts. -/
import Derived.Shelf.Sort.Plain
import Derived.Shelf.Slices.In.SortNone
import Derived.Shelf.Slices.CompactI
import Derived.Test.YtikjegfjgfhiaaaSrtSpec
import Derived.Test.YtikjegfjgfhiaaaIntA
import Derived.Test.YtikjegfjgfhiaaaBlk
namespace Go.Proofs.Ytikjegfjgfhiaaa
open Go.Shelf Go.RowKit Go.Lib Go.Sort
set_option linter.unusedVariables false
def laysSort_ren : Go.Shelf.Ren := ⟨fun | 189 => 30 | 125 => 44 | 257 => 43 | 128 => 63 | 129 => 64 | 294 => 54 | 295 => 55 | 296 => 56 | 297 => 57 | 298 => 58 | 299 => 59 | 216 => 60 | 300 => 61 | 301 => 62 | 328 => 67 | 329 => 68 | 330 => 69 | 331 => 70 | 332 => 71 | 215 => 72 | 343 => 74 | n => n, fun | 28 => 36 | 3 => 3 | 46 => 88 | 0 => 0 | 51 => 103 | 53 => 63 | 4 => 4 | 183 => 95 | 182 => 94 | 131 => 100 | 5 => 5 | 9 => 9 | 218 => 105 | 222 => 109 | 228 => 111 | 229 => 76 | n => n, fun | n => n⟩
theorem laysSort : Go.Proofs.Lays.n189 Try.prog laysSort_ren where
  mixed := by kernel_rfl
  f125 := Try.func44.trans (congrArg some (by kernel_rfl))
  f128 := Try.func63.trans (congrArg some (by kernel_rfl))
  f129 := Try.func64.trans (congrArg some (by kernel_rfl))
  f189 := Try.func30.trans (congrArg some (by kernel_rfl))
  f215 := Try.func72.trans (congrArg some (by kernel_rfl))
  f216 := Try.func60.trans (congrArg some (by kernel_rfl))
  f257 := Try.func43.trans (congrArg some (by kernel_rfl))
  f294 := Try.func54.trans (congrArg some (by kernel_rfl))
  f295 := Try.func55.trans (congrArg some (by kernel_rfl))
  f296 := Try.func56.trans (congrArg some (by kernel_rfl))
  f297 := Try.func57.trans (congrArg some (by kernel_rfl))
  f298 := Try.func58.trans (congrArg some (by kernel_rfl))
  f299 := Try.func59.trans (congrArg some (by kernel_rfl))
  f300 := Try.func61.trans (congrArg some (by kernel_rfl))
  f301 := Try.func62.trans (congrArg some (by kernel_rfl))
  f328 := Try.func67.trans (congrArg some (by kernel_rfl))
  f329 := Try.func68.trans (congrArg some (by kernel_rfl))
  f330 := Try.func69.trans (congrArg some (by kernel_rfl))
  f331 := Try.func70.trans (congrArg some (by kernel_rfl))
  f332 := Try.func71.trans (congrArg some (by kernel_rfl))
  f343 := Try.func74.trans (congrArg some (by kernel_rfl))
  t0 := Try.underlying0
  a0 := Try.isAgg0
  z0 := Try.sizeOf0
  v0 := Try.zeroValue0
  t3 := Try.underlying3
  a3 := Try.isAgg3
  z3 := Try.sizeOf3
  v3 := Try.zeroValue3
  t4 := Try.underlying4
  a4 := Try.isAgg4
  z4 := Try.sizeOf4
  v4 := Try.zeroValue4
  t5 := Try.underlying5
  a5 := Try.isAgg5
  z5 := Try.sizeOf5
  v5 := Try.zeroValue5
  t9 := Try.underlying9
  a9 := Try.isAgg9
  z9 := Try.sizeOf9
  v9 := Try.zeroValue9
  t28 := Try.underlying36
  a28 := Try.isAgg36
  z28 := Try.sizeOf36
  v28 := Try.zeroValue36
  t46 := Try.underlying88
  a46 := Try.isAgg88
  z46 := Try.sizeOf88
  v46 := Try.zeroValue88
  t51 := Try.underlying103
  a51 := Try.isAgg103
  z51 := Try.sizeOf103
  v51 := Try.zeroValue103
  t53 := Try.underlying63
  a53 := Try.isAgg63
  z53 := Try.sizeOf63
  v53 := Try.zeroValue63
  t131 := Try.underlying100
  a131 := Try.isAgg100
  z131 := Try.sizeOf100
  v131 := Try.zeroValue100
  t182 := Try.underlying94
  a182 := Try.isAgg94
  z182 := Try.sizeOf94
  v182 := Try.zeroValue94
  t183 := Try.underlying95
  a183 := Try.isAgg95
  z183 := Try.sizeOf95
  v183 := Try.zeroValue95
  t218 := Try.underlying105
  a218 := Try.isAgg105
  z218 := Try.sizeOf105
  v218 := Try.zeroValue105
  t222 := Try.underlying109
  a222 := Try.isAgg109
  z222 := Try.sizeOf109
  v222 := Try.zeroValue109
  t228 := Try.underlying111
  a228 := Try.isAgg111
  z228 := Try.sizeOf111
  v228 := Try.zeroValue111
  t229 := Try.underlying76
  a229 := Try.isAgg76
  z229 := Try.sizeOf76
  v229 := Try.zeroValue76
def laysComp_ren : Go.Shelf.Ren := ⟨fun | 20 => 31 | n => n, fun | 22 => 36 | 3 => 3 | 4 => 4 | 0 => 0 | n => n, fun | n => n⟩
theorem laysComp : Go.Proofs.Lays2.n20 Try.prog laysComp_ren where
  mixed := by kernel_rfl
  f20 := Try.func31.trans (congrArg some (by kernel_rfl))
  t0 := Try.underlying0
  a0 := Try.isAgg0
  z0 := Try.sizeOf0
  v0 := Try.zeroValue0
  t3 := Try.underlying3
  a3 := Try.isAgg3
  z3 := Try.sizeOf3
  v3 := Try.zeroValue3
  t4 := Try.underlying4
  a4 := Try.isAgg4
  z4 := Try.sizeOf4
  v4 := Try.zeroValue4
  t22 := Try.underlying36
  a22 := Try.isAgg36
  z22 := Try.sizeOf36
  v22 := Try.zeroValue36
  i3 := by kernel_rfl
/-- block g holds the numbers of l, and may be written -/
structure RowZ (w : World) (g : Nat) (l : List Int) : Prop where
  lt : g < w.heap.size
  fr : ∀ o, w.frozen? ⟨g, o, none⟩ = false
  cell : ∀ (q : Nat) (hq : q < l.length), w.cell? ⟨g, q, none⟩ = some (.int .i64 l[q])
theorem RowZ.holds {w : World} {g : Nat} {l : List Int} (h : RowZ w g l) : Holds (Value.int .i64) w g 0 l.toArray := fun j hj => by
  have hj' : j < l.length := by simpa using hj
  refine ⟨?_, by rw [Nat.zero_add]; exact h.fr _⟩
  rw [Nat.zero_add, h.cell j hj', getElem!_pos l.toArray j hj]
  simp
theorem put_but (w : World) (q g : Nat) (l : List Int) : But (Is g) w (putRow (Value.int .i64) (Sort.ahead w q) g 0 l.toArray) := by
  refine ⟨rfl, rfl, rfl, by rw [size_putRow]; exact Nat.le_refl _, fun k hk hne => ?_⟩
  have h : (putRow (Value.int .i64) (Sort.ahead w q) g 0 l.toArray).heap[k]? = (Sort.ahead w q).heap[k]? := by
    unfold putRow mapBlock
    simp only [Array.getElem?_modify]
    rw [if_neg (fun e => hne e.symm)]
  exact h
theorem put_row {w : World} {g : Nat} {l m : List Int} (h : RowZ w g l) (hm : m.length = l.length) (q : Nat) : RowZ (putRow (Value.int .i64) (Sort.ahead w q) g 0 m.toArray) g m := by
  refine ⟨by rw [size_putRow]; exact h.lt, fun o => by rw [frozen?_putRow]; exact h.fr o, fun i hi => ?_⟩
  have h := cell?_putRow (Value.int .i64) (Sort.ahead w q) g 0 l.toArray m.toArray (holds_ahead (Value.int .i64) w q g 0 l.toArray h.holds) (by simpa using hm) i (by simp; omega)
  rw [Nat.zero_add] at h
  rw [h]
  congr 2
  rw [getElem!_pos _ i (by simpa using hi)]
  simp
theorem grow_but (w : World) (os : Array Obj) : Below w.heap.size w (grow w os) :=
  ⟨rfl, rfl, rfl, by simp [grow], fun k hk => by simp [grow, Array.getElem?_append, hk]⟩
theorem RowZ.below {w w' : World} {g : Nat} {l : List Int} (h : RowZ w g l) (hb : Below w.heap.size w w') : RowZ w' g l :=
  ⟨Nat.lt_of_lt_of_le h.lt hb.size, fun o => (frozen_of_block (hb.block _ h.lt)).trans (h.fr o), fun q hq => (hb.cell (p := ⟨g, q, none⟩) h.lt).trans (h.cell q hq)⟩
theorem sort_any (l : List Int) (g cap : Nat) (w : World) (h : RowZ w g l) (hl : l.length < 4611686018427387904) :
    Calls Try.prog 30 #[.slice (some ⟨g, 0, none⟩) l.length cap] w fun e w' => (∃ x, e = .returned x) ∧ RowZ w' g (sortZ l) ∧ But (Is g) w w' := by
  refine (Any.slices_Sort_int laysSort g 0 cap l w h.holds h.lt hl).mono ?_
  rintro e w' ⟨rfl, q, os, rfl⟩
  have hr := put_row h (sortZ_len l) q
  have hb := grow_but (putRow (Value.int .i64) (Sort.ahead w q) g 0 (sortZ l).toArray) os
  exact ⟨⟨_, rfl⟩, hr.below hb, (put_but w q g _).trans (But.of_below hb)⟩
theorem sort_none (A : Option Addr) (cap : Nat) (w : World) : Calls Try.prog 30 #[.slice A 0 cap] w fun e w' => (∃ x, e = .returned x) ∧ w = w' := by
  refine (Any.slices_Sort_int_none laysSort A cap w).mono ?_
  rintro e w' ⟨rfl, rfl⟩
  exact ⟨⟨_, rfl⟩, rfl⟩
theorem compact_le (l : List Int) : (Lib.compact l).length ≤ l.length := by
  unfold Lib.compact Lib.compactUpTo
  rw [List.length_map]
  exact Nat.le_trans (List.length_filter_le _ _) (by simp)
theorem compact_any (l : List Int) (g cap : Nat) (w : World) (h : RowZ w g l) (hl : l.length ≤ cap) (hc : cap ≤ maxLen) (hok : ∀ x ∈ l, inI x) (hby : l.length * 8 ≤ 140737488355328) (hin : ∀ x ∈ Lib.compact l, x ∈ l) :
    Calls Try.prog 31 #[.slice (some ⟨g, 0, none⟩) l.length cap] w fun e w' => ∃ u, e = .returned u ∧ RdI w' (Is g) (Lib.compact l) u ∧ But (Is g) w w' := by
  have hle := compact_le l
  refine (Any.slices_Compact_int laysComp g 0 cap l w h.holds (by unfold maxLen at hc; omega) hl).mono ?_
  rintro e w' ⟨rfl, q, rfl⟩
  have hr := put_row h (m := Lib.compact l ++ List.replicate (l.length - (Lib.compact l).length) 0) (by simp; omega) q
  refine ⟨_, rfl, ?_, put_but w q g _⟩
  generalize (putRow (Value.int .i64) (Sort.ahead w q) g 0 (Lib.compact l ++ List.replicate (l.length - (Lib.compact l).length) 0).toArray) = W at *
  have hby2 := Nat.mul_le_mul_right 8 hle
  exact ⟨_, cap, (Lib.compact l).map fun x => [.int .i64 x], rfl, by omega, hc, by omega, by simp, ⟨fun cs hcs => by obtain ⟨x, _, rfl⟩ := List.mem_map.1 hcs; rfl, fun _ => ⟨g, 0, rfl, rfl, fun i cs hi j v hv => by
    rw [List.getElem?_map] at hi
    obtain ⟨y, hy, rfl⟩ := Option.map_eq_some_iff.1 hi
    have hi' := (List.getElem?_eq_some_iff.1 hy).1
    have hj : j = 0 := by have := (List.getElem?_eq_some_iff.1 hv).1; simp at this; exact this
    subst hj
    simp at hv; subst hv
    have hc := hr.cell i (by simp; omega)
    rw [List.getElem_append_left hi', (List.getElem?_eq_some_iff.1 hy).2] at hc
    simpa using hc⟩⟩, fun i e cs hi hc => by
    rw [List.getElem?_map, hi] at hc
    simp at hc; subst hc
    exact ⟨rfl, hok _ (hin _ (List.mem_of_getElem? hi))⟩⟩
theorem compact_none (A : Option Addr) (cap : Nat) (w : World) : Calls Try.prog 31 #[.slice A 0 cap] w fun e w' => e = .returned (.slice A 0 cap) ∧ w = w' := by
  refine (Any.slices_Compact_int_empty laysComp A cap w).mono ?_
  rintro e w' ⟨rfl, rfl⟩
  exact ⟨rfl, rfl⟩
theorem compact_mem {l : List Int} {x : Int} (h : x ∈ Lib.compact l) : x ∈ l := by
  unfold Lib.compact Lib.compactUpTo at h
  rw [List.mem_map] at h
  obtain ⟨j, hj, rfl⟩ := h
  have hj := List.mem_range.1 (List.mem_filter.1 hj).1
  rw [getElem!_pos _ j (by simpa using hj)]
  simp
end Go.Proofs.Ytikjegfjgfhiaaa
