/- Texts merged: SrtI, RowZ. -/
import Derived.Shelf.Sort.Plain
import Derived.Shelf.Slices.In.SortNone
import Derived.Shelf.Slices.CompactI
import Derived.Test.YtnpgpcnkdocknaaDoorGBsWs
import Derived.Test.YtnpgpcnkdocknaaDoorGRdEW
import Derived.Test.YtnpgpcnkdocknaaDoorGScW
namespace Go.Proofs.YtnpgpcnkdocknaaDoor
open Go.Shelf Go.RowKit Go.Lib Go.Sort
set_option linter.unusedVariables false
def laysSort_ren : Go.Shelf.Ren := ⟨fun | 189 => 18 | 125 => 29 | 257 => 28 | 128 => 44 | 129 => 45 | 294 => 35 | 295 => 36 | 296 => 37 | 297 => 38 | 298 => 39 | 299 => 40 | 216 => 41 | 300 => 42 | 301 => 43 | 328 => 56 | 329 => 57 | 330 => 58 | 331 => 59 | 332 => 60 | 215 => 61 | 343 => 65 | n => n, fun | 28 => 26 | 3 => 3 | 46 => 67 | 0 => 0 | 51 => 84 | 53 => 60 | 4 => 4 | 183 => 76 | 182 => 75 | 131 => 81 | 5 => 5 | 9 => 9 | 218 => 91 | 222 => 95 | 228 => 99 | 229 => 100 | n => n, fun | n => n⟩
theorem laysSort : Go.Proofs.Lays.n189 Tryd.prog laysSort_ren where
  mixed := by kernel_rfl
  f125 := Tryd.func29.trans (congrArg some (by kernel_rfl))
  f128 := Tryd.func44.trans (congrArg some (by kernel_rfl))
  f129 := Tryd.func45.trans (congrArg some (by kernel_rfl))
  f189 := Tryd.func18.trans (congrArg some (by kernel_rfl))
  f215 := Tryd.func61.trans (congrArg some (by kernel_rfl))
  f216 := Tryd.func41.trans (congrArg some (by kernel_rfl))
  f257 := Tryd.func28.trans (congrArg some (by kernel_rfl))
  f294 := Tryd.func35.trans (congrArg some (by kernel_rfl))
  f295 := Tryd.func36.trans (congrArg some (by kernel_rfl))
  f296 := Tryd.func37.trans (congrArg some (by kernel_rfl))
  f297 := Tryd.func38.trans (congrArg some (by kernel_rfl))
  f298 := Tryd.func39.trans (congrArg some (by kernel_rfl))
  f299 := Tryd.func40.trans (congrArg some (by kernel_rfl))
  f300 := Tryd.func42.trans (congrArg some (by kernel_rfl))
  f301 := Tryd.func43.trans (congrArg some (by kernel_rfl))
  f328 := Tryd.func56.trans (congrArg some (by kernel_rfl))
  f329 := Tryd.func57.trans (congrArg some (by kernel_rfl))
  f330 := Tryd.func58.trans (congrArg some (by kernel_rfl))
  f331 := Tryd.func59.trans (congrArg some (by kernel_rfl))
  f332 := Tryd.func60.trans (congrArg some (by kernel_rfl))
  f343 := Tryd.func65.trans (congrArg some (by kernel_rfl))
  t0 := Tryd.underlying0
  a0 := Tryd.isAgg0
  z0 := Tryd.sizeOf0
  v0 := Tryd.zeroValue0
  t3 := Tryd.underlying3
  a3 := Tryd.isAgg3
  z3 := Tryd.sizeOf3
  v3 := Tryd.zeroValue3
  t4 := Tryd.underlying4
  a4 := Tryd.isAgg4
  z4 := Tryd.sizeOf4
  v4 := Tryd.zeroValue4
  t5 := Tryd.underlying5
  a5 := Tryd.isAgg5
  z5 := Tryd.sizeOf5
  v5 := Tryd.zeroValue5
  t9 := Tryd.underlying9
  a9 := Tryd.isAgg9
  z9 := Tryd.sizeOf9
  v9 := Tryd.zeroValue9
  t28 := Tryd.underlying26
  a28 := Tryd.isAgg26
  z28 := Tryd.sizeOf26
  v28 := Tryd.zeroValue26
  t46 := Tryd.underlying67
  a46 := Tryd.isAgg67
  z46 := Tryd.sizeOf67
  v46 := Tryd.zeroValue67
  t51 := Tryd.underlying84
  a51 := Tryd.isAgg84
  z51 := Tryd.sizeOf84
  v51 := Tryd.zeroValue84
  t53 := Tryd.underlying60
  a53 := Tryd.isAgg60
  z53 := Tryd.sizeOf60
  v53 := Tryd.zeroValue60
  t131 := Tryd.underlying81
  a131 := Tryd.isAgg81
  z131 := Tryd.sizeOf81
  v131 := Tryd.zeroValue81
  t182 := Tryd.underlying75
  a182 := Tryd.isAgg75
  z182 := Tryd.sizeOf75
  v182 := Tryd.zeroValue75
  t183 := Tryd.underlying76
  a183 := Tryd.isAgg76
  z183 := Tryd.sizeOf76
  v183 := Tryd.zeroValue76
  t218 := Tryd.underlying91
  a218 := Tryd.isAgg91
  z218 := Tryd.sizeOf91
  v218 := Tryd.zeroValue91
  t222 := Tryd.underlying95
  a222 := Tryd.isAgg95
  z222 := Tryd.sizeOf95
  v222 := Tryd.zeroValue95
  t228 := Tryd.underlying99
  a228 := Tryd.isAgg99
  z228 := Tryd.sizeOf99
  v228 := Tryd.zeroValue99
  t229 := Tryd.underlying100
  a229 := Tryd.isAgg100
  z229 := Tryd.sizeOf100
  v229 := Tryd.zeroValue100
def laysComp_ren : Go.Shelf.Ren := ⟨fun | 20 => 19 | n => n, fun | 22 => 26 | 3 => 3 | 4 => 4 | 0 => 0 | n => n, fun | n => n⟩
theorem laysComp : Go.Proofs.Lays2.n20 Tryd.prog laysComp_ren where
  mixed := by kernel_rfl
  f20 := Tryd.func19.trans (congrArg some (by kernel_rfl))
  t0 := Tryd.underlying0
  a0 := Tryd.isAgg0
  z0 := Tryd.sizeOf0
  v0 := Tryd.zeroValue0
  t3 := Tryd.underlying3
  a3 := Tryd.isAgg3
  z3 := Tryd.sizeOf3
  v3 := Tryd.zeroValue3
  t4 := Tryd.underlying4
  a4 := Tryd.isAgg4
  z4 := Tryd.sizeOf4
  v4 := Tryd.zeroValue4
  t22 := Tryd.underlying26
  a22 := Tryd.isAgg26
  z22 := Tryd.sizeOf26
  v22 := Tryd.zeroValue26
  i3 := by kernel_rfl
/-- block g holds the numbers of l, and may be written -/
structure RowZ (w : World) (g : Nat) (l : List Int) : Prop where
  lt : g < w.heap.size
  fr : ∀ o, w.frozen? ⟨g, o, none⟩ = false
  cell : ∀ (q : Nat) (hq : q < l.length), w.cell? ⟨g, q, none⟩ = some (.int .i64 l[q])
theorem RowZ.holds {w : World} {g : Nat} {l : List Int} (h : RowZ w g l) : Holds (Value.int .i64) w g 0 l.toArray := fun j hj => by
  have hj' : j < l.length := by simpa using hj
  refine ⟨?_, by rw [Nat.zero_add]; exact h.fr _⟩
  rw [Nat.zero_add, h.cell j hj', getElem!_pos l.toArray j hj]
  simp
theorem put_but (w : World) (q g : Nat) (l : List Int) : But (Is g) w (putRow (Value.int .i64) (Sort.ahead w q) g 0 l.toArray) := by
  refine ⟨rfl, rfl, rfl, by rw [size_putRow]; exact Nat.le_refl _, fun k hk hne => ?_⟩
  have h : (putRow (Value.int .i64) (Sort.ahead w q) g 0 l.toArray).heap[k]? = (Sort.ahead w q).heap[k]? := by
    unfold putRow mapBlock
    simp only [Array.getElem?_modify]
    rw [if_neg (fun e => hne e.symm)]
  exact h
theorem put_row {w : World} {g : Nat} {l m : List Int} (h : RowZ w g l) (hm : m.length = l.length) (q : Nat) : RowZ (putRow (Value.int .i64) (Sort.ahead w q) g 0 m.toArray) g m := by
  refine ⟨by rw [size_putRow]; exact h.lt, fun o => by rw [frozen?_putRow]; exact h.fr o, fun i hi => ?_⟩
  have h := cell?_putRow (Value.int .i64) (Sort.ahead w q) g 0 l.toArray m.toArray (holds_ahead (Value.int .i64) w q g 0 l.toArray h.holds) (by simpa using hm) i (by simp; omega)
  rw [Nat.zero_add] at h
  rw [h]
  congr 2
  rw [getElem!_pos _ i (by simpa using hi)]
  simp
theorem grow_but (w : World) (os : Array Obj) : Below w.heap.size w (grow w os) :=
  ⟨rfl, rfl, rfl, by simp [grow], fun k hk => by simp [grow, Array.getElem?_append, hk]⟩
theorem RowZ.below {w w' : World} {g : Nat} {l : List Int} (h : RowZ w g l) (hb : Below w.heap.size w w') : RowZ w' g l :=
  ⟨Nat.lt_of_lt_of_le h.lt hb.size, fun o => (frozen_of_block (hb.block _ h.lt)).trans (h.fr o), fun q hq => (hb.cell (p := ⟨g, q, none⟩) h.lt).trans (h.cell q hq)⟩
theorem sort_any (l : List Int) (g cap : Nat) (w : World) (h : RowZ w g l) (hl : l.length < 4611686018427387904) :
    Calls Tryd.prog 18 #[.slice (some ⟨g, 0, none⟩) l.length cap] w fun e w' => (∃ x, e = .returned x) ∧ RowZ w' g (sortZ l) ∧ But (Is g) w w' := by
  refine (Any.slices_Sort_int laysSort g 0 cap l w h.holds h.lt hl).mono ?_
  rintro e w' ⟨rfl, q, os, rfl⟩
  have hr := put_row h (sortZ_len l) q
  have hb := grow_but (putRow (Value.int .i64) (Sort.ahead w q) g 0 (sortZ l).toArray) os
  exact ⟨⟨_, rfl⟩, hr.below hb, (put_but w q g _).trans (But.of_below hb)⟩
theorem sort_none (A : Option Addr) (cap : Nat) (w : World) : Calls Tryd.prog 18 #[.slice A 0 cap] w fun e w' => (∃ x, e = .returned x) ∧ w = w' := by
  refine (Any.slices_Sort_int_none laysSort A cap w).mono ?_
  rintro e w' ⟨rfl, rfl⟩
  exact ⟨⟨_, rfl⟩, rfl⟩
theorem compact_le (l : List Int) : (Lib.compact l).length ≤ l.length := by
  unfold Lib.compact Lib.compactUpTo
  rw [List.length_map]
  exact Nat.le_trans (List.length_filter_le _ _) (by simp)
theorem compact_any (l : List Int) (g cap : Nat) (w : World) (h : RowZ w g l) (hl : l.length ≤ cap) (hc : cap ≤ maxLen) (hok : ∀ x ∈ l, inI x) (hby : l.length * 8 ≤ 140737488355328) (hin : ∀ x ∈ Lib.compact l, x ∈ l) :
    Calls Tryd.prog 19 #[.slice (some ⟨g, 0, none⟩) l.length cap] w fun e w' => ∃ u, e = .returned u ∧ RdI w' (Is g) (Lib.compact l) u ∧ But (Is g) w w' := by
  have hle := compact_le l
  refine (Any.slices_Compact_int laysComp g 0 cap l w h.holds (by unfold maxLen at hc; omega) hl).mono ?_
  rintro e w' ⟨rfl, q, rfl⟩
  have hr := put_row h (m := Lib.compact l ++ List.replicate (l.length - (Lib.compact l).length) 0) (by simp; omega) q
  refine ⟨_, rfl, ?_, put_but w q g _⟩
  generalize (putRow (Value.int .i64) (Sort.ahead w q) g 0 (Lib.compact l ++ List.replicate (l.length - (Lib.compact l).length) 0).toArray) = W at *
  have hby2 := Nat.mul_le_mul_right 8 hle
  exact ⟨_, cap, (Lib.compact l).map fun x => [.int .i64 x], rfl, by omega, hc, by omega, by simp, ⟨fun cs hcs => by obtain ⟨x, _, rfl⟩ := List.mem_map.1 hcs; rfl, fun _ => ⟨g, 0, rfl, rfl, fun i cs hi j v hv => by
    rw [List.getElem?_map] at hi
    obtain ⟨y, hy, rfl⟩ := Option.map_eq_some_iff.1 hi
    have hi' := (List.getElem?_eq_some_iff.1 hy).1
    have hj : j = 0 := by have := (List.getElem?_eq_some_iff.1 hv).1; simp at this; exact this
    subst hj
    simp at hv; subst hv
    have hc := hr.cell i (by simp; omega)
    rw [List.getElem_append_left hi', (List.getElem?_eq_some_iff.1 hy).2] at hc
    simpa using hc⟩⟩, fun i e cs hi hc => by
    rw [List.getElem?_map, hi] at hc
    simp at hc; subst hc
    exact ⟨rfl, hok _ (hin _ (List.mem_of_getElem? hi))⟩⟩
theorem compact_none (A : Option Addr) (cap : Nat) (w : World) : Calls Tryd.prog 19 #[.slice A 0 cap] w fun e w' => e = .returned (.slice A 0 cap) ∧ w = w' := by
  refine (Any.slices_Compact_int_empty laysComp A cap w).mono ?_
  rintro e w' ⟨rfl, rfl⟩
  exact ⟨rfl, rfl⟩
theorem compact_mem {l : List Int} {x : Int} (h : x ∈ Lib.compact l) : x ∈ l := by
  unfold Lib.compact Lib.compactUpTo at h
  rw [List.mem_map] at h
  obtain ⟨j, hj, rfl⟩ := h
  have hj := List.mem_range.1 (List.mem_filter.1 hj).1
  rw [getElem!_pos _ j (by simpa using hj)]
  simp
theorem rowZ_of {w : World} {base : Nat} {l : List Int} {v : Value} (h : OwnI 3 w base Nowhere l v) (hne : 0 < l.length) : ∃ g c, v = .slice (some ⟨g, 0, none⟩) l.length c ∧ base ≤ g ∧ l.length ≤ c ∧ c ≤ maxLen ∧ RowZ w g l ∧ ∀ x ∈ l, inI x := by
  obtain ⟨g, c, e, h1, h2, h3, h4, h5, h6⟩ := OwnI.open_ h hne
  exact ⟨g, c, e, h1, h3, h4, ⟨h2, h5, fun q hq => (h6 q hq).2⟩, fun x hx => by obtain ⟨q, hq, rfl⟩ := List.getElem_of_mem hx; exact (h6 q hq).1⟩
theorem RowZ.rd {w : World} {g c : Nat} {l : List Int} (h : RowZ w g l) (hc : l.length ≤ c) (hm : c ≤ maxLen) (hok : ∀ x ∈ l, inI x) (hby : l.length * 8 ≤ 140737488355328) : RdI w (Is g) l (.slice (some ⟨g, 0, none⟩) l.length c) :=
  ⟨_, c, l.map fun x => [.int .i64 x], rfl, hc, hm, hby, by simp, ⟨fun cs hcs => by obtain ⟨x, _, rfl⟩ := List.mem_map.1 hcs; rfl, fun _ => ⟨g, 0, rfl, rfl, fun i cs hi j v hv => by
    rw [List.getElem?_map] at hi
    obtain ⟨y, hy, rfl⟩ := Option.map_eq_some_iff.1 hi
    have hi' := (List.getElem?_eq_some_iff.1 hy).1
    have hj : j = 0 := by have := (List.getElem?_eq_some_iff.1 hv).1; simp at this; exact this
    subst hj
    simp at hv; subst hv
    have hc := h.cell i hi'
    rw [(List.getElem?_eq_some_iff.1 hy).2] at hc
    simpa using hc⟩⟩, fun i e cs hi hc => by
    rw [List.getElem?_map, hi] at hc
    simp at hc; subst hc
    exact ⟨rfl, hok _ (List.mem_of_getElem? hi)⟩⟩
end Go.Proofs.YtnpgpcnkdocknaaDoor
