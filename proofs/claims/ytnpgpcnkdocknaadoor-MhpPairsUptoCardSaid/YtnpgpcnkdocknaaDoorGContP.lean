/- Texts merged: RowAt, SrtP, ContP. -/
import Derived.Test.YtnpgpcnkdocknaaDoorGScW
import Derived.Shelf.SlSortCmp.WholeK
import Derived.Shelf.SlSortCmp.NoneTotal
import Derived.Test.YtnpgpcnkdocknaaDoorGPrI
import Derived.Test.YtnpgpcnkdocknaaDoorGBsWs
import Derived.Test.YtnpgpcnkdocknaaDoorGRowZ
import Derived.BigQuiet
namespace Go.Proofs.YtnpgpcnkdocknaaDoor
open Go.RowKit
set_option linter.unusedVariables false
/-- block g, from base on, holds the elements of L, and may be written -/
structure RowAt {α : Type} (enc : α → List Value) (size : Nat) (base : Nat) (w : World) (g : Nat) (L : List α) : Prop where
  ge : base ≤ g
  lt : g < w.heap.size
  cell : ∀ (i : Nat) x, L[i]? = some x → ∀ (j : Nat) v, (enc x)[j]? = some v → w.cell? ⟨g, i * size + j, none⟩ = some v
  fr : ∀ o, w.frozen? ⟨g, o, none⟩ = false
/-- 'make([]T, n)', T of some cells -/
theorem run_makeN {P : Program} (t e : TypeId) (i : TypeInfo) (z : Value) {zc : Array Value} {size : Nat} (ht : P.underlying t = some (.slice e)) (hi : P.info? e = some i) (hz : i.zero = some z) (hs : i.size = size) (hc : z.cells = zc)
    (n : Nat) (hbytes : i.bytes * n ≤ 281474976710656) (h63 : n ≤ 9223372036854775807) (w : World) :
    (Instr.makeSlice t (.int .i64 (n : Int)) (.int .i64 (n : Int))).run P w = .ok (.slice (some ⟨w.heap.size, 0, none⟩) n n) (w.alloc (.cells (madeCells zc (n * size)) e)) := by
  have hb : (i.bytes : Int) * (n : Int) ≤ 281474976710656 := by
    have h : ((i.bytes * n : Nat) : Int) ≤ 281474976710656 := by omega
    rwa [Int.natCast_mul] at h
  have hr := run_make (P := P) w t e i z ht hi hz .i64 .i64 n n (by omega) (by omega) hb (by omega)
  simp only [Int.toNat_natCast, hs, hc] at hr
  exact hr
section
variable {α : Type} {enc : α → List Value} {size base : Nat} {w w' : World} {g : Nat} {L : List α}
theorem RowAt.but {T : Blocks} (r : RowAt enc size base w g L) (h : But T w w') (ht : ¬ T g) : RowAt enc size base w' g L :=
  ⟨r.ge, Nat.lt_of_lt_of_le r.lt h.size, fun i x hi j v hv => h.cell ht (r.cell i x hi j v hv), fun o => (frozen_of_block (h.block _ r.lt ht)).trans (r.fr o)⟩
theorem RowAt.below (r : RowAt enc size base w g L) (h : Below w.heap.size w w') : RowAt enc size base w' g L := r.but (T := Nowhere) (But.of_below h) (fun h => h)
theorem RowAt.drewN (r : RowAt enc size base w g L) (n : Nat) : RowAt enc size base (w.drewN n) g L := ⟨r.ge, r.lt, r.cell, r.fr⟩
theorem RowAt.drew (r : RowAt enc size base w g L) : RowAt enc size base w.drew g L := ⟨r.ge, r.lt, r.cell, r.fr⟩
theorem RowAt.rebase (r : RowAt enc size base w g L) {base' : Nat} (h : base' ≤ base) : RowAt enc size base' w g L := ⟨Nat.le_trans h r.ge, r.lt, r.cell, r.fr⟩
theorem RowAt.other (r : RowAt enc size base w g L) {p : Addr} (hp : p.block ≠ g) (x : Value) : RowAt enc size base (w.setCell p x) g L := by
  refine ⟨r.ge, by rw [size_setCell]; exact r.lt, fun i y hi j v hv => ?_, fun o => by rw [World.frozen?_setCell]; exact r.fr o⟩
  rw [World.cell?_setCell_other _ _ _ _ (fun h => hp (by rw [h]))]
  exact r.cell i y hi j v hv
/-- one cell of an element -/
theorem RowAt.at_ (r : RowAt enc size base w g L) {i : Nat} {x : α} (hi : L[i]? = some x) (j : Nat) {v : Value} (hv : (enc x)[j]? = some v) : w.cell? ⟨g, i * size + j, none⟩ = some v := r.cell i x hi j v hv
theorem mul_eq_two {i k j j' : Nat} (hj : j < 2) (hj' : j' < 2) (h : i * 2 + j = k * 2 + j') : i = k ∧ j = j' := by omega
theorem RowAt.set2 (r : RowAt enc 2 base w g L) {i : Nat} (hi : i < L.length) (x : α) {v0 v1 : Value} (hx : enc x = [v0, v1]) (he : ∀ y, (enc y).length = 2) :
    RowAt enc 2 base ((w.setCell ⟨g, i * 2, none⟩ v0).setCell ⟨g, i * 2 + 1, none⟩ v1) g (L.set i x) := by
  have hold : ∀ j, j < 2 → (w.cell? ⟨g, i * 2 + j, none⟩).isSome = true := fun j hj => by
    have := r.cell i L[i] (List.getElem?_eq_getElem hi) j ((enc L[i])[j]'(by rw [he]; exact hj)) (List.getElem?_eq_getElem (by rw [he]; exact hj))
    rw [this]; rfl
  refine ⟨r.ge, by rw [size_setCell, size_setCell]; exact r.lt, fun k y hk j v hv => ?_, fun o => by rw [World.frozen?_setCell, World.frozen?_setCell]; exact r.fr o⟩
  have hj : j < 2 := by have := (List.getElem?_eq_some_iff.1 hv).1; rw [he] at this; exact this
  rw [List.getElem?_set] at hk
  by_cases e : i = k
  · subst e
    rw [if_pos rfl, if_pos hi] at hk
    injection hk with hk; subst hk
    rw [hx] at hv
    match j, hj, hv with
    | 0, _, hv =>
      simp at hv; subst hv
      rw [World.cell?_setCell_other _ _ _ _ (fun h => by injection h with _ h; omega)]
      exact World.cell?_setCell_same' _ _ _ (hold 0 (by omega))
    | 1, _, hv =>
      simp at hv; subst hv
      refine World.cell?_setCell_same' _ _ _ ?_
      rw [World.cell?_setCell_other _ _ _ _ (fun h => by injection h with _ h; omega)]
      exact hold 1 (by omega)
  · rw [if_neg e] at hk
    rw [World.cell?_setCell_other _ _ _ _ (fun h => by injection h with _ h; omega), World.cell?_setCell_other _ _ _ _ (fun h => by injection h with _ h; omega)]
    exact r.cell k y hk j v hv
/-- as a list that is read -/
theorem RowAt.toRd {ok : α → Prop} {bytes c : Nat} {S : Blocks} (r : RowAt enc size base w g L) (he : ∀ y, (enc y).length = size) (hok : ∀ y ∈ L, ok y) (hS : S g) (hc : L.length ≤ c) (hcm : c ≤ maxLen) (hb : L.length * bytes ≤ 140737488355328) :
    RdL (Flat enc ok) size bytes w S L (.slice (some ⟨g, 0, none⟩) L.length c) :=
  ⟨_, c, L.map enc, rfl, hc, hcm, hb, by simp, ⟨fun cs hcs => by obtain ⟨y, _, rfl⟩ := List.mem_map.1 hcs; exact he y, fun _ => ⟨g, 0, rfl, hS, fun i cs hi j v hv => by
    rw [List.getElem?_map] at hi
    obtain ⟨y, hy, rfl⟩ := Option.map_eq_some_iff.1 hi
    rw [Nat.zero_add]
    exact r.cell i y hy j v hv⟩⟩, fun i e cs hi hc => by
    rw [List.getElem?_map, hi] at hc
    simp at hc; subst hc
    exact ⟨rfl, hok e (List.mem_of_getElem? hi)⟩⟩
/-- a row that was just made -/
theorem RowAt.made (w : World) (n : Nat) (x : α) (E : TypeId) {z : Array Value} (hz : enc x = z.toList) (hs : z.size = size) (hpos : 0 < size) (hb : base ≤ w.heap.size) :
    RowAt enc size base (w.alloc (.cells (madeCells z (n * size)) E)) w.heap.size (List.replicate n x) := by
  have h := heap_alloc_new w (.cells (madeCells z (n * size)) E)
  refine ⟨hb, by simp, fun i y hi j v hv => ?_, fun o => ?_⟩
  · rw [List.getElem?_replicate] at hi
    split at hi
    · rename_i hin
      injection hi with hi; subst hi
      rw [hz] at hv
      have hj : j < z.size := by simpa using (List.getElem?_eq_some_iff.1 hv).1
      have hv' : z[j] = v := by simpa using (List.getElem?_eq_some_iff.1 hv).2
      unfold World.cell?
      simp only [h]
      have hlt : i * size + j < n * size := by
        have : i * size + size ≤ n * size := by rw [← Nat.succ_mul]; exact Nat.mul_le_mul_right _ hin
        omega
      have hmod : (i * size + j) % z.size = j := by
        rw [hs, Nat.mul_comm, Nat.mul_add_mod]; exact Nat.mod_eq_of_lt (by omega)
      have : (madeCells z (n * size))[i * size + j]? = some v := by
        unfold madeCells
        rw [Array.getElem?_map]
        have : (Array.range (n * size))[i * size + j]? = some (i * size + j) := by simp [hlt]
        rw [this]
        simp only [Option.map_some, hmod]
        rw [getElem!_pos z j hj, hv']
      simpa using this
    · cases hi
  · unfold World.frozen?
    simp only [h]
    simp
end
end Go.Proofs.YtnpgpcnkdocknaaDoor
namespace Go.Proofs.YtnpgpcnkdocknaaDoor
open Go.Shelf Go.RowKit Go.Lib Go.Sort
set_option linter.unusedVariables false
def laysSortP_ren : Go.Shelf.Ren := ⟨fun | 6 => 26 | 15 => 29 | 14 => 34 | 28 => 44 | 29 => 45 | 20 => 48 | 21 => 49 | 22 => 50 | 23 => 51 | 24 => 52 | 25 => 53 | 26 => 54 | 27 => 55 | 46 => 62 | 47 => 57 | 48 => 58 | 49 => 63 | 50 => 64 | 57 => 66 | n => n, fun | 22 => 24 | 24 => 30 | 25 => 64 | 3 => 3 | 39 => 67 | 0 => 0 | 53 => 84 | 55 => 60 | 4 => 4 | 46 => 76 | 45 => 75 | 50 => 81 | 5 => 5 | 9 => 9 | 66 => 91 | 70 => 95 | 76 => 99 | 77 => 100 | n => n, fun | n => n⟩
theorem laysSortP : Go.Proofs.SlLaysF0.n6 Tryd.prog laysSortP_ren where
  mixed := by kernel_rfl
  f6 := ⟨Tryd.f26.name, by decide, Tryd.func26.trans (congrArg some (by kernel_rfl))⟩
  f14 := ⟨Tryd.f34.name, by decide, Tryd.func34.trans (congrArg some (by kernel_rfl))⟩
  f15 := Tryd.func29.trans (congrArg some (by kernel_rfl))
  f20 := ⟨Tryd.f48.name, by decide, Tryd.func48.trans (congrArg some (by kernel_rfl))⟩
  f21 := ⟨Tryd.f49.name, by decide, Tryd.func49.trans (congrArg some (by kernel_rfl))⟩
  f22 := ⟨Tryd.f50.name, by decide, Tryd.func50.trans (congrArg some (by kernel_rfl))⟩
  f23 := ⟨Tryd.f51.name, by decide, Tryd.func51.trans (congrArg some (by kernel_rfl))⟩
  f24 := ⟨Tryd.f52.name, by decide, Tryd.func52.trans (congrArg some (by kernel_rfl))⟩
  f25 := ⟨Tryd.f53.name, by decide, Tryd.func53.trans (congrArg some (by kernel_rfl))⟩
  f26 := ⟨Tryd.f54.name, by decide, Tryd.func54.trans (congrArg some (by kernel_rfl))⟩
  f27 := ⟨Tryd.f55.name, by decide, Tryd.func55.trans (congrArg some (by kernel_rfl))⟩
  f28 := Tryd.func44.trans (congrArg some (by kernel_rfl))
  f29 := Tryd.func45.trans (congrArg some (by kernel_rfl))
  f46 := ⟨Tryd.f62.name, by decide, Tryd.func62.trans (congrArg some (by kernel_rfl))⟩
  f47 := Tryd.func57.trans (congrArg some (by kernel_rfl))
  f48 := Tryd.func58.trans (congrArg some (by kernel_rfl))
  f49 := ⟨Tryd.f63.name, by decide, Tryd.func63.trans (congrArg some (by kernel_rfl))⟩
  f50 := ⟨Tryd.f64.name, by decide, Tryd.func64.trans (congrArg some (by kernel_rfl))⟩
  f57 := ⟨Tryd.f66.name, by decide, Tryd.func66.trans (congrArg some (by kernel_rfl))⟩
  t0 := Tryd.underlying0
  a0 := Tryd.isAgg0
  z0 := Tryd.sizeOf0
  v0 := Tryd.zeroValue0
  t3 := Tryd.underlying3
  a3 := Tryd.isAgg3
  z3 := Tryd.sizeOf3
  v3 := Tryd.zeroValue3
  t4 := Tryd.underlying4
  a4 := Tryd.isAgg4
  z4 := Tryd.sizeOf4
  v4 := Tryd.zeroValue4
  t5 := Tryd.underlying5
  a5 := Tryd.isAgg5
  z5 := Tryd.sizeOf5
  v5 := Tryd.zeroValue5
  t9 := Tryd.underlying9
  a9 := Tryd.isAgg9
  z9 := Tryd.sizeOf9
  v9 := Tryd.zeroValue9
  t22 := Tryd.underlying24
  a22 := Tryd.isAgg24
  z22 := Tryd.sizeOf24
  v22 := Tryd.zeroValue24
  t25 := Tryd.underlying64
  a25 := Tryd.isAgg64
  z25 := Tryd.sizeOf64
  v25 := Tryd.zeroValue64
  t39 := Tryd.underlying67
  a39 := Tryd.isAgg67
  z39 := Tryd.sizeOf67
  v39 := Tryd.zeroValue67
  t45 := Tryd.underlying75
  a45 := Tryd.isAgg75
  z45 := Tryd.sizeOf75
  v45 := Tryd.zeroValue75
  t46 := Tryd.underlying76
  a46 := Tryd.isAgg76
  z46 := Tryd.sizeOf76
  v46 := Tryd.zeroValue76
  t50 := Tryd.underlying81
  a50 := Tryd.isAgg81
  z50 := Tryd.sizeOf81
  v50 := Tryd.zeroValue81
  t53 := Tryd.underlying84
  a53 := Tryd.isAgg84
  z53 := Tryd.sizeOf84
  v53 := Tryd.zeroValue84
  t55 := Tryd.underlying60
  a55 := Tryd.isAgg60
  z55 := Tryd.sizeOf60
  v55 := Tryd.zeroValue60
  t66 := Tryd.underlying91
  a66 := Tryd.isAgg91
  z66 := Tryd.sizeOf91
  v66 := Tryd.zeroValue91
  t70 := Tryd.underlying95
  a70 := Tryd.isAgg95
  z70 := Tryd.sizeOf95
  v70 := Tryd.zeroValue95
  t76 := Tryd.underlying99
  a76 := Tryd.isAgg99
  z76 := Tryd.sizeOf99
  v76 := Tryd.zeroValue99
  t77 := Tryd.underlying100
  a77 := Tryd.isAgg100
  z77 := Tryd.sizeOf100
  v77 := Tryd.zeroValue100
/-- pairs of numbers that are no pairs of differences too great -/
abbrev PN := Fin 4294967296 × Fin 4294967296
def cvP (x : PN) : Int × Int := ((x.1.val : Int), (x.2.val : Int))
def ofP (x : Int × Int) : PN := (⟨x.1.toNat % 4294967296, Nat.mod_lt _ (by decide)⟩, ⟨x.2.toNat % 4294967296, Nat.mod_lt _ (by decide)⟩)
def okPN (x : Int × Int) : Prop := 0 ≤ x.1 ∧ x.1 < 4294967296 ∧ 0 ≤ x.2 ∧ x.2 < 4294967296
theorem cv_of {x : Int × Int} (h : okPN x) : cvP (ofP x) = x := by
  obtain ⟨a, b⟩ := x
  unfold okPN at h
  unfold cvP ofP
  simp only [Prod.mk.injEq] at h ⊢
  omega
def encF (x : PN) : List Value := [.int .i64 (x.1.val : Int), .int .i64 (x.2.val : Int)]
theorem encF_cv (x : PN) : encF x = encP (cvP x) := rfl
def cfP (x y : PN) : Int := if x.1.val ≠ y.1.val then (x.1.val : Int) - (y.1.val : Int) else (x.2.val : Int) - (y.2.val : Int)
instance (a b : Int × Int) : Decidable (ltP a b) := by unfold ltP; infer_instance
theorem cfP_lt (x y : PN) : cfP x y < 0 ↔ ltP (cvP x) (cvP y) := by
  unfold cfP ltP cvP
  dsimp only
  split <;> omega
theorem lt_cfP (x y : PN) : ltOf cfP x y = decide (ltP (cvP x) (cvP y)) := by
  show decide (cfP x y < 0) = _
  exact decide_eq_decide.2 (cfP_lt x y)
theorem swoP : SWO (ltOf cfP) where
  irrefl x := by rw [lt_cfP, decide_eq_false_iff_not]; unfold ltP; omega
  trans x y z h1 h2 := by
    rw [lt_cfP, decide_eq_true_iff] at *
    unfold ltP at *
    omega
  ntrans x y z h1 h2 := by
    rw [lt_cfP, decide_eq_false_iff_not] at *
    unfold ltP at *
    omega
set_option maxHeartbeats 1000000 in
theorem cmpP_any (x y : PN) (W : World) : Calls Tryd.prog 27 #[.agg #[.int .i64 (x.1.val : Int), .int .i64 (x.2.val : Int)], .agg #[.int .i64 (y.1.val : Int), .int .i64 (y.2.val : Int)]] W fun e w' => e = .returned (.int .i64 (cfP x y)) ∧ ∃ q os', w' = grow (W.drewN q) os' := by
  obtain ⟨⟨a, ha⟩, ⟨b, hb⟩⟩ := x
  obtain ⟨⟨c, hc⟩, ⟨d, hd⟩⟩ := y
  have h1 : IntKind.i64.wrap ((a : Int) - (c : Int)) = (a : Int) - (c : Int) := IntWalk.i64_in _ (by omega)
  have h2 : IntKind.i64.wrap ((b : Int) - (d : Int)) = (b : Int) - (d : Int) := IntWalk.i64_in _ (by omega)
  by_cases h : a = c
  · have HE := Lib.hid (show cfP (⟨a, ha⟩, ⟨b, hb⟩) (⟨c, hc⟩, ⟨d, hd⟩) = (b : Int) - (d : Int) by unfold cfP; rw [if_neg (by simpa using h)])
    subst h
    clear h1
    dsimp only
    go_enter Tryd.func27, Tryd.ntmps27
    go_wp2
    go_ret
    exact ⟨by rw [HE.out]; rfl, 0, _, by rw [alloc_eq_grow, alloc_eq_grow, grow_grow]; rfl⟩
  · have HE := Lib.hid (show cfP (⟨a, ha⟩, ⟨b, hb⟩) (⟨c, hc⟩, ⟨d, hd⟩) = (a : Int) - (c : Int) by unfold cfP; rw [if_pos (by simpa using h)])
    have hne : ((a : Int) != (c : Int)) = true := by simp; omega
    clear h2
    dsimp only
    go_enter Tryd.func27, Tryd.ntmps27
    go_wp2
    go_ret
    exact ⟨by rw [HE.out]; rfl, 0, _, by rw [alloc_eq_grow, alloc_eq_grow, grow_grow]; rfl⟩
theorem flatK_at (d : Array PN) (i : Nat) (hi : i < d.size) (j : Nat) (v : Value) (hv : (encP (cvP d[i]))[j]? = some v) : j < 2 ∧ i * 2 + j < (flatK encF 2 d).size ∧ (flatK encF 2 d)[i * 2 + j]! = v := by
  have hj : j < 2 := by
    have := (List.getElem?_eq_some_iff.1 hv).1
    simpa [encP] using this
  have hs : i * 2 + j < (flatK encF 2 d).size := by unfold flatK; simp; omega
  refine ⟨hj, hs, ?_⟩
  show ((Array.range (d.size * 2)).map fun t => (encF d[t / 2]!)[t % 2]!)[i * 2 + j]! = v
  rw [getElem!_pos ((Array.range (d.size * 2)).map fun t => (encF d[t / 2]!)[t % 2]!) (i * 2 + j) (by simp; omega)]
  rw [Array.getElem_map, Array.getElem_range, show (i * 2 + j) / 2 = i by omega, show (i * 2 + j) % 2 = j by omega, getElem!_pos d i hi, encF_cv]
  obtain ⟨h1, h2⟩ := List.getElem?_eq_some_iff.1 hv
  rw [getElem!_pos (encP (cvP d[i])) j h1]
  exact h2
theorem holdsP {w : World} {g : Nat} {d : Array PN} (r : RowAt encP 2 0 w g (d.toList.map cvP)) : HoldsK encF 2 w g 0 d := fun t ht => by
  have ht' : t < d.size * 2 := by unfold flatK at ht; simpa using ht
  have hi : t / 2 < d.size := by omega
  have hl : (d.toList.map cvP)[t / 2]? = some (cvP d[t / 2]) := by simp [hi]
  obtain ⟨v, hv⟩ : ∃ v, (encP (cvP d[t / 2]))[t % 2]? = some v := by
    have : t % 2 < (encP (cvP d[t / 2])).length := by rw [encP_len]; omega
    exact ⟨_, List.getElem?_eq_getElem this⟩
  have h1 := r.cell (t / 2) _ hl (t % 2) v hv
  obtain ⟨_, _, h3⟩ := flatK_at d (t / 2) hi (t % 2) v hv
  rw [show t / 2 * 2 + t % 2 = t by omega] at h1 h3
  refine ⟨?_, by rw [Nat.zero_add]; exact r.fr _⟩
  rw [Nat.zero_add, h1, h3]; rfl
theorem rowP_of {w : World} {g : Nat} {d : Array PN} (hg : g < w.heap.size) (hf : ∀ o, w.frozen? ⟨g, o, none⟩ = false) (h : HoldsK encF 2 w g 0 d) : RowAt encP 2 0 w g (d.toList.map cvP) :=
  ⟨Nat.zero_le _, hg, fun i x hx j v hv => by
    rw [List.getElem?_map] at hx
    obtain ⟨y, hy, rfl⟩ := Option.map_eq_some_iff.1 hx
    obtain ⟨hi, e⟩ := List.getElem?_eq_some_iff.1 hy
    have hi' : i < d.size := by simpa using hi
    have e' : d[i] = y := by rw [← e]; simp
    subst e'
    obtain ⟨_, h2, h3⟩ := flatK_at d i hi' j v hv
    have := (h (i * 2 + j) h2).1
    rw [Nat.zero_add, h3] at this
    exact this, hf⟩
theorem putK_but (w : World) (q g : Nat) (d : Array PN) : But (Is g) w (putRowK encF 2 (Sort.ahead w q) g 0 d) := by
  refine ⟨rfl, rfl, rfl, by unfold putRowK; rw [size_putRow]; exact Nat.le_refl _, fun k hk hne => ?_⟩
  have h : (putRowK encF 2 (Sort.ahead w q) g 0 d).heap[k]? = (Sort.ahead w q).heap[k]? := by
    unfold putRowK putRow mapBlock
    simp only [Array.getElem?_modify]
    rw [if_neg (fun e => hne e.symm)]
  exact h
set_option maxHeartbeats 1000000 in
theorem sortP_any (l : List (Int × Int)) (g cap : Nat) (w : World) (r : RowAt encP 2 0 w g l) (hl : l.length < 4611686018427387904) (hb : ∀ x ∈ l, okPN x) :
    Calls Tryd.prog 26 #[.slice (some ⟨g, 0, none⟩) l.length cap, .func (.func 27) #[] #[]] w fun e w' => (∃ x, e = .returned x) ∧ ∃ l', l'.Perm l ∧ l'.Pairwise (fun a b => ¬ ltP b a) ∧ RowAt encP 2 0 w' g l' ∧ But (Is g) w w' := by
  obtain ⟨d, hd⟩ : ∃ d : Array PN, d = (l.map ofP).toArray := ⟨_, rfl⟩
  have hdl : d.toList.map cvP = l := by
    rw [hd, List.toList_toArray, List.map_map]
    exact (List.map_congr_left (fun x hx => cv_of (hb x hx))).trans (List.map_id _)
  have hds : d.size = l.length := by rw [hd]; simp
  have eg : ∀ args w, (callFunc 27 args).run Tryd.prog w = .ok (.enter 27 args) w := enters_of Tryd.func27 (by kernel_rfl) rfl
  have hH := holdsP (w := w) (g := g) (d := d) (by rw [hdl]; exact r)
  have hcon := AnyQ.slices_SortFunc laysSortP 2 (fun w => by kernel_rfl) (fun w => by kernel_rfl) encF (fun _ => rfl) (fun x v hv => by simp [encF] at hv; rcases hv with rfl | rfl <;> rfl) cfP swoP 27 #[] g 0 cap d w eg (fun _ _ _ _ x y => cmpP_any x y _) hH r.lt (by omega)
  rw [hds] at hcon
  refine Calls.mono hcon ?_
  rintro e w' ⟨rfl, d', n, os, ⟨hp1, _, hp3⟩, hs, rfl⟩
  have hsz : d'.size = d.size := hp1
  have hP := putK_but w n g d'
  have hh := holdsK_putRowK encF 2 (Sort.ahead w n) g 0 d d' (holdsK_ahead encF 2 w n g 0 d hH) hsz
  have hrow := rowP_of (w := putRowK encF 2 (Sort.ahead w n) g 0 d') (by unfold putRowK; rw [size_putRow]; exact r.lt) (fun o => by unfold putRowK; rw [frozen?_putRow]; exact r.fr o) hh
  have hgr := grow_but (putRowK encF 2 (Sort.ahead w n) g 0 d') os
  refine ⟨⟨_, rfl⟩, d'.toList.map cvP, ?_, ?_, hrow.below hgr, hP.trans (But.of_below hgr)⟩
  · rw [← hdl]
    refine List.Perm.map _ ?_
    have e1 : d'.extract 0 l.length = d' := by rw [← hds, ← hsz]; exact Array.extract_size
    have e2 : d.extract 0 l.length = d := by rw [← hds]; exact Array.extract_size
    rw [e1, e2] at hp3
    exact hp3
  · rw [List.pairwise_map, List.pairwise_iff_getElem]
    intro i j hi hj hij
    have h := hs i j (Nat.zero_le _) hij (by rw [← hds, ← hsz]; simpa using hj)
    have hi' : i < d'.size := by simpa using hi
    have hj' : j < d'.size := by simpa using hj
    rw [lt_cfP, getElem!_pos d' i hi', getElem!_pos d' j hj', decide_eq_false_iff_not] at h
    simpa using h
theorem sortP_none (A : Option Addr) (cap : Nat) (fv : Value) (w : World) : Calls Tryd.prog 26 #[.slice A 0 cap, fv] w fun e w' => (∃ x, e = .returned x) ∧ w = w' := by
  have hcon := AnyF.slices_SortFunc_none laysSortP A cap fv w
  refine Calls.mono hcon ?_
  rintro e w' ⟨rfl, rfl⟩
  exact ⟨⟨_, rfl⟩, rfl⟩
end Go.Proofs.YtnpgpcnkdocknaaDoor
namespace Go.Proofs.YtnpgpcnkdocknaaDoor
open Go.RowKit
set_option linter.unusedVariables false
theorem takePr_contains (l : List (Int × Int)) (x : Int × Int) (q : Nat) (h : q < l.length) : (l.take (q + 1)).contains x = ((l.take q).contains x || (x == l[q])) := by
  rw [List.take_succ_eq_append_getElem h]
  rw [Bool.eq_iff_iff, Bool.or_eq_true, List.contains_iff_mem, List.contains_iff_mem, List.mem_append, List.mem_singleton, beq_iff_eq]
set_option maxHeartbeats 800000 in
theorem indexPr (l : List (Int × Int)) (x y : Int) (w : World) (S : Blocks) (v : Value) (hS : Sub S (Upto w.heap.size)) (r : RdP w S l v) :
    Calls Tryd.prog 33 #[v, .agg #[.int .i64 x, .int .i64 y]] w fun e w' => (∃ k : Int, e = .returned (.int .i64 k) ∧ -1 ≤ k ∧ k ≤ l.length ∧ decide (0 ≤ k) = l.contains (x, y)) ∧ Below w.heap.size w w' := by
  obtain ⟨A, cap, rfl, hl, hcm, hby⟩ := r.form
  unfold maxLen at hcm
  have R := Lib.hid r
  have HS := Lib.hid hS
  have b0 := Blk.made w [.int .i64 x, .int .i64 y] 30 (base := 0) (Nat.zero_le _)
  have bl : Below w.heap.size w (w.alloc (.cells #[.int .i64 x, .int .i64 y] 30)) := (Below.refl _ _).alloc (Nat.le_refl _) _
  have B0 := Lib.hid b0
  have BL := Lib.hid bl
  clear r hS b0 bl
  go_enter Tryd.func33, Tryd.ntmps33
  go_upto_region 1 with (fail)
  generalize (w.alloc (.cells #[.int .i64 x, .int .i64 y] 30)) = W0 at *
  go_wp2
  go_loopw [8] (fun t wr => ∃ q : Nat, q ≤ l.length ∧ t = .int .i64 q ∧ Hid ((l.take q).contains (x, y) = false) ∧ Hid (Blk 0 wr w.heap.size [.int .i64 x, .int .i64 y]) ∧ Below w.heap.size w wr) (fun t _ => l.length - (intOf t).toNat)
  case atStart => exact ⟨0, by omega, rfl, Lib.hid rfl, B0, BL.out⟩
  case round =>
    clear B0 BL
    obtain ⟨q, hq, rfl, HQ, B, hb⟩ := hrel
    have k0 := B.out.cell 0 _ rfl
    have k1 := B.out.cell 1 _ rfl
    by_cases hlt : q < l.length
    · obtain ⟨bb, off, rfl, _, hok, hc1, hc2⟩ := RdP.at1 (R.out.go Flat.keeps hb HS.out (Sub.refl _)) hlt
      obtain ⟨c, d, hcd⟩ : ∃ c d, l[q] = (c, d) := ⟨_, _, rfl⟩
      have HT := Lib.hid (takePr_contains l (x, y) q hlt)
      rw [hcd] at hc1 hc2 HT
      have HD := Lib.hid (fun n => B.out.drewN n)
      have HBD := Lib.hid (fun n => below_drewN hb n)
      simp only at hc1 hc2
      clear hok hcd hb B
      by_cases h12 : x = c ∧ y = d
      · obtain ⟨h1, h2⟩ := h12
        have HF := Lib.hid (show l.contains (x, y) = true from by
          have h : (l.take (q + 1)).contains (x, y) = true := by rw [HT.out, h1, h2]; simp
          rw [List.contains_iff_mem] at h ⊢
          exact List.mem_of_mem_take h)
        subst h1 h2
        clear HT
        go_wp2
        go_quiet (fail)
        go_wp2
        go_ret
        exact ⟨⟨(q : Int), rfl, by omega, by omega, by rw [HF.out]; simp⟩, HBD.out _⟩
      · have HQ2 := Lib.hid (show (l.take (q + 1)).contains (x, y) = false by
          rw [HT.out, HQ.out, Bool.false_or]
          cases he : ((x, y) == (c, d))
          · rfl
          · have := eq_of_beq he
            injection this with a b
            exact absurd ⟨a, b⟩ h12)
        clear HT
        by_cases h1 : x = c
        · have h2 : ¬ y = d := fun e => h12 ⟨h1, e⟩
          have hb2 : (y == d) = false := by simp [h2]
          subst h1
          clear h12
          go_wp2
          go_quiet (fail)
          go_wp2
          go_roundw
          case rel => exact ⟨q + 1, by omega, by go_num, HQ2, Lib.hid (HD.out _), HBD.out _⟩
          case measure => simp [intOf]; omega
        · have hb1 : (x == c) = false := by simp [h1]
          clear h12
          go_wp2
          go_quiet (fail)
          go_wp2
          go_roundw
          case rel => exact ⟨q + 1, by omega, by go_num, HQ2, Lib.hid (HD.out _), HBD.out _⟩
          case measure => simp [intOf]; omega
    · have hqe : q = l.length := by omega
      subst hqe
      have HF := Lib.hid (show l.contains (x, y) = false by have := HQ.out; rw [List.take_length] at this; exact this)
      clear HQ
      go_wp2
      go_ret
      exact ⟨⟨-1, rfl, by omega, by omega, by rw [HF.out]; rfl⟩, hb⟩
set_option maxHeartbeats 800000 in
theorem containsPr (l : List (Int × Int)) (x y : Int) (w : World) (S : Blocks) (v : Value) (hS : Sub S (Upto w.heap.size)) (r : RdP w S l v) :
    Calls Tryd.prog 25 #[v, .agg #[.int .i64 x, .int .i64 y]] w fun e w' => e = .returned (.bool (l.contains (x, y))) ∧ Below w.heap.size w w' := by
  --(w.alloc (.cells #[.int .i64 x, .int .i64 y] 30)) = (w.alloc (.cells #[.int .i64 x, .int .i64 y] 30))
  have b0 := Blk.made w [.int .i64 x, .int .i64 y] 30 (base := 0) (Nat.zero_le _)
  have bl : Below w.heap.size w (w.alloc (.cells #[.int .i64 x, .int .i64 y] 30)) := (Below.refl _ _).alloc (Nat.le_refl _) _
  have k0 := b0.cell 0 _ rfl
  have k1 := b0.cell 1 _ rfl
  have BL := Lib.hid bl
  have C := Lib.hid (indexPr l x y (w.alloc (.cells #[.int .i64 x, .int .i64 y] 30)) S v (hS.trans (Sub.upto bl.size)) (r.go Flat.keeps bl hS (Sub.refl _)))
  clear r hS b0 bl
  go_enter Tryd.func25, Tryd.ntmps25
  go_upto_region 1 with (fail)
  generalize (w.alloc (.cells #[.int .i64 x, .int .i64 y] 30)) = W0 at *
  go_wp2_with fail
  refine C.out.mono ?_
  rintro e w' ⟨⟨k, rfl, h1, h2, h3⟩, hb⟩
  have BZ := Lib.hid (BL.out.trans (hb.mono BL.out.size))
  have HK := Lib.hid h3
  clear hb k0 k1 h3
  go_wp2
  go_ret
  exact ⟨by rw [← HK.out]; rfl, BZ.out⟩
end Go.Proofs.YtnpgpcnkdocknaaDoor
