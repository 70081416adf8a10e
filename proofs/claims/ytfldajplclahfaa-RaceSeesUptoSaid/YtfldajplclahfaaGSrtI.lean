/- Texts merged: MapV, IntA, SrtI. -/
import Derived.Test.YtfldajplclahfaaGRdT
import Derived.Maps.OwnSet
import Derived.Maps.OwnOps
import Derived.Test.YtfldajplclahfaaFlat
import Derived.Shelf.Sort.Plain
import Derived.Shelf.Slices.In.SortNone
import Derived.Shelf.Slices.CompactI
import Derived.Test.YtfldajplclahfaaGSrtSpec
/- A map from numbers that the call itself has made: what it gives, number by number, said of bare values. -/
namespace Go.Proofs.Ytfldajplclahfaa
open Go.RowKit
open Go.Maps (Keyed IsMap)
set_option linter.unusedVariables false
def heldR (v : Value) : Option (DataW Value × List MemPlace) := some (.held v, [])
/-- block b is a map from numbers, of at most n entries, that gives 'f q' at q; z: what it gives where nothing is -/
structure OwnM (P : Program) (w : World) (k : TypeId) (z : Value) (b n : Nat) (f : Int → Value) : Prop where
  ex : ∃ D : DataW Value, w.ownsMap P k heldR b n D ∧ ∀ q, inI q → D.atKey (.int .i64 q) (.held z) = .held (f q)
def updV {α : Type} (f : Int → α) (a : Int) (v : α) : Int → α := fun x => if x = a then v else f x
theorem updV_same {α : Type} (f : Int → α) (a : Int) (v : α) : updV f a v a = v := by simp [updV]
theorem updV_other {α : Type} (f : Int → α) {a x : Int} (v : α) (h : x ≠ a) : updV f a v x = f x := by simp [updV, h]
section
variable {P : Program} {w w' : World} {k : TypeId} {z : Value} {b n : Nat} {f : Int → Value}
theorem OwnM.made (w : World) : OwnM P (w.alloc (.map #[] 0)) k z w.heap.size 0 (fun _ => z) :=
  ⟨.map [], World.ownsMap_made w P k heldR, fun q _ => WideAt.atKey_none (.held z) (by simp)⟩
theorem OwnM.lt (h : OwnM P w k z b n f) : b < w.heap.size := by obtain ⟨D, h1, _⟩ := h.ex; exact h1.lt
theorem OwnM.same (h : OwnM P w k z b n f) (hb : w'.heap[b]? = w.heap[b]?) : OwnM P w' k z b n f := by
  obtain ⟨D, ⟨es, clock, h1, h2⟩, h3⟩ := h.ex
  exact ⟨D, ⟨es, clock, hb.trans h1, h2⟩, h3⟩
theorem OwnM.below (h : OwnM P w k z b n f) (hb : Below w.heap.size w w') : OwnM P w' k z b n f := h.same (hb.block b h.lt)
theorem OwnM.but {T : Blocks} (h : OwnM P w k z b n f) (hb : But T w w') (ht : ¬ T b) : OwnM P w' k z b n f := h.same (hb.block b h.lt ht)
theorem OwnM.grown {row : Option Nat} (h : OwnM P w k z b n f) (hg : w.grownBy w' row) (hne : some b ≠ row) : OwnM P w' k z b n f := h.same (hg.block b h.lt hne)
theorem OwnM.drew (h : OwnM P w k z b n f) : OwnM P w.drew k z b n f := h.same rfl
theorem OwnM.more (h : OwnM P w k z b n f) {n' : Nat} (hn : n ≤ n') : OwnM P w k z b n' f := by
  obtain ⟨D, h1, h2⟩ := h.ex
  exact ⟨D, h1.mono hn, h2⟩
theorem OwnM.look {t e : TypeId} {q : Int} (h : OwnM P w k z b n f) (hk : P.underlying k = some (.int .i64)) (ht : P.underlying t = some (.map k e)) (hz : (zeroValue e).run P w = .ok z w) (hq : inI q) :
    (Instr.lookup t (.map (some b)) (.int .i64 q) false).run P w = .ok (f q) w := by
  obtain ⟨D, h1, h2⟩ := h.ex
  obtain ⟨v, ps, hrun, hv⟩ := h1.lookup (Maps.int_keyed hk) ht hz (zd := .held z) (zp := []) rfl (Maps.keyOf_int_mk hk (wf_inI hq))
  rw [h2 q hq] at hv
  simp only [heldR, Option.some.injEq, Prod.mk.injEq, DataW.held.injEq] at hv
  rw [hrun, hv.1]
theorem OwnM.put {t e : TypeId} {q : Int} (h : OwnM P w k z b n f) (hk : P.underlying k = some (.int .i64)) (ht : P.underlying t = some (.map k e)) (hq : inI q) (hn : n < maxLen) (v : Value) :
    ∃ w', (Instr.mapUpdate t (.map (some b)) (.int .i64 q) v).run P w = .ok () w' ∧ OwnM P w' k z b (n + 1) (updV f q v) ∧ w.grownBy w' (some b) := by
  obtain ⟨D, h1, h2⟩ := h.ex
  obtain ⟨w', hrun, h3, h4⟩ := h1.update (Maps.int_keyed hk) ht hn (d := .held v) (ps := []) (val := v) (Maps.keyOf_int_mk hk (wf_inI hq)) rfl
  refine ⟨w', hrun, ⟨_, h3, fun x hx => ?_⟩, h4⟩
  by_cases e : x = q
  · subst e
    rw [updV_same, Maps.atKey_put_same (k := .int .i64 x) h1.isMap trivial]
  · rw [updV_other _ _ e, Maps.atKey_put_other (by intro h; injection h with _ h; exact e h), h2 x hx]
/-- 'm[q]' at the operation -/
theorem wpList_look {ops : Array Oper} {rest : List Oper} {o : Oper} {a : Act} {Q : Exit → Act → World → Prop} (hg : o.guard = none) (m x : Operand) (t : TypeId) (hop : o.op = Op.lookup t m x false)
    (e : TypeId) (q : Int) (hk : P.underlying k = some (.int .i64)) (ht : P.underlying t = some (.map k e)) (hz : (zeroValue e).run P w = .ok z w)
    (hm : a.eval m = .map (some b)) (hown : OwnM P w k z b n f) (hx : a.eval x = .int .i64 q) (hq : inI q)
    (hK : wpList P ops Q rest (a.put o.dst (f q)) w) : wpList P ops Q (o :: rest) a w := by
  refine wpList_plain hg fun K' hK' => ?_
  have hrun := hown.look hk ht hz hq
  unfold Oper.wp
  simp [execOp, hop, hm, hx, hrun, Result.andThen]
  exact hK' _ _ hK
/-- 'm[q] = v' at the operation -/
theorem wpList_put {ops : Array Oper} {rest : List Oper} {o : Oper} {a : Act} {Q : Exit → Act → World → Prop} (hg : o.guard = none) (m x y : Operand) (t : TypeId) (hop : o.op = Op.mapUpdate t m x y)
    (e : TypeId) (q : Int) (v : Value) (hk : P.underlying k = some (.int .i64)) (ht : P.underlying t = some (.map k e))
    (hm : a.eval m = .map (some b)) (hown : OwnM P w k z b n f) (hx : a.eval x = .int .i64 q) (hv : a.eval y = v) (hq : inI q) (hn : n < maxLen)
    (hK : ∀ w', OwnM P w' k z b (n + 1) (updV f q v) → w.grownBy w' (some b) → wpList P ops Q rest (a.put o.dst undef) w') : wpList P ops Q (o :: rest) a w := by
  refine wpList_plain hg fun K' hK' => ?_
  obtain ⟨w', hrun, r1, r2⟩ := hown.put hk ht hq hn v
  unfold Oper.wp
  simp [execOp, hop, hm, hx, hv, hrun, Result.andThen]
  exact hK' _ _ (hK w' r1 r2)
end
end Go.Proofs.Ytfldajplclahfaa
/- slices.Index and Contains at numbers. -/
namespace Go.Proofs.Ytfldajplclahfaa
open Go.RowKit
set_option linter.unusedVariables false
theorem infoInt : (Try.prog.info? 3).map (fun i => (i.zero, i.size, i.bytes)) = some (some (.int .i64 0), 1, 8) := by kernel_rfl
def FoundI (k : Int) (l : List Int) (x : Int) : Prop := decide (0 ≤ k) = l.contains x
theorem take_contains (l : List Int) (x : Int) (q : Nat) (h : q < l.length) : (l.take (q + 1)).contains x = ((l.take q).contains x || (x == l[q])) := by
  rw [List.take_succ_eq_append_getElem h, List.contains_append, List.contains_cons, List.contains_nil, Bool.or_false]
set_option maxHeartbeats 400000 in
/-- at its first place, or -1 -/
theorem indexI (l : List Int) (x : Int) (w : World) (S : Blocks) (v : Value) (r : RdI w S l v) :
    Calls Try.prog 41 #[v, .int .i64 x] w fun e w' => (∃ k : Int, e = .returned (.int .i64 k) ∧ -1 ≤ k ∧ k ≤ l.length ∧ FoundI k l x) ∧ w = w' := by
  obtain ⟨A, cap, rfl, hl, hcm, hby⟩ := r.form
  unfold maxLen at hcm
  go_enter Try.func41, Try.ntmps41
  go_wp2
  go_loop [8] (fun t => ∃ q : Nat, q ≤ l.length ∧ t = .int .i64 q ∧ Hid ((l.take q).contains x = false)) (fun t => l.length - (intOf t).toNat)
  case atStart => exact ⟨0, by omega, rfl, Lib.hid rfl⟩
  case round =>
    obtain ⟨q, hq, rfl, HQ⟩ := hrel
    by_cases hlt : q < l.length
    · obtain ⟨b, off, rfl, _, hok, hc⟩ := RdI.at1 r hlt
      have HT := Lib.hid (take_contains l x q hlt)
      cases he : (x == l[q])
      · have HQ2 := Lib.hid (show (l.take (q + 1)).contains x = false by rw [HT.out, HQ.out, he]; rfl)
        clear HT r
        go_wp2
        go_round
        case rel => exact ⟨q + 1, by omega, by go_num, HQ2⟩
        case measure => simp [intOf]; omega
      · have HZ := show FoundI (q : Int) l x by
          unfold FoundI
          have h1 : (l.take (q + 1)).contains x = true := by rw [HT.out, he]; simp
          have h2 : l.contains x = true := by rw [List.contains_iff_mem] at h1 ⊢; exact List.mem_of_mem_take h1
          rw [h2]; simp
        clear HT r
        go_wp2
        go_ret
        exact ⟨⟨(q : Int), rfl, by omega, by omega, HZ⟩, rfl⟩
    · have hqn : q = l.length := by omega
      subst hqn
      have HZ := show FoundI (-1) l x by
        unfold FoundI
        have h := HQ.out
        rw [List.take_length] at h
        rw [h]; rfl
      clear HQ r
      go_wp2
      go_ret
      exact ⟨⟨-1, rfl, by omega, by omega, HZ⟩, rfl⟩
set_option maxHeartbeats 400000 in
theorem containsI (l : List Int) (x : Int) (w : World) (S : Blocks) (v : Value) (r : RdI w S l v) :
    Calls Try.prog 24 #[v, .int .i64 x] w fun e w' => e = .returned (.bool (l.contains x)) ∧ w = w' := by
  have R := Lib.hid r
  clear r
  go_enter Try.func24, Try.ntmps24
  go_wp2_with fail
  refine (indexI l x _ _ _ R.out).mono ?_
  rintro e w' ⟨⟨k, rfl, h1, h2, h3⟩, rfl⟩
  go_wp2
  go_ret
  exact ⟨by rw [← h3]; rfl, rfl⟩
end Go.Proofs.Ytfldajplclahfaa
/- slices.Sort and slices.Compact at numbers, by the shelf's contracts. -/
namespace Go.Proofs.Ytfldajplclahfaa
open Go.Shelf Go.RowKit Go.Lib Go.Sort
set_option linter.unusedVariables false
def laysSort_ren : Go.Shelf.Ren := ⟨fun | 189 => 25 | 125 => 43 | 257 => 42 | 128 => 63 | 129 => 64 | 294 => 54 | 295 => 55 | 296 => 56 | 297 => 57 | 298 => 58 | 299 => 59 | 216 => 60 | 300 => 61 | 301 => 62 | 328 => 78 | 329 => 79 | 330 => 80 | 331 => 81 | 332 => 82 | 215 => 73 | 343 => 86 | n => n, fun | 28 => 34 | 3 => 3 | 46 => 69 | 0 => 0 | 51 => 98 | 53 => 100 | 4 => 4 | 183 => 91 | 182 => 90 | 131 => 87 | 5 => 5 | 9 => 9 | 218 => 116 | 222 => 120 | 228 => 124 | 229 => 125 | n => n, fun | n => n⟩
theorem laysSort : Go.Proofs.Lays.n189 Try.prog laysSort_ren where
  mixed := by kernel_rfl
  f125 := Try.func43.trans (congrArg some (by kernel_rfl))
  f128 := Try.func63.trans (congrArg some (by kernel_rfl))
  f129 := Try.func64.trans (congrArg some (by kernel_rfl))
  f189 := Try.func25.trans (congrArg some (by kernel_rfl))
  f215 := Try.func73.trans (congrArg some (by kernel_rfl))
  f216 := Try.func60.trans (congrArg some (by kernel_rfl))
  f257 := Try.func42.trans (congrArg some (by kernel_rfl))
  f294 := Try.func54.trans (congrArg some (by kernel_rfl))
  f295 := Try.func55.trans (congrArg some (by kernel_rfl))
  f296 := Try.func56.trans (congrArg some (by kernel_rfl))
  f297 := Try.func57.trans (congrArg some (by kernel_rfl))
  f298 := Try.func58.trans (congrArg some (by kernel_rfl))
  f299 := Try.func59.trans (congrArg some (by kernel_rfl))
  f300 := Try.func61.trans (congrArg some (by kernel_rfl))
  f301 := Try.func62.trans (congrArg some (by kernel_rfl))
  f328 := Try.func78.trans (congrArg some (by kernel_rfl))
  f329 := Try.func79.trans (congrArg some (by kernel_rfl))
  f330 := Try.func80.trans (congrArg some (by kernel_rfl))
  f331 := Try.func81.trans (congrArg some (by kernel_rfl))
  f332 := Try.func82.trans (congrArg some (by kernel_rfl))
  f343 := Try.func86.trans (congrArg some (by kernel_rfl))
  t0 := Try.underlying0
  a0 := Try.isAgg0
  z0 := Try.sizeOf0
  v0 := Try.zeroValue0
  t3 := Try.underlying3
  a3 := Try.isAgg3
  z3 := Try.sizeOf3
  v3 := Try.zeroValue3
  t4 := Try.underlying4
  a4 := Try.isAgg4
  z4 := Try.sizeOf4
  v4 := Try.zeroValue4
  t5 := Try.underlying5
  a5 := Try.isAgg5
  z5 := Try.sizeOf5
  v5 := Try.zeroValue5
  t9 := Try.underlying9
  a9 := Try.isAgg9
  z9 := Try.sizeOf9
  v9 := Try.zeroValue9
  t28 := Try.underlying34
  a28 := Try.isAgg34
  z28 := Try.sizeOf34
  v28 := Try.zeroValue34
  t46 := Try.underlying69
  a46 := Try.isAgg69
  z46 := Try.sizeOf69
  v46 := Try.zeroValue69
  t51 := Try.underlying98
  a51 := Try.isAgg98
  z51 := Try.sizeOf98
  v51 := Try.zeroValue98
  t53 := Try.underlying100
  a53 := Try.isAgg100
  z53 := Try.sizeOf100
  v53 := Try.zeroValue100
  t131 := Try.underlying87
  a131 := Try.isAgg87
  z131 := Try.sizeOf87
  v131 := Try.zeroValue87
  t182 := Try.underlying90
  a182 := Try.isAgg90
  z182 := Try.sizeOf90
  v182 := Try.zeroValue90
  t183 := Try.underlying91
  a183 := Try.isAgg91
  z183 := Try.sizeOf91
  v183 := Try.zeroValue91
  t218 := Try.underlying116
  a218 := Try.isAgg116
  z218 := Try.sizeOf116
  v218 := Try.zeroValue116
  t222 := Try.underlying120
  a222 := Try.isAgg120
  z222 := Try.sizeOf120
  v222 := Try.zeroValue120
  t228 := Try.underlying124
  a228 := Try.isAgg124
  z228 := Try.sizeOf124
  v228 := Try.zeroValue124
  t229 := Try.underlying125
  a229 := Try.isAgg125
  z229 := Try.sizeOf125
  v229 := Try.zeroValue125
def laysComp_ren : Go.Shelf.Ren := ⟨fun | 20 => 33 | n => n, fun | 22 => 34 | 3 => 3 | 4 => 4 | 0 => 0 | n => n, fun | n => n⟩
theorem laysComp : Go.Proofs.Lays2.n20 Try.prog laysComp_ren where
  mixed := by kernel_rfl
  f20 := Try.func33.trans (congrArg some (by kernel_rfl))
  t0 := Try.underlying0
  a0 := Try.isAgg0
  z0 := Try.sizeOf0
  v0 := Try.zeroValue0
  t3 := Try.underlying3
  a3 := Try.isAgg3
  z3 := Try.sizeOf3
  v3 := Try.zeroValue3
  t4 := Try.underlying4
  a4 := Try.isAgg4
  z4 := Try.sizeOf4
  v4 := Try.zeroValue4
  t22 := Try.underlying34
  a22 := Try.isAgg34
  z22 := Try.sizeOf34
  v22 := Try.zeroValue34
  i3 := by kernel_rfl
/-- block g holds the numbers of l, and may be written -/
structure RowZ (w : World) (g : Nat) (l : List Int) : Prop where
  lt : g < w.heap.size
  fr : ∀ o, w.frozen? ⟨g, o, none⟩ = false
  cell : ∀ (q : Nat) (hq : q < l.length), w.cell? ⟨g, q, none⟩ = some (.int .i64 l[q])
theorem RowZ.holds {w : World} {g : Nat} {l : List Int} (h : RowZ w g l) : Holds (Value.int .i64) w g 0 l.toArray := fun j hj => by
  have hj' : j < l.length := by simpa using hj
  refine ⟨?_, by rw [Nat.zero_add]; exact h.fr _⟩
  rw [Nat.zero_add, h.cell j hj', getElem!_pos l.toArray j hj]
  simp
theorem put_but (w : World) (q g : Nat) (l : List Int) : But (Is g) w (putRow (Value.int .i64) (Sort.ahead w q) g 0 l.toArray) := by
  refine ⟨rfl, rfl, rfl, by rw [size_putRow]; exact Nat.le_refl _, fun k hk hne => ?_⟩
  have h : (putRow (Value.int .i64) (Sort.ahead w q) g 0 l.toArray).heap[k]? = (Sort.ahead w q).heap[k]? := by
    unfold putRow mapBlock
    simp only [Array.getElem?_modify]
    rw [if_neg (fun e => hne e.symm)]
  exact h
theorem put_row {w : World} {g : Nat} {l m : List Int} (h : RowZ w g l) (hm : m.length = l.length) (q : Nat) : RowZ (putRow (Value.int .i64) (Sort.ahead w q) g 0 m.toArray) g m := by
  refine ⟨by rw [size_putRow]; exact h.lt, fun o => by rw [frozen?_putRow]; exact h.fr o, fun i hi => ?_⟩
  have h := cell?_putRow (Value.int .i64) (Sort.ahead w q) g 0 l.toArray m.toArray (holds_ahead (Value.int .i64) w q g 0 l.toArray h.holds) (by simpa using hm) i (by simp; omega)
  rw [Nat.zero_add] at h
  rw [h]
  congr 2
  rw [getElem!_pos _ i (by simpa using hi)]
  simp
theorem grow_but (w : World) (os : Array Obj) : Below w.heap.size w (grow w os) :=
  ⟨rfl, rfl, rfl, by simp [grow], fun k hk => by simp [grow, Array.getElem?_append, hk]⟩
theorem RowZ.below {w w' : World} {g : Nat} {l : List Int} (h : RowZ w g l) (hb : Below w.heap.size w w') : RowZ w' g l :=
  ⟨Nat.lt_of_lt_of_le h.lt hb.size, fun o => (frozen_of_block (hb.block _ h.lt)).trans (h.fr o), fun q hq => (hb.cell (p := ⟨g, q, none⟩) h.lt).trans (h.cell q hq)⟩
theorem sort_any (l : List Int) (g cap : Nat) (w : World) (h : RowZ w g l) (hl : l.length < 4611686018427387904) :
    Calls Try.prog 25 #[.slice (some ⟨g, 0, none⟩) l.length cap] w fun e w' => (∃ x, e = .returned x) ∧ RowZ w' g (sortZ l) ∧ But (Is g) w w' := by
  refine (Any.slices_Sort_int laysSort g 0 cap l w h.holds h.lt hl).mono ?_
  rintro e w' ⟨rfl, q, os, rfl⟩
  have hr := put_row h (sortZ_len l) q
  have hb := grow_but (putRow (Value.int .i64) (Sort.ahead w q) g 0 (sortZ l).toArray) os
  exact ⟨⟨_, rfl⟩, hr.below hb, (put_but w q g _).trans (But.of_below hb)⟩
theorem sort_none (A : Option Addr) (cap : Nat) (w : World) : Calls Try.prog 25 #[.slice A 0 cap] w fun e w' => (∃ x, e = .returned x) ∧ w = w' := by
  refine (Any.slices_Sort_int_none laysSort A cap w).mono ?_
  rintro e w' ⟨rfl, rfl⟩
  exact ⟨⟨_, rfl⟩, rfl⟩
theorem compact_le (l : List Int) : (Lib.compact l).length ≤ l.length := by
  unfold Lib.compact Lib.compactUpTo
  rw [List.length_map]
  exact Nat.le_trans (List.length_filter_le _ _) (by simp)
theorem compact_any (l : List Int) (g cap : Nat) (w : World) (h : RowZ w g l) (hl : l.length ≤ cap) (hc : cap ≤ maxLen) (hok : ∀ x ∈ l, inI x) (hby : l.length * 8 ≤ 140737488355328) (hin : ∀ x ∈ Lib.compact l, x ∈ l) :
    Calls Try.prog 33 #[.slice (some ⟨g, 0, none⟩) l.length cap] w fun e w' => ∃ u, e = .returned u ∧ RdI w' (Is g) (Lib.compact l) u ∧ But (Is g) w w' := by
  have hle := compact_le l
  refine (Any.slices_Compact_int laysComp g 0 cap l w h.holds (by unfold maxLen at hc; omega) hl).mono ?_
  rintro e w' ⟨rfl, q, rfl⟩
  have hr := put_row h (m := Lib.compact l ++ List.replicate (l.length - (Lib.compact l).length) 0) (by simp; omega) q
  refine ⟨_, rfl, ?_, put_but w q g _⟩
  generalize (putRow (Value.int .i64) (Sort.ahead w q) g 0 (Lib.compact l ++ List.replicate (l.length - (Lib.compact l).length) 0).toArray) = W at *
  have hby2 := Nat.mul_le_mul_right 8 hle
  exact ⟨_, cap, (Lib.compact l).map fun x => [.int .i64 x], rfl, by omega, hc, by omega, by simp, ⟨fun cs hcs => by obtain ⟨x, _, rfl⟩ := List.mem_map.1 hcs; rfl, fun _ => ⟨g, 0, rfl, rfl, fun i cs hi j v hv => by
    rw [List.getElem?_map] at hi
    obtain ⟨y, hy, rfl⟩ := Option.map_eq_some_iff.1 hi
    have hi' := (List.getElem?_eq_some_iff.1 hy).1
    have hj : j = 0 := by have := (List.getElem?_eq_some_iff.1 hv).1; simp at this; exact this
    subst hj
    simp at hv; subst hv
    have hc := hr.cell i (by simp; omega)
    rw [List.getElem_append_left hi', (List.getElem?_eq_some_iff.1 hy).2] at hc
    simpa using hc⟩⟩, fun i e cs hi hc => by
    rw [List.getElem?_map, hi] at hc
    simp at hc; subst hc
    exact ⟨rfl, hok _ (hin _ (List.mem_of_getElem? hi))⟩⟩
theorem compact_none (A : Option Addr) (cap : Nat) (w : World) : Calls Try.prog 33 #[.slice A 0 cap] w fun e w' => e = .returned (.slice A 0 cap) ∧ w = w' := by
  refine (Any.slices_Compact_int_empty laysComp A cap w).mono ?_
  rintro e w' ⟨rfl, rfl⟩
  exact ⟨rfl, rfl⟩
theorem compact_mem {l : List Int} {x : Int} (h : x ∈ Lib.compact l) : x ∈ l := by
  unfold Lib.compact Lib.compactUpTo at h
  rw [List.mem_map] at h
  obtain ⟨j, hj, rfl⟩ := h
  have hj := List.mem_range.1 (List.mem_filter.1 hj).1
  rw [getElem!_pos _ j (by simpa using hj)]
  simp
end Go.Proofs.Ytfldajplclahfaa
