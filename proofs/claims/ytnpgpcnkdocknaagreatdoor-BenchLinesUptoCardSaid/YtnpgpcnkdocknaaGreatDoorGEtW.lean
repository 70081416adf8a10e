/- Texts merged: ItoaLib, Rn1, RegInv, Rn2, EtW. -/
import Derived.Shelf.Strconv.Itoa4
import Derived.Test.YtnpgpcnkdocknaaGreatDoorBase
import Derived.WalkSmall
import Derived.Test.YtnpgpcnkdocknaaGreatDoorGPq2
import Derived.Test.YtnpgpcnkdocknaaGreatDoorGAppZ
import Derived.Test.YtnpgpcnkdocknaaGreatDoorGPq4
import Derived.BigQuiet
import Derived.BigRegion
namespace Go.Proofs.YtnpgpcnkdocknaaGreatDoor
open Go.Shelf Go.RowKit
set_option linter.unusedVariables false
def laysIt_ren : Go.Shelf.Ren := ⟨fun | 171 => 33 | 243 => 58 | 246 => 62 | 283 => 86 | 284 => 87 | 285 => 88 | 286 => 89 | 129 => 110 | 317 => 109 | 318 => 111 | 319 => 112 | 320 => 113 | 337 => 123 | 338 => 124 | n => n, fun | 3 => 3 | 9 => 9 | 2 => 2 | 4 => 4 | 171 => 137 | 0 => 0 | 53 => 138 | 37 => 66 | 5 => 5 | 173 => 141 | 212 => 158 | 51 => 159 | 20 => 20 | 213 => 160 | 46 => 149 | 232 => 174 | 233 => 175 | n => n, fun | 17 => 0 | 18 => 5 | 19 => 6 | n => n⟩
theorem laysIt : Go.Proofs.LaysM.n171 Tryz.prog laysIt_ren where
 mixed := by kernel_rfl
 f129 := Tryz.func110.trans (congrArg some (by kernel_rfl))
 f171 := Tryz.func33.trans (congrArg some (by kernel_rfl))
 f243 := Tryz.func58.trans (congrArg some (by kernel_rfl))
 f246 := Tryz.func62.trans (congrArg some (by kernel_rfl))
 f283 := Tryz.func86.trans (congrArg some (by kernel_rfl))
 f284 := Tryz.func87.trans (congrArg some (by kernel_rfl))
 f285 := Tryz.func88.trans (congrArg some (by kernel_rfl))
 f286 := Tryz.func89.trans (congrArg some (by kernel_rfl))
 f317 := Tryz.func109.trans (congrArg some (by kernel_rfl))
 f318 := Tryz.func111.trans (congrArg some (by kernel_rfl))
 f319 := Tryz.func112.trans (congrArg some (by kernel_rfl))
 f320 := Tryz.func113.trans (congrArg some (by kernel_rfl))
 f337 := Tryz.func123.trans (congrArg some (by kernel_rfl))
 f338 := Tryz.func124.trans (congrArg some (by kernel_rfl))
 t0 := Tryz.underlying0
 a0 := Tryz.isAgg0
 z0 := Tryz.sizeOf0
 v0 := Tryz.zeroValue0
 t2 := Tryz.underlying2
 a2 := Tryz.isAgg2
 z2 := Tryz.sizeOf2
 v2 := Tryz.zeroValue2
 t3 := Tryz.underlying3
 a3 := Tryz.isAgg3
 z3 := Tryz.sizeOf3
 v3 := Tryz.zeroValue3
 t4 := Tryz.underlying4
 a4 := Tryz.isAgg4
 z4 := Tryz.sizeOf4
 v4 := Tryz.zeroValue4
 t5 := Tryz.underlying5
 a5 := Tryz.isAgg5
 z5 := Tryz.sizeOf5
 v5 := Tryz.zeroValue5
 t9 := Tryz.underlying9
 a9 := Tryz.isAgg9
 z9 := Tryz.sizeOf9
 v9 := Tryz.zeroValue9
 t20 := Tryz.underlying20
 a20 := Tryz.isAgg20
 z20 := Tryz.sizeOf20
 v20 := Tryz.zeroValue20
 t37 := Tryz.underlying66
 a37 := Tryz.isAgg66
 z37 := Tryz.sizeOf66
 v37 := Tryz.zeroValue66
 t46 := Tryz.underlying149
 a46 := Tryz.isAgg149
 z46 := Tryz.sizeOf149
 v46 := Tryz.zeroValue149
 t51 := Tryz.underlying159
 a51 := Tryz.isAgg159
 z51 := Tryz.sizeOf159
 v51 := Tryz.zeroValue159
 t53 := Tryz.underlying138
 a53 := Tryz.isAgg138
 z53 := Tryz.sizeOf138
 v53 := Tryz.zeroValue138
 t171 := Tryz.underlying137
 a171 := Tryz.isAgg137
 z171 := Tryz.sizeOf137
 v171 := Tryz.zeroValue137
 t173 := Tryz.underlying141
 a173 := Tryz.isAgg141
 z173 := Tryz.sizeOf141
 v173 := Tryz.zeroValue141
 t212 := Tryz.underlying158
 a212 := Tryz.isAgg158
 z212 := Tryz.sizeOf158
 v212 := Tryz.zeroValue158
 t213 := Tryz.underlying160
 a213 := Tryz.isAgg160
 z213 := Tryz.sizeOf160
 t232 := Tryz.underlying174
 a232 := Tryz.isAgg174
 z232 := Tryz.sizeOf174
 v232 := Tryz.zeroValue174
 t233 := Tryz.underlying175
 a233 := Tryz.isAgg175
 z233 := Tryz.sizeOf175
 v233 := Tryz.zeroValue175
 g17 := by kernel_rfl
 g18 := by kernel_rfl
 g19 := by kernel_rfl
 i0 := by kernel_rfl
 i2 := by kernel_rfl
 i3 := by kernel_rfl
 i4 := by kernel_rfl
 i5 := by kernel_rfl
 i9 := by kernel_rfl
 i20 := by kernel_rfl
 i37 := by kernel_rfl
 i46 := by kernel_rfl
 i51 := by kernel_rfl
 i53 := by kernel_rfl
 i171 := by kernel_rfl
 i173 := by kernel_rfl
 i212 := by kernel_rfl
 i232 := by kernel_rfl
 i233 := by kernel_rfl
 m17 := by kernel_rfl
 m18 := by kernel_rfl
 m19 := by kernel_rfl
theorem gPowI : Tryz.prog.globalNamed "internal/strconv.uint64pow10" = some 0 := by kernel_rfl
structure PowT (w : World) : Prop where
 tab : Lib.TabIs Tryz.prog w "internal/strconv.uint64pow10" .u64 Lib.pow10Tab
 lt : 0 < w.heap.size
theorem PowT.below {w w' : World} {B : Nat} (h : PowT w) (hb : Below B w w') (h3 : 0 < B) : PowT w' :=
 ⟨var?_below hb gPowI h3 h.tab, Nat.lt_of_lt_of_le h.lt hb.size⟩
theorem PowT.go {w w' : World} (h : PowT w) (hb : Below w.heap.size w w') : PowT w' := h.below hb h.lt
theorem itoa_n (n : Int) (h0 : -9223372036854775808 ≤ n) (h1 : n ≤ 9223372036854775807) (w : World) (hN : PowT w) :
    Calls Tryz.prog 33 #[.int .i64 n] w fun e w' => e = .returned (.string ⟨(Lib.itoa n).toArray⟩) ∧ Below w.heap.size w w' := by
 refine (Any.strconv_Itoa laysIt n h0 h1 w hN.tab).mono ?_
 rintro e w' ⟨he, k, os, rfl⟩
 refine ⟨he, rfl, rfl, rfl, by simp [Sort.grow], fun i hi => by
  show ((w.drewN k).heap ++ os)[i]? = _
  rw [Array.getElem?_append_left (by show i < w.heap.size; omega)]
  rfl⟩
end Go.Proofs.YtnpgpcnkdocknaaGreatDoor
namespace Go.Proofs.YtnpgpcnkdocknaaGreatDoor
open Go.RowKit
set_option linter.unusedVariables false
theorem but_then {T U : Blocks} {a b c : World} (h : But T a b) (k : But U b c) (hU : ∀ i, U i → T i ∨ a.heap.size ≤ i) : But T a c :=
 ⟨k.os.trans h.os, k.tape.trans h.tape, k.output.trans h.output, Nat.le_trans h.size k.size, fun i hi ht => (k.block i (Nat.lt_of_lt_of_le hi h.size) (fun e => (hU i e).elim ht (by omega))).trans (h.block i hi ht)⟩
abbrev FrS := Fr encS okS 1 16
theorem own_of {v v2 : Value} {n : Nat} {m : Nat} (h : v2.ownBlock = v.ownBlock ∨ v2.ownBlock = some n) (hn : m ≤ n) : ∀ k, v2.ownBlock = some k → v.ownBlock = some k ∨ m ≤ k := fun k hk => by
 rcases h with h | h
 ·exact .inl (h ▸ hk)
 ·rw [h] at hk; injection hk with hk; exact .inr (by omega)
def RT (z : Nat) (vo vn : Value) : Blocks := fun k => k = z ∨ vo.ownBlock = some k ∨ vn.ownBlock = some k
structure Two (base z : Nat) (w0 : World) (uo un : Value) (w : World) (lo ln : List Str) (vo vn x0 x1 : Value) (c : Int) : Prop where
 bl : Blk base w z [x0, x1, .int .i64 c]
 zl : z < w0.heap.size
 oo : OwnSs 9 w base Nowhere lo vo
 on : OwnSs 9 w base Nowhere ln vn
 no : ∀ k, vo.ownBlock = some k → k ≠ z
 nn : ∀ k, vn.ownBlock = some k → k ≠ z
 di : ∀ k, vo.ownBlock = some k → vn.ownBlock ≠ some k
 fo : ∀ k, vo.ownBlock = some k → uo.ownBlock = some k ∨ w0.heap.size ≤ k
 fn : ∀ k, vn.ownBlock = some k → un.ownBlock = some k ∨ w0.heap.size ≤ k
 but : But (RT z uo un) w0 w
section
variable {base z : Nat} {w0 w w' : World} {lo ln : List Str} {uo un vo vn x0 x1 : Value} {c : Int}
theorem Two.below (h : Two base z w0 uo un w lo ln vo vn x0 x1 c) (hb : Below w.heap.size w w') : Two base z w0 uo un w' lo ln vo vn x0 x1 c :=
 ⟨h.bl.below hb, h.zl, h.oo.keep Flat.keeps hb, h.on.keep Flat.keeps hb, h.no, h.nn, h.di, h.fo, h.fn, h.but.trans (But.of_below hb)⟩
theorem Two.drew (h : Two base z w0 uo un w lo ln vo vn x0 x1 c) : Two base z w0 uo un w.drew lo ln vo vn x0 x1 c := h.below (Below.refl _ _).drew
theorem Two.alloc {o : Obj} (h : Two base z w0 uo un w lo ln vo vn x0 x1 c) : Two base z w0 uo un (w.alloc o) lo ln vo vn x0 x1 c := h.below ((Below.refl _ _).alloc (Nat.le_refl _) _)
theorem Two.set (h : Two base z w0 uo un w lo ln vo vn x0 x1 c) {i : Nat} (hi : i < 3) (u y0 y1 : Value) (d : Int) (he : [x0, x1, .int .i64 c].set i u = [y0, y1, .int .i64 d]) : Two base z w0 uo un (w.setCell ⟨z, i, none⟩ u) lo ln vo vn y0 y1 d := by
 have hset := (But.refl (Is z) w).setCell (p := ⟨z, i, none⟩) rfl u
 refine ⟨by rw [← he]; exact h.bl.set (i := i) (by simpa using hi) u, h.zl, h.oo.but hset (fun k hk e => h.no k hk e), h.on.but hset (fun k hk e => h.nn k hk e), h.no, h.nn, h.di, h.fo, h.fn, h.but.setCell (p := ⟨z, i, none⟩) (.inl rfl) u⟩
theorem Two.growO {l2 : List Str} {v2 : Value} (h : Two base z w0 uo un w lo ln vo vn x0 x1 c) (hg : w.grownBy w' vo.ownBlock) (ho : OwnSs 9 w' base Nowhere l2 v2) (hn : v2.ownBlock = vo.ownBlock ∨ v2.ownBlock = some w.heap.size) : Two base z w0 uo un w' l2 ln v2 vn x0 x1 c := by
 have hbut := But.of_grown hg
 have hs := h.but.size
 have hc := own_of hn (Nat.le_refl w.heap.size)
 refine ⟨h.bl.but hbut (fun e => h.no z e rfl), h.zl, ho, h.on.but hbut (fun k hk e => h.di k e hk), fun k hk => ?_, h.nn, fun k hk e => ?_, fun k hk => ?_, h.fn, but_then h.but hbut (fun k hk => ?_)⟩
 ·rcases hc k hk with e | e
  ·exact h.no k e
  ·have := h.bl.lt; omega
 ·rcases hc k hk with e' | e'
  ·exact h.di k e' e
  ·have := (h.on.lt k e).2; omega
 ·rcases hc k hk with e | e
  ·exact h.fo k e
  ·exact .inr (by omega)
 ·rcases h.fo k hk with e | e
  ·exact .inl (.inr (.inl e))
  ·exact .inr e
theorem Two.growN {l2 : List Str} {v2 : Value} (h : Two base z w0 uo un w lo ln vo vn x0 x1 c) (hg : w.grownBy w' vn.ownBlock) (ho : OwnSs 9 w' base Nowhere l2 v2) (hn : v2.ownBlock = vn.ownBlock ∨ v2.ownBlock = some w.heap.size) : Two base z w0 uo un w' lo l2 vo v2 x0 x1 c := by
 have hbut := But.of_grown hg
 have hs := h.but.size
 have hc := own_of hn (Nat.le_refl w.heap.size)
 refine ⟨h.bl.but hbut (fun e => h.nn z e rfl), h.zl, h.oo.but hbut (fun k hk e => h.di k hk e), ho, h.no, fun k hk => ?_, fun k hk e => ?_, h.fo, fun k hk => ?_, but_then h.but hbut (fun k hk => ?_)⟩
 ·rcases hc k hk with e | e
  ·exact h.nn k e
  ·have := h.bl.lt; omega
 ·rcases hc k e with e' | e'
  ·exact h.di k hk e'
  ·have := (h.oo.lt k hk).2; omega
 ·rcases hc k hk with e | e
  ·exact h.fn k e
  ·exact .inr (by omega)
 ·rcases h.fn k hk with e | e
  ·exact .inl (.inr (.inr e))
  ·exact .inr e
def FrN (vo vn : Value) (w : World) (m : List Str) (x : Value) : Prop := ∃ T, Sub T (Upto w.heap.size) ∧ (∀ k, T k → vo.ownBlock ≠ some k ∧ vn.ownBlock ≠ some k) ∧ RdSs w T m x
theorem FrN.fr {m : List Str} {x : Value} (h : FrN vo vn w m x) : FrS w m x := by
 obtain ⟨T, hT, _, r⟩ := h
 exact ⟨T, hT, r⟩
theorem FrN.drew {m : List Str} {x : Value} (h : FrN vo vn w m x) : FrN vo vn w.drew m x := h
theorem FrN.alloc {o : Obj} {m : List Str} {x : Value} (h : FrN vo vn w m x) : FrN vo vn (w.alloc o) m x := by
 obtain ⟨T, hT, hn, r⟩ := h
 exact ⟨T, hT.trans (Sub.upto (by simp)), hn, r.keep Flat.keeps (Sub.refl _) ((Same.refl _ _).alloc hT o)⟩
theorem frN_lit (h : Two base z w0 uo un w lo ln vo vn x0 x1 c) {s : Str} (hs : okS s) {g : Nat} (hg : w.heap.size = g) : FrN vo vn (w.alloc (.cells #[.string s] 9)) [s] (.slice (some ⟨g, 0, none⟩) 1 1) := by
 subst hg
 refine ⟨Is w.heap.size, fun b hb => by unfold Is at hb; subst hb; simp [Upto], fun k hk => ⟨fun e => ?_, fun e => ?_⟩, ?_⟩
 ·unfold Is at hk; have := (h.oo.lt k e).2; omega
 ·unfold Is at hk; have := (h.on.lt k e).2; omega
 ·exact rd_one (enc := encS) (x := s) rfl (fun j v hj => cells_newAt w [.string s] 9 rfl j v hj) hs rfl (by decide)
theorem FrN.growO {m : List Str} {x v2 : Value} (h : FrN vo vn w m x) (hg : w.grownBy w' vo.ownBlock) (hn : v2.ownBlock = vo.ownBlock ∨ v2.ownBlock = some w.heap.size) : FrN v2 vn w' m x := by
 obtain ⟨T, hT, hk, r⟩ := h
 have hbut := But.of_grown hg
 refine ⟨T, hT.trans (Sub.upto hbut.size), fun k hk' => ⟨fun e => ?_, (hk k hk').2⟩, r.keep Flat.keeps (Sub.refl _) (hbut.same hT (fun k hk' e => (hk k hk').1 e))⟩
 rcases hn with hn | hn
 ·exact (hk k hk').1 (hn ▸ e)
 ·rw [hn] at e; injection e with e; have := hT k hk'; unfold Upto at this; omega
end
section
variable {base z : Nat} {w0 w : World} {lo ln : List Str} {uo un vo vn x0 x1 : Value} {c : Int} {A : Option Addr} {n k : Nat} {ops : Array Oper} {o : Oper} {a : Act} {K : Act → World → Prop} {Q : Exit → Act → World → Prop} {Z : Prop}
theorem step_two_o (hgd : o.guard = none) (s y : Operand) (ho : o.op = .call { callee := .builtin .append, args := #[s, y], argTypes := #[37, 37] })
    (hs : a.eval s = vo) (hy : a.eval y = .slice A n k) (x : Str) (h2 : Two base z w0 uo un w lo ln vo vn x0 x1 c) (hx : FrS w [x] (.slice A n k)) (hlen : lo.length + 1 ≤ 1073741824) (hbase : base ≤ w0.heap.size)
    (h : ∀ v' w', Two base z w0 uo un w' (lo ++ [x]) ln v' vn x0 x1 c → (∀ m y, FrN vo vn w m y → FrN v' vn w' m y) → K (a.put o.dst v') w') :
    if Region.wanted o (yielded ops a.tmps) = true then Oper.wp Tryz.prog o a w K Q else Z := by
 obtain ⟨i0, hi, hz0, hz1, hz2⟩ := info_parts infoStr
 obtain ⟨T, hT, r⟩ := hx
 exact step_append_list hgd s y 37 ho hs hy i0 _ Tryz.underlying37 hi hz0 hz1 hz2 rfl (by decide) Flat.keeps (U := T) (Tx := Nowhere) (S := Nowhere) (m := [x]) (RdL.bare r Nowhere) h2.oo (Sub.nowhere _) (Sub.nowhere _) not_nowhere oneS (by unfold maxLen; simp only [List.length_singleton]; omega) (by simp only [List.length_singleton]; omega) (Nat.le_trans hbase h2.but.size) fun v' w' h1 hg hn => h v' w' (h2.growO hg h1 hn) (fun m y hy => hy.growO hg hn)
theorem step_two_n (hgd : o.guard = none) (s y : Operand) (ho : o.op = .call { callee := .builtin .append, args := #[s, y], argTypes := #[37, 37] })
    (hs : a.eval s = vn) (hy : a.eval y = .slice A n k) (x : Str) (h2 : Two base z w0 uo un w lo ln vo vn x0 x1 c) (hx : FrS w [x] (.slice A n k)) (hlen : ln.length + 1 ≤ 1073741824) (hbase : base ≤ w0.heap.size)
    (h : ∀ v' w', Two base z w0 uo un w' lo (ln ++ [x]) vo v' x0 x1 c → K (a.put o.dst v') w') :
    if Region.wanted o (yielded ops a.tmps) = true then Oper.wp Tryz.prog o a w K Q else Z := by
 obtain ⟨i0, hi, hz0, hz1, hz2⟩ := info_parts infoStr
 obtain ⟨T, hT, r⟩ := hx
 exact step_append_list hgd s y 37 ho hs hy i0 _ Tryz.underlying37 hi hz0 hz1 hz2 rfl (by decide) Flat.keeps (U := T) (Tx := Nowhere) (S := Nowhere) (m := [x]) (RdL.bare r Nowhere) h2.on (Sub.nowhere _) (Sub.nowhere _) not_nowhere oneS (by unfold maxLen; simp only [List.length_singleton]; omega) (by simp only [List.length_singleton]; omega) (Nat.le_trans hbase h2.but.size) fun v' w' h1 hg hn => h v' w' (h2.growN hg h1 hn)
end
end Go.Proofs.YtnpgpcnkdocknaaGreatDoor
namespace Go.Proofs.YtnpgpcnkdocknaaGreatDoor
open Go
set_option linter.unusedVariables false
def notYet (l : Array Bool) : Nat := l.toList.countP fun b => !b
theorem notYet_set {l : Array Bool} {i : Nat} (hi : i < l.size) (h : l.getD i false = false) : notYet (l.setIfInBounds i true) + 1 = notYet l := by
 unfold notYet
 have hi' : i < l.toList.length := by simpa using hi
 have hg : l.toList[i] = false := by
  rw [Array.getD_eq_getD_getElem?, Array.getElem?_eq_getElem hi, Option.getD_some] at h
  simpa using h
 rw [Array.toList_setIfInBounds, List.countP_set hi']
 have hpos : 0 < l.toList.countP (fun b => !b) := List.countP_pos_iff.2 ⟨false, by rw [← hg]; exact List.getElem_mem _, rfl⟩
 rw [hg]
 show l.toList.countP (fun b => !b) - 1 + 0 + 1 = l.toList.countP (fun b => !b)
 omega
theorem wpAny_inv {P : Program} {ops : Array Oper} {Q : Exit → Act → World → Prop} (I : Array Bool → Act → World → Prop)
    (hstep : ∀ l a w i, l.size = ops.size → I l a w → i < ops.size → l.getD i false = false → (∀ e ∈ depsAt ops i, l.getD e false = true) → wpOp P ops Q i (I (l.setIfInBounds i true)) a w)
    (hend : ∀ l a w, l.size = ops.size → I l a w → Region.ready .any ops l = [] → Q .normal a w) :
    ∀ (fuel : Nat) (l : Array Bool) (a : Act) (w : World), l.size = ops.size → I l a w → notYet l ≤ fuel → wpAny P .any ops Q fuel l a w := by
 intro fuel
 induction fuel with
 | zero =>
  intro l a w hl hI hn
  have hr : Region.ready .any ops l = [] := by
   refine List.eq_nil_iff_forall_not_mem.2 fun i hi => ?_
   obtain ⟨h1, h2, _⟩ := (mem_ready_deps hl).1 hi
   have := notYet_set (by omega) h2
   omega
  exact ⟨hr, hend l a w hl hI hr⟩
 | succ fuel ih =>
  intro l a w hl hI hn
  refine ⟨hend l a w hl hI, fun i hi => ?_⟩
  obtain ⟨h1, h2, h3⟩ := (mem_ready_deps hl).1 hi
  refine wpOp_mono (fun a' w' h' => ih _ a' w' (by simpa using hl) h' ?_) (hstep l a w i hl hI h1 h2 h3)
  have := notYet_set (by omega) h2
  omega
theorem wp_region_inv {P : Program} {id : Nat} {ops : Array Oper} {Q : Exit → Act → World → Prop} {a : Act} {w : World} (hm : P.follows .mixedOrders = true) (I : Array Bool → Act → World → Prop)
    (h0 : I (Array.replicate ops.size false) a w.drew)
    (hstep : ∀ l a w i, l.size = ops.size → I l a w → i < ops.size → l.getD i false = false → (∀ e ∈ depsAt ops i, l.getD e false = true) → wpOp P ops Q i (I (l.setIfInBounds i true)) a w)
    (hend : ∀ l a w, l.size = ops.size → I l a w → Region.ready .any ops l = [] → Q .normal a w) : (Code.region id ops true).wp P Q a w := by
 refine wp_region_any hm ?_
 refine wpAny_inv I hstep hend _ _ _ _ (by simp) h0 ?_
 unfold notYet
 exact Nat.le_trans List.countP_le_length (by simp)
theorem ClosedL.setD {ops : Array Oper} {l : Array Bool} {i : Nat} (hc : ClosedL ops l) (hl : l.size = ops.size) (hi : i < ops.size) (hn : l.getD i false = false) (hd : ∀ e ∈ depsAt ops i, l.getD e false = true) : ClosedL ops (l.setIfInBounds i true) :=
 hc.set hl ((mem_ready_deps hl).2 ⟨hi, hn, hd⟩)
theorem wp_region_invC {P : Program} {id : Nat} {ops : Array Oper} {Q : Exit → Act → World → Prop} {a : Act} {w : World} (hm : P.follows .mixedOrders = true) (I : Array Bool → Act → World → Prop)
    (h0 : I (Array.replicate ops.size false) a w.drew)
    (hstep : ∀ l a w i, l.size = ops.size → ClosedL ops l → I l a w → i < ops.size → l.getD i false = false → (∀ e ∈ depsAt ops i, l.getD e false = true) → wpOp P ops Q i (I (l.setIfInBounds i true)) a w)
    (hend : ∀ l a w, l.size = ops.size → (∀ j, j < ops.size → l.getD j false = true) → I l a w → Q .normal a w)
    (hback : ∀ i < ops.size, ∀ e ∈ depsAt ops i, e < i) : (Code.region id ops true).wp P Q a w := by
 refine wp_region_inv hm (fun l a w => ClosedL ops l ∧ I l a w) ⟨fun i hi => ?_, h0⟩ (fun l a w i hl hI hi hn hd => ?_) (fun l a w hl hI hr => ?_)
 ·simp only [Array.getD_eq_getD_getElem?, Array.getElem?_replicate] at hi
  split at hi <;> cases hi
 ·have h := hstep l a w i hl hI.1 hI.2 hi hn hd
  refine wpOp_mono (fun a' w' h' => ⟨hI.1.setD hl hi hn hd, h'⟩) h
 ·refine hend l a w hl (fun j hj => ?_) hI.2
  induction j using Nat.strongRecOn with
  | ind j ih =>
   cases e : l.getD j false
   ·exfalso
    have : j ∈ Region.ready .any ops l := (mem_ready_deps hl).2 ⟨hj, e, fun d hd => ih d (hback j hj d hd) (by have := hback j hj d hd; omega)⟩
    rw [hr] at this; cases this
   ·rfl
def QOne (K : Act → World → Prop) (Q : Exit → Act → World → Prop) : Exit → Act → World → Prop
 | .normal, a, w => K a w
 | e, a, w => Q e a w
theorem LetsOut.ofOne {K : Act → World → Prop} {Q : Exit → Act → World → Prop} (h : LetsOut (QOne K Q)) : LetsOut Q := h
theorem Oper.wp_ofOne {P : Program} {Q : Exit → Act → World → Prop} {o : Oper} {a : Act} {w : World} {K K' : Act → World → Prop} (hh : Oper.wp P o a w K' (QOne K Q)) : Oper.wp P o a w K' Q := by
 unfold Oper.wp at *
 generalize (execOp a.eval o).run P w = r at *
 cases r with
 | ok n w' =>
  cases n <;> simp only [Oper.upon] at hh ⊢ <;>
   first
    | exact hh
    | exact Calls.mono hh (fun e w'' he => by cases e <;> exact he)
 | halt x w' => cases x <;> simp only [Oper.upon] at hh ⊢ <;> exact hh
theorem wpOp_of_list {P : Program} {ops : Array Oper} {Q : Exit → Act → World → Prop} {i : Nat} {o : Oper} {a : Act} {w : World} {K : Act → World → Prop} (ho : ops[i]? = some o) (h : wpList P ops (QOne K Q) [o] a w) : wpOp P ops Q i K a w := by
 unfold wpOp
 rw [ho]
 unfold wpList at h
 have e : wpList P ops (QOne K Q) [] = K := rfl
 rw [e] at h
 simp only
 split
 ·rename_i hw; rw [if_pos hw] at h; exact h.imp Oper.wp_ofOne (fun h => ⟨h.1, LetsOut.ofOne h.2⟩)
 ·rename_i hw; rw [if_neg hw] at h; exact h
theorem wpOp_of_law {P : Program} {ops : Array Oper} {Q : Exit → Act → World → Prop} {i : Nat} {o : Oper} {a : Act} {w : World} {K : Act → World → Prop} (ho : ops[i]? = some o) (h : if Region.wanted o (yielded ops a.tmps) = true then Oper.wp P o a w K Q else K (a.put o.dst undef) w) : wpOp P ops Q i K a w := by
 unfold wpOp
 rw [ho]
 simp only
 split
 ·rename_i hw; rw [if_pos hw] at h; exact .inl h
 ·rename_i hw; rw [if_neg hw] at h; exact h
end Go.Proofs.YtnpgpcnkdocknaaGreatDoor
namespace Go.Proofs.YtnpgpcnkdocknaaGreatDoor
open Go.RowKit
set_option linter.unusedVariables false
def RmAt (base z : Nat) (w : World) (V : Env) (m : Nat) (vo vn : Value) : Prop := Two base z w vo vn w (V.map (·.1)).reverse (V.map (·.2)).reverse vo vn vo vn (m : Int)
set_option maxHeartbeats 4000000 in
set_option maxRecDepth 100000 in
theorem bind_any (base z : Nat) (w : World) (V : Env) (m : Nat) (vo vn : Value) (s : Str) (hs : okS s) (hT : PowT w) (h : RmAt base z w V m vo vn) (hb : base ≤ w.heap.size) (hm : m ≤ 1073741824) (hV : V.length ≤ 1073741000) :
    Calls Tryz.prog 48 #[.pointer (some ⟨z, 0, none⟩), .string s] w fun e w' => e = .returned (.string (vN m)) ∧ ∃ vo' vn', Two base z w vo vn w' ((V.map (·.1)).reverse ++ [s]) ((V.map (·.2)).reverse ++ [vN m]) vo' vn' vo' vn' ((m + 1 : Nat) : Int) := by
 unfold RmAt at h
 have hlo : (V.map (·.1)).reverse.length = V.length := by simp
 have hln : (V.map (·.2)).reverse.length = V.length := by simp
 have hvs := vN_size m (by omega)
 have HVN := hid (show vN m = (⟨#[118]⟩ : ByteArray) ++ ⟨(Lib.itoa (m : Int)).toArray⟩ from by
  unfold vN
  apply ByteArray.ext
  rw [ByteArray.data_append]
  simp)
 generalize (V.map (·.1)).reverse = lo at h hlo ⊢
 generalize (V.map (·.2)).reverse = ln at h hln ⊢
 have T0 := hid h
 have c2 := h.bl.cell 2 _ rfl
 have hzl := h.bl.lt
 obtain ⟨Ao, co, rfl⟩ := h.oo.form
 obtain ⟨An, cn, rfl⟩ := h.on.form
 clear h
 have HIT := hid (itoa_n (m : Int) (by omega) (by omega) w hT)
 have hsz : (⟨(Lib.itoa (m : Int)).toArray⟩ : ByteArray).size ≤ 29 := by
  have := hvs
  rw [HVN.out, ByteArray.size_append] at this
  have h1 : (⟨#[118]⟩ : ByteArray).size = 1 := rfl
  omega
 generalize (⟨(Lib.itoa (m : Int)).toArray⟩ : ByteArray) = y at HVN HIT hsz
 have hy1 : 1 + y.size ≤ 9223372036854775807 := by omega
 generalize vN m = to_ at HVN hvs ⊢
 go_enter Tryz.func48, Tryz.ntmps48
 go_wp2_with (go_at_call 33; refine HIT.out.mono ?_)
 rintro e w1 ⟨rfl, hb1⟩
 have T1 := hid (T0.out.below hb1)
 have d2 := T1.out.bl.cell 2 _ rfl
 have f2 := T1.out.bl.fr 2
 clear hb1 T0 HIT c2
 have hmw : IntKind.i64.wrap ((m : Int) + 1) = (m : Int) + 1 := IntWalk.i64_in _ (by omega)
 have hmw2 : wrap64 ((m : Int) + 1) = (m : Int) + 1 := IntWalk.wrap64_in _ (by omega)
 have T2 := hid (T1.out.set (i := 2) (by decide) (.int .i64 ((m : Int) + 1)) _ _ ((m : Int) + 1) rfl)
 go_upto_region 3 with (fail)
 rw [← HVN.out]
 clear d2 f2 T1 hmw hmw2 hT
 have hbz : base ≤ w.heap.size := hb
 generalize w1.setCell ⟨z, 2, none⟩ (.int .i64 ((m : Int) + 1)) = W2 at *
 have hz2 := T2.out.bl.lt
 have k0 := T2.out.bl.cell 0 _ rfl
 have k1 := T2.out.bl.cell 1 _ rfl
 have HL1 := hid (show lo.length + 1 ≤ 1073741824 by omega)
 have HL2 := hid (show ln.length + 1 ≤ 1073741824 by omega)
 have HOK := hid hs
 have HOT := hid (show okS to_ by unfold okS; omega)
 clear hs hlo hln
 obtain ⟨I, hI⟩ : ∃ I : Array Bool → Act → World → Prop, I = (fun (l : Array Bool) (a : Act) (wx : World) => ∃ (u19 u20 u21 u22 u23 u24 u25 u26 u27 u28 u29 u30 u31 u32 u33 u34 u35 u36 u37 u38 : Value) (yo yn x0 x1 : Value), a = ⟨#[.pointer (some ⟨z, 0, none⟩), .string s, undef, undef, .string { data := #[] }, .string to_, .pointer (some ⟨z, 0, none⟩), .pointer (some ⟨z, 0, none⟩), .pointer (some ⟨z, 2, none⟩), .int .i64 (m : Int), .string y, .string to_, .pointer (some ⟨z, 0, none⟩), .pointer (some ⟨z, 0, none⟩), .pointer (some ⟨z, 2, none⟩), .int .i64 (m : Int), .int .i64 ((m : Int) + 1), .pointer (some ⟨z, 0, none⟩), .pointer (some ⟨z, 2, none⟩), u19, u20, u21, u22, u23, u24, u25, u26, u27, u28, u29, u30, u31, u32, u33, u34, u35, u36, u37, u38, undef], []⟩ ∧ Hid (Two base z w (.slice Ao lo.length co) (.slice An ln.length cn) wx (if l.getD 8 false = true then lo ++ [s] else lo) (if l.getD 15 false = true then ln ++ [to_] else ln) yo yn x0 x1 ((m : Int) + 1)) ∧ Hid (l.getD 8 false = false → yo = .slice Ao lo.length co) ∧ Hid (l.getD 15 false = false → yn = .slice An ln.length cn) ∧ Hid (l.getD 18 false = false → x0 = .slice Ao lo.length co) ∧ Hid (l.getD 18 false = true → x0 = yo) ∧ Hid (l.getD 21 false = false → x1 = .slice An ln.length cn) ∧ Hid (l.getD 21 false = true → x1 = yn) ∧ Hid (l.getD 7 false = true → l.getD 8 false = false → ∃ A n k, u26 = .slice A n k ∧ FrN yo yn wx [s] u26) ∧ Hid (l.getD 14 false = true → l.getD 15 false = false → ∃ A n k, u33 = .slice A n k ∧ FrN yo yn wx [to_] u33) ∧ Hid (l.getD 0 false = true → u19 = .pointer (some ⟨z, 0, none⟩)) ∧ Hid (l.getD 1 false = true → u20 = .pointer (some ⟨z, 0, none⟩)) ∧ Hid (l.getD 2 false = true → u21 = .pointer (some ⟨z, 0, none⟩)) ∧ Hid (l.getD 3 false = true → u22 = .pointer (some ⟨z, 0, none⟩)) ∧ Hid (l.getD 4 false = true → u23 = .pointer (some ⟨z, 0, none⟩)) ∧ Hid (l.getD 5 false = true → u24 = .slice Ao lo.length co) ∧ Hid (l.getD 6 false = true → u25 = .string s) ∧ Hid (l.getD 8 false = true → u27 = yo) ∧ Hid (l.getD 9 false = true → u28 = .pointer (some ⟨z, 0, none⟩)) ∧ Hid (l.getD 10 false = true → u29 = .pointer (some ⟨z, 0, none⟩)) ∧ Hid (l.getD 11 false = true → u30 = .pointer (some ⟨z, 1, none⟩)) ∧ Hid (l.getD 12 false = true → u31 = .slice An ln.length cn) ∧ Hid (l.getD 13 false = true → u32 = .string to_) ∧ Hid (l.getD 15 false = true → u34 = yn) ∧ Hid (l.getD 16 false = true → u35 = .pointer (some ⟨z, 0, none⟩)) ∧ Hid (l.getD 17 false = true → u36 = .pointer (some ⟨z, 0, none⟩)) ∧ Hid (l.getD 19 false = true → u37 = .pointer (some ⟨z, 0, none⟩)) ∧ Hid (l.getD 20 false = true → u38 = .pointer (some ⟨z, 1, none⟩))) := ⟨_, rfl⟩
 have HI := hid hI
 clear hI
 refine wp_region_invC (by kernel_rfl) I ?_ ?_ ?_ ?_
 ·rw [HI.out]
  exact ⟨undef, undef, undef, undef, undef, undef, undef, undef, undef, undef, undef, undef, undef, undef, undef, undef, undef, undef, undef, undef, _, _, _, _, rfl, hid (by simpa using T2.out.drew), hid (fun _ => rfl), hid (fun _ => rfl), hid (fun _ => rfl), hid (fun h => by simp at h), hid (fun _ => rfl), hid (fun h => by simp at h), hid (fun h => by simp at h), hid (fun h => by simp at h), hid (fun h => by simp at h), hid (fun h => by simp at h), hid (fun h => by simp at h), hid (fun h => by simp at h), hid (fun h => by simp at h), hid (fun h => by simp at h), hid (fun h => by simp at h), hid (fun h => by simp at h), hid (fun h => by simp at h), hid (fun h => by simp at h), hid (fun h => by simp at h), hid (fun h => by simp at h), hid (fun h => by simp at h), hid (fun h => by simp at h), hid (fun h => by simp at h), hid (fun h => by simp at h), hid (fun h => by simp at h), hid (fun h => by simp at h)⟩
 ·intro l a wx i hl hc hI0 hi hn hd
  rw [HI.out] at hI0
  obtain ⟨u19, u20, u21, u22, u23, u24, u25, u26, u27, u28, u29, u30, u31, u32, u33, u34, u35, u36, u37, u38, yo, yn, x0, x1, rfl, hT, h8, h15, h18, h18t, h21, h21t, h7, h14, f0, f1, f2, f3, f4, f5, f6, f8, f9, f10, f11, f12, f13, f15, f16, f17, f19, f20⟩ := hI0
  have hs : ∀ j, (l.setIfInBounds i true).getD j false = if i = j then true else l.getD j false := fun j => getD_set (by omega)
  have hk : ∀ j, i ≠ j → (l.setIfInBounds i true).getD j false = l.getD j false := fun j h => by rw [hs, if_neg h]
  replace hi : i < 22 := hi
  have hcase : i = 0 ∨ i = 1 ∨ i = 2 ∨ i = 3 ∨ i = 4 ∨ i = 5 ∨ i = 6 ∨ i = 7 ∨ i = 8 ∨ i = 9 ∨ i = 10 ∨ i = 11 ∨ i = 12 ∨ i = 13 ∨ i = 14 ∨ i = 15 ∨ i = 16 ∨ i = 17 ∨ i = 18 ∨ i = 19 ∨ i = 20 ∨ i = 21 := by omega
  rcases hcase with rfl | rfl | rfl | rfl | rfl | rfl | rfl | rfl | rfl | rfl | rfl | rfl | rfl | rfl | rfl | rfl | rfl | rfl | rfl | rfl | rfl | rfl
  ·skip
   refine wpOp_of_list (by rfl) ?_
   go_wp2_with fail
   show I _ _ _
   rw [HI.out]
   exact ⟨_, _, _, _, _, _, _, _, _, _, _, _, _, _, _, _, _, _, _, _, _, _, _, _, rfl, hid (by rw [hk 8 (by decide), hk 15 (by decide)]; exact hT.out), kf_ h8, kf_ h15, kf_ h18, kf_ h18t, kf_ h21, kf_ h21t, kf2_ h7, kf2_ h14, hid (fun _ => rfl), kf_ f1, kf_ f2, kf_ f3, kf_ f4, kf_ f5, kf_ f6, kf_ f8, kf_ f9, kf_ f10, kf_ f11, kf_ f12, kf_ f13, kf_ f15, kf_ f16, kf_ f17, kf_ f19, kf_ f20⟩
  ·skip
   refine wpOp_of_list (by rfl) ?_
   go_wp2_with fail
   show I _ _ _
   rw [HI.out]
   exact ⟨_, _, _, _, _, _, _, _, _, _, _, _, _, _, _, _, _, _, _, _, _, _, _, _, rfl, hid (by rw [hk 8 (by decide), hk 15 (by decide)]; exact hT.out), kf_ h8, kf_ h15, kf_ h18, kf_ h18t, kf_ h21, kf_ h21t, kf2_ h7, kf2_ h14, kf_ f0, hid (fun _ => rfl), kf_ f2, kf_ f3, kf_ f4, kf_ f5, kf_ f6, kf_ f8, kf_ f9, kf_ f10, kf_ f11, kf_ f12, kf_ f13, kf_ f15, kf_ f16, kf_ f17, kf_ f19, kf_ f20⟩
  ·skip
   refine wpOp_of_list (by rfl) ?_
   go_wp2_with fail
   show I _ _ _
   rw [HI.out]
   exact ⟨_, _, _, _, _, _, _, _, _, _, _, _, _, _, _, _, _, _, _, _, _, _, _, _, rfl, hid (by rw [hk 8 (by decide), hk 15 (by decide)]; exact hT.out), kf_ h8, kf_ h15, kf_ h18, kf_ h18t, kf_ h21, kf_ h21t, kf2_ h7, kf2_ h14, kf_ f0, kf_ f1, hid (fun _ => rfl), kf_ f3, kf_ f4, kf_ f5, kf_ f6, kf_ f8, kf_ f9, kf_ f10, kf_ f11, kf_ f12, kf_ f13, kf_ f15, kf_ f16, kf_ f17, kf_ f19, kf_ f20⟩
  ·skip
   have d2 : l.getD 2 false = true := hd 2 (by decide)
   obtain rfl := f2.out d2
   refine wpOp_of_list (by rfl) ?_
   go_wp2_with fail
   show I _ _ _
   rw [HI.out]
   exact ⟨_, _, _, _, _, _, _, _, _, _, _, _, _, _, _, _, _, _, _, _, _, _, _, _, rfl, hid (by rw [hk 8 (by decide), hk 15 (by decide)]; exact hT.out), kf_ h8, kf_ h15, kf_ h18, kf_ h18t, kf_ h21, kf_ h21t, kf2_ h7, kf2_ h14, kf_ f0, kf_ f1, hid (fun _ => rfl), hid (fun _ => rfl), kf_ f4, kf_ f5, kf_ f6, kf_ f8, kf_ f9, kf_ f10, kf_ f11, kf_ f12, kf_ f13, kf_ f15, kf_ f16, kf_ f17, kf_ f19, kf_ f20⟩
  ·skip
   have d3 : l.getD 3 false = true := hd 3 (by decide)
   obtain rfl := f3.out d3
   refine wpOp_of_list (by rfl) ?_
   go_wp2_with fail
   show I _ _ _
   rw [HI.out]
   exact ⟨_, _, _, _, _, _, _, _, _, _, _, _, _, _, _, _, _, _, _, _, _, _, _, _, rfl, hid (by rw [hk 8 (by decide), hk 15 (by decide)]; exact hT.out), kf_ h8, kf_ h15, kf_ h18, kf_ h18t, kf_ h21, kf_ h21t, kf2_ h7, kf2_ h14, kf_ f0, kf_ f1, kf_ f2, hid (fun _ => rfl), hid (fun _ => rfl), kf_ f5, kf_ f6, kf_ f8, kf_ f9, kf_ f10, kf_ f11, kf_ f12, kf_ f13, kf_ f15, kf_ f16, kf_ f17, kf_ f19, kf_ f20⟩
  ·skip
   have d4 : l.getD 4 false = true := hd 4 (by decide)
   obtain rfl := f4.out d4
   have n18 : l.getD 18 false = false := by
    cases e : l.getD 18 false
    ·rfl
    ·have := hc 18 e 5 (by decide); rw [hn] at this; cases this
   obtain rfl := h18.out n18
   have k9 := hT.out.bl.cell 0 _ rfl
   refine wpOp_of_list (by rfl) ?_
   go_wp2_with fail
   show I _ _ _
   rw [HI.out]
   exact ⟨_, _, _, _, _, _, _, _, _, _, _, _, _, _, _, _, _, _, _, _, _, _, _, _, rfl, hid (by rw [hk 8 (by decide), hk 15 (by decide)]; exact hT.out), kf_ h8, kf_ h15, hid (fun _ => rfl), kf_ h18t, kf_ h21, kf_ h21t, kf2_ h7, kf2_ h14, kf_ f0, kf_ f1, kf_ f2, kf_ f3, hid (fun _ => rfl), hid (fun _ => rfl), kf_ f6, kf_ f8, kf_ f9, kf_ f10, kf_ f11, kf_ f12, kf_ f13, kf_ f15, kf_ f16, kf_ f17, kf_ f19, kf_ f20⟩
  ·skip
   refine wpOp_of_list (by rfl) ?_
   go_wp2_with fail
   show I _ _ _
   rw [HI.out]
   exact ⟨_, _, _, _, _, _, _, _, _, _, _, _, _, _, _, _, _, _, _, _, _, _, _, _, rfl, hid (by rw [hk 8 (by decide), hk 15 (by decide)]; exact hT.out), kf_ h8, kf_ h15, kf_ h18, kf_ h18t, kf_ h21, kf_ h21t, kf2_ h7, kf2_ h14, kf_ f0, kf_ f1, kf_ f2, kf_ f3, kf_ f4, kf_ f5, hid (fun _ => rfl), kf_ f8, kf_ f9, kf_ f10, kf_ f11, kf_ f12, kf_ f13, kf_ f15, kf_ f16, kf_ f17, kf_ f19, kf_ f20⟩
  ·skip
   have d6 : l.getD 6 false = true := hd 6 (by decide)
   obtain rfl := f6.out d6
   refine wpOp_of_list (by rfl) ?_
   go_wp2_with fail
   show I _ _ _
   rw [HI.out]
   exact ⟨_, _, _, _, _, _, _, _, _, _, _, _, _, _, _, _, _, _, _, _, _, _, _, _, rfl, hid (by rw [hk 8 (by decide), hk 15 (by decide)]; exact hT.out.alloc), kf_ h8, kf_ h15, kf_ h18, kf_ h18t, kf_ h21, kf_ h21t, hid (fun _ _ => ⟨_, _, _, rfl, frN_lit hT.out HOK.out rfl⟩), hid (fun h h' => by obtain ⟨A, n, k, e, hf⟩ := h14.out (by rwa [hk 14 (by decide)] at h) (by rwa [hk 15 (by decide)] at h'); exact ⟨A, n, k, e, hf.alloc⟩), kf_ f0, kf_ f1, kf_ f2, kf_ f3, kf_ f4, kf_ f5, hid (fun _ => rfl), kf_ f8, kf_ f9, kf_ f10, kf_ f11, kf_ f12, kf_ f13, kf_ f15, kf_ f16, kf_ f17, kf_ f19, kf_ f20⟩
  ·skip
   have d5 : l.getD 5 false = true := hd 5 (by decide)
   have d7 : l.getD 7 false = true := hd 7 (by decide)
   obtain rfl := f5.out d5
   have n15 : l.getD 15 false = false := by
    cases e : l.getD 15 false
    ·rfl
    ·have := hc 15 e 8 (by decide); rw [hn] at this; cases this
   have n18 : l.getD 18 false = false := by
    cases e : l.getD 18 false
    ·rfl
    ·have := hc 18 e 8 (by decide); rw [hn] at this; cases this
   obtain rfl := h8.out hn
   obtain ⟨A, n, k, rfl, hf⟩ := h7.out d7 hn
   have T9 := hT.out
   rw [hn, n15, if_neg (by simp), if_neg (by simp)] at T9
   refine wpOp_of_law (by rfl) (step_two_o (by rfl) (.tmp 24) (.tmp 26) (by rfl) (by rfl) (by rfl) s T9 hf.fr HL1.out hbz (fun v' w' T' hcar => ?_))
   show I _ _ _
   rw [HI.out]
   exact ⟨_, _, _, _, _, _, _, _, _, _, _, _, _, _, _, _, _, _, _, _, _, _, _, _, rfl, hid (by rw [hs 8, if_pos rfl, hk 15 (by decide), n15, if_pos rfl, if_neg (by simp)]; exact T'), hid (fun h => by rw [hs, if_pos rfl] at h; cases h), kf_ h15, kf_ h18, hid (fun h => by rw [hk 18 (by decide), n18] at h; cases h), kf_ h21, kf_ h21t, hid (fun _ h' => by rw [hs, if_pos rfl] at h'; cases h'), hid (fun h h' => by obtain ⟨A, n, k, e, hf⟩ := h14.out (by rwa [hk 14 (by decide)] at h) (by rwa [hk 15 (by decide)] at h'); exact ⟨A, n, k, e, hcar _ _ hf⟩), kf_ f0, kf_ f1, kf_ f2, kf_ f3, kf_ f4, hid (fun _ => rfl), kf_ f6, hid (fun _ => rfl), kf_ f9, kf_ f10, kf_ f11, kf_ f12, kf_ f13, kf_ f15, kf_ f16, kf_ f17, kf_ f19, kf_ f20⟩
  ·skip
   refine wpOp_of_list (by rfl) ?_
   go_wp2_with fail
   show I _ _ _
   rw [HI.out]
   exact ⟨_, _, _, _, _, _, _, _, _, _, _, _, _, _, _, _, _, _, _, _, _, _, _, _, rfl, hid (by rw [hk 8 (by decide), hk 15 (by decide)]; exact hT.out), kf_ h8, kf_ h15, kf_ h18, kf_ h18t, kf_ h21, kf_ h21t, kf2_ h7, kf2_ h14, kf_ f0, kf_ f1, kf_ f2, kf_ f3, kf_ f4, kf_ f5, kf_ f6, kf_ f8, hid (fun _ => rfl), kf_ f10, kf_ f11, kf_ f12, kf_ f13, kf_ f15, kf_ f16, kf_ f17, kf_ f19, kf_ f20⟩
  ·skip
   have d9 : l.getD 9 false = true := hd 9 (by decide)
   obtain rfl := f9.out d9
   refine wpOp_of_list (by rfl) ?_
   go_wp2_with fail
   show I _ _ _
   rw [HI.out]
   exact ⟨_, _, _, _, _, _, _, _, _, _, _, _, _, _, _, _, _, _, _, _, _, _, _, _, rfl, hid (by rw [hk 8 (by decide), hk 15 (by decide)]; exact hT.out), kf_ h8, kf_ h15, kf_ h18, kf_ h18t, kf_ h21, kf_ h21t, kf2_ h7, kf2_ h14, kf_ f0, kf_ f1, kf_ f2, kf_ f3, kf_ f4, kf_ f5, kf_ f6, kf_ f8, hid (fun _ => rfl), hid (fun _ => rfl), kf_ f11, kf_ f12, kf_ f13, kf_ f15, kf_ f16, kf_ f17, kf_ f19, kf_ f20⟩
  ·skip
   have d10 : l.getD 10 false = true := hd 10 (by decide)
   obtain rfl := f10.out d10
   refine wpOp_of_list (by rfl) ?_
   go_wp2_with fail
   show I _ _ _
   rw [HI.out]
   exact ⟨_, _, _, _, _, _, _, _, _, _, _, _, _, _, _, _, _, _, _, _, _, _, _, _, rfl, hid (by rw [hk 8 (by decide), hk 15 (by decide)]; exact hT.out), kf_ h8, kf_ h15, kf_ h18, kf_ h18t, kf_ h21, kf_ h21t, kf2_ h7, kf2_ h14, kf_ f0, kf_ f1, kf_ f2, kf_ f3, kf_ f4, kf_ f5, kf_ f6, kf_ f8, kf_ f9, hid (fun _ => rfl), hid (fun _ => rfl), kf_ f12, kf_ f13, kf_ f15, kf_ f16, kf_ f17, kf_ f19, kf_ f20⟩
  ·skip
   have d11 : l.getD 11 false = true := hd 11 (by decide)
   obtain rfl := f11.out d11
   have n21 : l.getD 21 false = false := by
    cases e : l.getD 21 false
    ·rfl
    ·have := hc 21 e 12 (by decide); rw [hn] at this; cases this
   obtain rfl := h21.out n21
   have k9 := hT.out.bl.cell 1 _ rfl
   refine wpOp_of_list (by rfl) ?_
   go_wp2_with fail
   show I _ _ _
   rw [HI.out]
   exact ⟨_, _, _, _, _, _, _, _, _, _, _, _, _, _, _, _, _, _, _, _, _, _, _, _, rfl, hid (by rw [hk 8 (by decide), hk 15 (by decide)]; exact hT.out), kf_ h8, kf_ h15, kf_ h18, kf_ h18t, hid (fun _ => rfl), kf_ h21t, kf2_ h7, kf2_ h14, kf_ f0, kf_ f1, kf_ f2, kf_ f3, kf_ f4, kf_ f5, kf_ f6, kf_ f8, kf_ f9, kf_ f10, hid (fun _ => rfl), hid (fun _ => rfl), kf_ f13, kf_ f15, kf_ f16, kf_ f17, kf_ f19, kf_ f20⟩
  ·skip
   refine wpOp_of_list (by rfl) ?_
   go_wp2_with fail
   show I _ _ _
   rw [HI.out]
   exact ⟨_, _, _, _, _, _, _, _, _, _, _, _, _, _, _, _, _, _, _, _, _, _, _, _, rfl, hid (by rw [hk 8 (by decide), hk 15 (by decide)]; exact hT.out), kf_ h8, kf_ h15, kf_ h18, kf_ h18t, kf_ h21, kf_ h21t, kf2_ h7, kf2_ h14, kf_ f0, kf_ f1, kf_ f2, kf_ f3, kf_ f4, kf_ f5, kf_ f6, kf_ f8, kf_ f9, kf_ f10, kf_ f11, kf_ f12, hid (fun _ => rfl), kf_ f15, kf_ f16, kf_ f17, kf_ f19, kf_ f20⟩
  ·skip
   have d13 : l.getD 13 false = true := hd 13 (by decide)
   obtain rfl := f13.out d13
   refine wpOp_of_list (by rfl) ?_
   go_wp2_with fail
   show I _ _ _
   rw [HI.out]
   exact ⟨_, _, _, _, _, _, _, _, _, _, _, _, _, _, _, _, _, _, _, _, _, _, _, _, rfl, hid (by rw [hk 8 (by decide), hk 15 (by decide)]; exact hT.out.alloc), kf_ h8, kf_ h15, kf_ h18, kf_ h18t, kf_ h21, kf_ h21t, hid (fun h h' => by obtain ⟨A, n, k, e, hf⟩ := h7.out (by rwa [hk 7 (by decide)] at h) (by rwa [hk 8 (by decide)] at h'); exact ⟨A, n, k, e, hf.alloc⟩), hid (fun _ _ => ⟨_, _, _, rfl, frN_lit hT.out HOT.out rfl⟩), kf_ f0, kf_ f1, kf_ f2, kf_ f3, kf_ f4, kf_ f5, kf_ f6, kf_ f8, kf_ f9, kf_ f10, kf_ f11, kf_ f12, hid (fun _ => rfl), kf_ f15, kf_ f16, kf_ f17, kf_ f19, kf_ f20⟩
  ·skip
   have d8 : l.getD 8 false = true := hd 8 (by decide)
   have d12 : l.getD 12 false = true := hd 12 (by decide)
   have d14 : l.getD 14 false = true := hd 14 (by decide)
   obtain rfl := f8.out d8
   obtain rfl := f12.out d12
   have n18 : l.getD 18 false = false := by
    cases e : l.getD 18 false
    ·rfl
    ·have := hc 18 e 15 (by decide); rw [hn] at this; cases this
   have n21 : l.getD 21 false = false := by
    cases e : l.getD 21 false
    ·rfl
    ·have := hc 21 e 15 (by decide); rw [hn] at this; cases this
   obtain rfl := h15.out hn
   obtain ⟨A, n, k, rfl, hf⟩ := h14.out d14 hn
   have T9 := hT.out
   rw [hn, d8, if_pos rfl, if_neg (by simp)] at T9
   refine wpOp_of_law (by rfl) (step_two_n (by rfl) (.tmp 31) (.tmp 33) (by rfl) (by rfl) (by rfl) to_ T9 hf.fr HL2.out hbz (fun v' w' T' => ?_))
   show I _ _ _
   rw [HI.out]
   exact ⟨_, _, _, _, _, _, _, _, _, _, _, _, _, _, _, _, _, _, _, _, _, _, _, _, rfl, hid (by rw [hs 15, if_pos rfl, hk 8 (by decide), d8, if_pos rfl]; exact T'), kf_ h8, hid (fun h => by rw [hs, if_pos rfl] at h; cases h), kf_ h18, kf_ h18t, kf_ h21, hid (fun h => by rw [hk 21 (by decide), n21] at h; cases h), hid (fun _ h' => by rw [hk 8 (by decide), d8] at h'; cases h'), hid (fun _ h' => by rw [hs, if_pos rfl] at h'; cases h'), kf_ f0, kf_ f1, kf_ f2, kf_ f3, kf_ f4, kf_ f5, kf_ f6, hid (fun _ => rfl), kf_ f9, kf_ f10, kf_ f11, hid (fun _ => rfl), kf_ f13, hid (fun _ => rfl), kf_ f16, kf_ f17, kf_ f19, kf_ f20⟩
  ·skip
   have d0 : l.getD 0 false = true := hd 0 (by decide)
   obtain rfl := f0.out d0
   refine wpOp_of_list (by rfl) ?_
   go_wp2_with fail
   show I _ _ _
   rw [HI.out]
   exact ⟨_, _, _, _, _, _, _, _, _, _, _, _, _, _, _, _, _, _, _, _, _, _, _, _, rfl, hid (by rw [hk 8 (by decide), hk 15 (by decide)]; exact hT.out), kf_ h8, kf_ h15, kf_ h18, kf_ h18t, kf_ h21, kf_ h21t, kf2_ h7, kf2_ h14, hid (fun _ => rfl), kf_ f1, kf_ f2, kf_ f3, kf_ f4, kf_ f5, kf_ f6, kf_ f8, kf_ f9, kf_ f10, kf_ f11, kf_ f12, kf_ f13, kf_ f15, hid (fun _ => rfl), kf_ f17, kf_ f19, kf_ f20⟩
  ·skip
   have d16 : l.getD 16 false = true := hd 16 (by decide)
   obtain rfl := f16.out d16
   refine wpOp_of_list (by rfl) ?_
   go_wp2_with fail
   show I _ _ _
   rw [HI.out]
   exact ⟨_, _, _, _, _, _, _, _, _, _, _, _, _, _, _, _, _, _, _, _, _, _, _, _, rfl, hid (by rw [hk 8 (by decide), hk 15 (by decide)]; exact hT.out), kf_ h8, kf_ h15, kf_ h18, kf_ h18t, kf_ h21, kf_ h21t, kf2_ h7, kf2_ h14, kf_ f0, kf_ f1, kf_ f2, kf_ f3, kf_ f4, kf_ f5, kf_ f6, kf_ f8, kf_ f9, kf_ f10, kf_ f11, kf_ f12, kf_ f13, kf_ f15, hid (fun _ => rfl), hid (fun _ => rfl), kf_ f19, kf_ f20⟩
  ·skip
   have d8 : l.getD 8 false = true := hd 8 (by decide)
   have d17 : l.getD 17 false = true := hd 17 (by decide)
   have d15 : l.getD 15 false = true := hd 15 (by decide)
   obtain rfl := f8.out d8
   obtain rfl := f17.out d17
   obtain rfl := f15.out d15
   obtain ⟨A9, c9, h9⟩ := hT.out.oo.form
   rw [show (if l.getD 8 false = true then lo ++ [s] else lo).length = lo.length + 1 by rw [d8, if_pos rfl]; simp] at h9
   subst h9
   have k9 := hT.out.bl.cell 0 _ rfl
   have kf := hT.out.bl.fr 0
   have kl := hT.out.bl.lt
   refine wpOp_of_list (by rfl) ?_
   go_wp2_with fail
   show I _ _ _
   rw [HI.out]
   exact ⟨_, _, _, _, _, _, _, _, _, _, _, _, _, _, _, _, _, _, _, _, _, _, _, _, rfl, hid (by rw [hk 8 (by decide), hk 15 (by decide)]; exact hT.out.set (i := 0) (by decide) _ _ _ _ rfl), kf_ h8, kf_ h15, hid (fun h => by rw [hs, if_pos rfl] at h; cases h), hid (fun _ => rfl), kf_ h21, kf_ h21t, hid (fun _ h' => by rw [hk 8 (by decide), d8] at h'; cases h'), hid (fun _ h' => by rw [hk 15 (by decide), d15] at h'; cases h'), kf_ f0, kf_ f1, kf_ f2, kf_ f3, kf_ f4, kf_ f5, kf_ f6, hid (fun _ => rfl), kf_ f9, kf_ f10, kf_ f11, kf_ f12, kf_ f13, hid (fun _ => rfl), kf_ f16, hid (fun _ => rfl), kf_ f19, kf_ f20⟩
  ·skip
   have d1 : l.getD 1 false = true := hd 1 (by decide)
   have d18 : l.getD 18 false = true := hd 18 (by decide)
   obtain rfl := f1.out d1
   refine wpOp_of_list (by rfl) ?_
   go_wp2_with fail
   show I _ _ _
   rw [HI.out]
   exact ⟨_, _, _, _, _, _, _, _, _, _, _, _, _, _, _, _, _, _, _, _, _, _, _, _, rfl, hid (by rw [hk 8 (by decide), hk 15 (by decide)]; exact hT.out), kf_ h8, kf_ h15, kf_ h18, kf_ h18t, kf_ h21, kf_ h21t, kf2_ h7, kf2_ h14, kf_ f0, hid (fun _ => rfl), kf_ f2, kf_ f3, kf_ f4, kf_ f5, kf_ f6, kf_ f8, kf_ f9, kf_ f10, kf_ f11, kf_ f12, kf_ f13, kf_ f15, kf_ f16, kf_ f17, hid (fun _ => rfl), kf_ f20⟩
  ·skip
   have d19 : l.getD 19 false = true := hd 19 (by decide)
   obtain rfl := f19.out d19
   refine wpOp_of_list (by rfl) ?_
   go_wp2_with fail
   show I _ _ _
   rw [HI.out]
   exact ⟨_, _, _, _, _, _, _, _, _, _, _, _, _, _, _, _, _, _, _, _, _, _, _, _, rfl, hid (by rw [hk 8 (by decide), hk 15 (by decide)]; exact hT.out), kf_ h8, kf_ h15, kf_ h18, kf_ h18t, kf_ h21, kf_ h21t, kf2_ h7, kf2_ h14, kf_ f0, kf_ f1, kf_ f2, kf_ f3, kf_ f4, kf_ f5, kf_ f6, kf_ f8, kf_ f9, kf_ f10, kf_ f11, kf_ f12, kf_ f13, kf_ f15, kf_ f16, kf_ f17, hid (fun _ => rfl), hid (fun _ => rfl)⟩
  ·skip
   have d15 : l.getD 15 false = true := hd 15 (by decide)
   have d18 : l.getD 18 false = true := hd 18 (by decide)
   have d20 : l.getD 20 false = true := hd 20 (by decide)
   obtain rfl := f15.out d15
   obtain rfl := f20.out d20
   have d8 : l.getD 8 false = true := hc 15 d15 8 (by decide)
   obtain ⟨A9, c9, h9⟩ := hT.out.on.form
   rw [show (if l.getD 15 false = true then ln ++ [to_] else ln).length = ln.length + 1 by rw [d15, if_pos rfl]; simp] at h9
   subst h9
   have k9 := hT.out.bl.cell 1 _ rfl
   have kf := hT.out.bl.fr 1
   have kl := hT.out.bl.lt
   refine wpOp_of_list (by rfl) ?_
   go_wp2_with fail
   show I _ _ _
   rw [HI.out]
   exact ⟨_, _, _, _, _, _, _, _, _, _, _, _, _, _, _, _, _, _, _, _, _, _, _, _, rfl, hid (by rw [hk 8 (by decide), hk 15 (by decide)]; exact hT.out.set (i := 1) (by decide) _ _ _ _ rfl), kf_ h8, kf_ h15, kf_ h18, kf_ h18t, hid (fun h => by rw [hs, if_pos rfl] at h; cases h), hid (fun _ => rfl), hid (fun _ h' => by rw [hk 8 (by decide), d8] at h'; cases h'), hid (fun _ h' => by rw [hk 15 (by decide), d15] at h'; cases h'), kf_ f0, kf_ f1, kf_ f2, kf_ f3, kf_ f4, kf_ f5, kf_ f6, kf_ f8, kf_ f9, kf_ f10, kf_ f11, kf_ f12, kf_ f13, hid (fun _ => rfl), kf_ f16, kf_ f17, kf_ f19, hid (fun _ => rfl)⟩
 ·intro l a wx hl hall hI0
  rw [HI.out] at hI0
  obtain ⟨u19, u20, u21, u22, u23, u24, u25, u26, u27, u28, u29, u30, u31, u32, u33, u34, u35, u36, u37, u38, yo, yn, x0, x1, rfl, hT, h8, h15, h18, h18t, h21, h21t, h7, h14, f0, f1, f2, f3, f4, f5, f6, f8, f9, f10, f11, f12, f13, f15, f16, f17, f19, f20⟩ := hI0
  obtain rfl := h18t.out (hall 18 (by decide))
  obtain rfl := h21t.out (hall 21 (by decide))
  have T9 := hT.out
  rw [hall 8 (by decide), hall 15 (by decide), if_pos rfl, if_pos rfl] at T9
  have T9 := hid T9
  clear hT h8 h15 h18 h18t h21 h21t h7 h14 f0 f1 f2 f3 f4 f5 f6 f8 f9 f10 f11 f12 f13 f15 f16 f17 f19 f20
  go_wp2_with fail
  go_ret
  exact ⟨rfl, _, _, T9.out⟩
 ·decide
def FrP (n : Nat) (S : Blocks) (w : World) (t : Ex) (V : Value) : Prop := ∃ T, Sub T (Plus S n w.heap.size) ∧ Sub T (Upto w.heap.size) ∧ RdE w T t V
section
variable {n : Nat} {S : Blocks} {w w' : World} {t a b : Ex} {V Va Vb : Value}
theorem FrP.via (hb : Below w.heap.size w w') (h : FrP n S w t V) : FrP n S w' t V := by
 obtain ⟨T, h1, h2, r⟩ := h
 exact ⟨T, h1.trans (Sub.plus_mono (Nat.le_refl _) hb.size), h2.trans (Sub.upto hb.size), r.go hb h2⟩
theorem FrP.drew (h : FrP n S w t V) : FrP n S w.drew t V := FrP.via (Below.refl _ _).drew h
theorem FrP.alloc {o : Obj} (h : FrP n S w t V) : FrP n S (w.alloc o) t V := FrP.via ((Below.refl _ _).alloc (Nat.le_refl _) _) h
theorem FrP.of {m : Nat} (h : RdE w (Plus S m w.heap.size) t V) (hn : n ≤ m) (hS : Sub S (Upto w.heap.size)) : FrP n S w t V := ⟨_, Sub.plus_mono hn (Nat.le_refl _), Sub.plus_upto hS, h⟩
theorem FrP.form (h : FrP n S w t V) : ∃ A cap, V = .agg #[.int .i64 t.kind, .int .i64 t.num, .string t.name, .slice A t.args.length cap] := by
 obtain ⟨T, h1, h2, r⟩ := h
 exact r.form
theorem FrP.two_in (ha : FrP n S w a Va) (hb : FrP n S w b Vb) : ∃ T, Sub T (Plus S n w.heap.size) ∧ Sub T (Upto w.heap.size) ∧ RdE w T a Va ∧ RdE w T b Vb := by
 obtain ⟨T, h1, h2, r⟩ := ha
 obtain ⟨T', h1', h2', r'⟩ := hb
 exact ⟨Both T T', Sub.both h1 h1', Sub.both h2 h2', r.keep (Sub.left _ _) (Same.refl _ _), r'.keep (Sub.right _ _) (Same.refl _ _)⟩
theorem FrP.out {T : Blocks} {m : Nat} (h1 : Sub T (Plus S n w.heap.size)) (hT : Sub T (Upto w.heap.size)) (hs : w.heap.size ≤ w'.heap.size) (hn : n ≤ w.heap.size) (r : RdE w' (Plus T w.heap.size w'.heap.size) t V) : FrP n S w' t V :=
 ⟨_, fun b hb => hb.elim (fun h => (h1 b h).elim .inl (fun h => .inr ⟨h.1, Nat.lt_of_lt_of_le h.2 hs⟩)) (fun h => .inr ⟨Nat.le_trans hn h.1, h.2⟩), Sub.plus_upto (hT.trans (Sub.upto hs)), r⟩
end
theorem FrP.set {n : Nat} {S : Blocks} {w : World} {t : Ex} {V : Value} {R : Nat} {u0 u1 u2 u3 : Value} (h : FrP n S w t V) (hR : ¬ S R) (hn : R < n) : FrP n S (set4 w R u0 u1 u2 u3) t V := by
 obtain ⟨T, h1, h2, r⟩ := h
 refine ⟨T, h1.trans (Sub.plus_mono (Nat.le_refl _) (Nat.le_of_eq (set4_size _ _ _ _ _ _).symm)), h2.trans (Sub.upto (Nat.le_of_eq (set4_size _ _ _ _ _ _).symm)), r.keep (Sub.refl _) (set4_same ?_)⟩
 intro hp
 exact (h1 _ hp).elim hR (fun h => by omega)
theorem FrP.mk2 {n : Nat} {S : Blocks} {w : World} {k : Int} {a b : Ex} {A1 A2 : Option Addr} {c1 c2 z : Nat} (hk : inI k) (hn : n ≤ w.heap.size) (hz : w.heap.size = z)
    (ha : FrP n S w a (.agg #[.int .i64 a.kind, .int .i64 a.num, .string a.name, .slice A1 a.args.length c1])) (hb : FrP n S w b (.agg #[.int .i64 b.kind, .int .i64 b.num, .string b.name, .slice A2 b.args.length c2])) :
    FrP n S (w.alloc (.cells #[.int .i64 a.kind, .int .i64 a.num, .string a.name, .slice A1 a.args.length c1, .int .i64 b.kind, .int .i64 b.num, .string b.name, .slice A2 b.args.length c2] 80)) (mkE k a b)
     (.agg #[.int .i64 k, .int .i64 0, .string noS, .slice (some ⟨z, 0, none⟩) 2 2]) := by
 subst hz
 obtain ⟨T, h1, h2, ra, rb⟩ := FrP.two_in ha hb
 have hbel := (Below.refl w.heap.size w).alloc (Nat.le_refl _) (.cells #[.int .i64 a.kind, .int .i64 a.num, .string a.name, .slice A1 a.args.length c1, .int .i64 b.kind, .int .i64 b.num, .string b.name, .slice A2 b.args.length c2] 80)
 have hblk := Blk.made w [.int .i64 a.kind, .int .i64 a.num, .string a.name, .slice A1 a.args.length c1, .int .i64 b.kind, .int .i64 b.num, .string b.name, .slice A2 b.args.length c2] 80 (base := 0) (Nat.zero_le _)
 refine ⟨Both T (Is w.heap.size), Sub.both (h1.trans (Sub.plus_mono (Nat.le_refl _) hbel.size)) (fun b hb => by unfold Is at hb; subst hb; exact .inr ⟨hn, by simp⟩), Sub.both (h2.trans (Sub.upto hbel.size)) (fun b hb => by unfold Is at hb; subst hb; simp [Upto]), ?_⟩
 exact RdE.two hk (ra.keep (Sub.left _ _) (same_of_below hbel h2)) (rb.keep (Sub.left _ _) (same_of_below hbel h2)) (.inr rfl) hblk.cell
theorem fin_two {W wl : World} {S : Blocks} {R : Nat} {k : Int} {a b : Ex} {A1 A2 : Option Addr} {c1 c2 : Nat} {v0 v1 v2 v3 : Value} (hk : inI k) (hst : Stay W wl) (hR : R < W.heap.size) (hS : ¬ S R)
    (h0 : wl.cell? ⟨R, 0, none⟩ = some v0) (h1 : wl.cell? ⟨R, 1, none⟩ = some v1) (h2 : wl.cell? ⟨R, 2, none⟩ = some v2) (h3 : wl.cell? ⟨R, 3, none⟩ = some v3)
    (ha : FrP W.heap.size S wl a (.agg #[.int .i64 a.kind, .int .i64 a.num, .string a.name, .slice A1 a.args.length c1])) (hb : FrP W.heap.size S wl b (.agg #[.int .i64 b.kind, .int .i64 b.num, .string b.name, .slice A2 b.args.length c2])) :
    ∃ W9, W9 = (set4 wl R (.int .i64 k) (.int .i64 0) (.string noS) (.slice (some ⟨wl.heap.size, 0, none⟩) 2 2)).alloc (.cells #[.int .i64 a.kind, .int .i64 a.num, .string a.name, .slice A1 a.args.length c1, .int .i64 b.kind, .int .i64 b.num, .string b.name, .slice A2 b.args.length c2] 80) ∧
     W9.cell? ⟨R, 0, none⟩ = some (.int .i64 k) ∧ W9.cell? ⟨R, 1, none⟩ = some (.int .i64 0) ∧ W9.cell? ⟨R, 2, none⟩ = some (.string noS) ∧ W9.cell? ⟨R, 3, none⟩ = some (.slice (some ⟨wl.heap.size, 0, none⟩) 2 2) ∧
     FrP W.heap.size S W9 (mkE k a b) (.agg #[.int .i64 k, .int .i64 0, .string noS, .slice (some ⟨wl.heap.size, 0, none⟩) 2 2]) ∧ ∀ B w, B ≤ R → Below B w wl → Below B w W9 := by
 refine ⟨_, rfl, ?_⟩
 have hc := set4_cells (.int .i64 k) (.int .i64 0) (.string noS) (.slice (some ⟨wl.heap.size, 0, none⟩) 2 2) h0 h1 h2 h3
 have hlt : R < (set4 wl R (.int .i64 k) (.int .i64 0) (.string noS) (.slice (some ⟨wl.heap.size, 0, none⟩) 2 2)).heap.size := by rw [set4_size]; exact Nat.lt_of_lt_of_le hR hst.size
 refine ⟨(World.cell?_alloc_lt _ _ _ hlt).trans hc.1, (World.cell?_alloc_lt _ _ _ hlt).trans hc.2.1, (World.cell?_alloc_lt _ _ _ hlt).trans hc.2.2.1, (World.cell?_alloc_lt _ _ _ hlt).trans hc.2.2.2, ?_, fun B w hB hb => ?_⟩
 ·exact FrP.mk2 hk (by rw [set4_size]; exact hst.size) (set4_size _ _ _ _ _ _) (ha.set hS hR) (hb.set hS hR)
 ·have h := set4_below (u0 := .int .i64 k) (u1 := .int .i64 0) (u2 := .string noS) (u3 := .slice (some ⟨wl.heap.size, 0, none⟩) 2 2) hb hB
  exact h.alloc (by omega) _
theorem FrP.rd {n m : Nat} {S : Blocks} {w : World} {t : Ex} {V : Value} (h : FrP n S w t V) (hm : m ≤ n) : RdE w (Plus S m w.heap.size) t V := by
 obtain ⟨T, h1, h2, r⟩ := h
 exact r.keep (h1.trans (Sub.plus_mono hm (Nat.le_refl _))) (Same.refl _ _)
end Go.Proofs.YtnpgpcnkdocknaaGreatDoor
