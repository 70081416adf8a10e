/- Texts merged: Rn9, Pb1, KpSpec, Pb2, FmtLib, Lex5, Pb3. -/
import Derived.Test.YtnpgpcnkdocknaaGreatDoorRn8
import Derived.Test.YtnpgpcnkdocknaaGreatDoorGBlk
import Derived.Lib.Walk
import Derived.Lib.Builder
import Derived.Lib.AppendStr
import Derived.Lib.UnsafeStr
import Derived.Lib.BufferKept
import Derived.WalkKit
import Derived.Laws.Externs
import Derived.Laws.BitsLemmas
import Derived.BigRegion
import Derived.Test.YtnpgpcnkdocknaaGreatDoorGPqSpec
import Derived.Test.YtnpgpcnkdocknaaGreatDoorGAppZ
import Derived.Lib.ItoaNum
import Derived.Shelf.Strconv.Itoa4
import Derived.Shelf.Strings.SplitShaped
import Derived.Test.YtnpgpcnkdocknaaGreatDoorGEtW
import Derived.Test.YtnpgpcnkdocknaaGreatDoorGPq2
namespace Go.Proofs.YtnpgpcnkdocknaaGreatDoor
open Go.RowKit
set_option linter.unusedVariables false
theorem rst_all' (m : Nat) : ∀ l : List St, SizeOf.sizeOf l ≤ m → RSs l := by
 induction m with
 | zero => intro l h; cases l <;> simp at h
 | succ m ih =>
  intro l h
  refine rst_one l (fun k s a b body els hm => ?_)
  have := List.sizeOf_lt_of_mem hm
  simp only [St.mk.sizeOf_spec] at this
  exact ⟨ih _ (by omega), ih _ (by omega)⟩
theorem rst_all (l : List St) : RSs l := rst_all' _ l (Nat.le_refl _)
set_option maxHeartbeats 400000 in
theorem ren_any (l : List St) (w : World) (S : Blocks) (v : Value) (hS : Sub S (Upto w.heap.size)) (r : RdSts w S l v) (hwt : St.wts l ≤ 67108864) (hT : PowT w) :
    Calls Tryz.prog 13 #[v] w fun e w' => ∃ x, e = .returned x ∧ RdSts w' (Plus Nowhere w.heap.size w'.heap.size) (renL l [] 0).1 x ∧ Below w.heap.size w w' := by
 have bel : Below w.heap.size w (w.alloc (.cells #[.slice none 0 0, .slice none 0 0, .int .i64 0] 74)) := (Below.refl _ _).alloc (Nat.le_refl _) _
 have hw : RmAt w.heap.size w.heap.size (w.alloc (.cells #[.slice none 0 0, .slice none 0 0, .int .i64 0] 74)) [] 0 (.slice none 0 0) (.slice none 0 0) :=
  ⟨Blk.made w _ 74 (Nat.le_refl _), by simp, OwnL.nil _ _ _, OwnL.nil _ _ _, (fun k hk => by simp [Value.ownBlock] at hk), (fun k hk => by simp [Value.ownBlock] at hk), (fun k hk => by simp [Value.ownBlock] at hk), (fun k hk => .inl hk), (fun k hk => .inl hk), But.refl _ _⟩
 have hsz : w.heap.size ≤ (w.alloc (.cells #[.slice none 0 0, .slice none 0 0, .int .i64 0] 74)).heap.size := by simp
 have HC := hid ((rst_all l) w.heap.size w.heap.size 0 _ S [] _ _ v hT.lt (hT.go bel) hw hsz hS (r.go RdSt.keeps bel hS (Sub.refl _)) hwt (by omega) (by simp; omega))
 have BEL := hid bel
 have HLT := hid (hw.lts)
 clear hw bel r hS hT
 go_enter Tryz.func13, Tryz.ntmps13
 go_wp2_with fail
 refine HC.out.mono ?_
 rintro e w2 ⟨x, vo2, vn2, rfl, ht, T, hT, r⟩
 have HB := hid (BEL.out.trans (ht.but.below hsz (fun k hk => (HLT.out k hk).1)))
 have HRD := hid (show RdSts w2 (Plus Nowhere w.heap.size w2.heap.size) (renL l [] 0).1 x from r.sub RdSt.keeps (fun k hk => .inr ⟨Nat.le_trans hsz (hT k hk).1, (hT k hk).2.1⟩))
 clear ht r hT hsz
 go_wp2
 go_ret
 exact ⟨_, rfl, HRD.out, HB.out⟩
structure PrC (base p : Nat) (w : World) (l : List UInt8) (v a : Value) (bad : Bool) : Prop where
 ge : base ≤ p
 hp : w.heap[p]? = some (.cells #[a, v, .bool bad] 70 (0, 0))
 ow : w.ownsRow base 5 1 v l.length (Lib.byteCells l)
 ne : v.ownBlock ≠ some p
def PrAt (base p : Nat) (w : World) (l : List UInt8) (bad : Bool) : Prop := ∃ v a, (a = .pointer none ∨ a = .pointer (some ⟨p, 0, none⟩)) ∧ PrC base p w l v a bad
structure PrGo (base p : Nat) (w w' : World) : Prop where
 be : Below base w w'
 ok : Lib.OthersKept 5 (some p) w w'
section
variable {base p : Nat} {w w' w2 : World} {l : List UInt8} {v v' v2 a : Value} {bad : Bool}
theorem PrC.lt (h : PrC base p w l v a bad) : p < w.heap.size := by
 rcases Nat.lt_or_ge p w.heap.size with h' | h'
 ·exact h'
 ·have := h.hp; simp [Array.getElem?_eq_none h'] at this
theorem PrC.c0 (h : PrC base p w l v a bad) : w.cell? ⟨p, 0, none⟩ = some a := by simp [World.cell?, h.hp]
theorem PrC.c1 (h : PrC base p w l v a bad) : w.cell? ⟨p, 1, none⟩ = some v := by simp [World.cell?, h.hp]
theorem PrC.c2 (h : PrC base p w l v a bad) : w.cell? ⟨p, 2, none⟩ = some (.bool bad) := by simp [World.cell?, h.hp]
theorem PrC.shape (h : PrC base p w l v a bad) : w.shape? p = some (70, 3) := by simp [World.shape?, h.hp]
theorem PrC.fr (h : PrC base p w l v a bad) (i : Nat) : w.frozen? ⟨p, i, none⟩ = false := Lib.frozen_of_heap h.hp i
theorem PrC.rows (h : PrC base p w l v a bad) : ∀ k, v.ownBlock = some k → base ≤ k ∧ k < w.heap.size := fun k hk => h.ow.lt k hk
theorem PrC.len (h : PrC base p w l v a bad) : ∃ A c, v = .slice A l.length c := by
 rcases h.ow.2 with ⟨hv, h0⟩ | ⟨g, cap, cur, hv, _⟩
 ·exact ⟨none, 0, by rw [hv, h0]⟩
 ·exact ⟨_, _, hv⟩
theorem PrC.below (h : PrC base p w l v a bad) (hb : Below w.heap.size w w') : PrC base p w' l v a bad :=
 ⟨h.ge, (hb.block p h.lt).trans h.hp, h.ow.kept (row := none) ⟨hb.os, hb.tape, hb.output, hb.size, fun k hk _ => hb.block k hk⟩ (by cases v.ownBlock <;> simp), h.ne⟩
theorem PrC.set0 (h : PrC base p w l v a bad) (u : Value) : PrC base p (w.setCell ⟨p, 0, none⟩ u) l v u bad :=
 ⟨h.ge, by simp [World.setCell, Array.getElem?_modify, h.hp], h.ow.kept (row := some p) ⟨rfl, rfl, rfl, by simp [World.setCell], fun k _ hk => Below.heap_setCell _ _ _ _ (fun e => hk (by simp [e]))⟩ (Or.inr h.ne), h.ne⟩
theorem PrC.set2 (h : PrC base p w l v a bad) (x : Bool) : PrC base p (w.setCell ⟨p, 2, none⟩ (.bool x)) l v a x :=
 ⟨h.ge, by simp [World.setCell, Array.getElem?_modify, h.hp], h.ow.kept (row := some p) ⟨rfl, rfl, rfl, by simp [World.setCell], fun k _ hk => Below.heap_setCell _ _ _ _ (fun e => hk (by simp [e]))⟩ (Or.inr h.ne), h.ne⟩
theorem PrC.put {l2 : List UInt8} (hge : base ≤ p) (hp : w.heap[p]? = some (.cells #[a, v, .bool bad] 70 (0, 0))) (ho : w.ownsRow base 5 1 v2 l2.length (Lib.byteCells l2)) (hne : v2.ownBlock ≠ some p) : PrC base p (w.setCell ⟨p, 1, none⟩ v2) l2 v2 a bad :=
 ⟨hge, by simp [World.setCell, Array.getElem?_modify, hp], ho.kept (row := some p) ⟨rfl, rfl, rfl, by simp [World.setCell], fun k _ hk => Below.heap_setCell _ _ _ _ (fun e => hk (by simp [e]))⟩ (Or.inr hne), hne⟩
theorem PrAt.below (h : PrAt base p w l bad) (hb : Below w.heap.size w w') : PrAt base p w' l bad := by
 obtain ⟨v, a, ha, h⟩ := h
 exact ⟨v, a, ha, h.below hb⟩
theorem PrAt.lt (h : PrAt base p w l bad) : p < w.heap.size := by obtain ⟨v, a, _, h⟩ := h; exact h.lt
theorem PrAt.ge (h : PrAt base p w l bad) : base ≤ p := by obtain ⟨v, a, _, h⟩ := h; exact h.ge
theorem PrGo.refl (base p : Nat) (w : World) : PrGo base p w w := ⟨Below.refl _ _, Lib.OthersKept.refl _ _ _⟩
theorem PrGo.trans (h : PrGo base p w w') (k : PrGo base p w' w2) : PrGo base p w w2 := ⟨h.be.trans k.be, h.ok.trans k.ok⟩
theorem PrGo.of_below (hb : Below w.heap.size w w') (hw : base ≤ w.heap.size) : PrGo base p w w' := ⟨hb.mono hw, (Lib.OthersKept.refl _ _ w).below hb⟩
theorem PrGo.size (h : PrGo base p w w') : w.heap.size ≤ w'.heap.size := h.be.size
def BoxIs (w : World) (d : Nat) (cs : Array Value) (E : TypeId) : Prop := w.heap[d]? = some (.cells cs E (0, 0))
theorem heap_new_ (w : World) (o : Obj) : (w.alloc o).heap[w.heap.size]? = some o := by
 show (w.heap.push o)[w.heap.size]? = some o
 simp
theorem BoxIs.made (w : World) (cs : Array Value) (E : TypeId) : BoxIs (w.alloc (.cells cs E)) w.heap.size cs E := by
 exact heap_new_ w _
theorem BoxIs.lt {d : Nat} {cs : Array Value} {E : TypeId} (h : BoxIs w d cs E) : d < w.heap.size := by
 rcases Nat.lt_or_ge d w.heap.size with h' | h'
 ·exact h'
 ·unfold BoxIs at h; simp [Array.getElem?_eq_none h'] at h
theorem BoxIs.go {d : Nat} {cs : Array Value} {E : TypeId} (h : BoxIs w d cs E) (hg : PrGo base p w w') (hd : d ≠ p) (hE : E ≠ 5) : BoxIs w' d cs E :=
 hg.ok d _ h (fun e => hd (Option.some.inj e)) (fun c z e => by injection e with _ e2 _; exact hE e2)
theorem BoxIs.below {d : Nat} {cs : Array Value} {E : TypeId} (h : BoxIs w d cs E) (hb : Below w.heap.size w w') : BoxIs w' d cs E := (hb.block d h.lt).trans h
theorem BoxIs.cell {d : Nat} {cs : Array Value} {E : TypeId} (h : BoxIs w d cs E) (i : Nat) : w.cell? ⟨d, i, none⟩ = cs[i]? := by
 unfold BoxIs at h; simp [World.cell?, h]
end
theorem infoB1 : (Tryz.prog.info? 5).map (fun i => (i.zero, i.size, i.bytes)) = some (some (.int .u8 0), 1, 1) := by kernel_rfl
theorem sizeBd : (Tryz.prog.info? 68).map (·.size) = some 2 := by kernel_rfl
theorem liesBd : liesAt Tryz.prog Tryz.prog.depth 70 (3 / Tryz.prog.cellsOf 70) 0 68 1 = true := by kernel_rfl
set_option maxHeartbeats 1000000 in
set_option maxRecDepth 100000 in
theorem cc_any {base p : Nat} {w : World} {l : List UInt8} {bad : Bool} (h : PrAt base p w l bad) :
    Calls Tryz.prog 61 #[.pointer (some ⟨p, 0, none⟩)] w fun e w' => e = .returned (.tuple #[]) ∧ ∃ v, PrC base p w' l v (.pointer (some ⟨p, 0, none⟩)) bad ∧ PrGo base p w w' := by
 obtain ⟨j, hj, hjs⟩ := Option.map_eq_some_iff.1 sizeBd
 obtain ⟨v, a, ha, h⟩ := h
 have h0 := h.c0
 have hsh := h.shape
 have hfr := h.fr 0
 have H := hid h
 rcases ha with rfl | rfl
 ·clear h
  go_enter Tryz.func61, Tryz.ntmps61
  go_wp2
  rw [Lib.run_to_unsafe w ⟨p, 0, none⟩ Tryz.underlying65 Tryz.underlying135 hj (by rw [hjs]; decide) hsh (show 0 < 3 by decide)]
  simp only [Result.andThen]
  rw [Oper.upon_value]
  go_wp2
  rw [run_callFunc_extern Tryz.func85 (by kernel_rfl) (by kernel_rfl) (by kernel_rfl) (e := Extern.AbiNoEscape.same) (by kernel_rfl)]
  rw [Lib.run_noEscape]
  simp only [Result.andThen]
  rw [Oper.upon_value]
  go_wp2
  rw [Lib.run_from_unsafe w ⟨p, 0, none⟩ Tryz.underlying135 Tryz.underlying65 hj hsh liesBd]
  simp only [Result.andThen]
  rw [Oper.upon_value]
  go_wp2
  go_end0
  exact ⟨rfl, v, H.out.set0 _, (Below.refl _ _).setCell (p := ⟨p, 0, none⟩) H.out.ge _, (Lib.OthersKept.refl _ _ w).setCell ⟨p, 0, none⟩ rfl _⟩
 ·clear h
  go_enter Tryz.func61, Tryz.ntmps61
  go_wp2
  rw [Lib.run_neq_ptr_same w _ Tryz.underlying65 hj]
  go_wp2
  go_end0
  exact ⟨rfl, v, H.out, PrGo.refl _ _ _⟩
theorem row_kind {w : World} {base n : Nat} {v : Value} {xs : List Value} (h : w.ownsRow base 5 1 v n xs) : ∀ g, v.ownBlock = some g → ∃ c fz, w.heap[g]? = some (.cells c 5 fz) := fun g hg => by
 rcases h.2 with ⟨rfl, _⟩ | ⟨g', cap, cur, rfl, _, hh, _⟩
 ·simp [Value.ownBlock] at hg
 ·simp only [Value.ownBlock, Option.some.injEq] at hg
  subst hg
  exact ⟨_, _, hh⟩
theorem own_ne {w : World} {base n p : Nat} {a v u : Value} {bad : Bool} {xs : List Value} (h : w.ownsRow base 5 1 v n xs) (hp : w.heap[p]? = some (.cells #[a, u, .bool bad] 70 (0, 0))) : v.ownBlock ≠ some p := fun e => by
 obtain ⟨c, fz, hc⟩ := row_kind h p e
 rw [hp] at hc
 injection hc with hc
 injection hc with _ h2 _
 exact absurd h2 (by decide)
theorem byteC (c : UInt8) : Lib.byteCells [c] = [.int .u8 (c.toNat : Int)] := rfl
theorem pr_put {base p : Nat} {w1 w2 : World} {l l2 : List UInt8} {v v2 a : Value} {bad : Bool} (h : PrC base p w1 l v a bad) (hg : w1.grownBy w2 v.ownBlock) (ho : w2.ownsRow base 5 1 v2 l2.length (Lib.byteCells l2)) (hb : base ≤ w1.heap.size) :
    w2.cell? ⟨p, 0, none⟩ = some a ∧ w2.frozen? ⟨p, 1, none⟩ = false ∧ w2.cell? ⟨p, 1, none⟩ = some v ∧ PrC base p (w2.setCell ⟨p, 1, none⟩ v2) l2 v2 a bad ∧ PrGo base p w1 (w2.setCell ⟨p, 1, none⟩ v2) := by
 have hp2 : w2.heap[p]? = some (.cells #[a, v, .bool bad] 70 (0, 0)) := by
  rw [hg.block p h.lt (fun e => h.ne e.symm)]; exact h.hp
 refine ⟨by simp [World.cell?, hp2], Lib.frozen_of_heap hp2 1, by simp [World.cell?, hp2], PrC.put h.ge hp2 ho (own_ne ho hp2), ?_, ?_⟩
 ·exact (((Below.refl _ _).grown hg hb (fun k hk => (h.rows k hk).1))).setCell (p := ⟨p, 1, none⟩) h.ge _
 ·exact (((Lib.OthersKept.refl _ _ w1).grown hg (row_kind h.ow))).setCell ⟨p, 1, none⟩ rfl _
set_option maxHeartbeats 1000000 in
set_option maxRecDepth 100000 in
theorem pwb_any {base p : Nat} {w : World} {l : List UInt8} {bad : Bool} (c : UInt8) (h : PrAt base p w l bad) (hl : l.length + 1 ≤ 140737488355328) (hb : base ≤ w.heap.size) :
    Calls Tryz.prog 36 #[.pointer (some ⟨p, 0, none⟩), .int .u8 (c.toNat : Int)] w fun e w' => e = .returned .nilIface ∧ PrAt base p w' (l ++ [c]) bad ∧ PrGo base p w w' := by
 obtain ⟨i0, hi, hz0, hz1, hz2⟩ := info_parts infoB1
 have HC := hid (cc_any h)
 clear h
 go_enter Tryz.func36, Tryz.ntmps36
 go_wp2_with (go_at_call 61; refine HC.out.mono ?_)
 rintro e w1 ⟨rfl, v, h1, g1⟩
 have c1 := h1.c1
 have hsz := g1.size
 have bl : Below w1.heap.size w1 (w1.alloc (.cells #[.int .u8 (c.toNat : Int)] 5)) := (Below.refl _ _).alloc (Nat.le_refl _) _
 have H1 := hid (h1.below bl)
 have G1 := hid (g1.trans (PrGo.of_below bl (by omega)))
 clear h1 g1 HC
 go_wp2_with (at_builtin; refine wpList_append_own _ rfl _ _ 66 rfl base 5 i0 (.int .u8 0) 1 1 Tryz.underlying66 hi hz0 hz1 hz2 rfl (by decide) _ _ _ rfl H1.out.ow ⟨w1.heap.size, 0, none⟩ 1 1 [.int .u8 (c.toNat : Int)] rfl rfl ?c1 ?c2 ?c3 ?c4 ?c5 ?_)
 case c1 =>
  intro j u hj
  match j, hj with
  | 0, hj => simp at hj; subst hj; simp [Addr.add]
 case c2 => intro u hu; simp at hu; subst hu; rfl
 case c3 => unfold maxLen; omega
 case c4 => omega
 case c5 => simp; omega
 intro v' w2 hown hgrow _
 obtain ⟨d0, df, d1, h2, g2⟩ := pr_put (l2 := l ++ [c]) H1.out hgrow (by rw [List.length_append, Lib.byteCells_append, byteC]; exact hown) (by simp; omega)
 obtain ⟨A, n, hv⟩ := h2.len
 rw [List.length_append, List.length_singleton] at hv
 subst hv
 have H2 := hid h2
 have G2 := hid (G1.out.trans g2)
 clear h2 g2 hown hgrow
 go_wp2
 go_ret
 exact ⟨rfl, ⟨_, _, .inr rfl, H2.out⟩, G2.out⟩
set_option maxHeartbeats 1000000 in
set_option maxRecDepth 100000 in
theorem pws_any {base p : Nat} {w : World} {l : List UInt8} {bad : Bool} (s : ByteArray) (h : PrAt base p w l bad) (hl : l.length + s.size ≤ 140737488355328) (hb : base ≤ w.heap.size) :
    Calls Tryz.prog 35 #[.pointer (some ⟨p, 0, none⟩), .string s] w fun e w' => (∃ x, e = .returned x) ∧ PrAt base p w' (l ++ s.data.toList) bad ∧ PrGo base p w w' := by
 obtain ⟨i0, hi, hz0, hz1, hz2⟩ := info_parts infoB1
 have HC := hid (cc_any h)
 clear h
 go_enter Tryz.func35, Tryz.ntmps35
 go_wp2_with (go_at_call 61; refine HC.out.mono ?_)
 rintro e w1 ⟨rfl, v, h1, g1⟩
 have c1 := h1.c1
 have hsz := g1.size
 have H1 := hid h1
 have G1 := hid g1
 clear h1 g1 HC
 go_wp2_with (at_builtin; refine Lib.wpList_append_own_string _ rfl _ _ 66 9 rfl base 5 i0 Tryz.underlying66 Tryz.underlying9 hi hz0 hz1 hz2 _ _ _ rfl H1.out.ow s rfl ?c3 ?c4 ?c5 ?_)
 case c3 => unfold maxLen; omega
 case c4 => omega
 case c5 => omega
 intro v' w2 hown hgrow _
 obtain ⟨d0, df, d1, h2, g2⟩ := pr_put (l2 := l ++ s.data.toList) H1.out hgrow (by rw [List.length_append, Lib.byteCells_append, ← Lib.strCells_eq]; rw [show s.data.toList.length = s.size from Array.length_toList]; exact hown) (by omega)
 obtain ⟨A, n, hv⟩ := h2.len
 rw [List.length_append, show s.data.toList.length = s.size from Array.length_toList] at hv
 subst hv
 have H2 := hid h2
 have G2 := hid (G1.out.trans g2)
 clear h2 g2 hown hgrow
 go_wp2
 go_ret2
 exact ⟨⟨_, rfl⟩, ⟨_, _, .inr rfl, H2.out⟩, G2.out⟩
theorem plen_any {base p : Nat} {w : World} {l : List UInt8} {bad : Bool} (h : PrAt base p w l bad) :
    Calls Tryz.prog 96 #[.pointer (some ⟨p, 0, none⟩)] w fun e w' => e = .returned (.int .i64 (l.length : Int)) ∧ w = w' := by
 obtain ⟨v, a, _, h⟩ := h
 obtain ⟨A, c, rfl⟩ := h.len
 have c1 := h.c1
 clear h
 go_enter Tryz.func96, Tryz.ntmps96
 go_wp2
 go_ret
 exact ⟨rfl, rfl⟩
abbrev bs (l : List UInt8) : Str := ⟨l.toArray⟩
def sgnsL : List Str := [bs [43], bs [45], bs [42], bs [47], bs [37], bs [60], bs [61, 61]]
def sgn (k : Int) : Str := sgnsL[(k - 3).toNat]?.getD (bs [])
def itoaS (n : Int) : Str := ⟨(Lib.itoa n).toArray⟩
def Ex.pair : Ex → Option (Ex × Ex)
 | .mk k _ _ [a, b] => if 3 ≤ k ∧ k ≤ 9 then some (a, b) else none
 | _ => none
theorem Ex.pair_some {t a b : Ex} (h : t.pair = some (a, b)) : (3 ≤ t.kind ∧ t.kind ≤ 9) ∧ t.args = [a, b] := by
 unfold Ex.pair at h
 split at h
 ·split at h
  ·simp only [Option.some.injEq, Prod.mk.injEq] at h
   obtain ⟨rfl, rfl⟩ := h
   exact ⟨by assumption, rfl⟩
  ·cases h
 ·cases h
theorem Ex.pair_none {t : Ex} (h : t.pair = none) : (t.kind < 3 ∨ 9 < t.kind) ∨ t.args.length ≠ 2 := by
 obtain ⟨k, n, s, args⟩ := t
 match args, h with
 | [], h => right; simp [Ex.args]
 | [a], h => right; simp [Ex.args]
 | [a, b], h =>
  unfold Ex.pair at h
  left
  simp only at h
  split at h
  ·cases h
  ·simp only [Ex.kind]; omega
 | a :: b :: c :: r, h => right; simp [Ex.args]
theorem Ex.pair_size {t a b : Ex} (h : t.pair = some (a, b)) : SizeOf.sizeOf a < SizeOf.sizeOf t ∧ SizeOf.sizeOf b < SizeOf.sizeOf t := by
 obtain ⟨k, n, s, args⟩ := t
 have := (Ex.pair_some h).2
 simp only [Ex.args] at this
 subst this
 simp
 omega
theorem Ex.indP {motive : Ex → Prop} (one : ∀ t, t.pair = none → motive t) (two : ∀ t a b, t.pair = some (a, b) → motive a → motive b → motive t) (t : Ex) : motive t := by
 have key : ∀ n (t : Ex), SizeOf.sizeOf t ≤ n → motive t := by
  intro n
  induction n with
  | zero => intro t h; obtain ⟨k, n, s, args⟩ := t; simp at h
  | succ n ih =>
   intro t h
   cases hp : t.pair with
   | none => exact one t hp
   | some x =>
    obtain ⟨a, b⟩ := x
    have hs := Ex.pair_size hp
    exact two t a b hp (ih a (by omega)) (ih b (by omega))
 exact key _ t (Nat.le_refl _)
abbrev Tks := List Str × Bool
def pairT (k : Int) (inner : Bool) (A B : Tks) : Tks := (if inner then [bs [40]] ++ (A.1 ++ [sgn k] ++ B.1) ++ [bs [41]] else A.1 ++ [sgn k] ++ B.1, A.2 && B.2)
def tkE (neg : Bool) (t : Ex) (inner : Bool) : Tks :=
 match h : t.pair with
 | some (a, b) => pairT t.kind inner (tkE neg a true) (tkE neg b true)
 | none => if t.kind = 1 then (if 0 ≤ t.num then ([itoaS t.num], true) else (if neg then [itoaS t.num] else [], false)) else if t.kind = 2 then ([t.name], knameB t.name) else ([], false)
termination_by SizeOf.sizeOf t
decreasing_by all_goals (have hs := Ex.pair_size h; omega)
theorem tkE_pair {neg : Bool} {t a b : Ex} (h : t.pair = some (a, b)) (inner : Bool) : tkE neg t inner = pairT t.kind inner (tkE neg a true) (tkE neg b true) := by
 rw [tkE]; split <;> simp_all
theorem tkE_none {neg : Bool} {t : Ex} (h : t.pair = none) (inner : Bool) : tkE neg t inner = if t.kind = 1 then (if 0 ≤ t.num then ([itoaS t.num], true) else (if neg then [itoaS t.num] else [], false)) else if t.kind = 2 then ([t.name], knameB t.name) else ([], false) := by
 rw [tkE]; split <;> simp_all
theorem tkE_neg (t : Ex) : ∀ inner, (tkE true t inner).2 = (tkE false t inner).2 ∧ ((tkE false t inner).2 = true → (tkE true t inner).1 = (tkE false t inner).1) := by
 induction t using Ex.indP with
 | one t h =>
  intro inner
  rw [tkE_none h, tkE_none h]
  split
  ·split
   ·exact ⟨rfl, fun _ => rfl⟩
   ·exact ⟨rfl, fun h => by cases h⟩
  ·exact ⟨rfl, fun _ => rfl⟩
 | two t a b h iha ihb =>
  intro inner
  rw [tkE_pair h, tkE_pair h]
  unfold pairT
  refine ⟨by simp only [(iha true).1, (ihb true).1], fun ho => ?_⟩
  simp only [Bool.and_eq_true] at ho
  simp only [(iha true).2 ho.1, (ihb true).2 ho.2]
theorem Ex.pair_wt {t a b : Ex} (h : t.pair = some (a, b)) : a.wt + b.wt + 1 ≤ t.wt := by
 obtain ⟨k, n, s, args⟩ := t
 have := (Ex.pair_some h).2
 simp only [Ex.args] at this
 subst this
 simp only [Ex.wt, Ex.wts]
 omega
theorem Ex.wt_pos' (t : Ex) : 1 + t.name.size ≤ t.wt := by obtain ⟨k, n, s, args⟩ := t; simp only [Ex.wt, Ex.name]; omega
def tsz (l : List Str) : Nat := (l.map fun s => s.size + 1).sum
theorem tsz_app (a b : List Str) : tsz (a ++ b) = tsz a + tsz b := by simp [tsz]
theorem tsz_len (l : List Str) : l.length ≤ tsz l := by
 induction l with
 | nil => simp
 | cons s r ih => simp [tsz] at ih ⊢; omega
theorem nDigK : ∀ (k u : Nat), 1 ≤ k → u < 10 ^ k → Lib.nDigits u ≤ k
 | 0, _, h, _ => by omega
 | 1, u, _, h => by rw [Lib.nDigits_small (by simpa using h)]; exact Nat.le_refl _
 | k + 2, u, _, h => by
  by_cases h1 : u < 10
  ·rw [Lib.nDigits_small h1]; omega
  ·rw [Lib.nDigits_big h1]
   have := nDigK (k + 1) (u / 10) (by omega) (by rw [Nat.pow_succ] at h; omega)
   omega
theorem itoaS_size (n : Int) (h0 : -9223372036854775808 ≤ n) (h1 : n ≤ 9223372036854775807) : (itoaS n).size ≤ 20 := by
 have e : (itoaS n).size = (Lib.itoa n).length := by unfold itoaS; simp [ByteArray.size]
 rw [e]
 unfold Lib.itoa
 split
 ·rw [List.length_cons, Lib.decDigits_length]
  have := nDigK 19 n.natAbs (by decide) (by omega)
  omega
 ·rw [Lib.decDigits_length]
  have := nDigK 19 n.toNat (by decide) (by omega)
  omega
theorem sgn_size (k : Int) : (sgn k).size ≤ 2 := by
 unfold sgn
 cases h : sgnsL[(k - 3).toNat]? with
 | none => decide
 | some s =>
  have hm := List.mem_of_getElem? h
  have key : ∀ s ∈ sgnsL, s.size ≤ 2 := by decide
  exact key s hm
theorem tsz_one (s : Str) : tsz [s] = s.size + 1 := by simp [tsz]
def putB (acc : List UInt8) (s : Str) : List UInt8 := (if acc.length = 0 then acc else acc ++ [32]) ++ s.data.toList
def putL (acc : List UInt8) (ls : List Str) : List UInt8 := ls.foldl putB acc
theorem putB_len (acc : List UInt8) (s : Str) : (putB acc s).length ≤ acc.length + (s.size + 1) := by
 unfold putB
 have h : s.data.toList.length = s.size := Array.length_toList
 split <;> simp only [List.length_append, h, List.length_singleton] <;> omega
theorem putL_len (ls : List Str) : ∀ acc : List UInt8, (putL acc ls).length ≤ acc.length + tsz ls := by
 induction ls with
 | nil => intro acc; simp [putL, tsz]
 | cons s r ih =>
  intro acc
  have h1 := ih (putB acc s)
  have h2 := putB_len acc s
  show (putL (putB acc s) r).length ≤ _
  have h3 : tsz (s :: r) = s.size + 1 + tsz r := by simp [tsz]
  omega
theorem putL_app (acc : List UInt8) (a b : List Str) : putL acc (a ++ b) = putL (putL acc a) b := by unfold putL; rw [List.foldl_append]
theorem tsz_take (ls : List Str) (q : Nat) : tsz (ls.take q) ≤ tsz ls := by
 conv => rhs; rw [← List.take_append_drop q ls, tsz_app]
 omega
theorem tsz_at (ls : List Str) {q : Nat} (hq : q < ls.length) : tsz (ls.take q) + (ls[q].size + 1) ≤ tsz ls := by
 have h := tsz_take ls (q + 1)
 rw [List.take_succ_eq_append_getElem hq, tsz_app, tsz_one] at h
 exact h
set_option maxHeartbeats 1000000 in
set_option maxRecDepth 100000 in
theorem put_any {base p b : Nat} {w : World} {acc : List UInt8} {bad : Bool} (ls : List Str) (h : PrAt base p w acc bad) (hx : BoxIs w b (ls.map Value.string).toArray 9) (hbp : b ≠ p) (hb : base ≤ w.heap.size) (hl : acc.length + tsz ls ≤ 140737488355328) :
    Calls Tryz.prog 75 #[.pointer (some ⟨p, 0, none⟩), .slice (some ⟨b, 0, none⟩) ls.length ls.length] w fun e w' => (∃ x, e = .returned x) ∧ PrAt base p w' (putL acc ls) bad ∧ PrGo base p w w' := by
 have H := hid h
 have HX := hid hx
 have htl := tsz_len ls
 clear h hx
 go_enter Tryz.func75, Tryz.ntmps75
 go_wp2_with fail
 go_loopw [8] (fun t8 wr => ∃ q : Nat, q ≤ ls.length ∧ t8 = .int .i64 q ∧ Hid (PrAt base p wr (putL acc (ls.take q)) bad) ∧ Hid (PrGo base p w wr)) (fun t8 _ => ls.length - (intOf t8).toNat)
 case atStart => exact ⟨0, by omega, rfl, hid (by simpa [putL] using H.out), hid (PrGo.refl _ _ _)⟩
 case round =>
  obtain ⟨q, hq, rfl, HP, HG⟩ := hrel
  by_cases hlt : q < ls.length
  ·have hbx := HX.out.go HG.out hbp (by decide)
   have e0 : wr.cell? ⟨b, q, none⟩ = some (.string ls[q]) := by rw [hbx.cell q]; simp [hlt]
   have hbl := hbx.lt
   have hpl := HP.out.lt
   have hbw : base ≤ wr.heap.size := Nat.le_trans hb HG.out.size
   have hts := tsz_at ls hlt
   have HA := hid (show putL acc (ls.take (q + 1)) = putB (putL acc (ls.take q)) ls[q] by rw [List.take_succ_eq_append_getElem hlt, putL_app]; rfl)
   have hal := putL_len (ls.take q) acc
   obtain ⟨s, hs⟩ : ∃ s, s = ls[q] := ⟨_, rfl⟩
   rw [← hs] at e0 hts HA
   obtain ⟨ac, hac⟩ : ∃ ac, ac = putL acc (ls.take q) := ⟨_, rfl⟩
   rw [← hac] at HP HA hal
   clear hbx hs hac
   go_wp2_with (go_at_call 96; refine (plen_any HP.out).mono ?_)
   rintro e w1 ⟨rfl, rfl⟩
   by_cases h0 : ac.length = 0
   ·skip
    have HA2 := hid (show putL acc (ls.take (q + 1)) = ac ++ s.data.toList by rw [HA.out]; unfold putB; rw [if_pos h0])
    rw [h0]
    go_wp2_with (go_at_call 35; refine (pws_any s HP.out (by omega) hbw).mono ?_)
    rintro e w2 ⟨⟨x, rfl⟩, h2, g2⟩
    have H2 := hid h2
    have G2 := hid (HG.out.trans g2)
    clear h2 g2 e0
    go_wp2_with fail
    go_roundw
    case rel => exact ⟨q + 1, by omega, by go_num, hid (by rw [HA2.out]; exact H2.out), hid G2.out⟩
    case measure => simp [intOf]; omega
   ·have e1 : (0 : Int) < (ac.length : Int) := by omega
    have e2 : 0 < ac.length := by omega
    have HA2 := hid (show putL acc (ls.take (q + 1)) = (ac ++ [32]) ++ s.data.toList by rw [HA.out]; unfold putB; rw [if_neg h0])
    go_wp2_with (go_at_call 36; refine (pwb_any 32 HP.out (by omega) hbw).mono ?_)
    rintro e w2 ⟨rfl, h2, g2⟩
    have H2 := hid h2
    have G2 := hid (HG.out.trans g2)
    have hz2 := g2.size
    clear h2 g2 e0
    go_wp2_with (go_at_call 35; refine (pws_any s H2.out (by simp; omega) (by omega)).mono ?_)
    rintro e w3 ⟨⟨x, rfl⟩, h3, g3⟩
    have H3 := hid h3
    have G3 := hid (G2.out.trans g3)
    clear h3 g3
    go_wp2_with fail
    go_roundw
    case rel => exact ⟨q + 1, by omega, by go_num, hid (by rw [HA2.out]; exact H3.out), hid G3.out⟩
    case measure => simp [intOf]; omega
  ·have hql : q = ls.length := by omega
   subst hql
   rw [List.take_of_length_le (Nat.le_refl _)] at HP
   go_wp2
   go_end0
   exact ⟨⟨_, rfl⟩, HP.out, HG.out⟩
set_option maxHeartbeats 1000000 in
set_option maxRecDepth 100000 in
theorem put_d (u : FrameMode) {base p b : Nat} {w : World} {acc : List UInt8} {bad : Bool} (ls : List Str) (h : PrAt base p w acc bad) (hx : BoxIs w b (ls.map Value.string).toArray 9) (hbp : b ≠ p) (hb : base ≤ w.heap.size) (hl : acc.length + tsz ls ≤ 140737488355328) :
    CallsD Tryz.prog 75 #[.pointer (some ⟨p, 0, none⟩), .slice (some ⟨b, 0, none⟩) ls.length ls.length] u w fun e u' w' => u' = u ∧ ( (∃ x, e = .returned x) ∧ PrAt base p w' (putL acc ls) bad ∧ PrGo base p w w') := by
 have H := hid h
 have HX := hid hx
 have htl := tsz_len ls
 clear h hx
 go_enter_d Tryz.func75, Tryz.ntmps75
 go_wp2_with fail
 go_loopw [8] (fun t8 wr => ∃ q : Nat, q ≤ ls.length ∧ t8 = .int .i64 q ∧ Hid (PrAt base p wr (putL acc (ls.take q)) bad) ∧ Hid (PrGo base p w wr)) (fun t8 _ => ls.length - (intOf t8).toNat)
 case atStart => exact ⟨0, by omega, rfl, hid (by simpa [putL] using H.out), hid (PrGo.refl _ _ _)⟩
 case round =>
  obtain ⟨q, hq, rfl, HP, HG⟩ := hrel
  by_cases hlt : q < ls.length
  ·have hbx := HX.out.go HG.out hbp (by decide)
   have e0 : wr.cell? ⟨b, q, none⟩ = some (.string ls[q]) := by rw [hbx.cell q]; simp [hlt]
   have hbl := hbx.lt
   have hpl := HP.out.lt
   have hbw : base ≤ wr.heap.size := Nat.le_trans hb HG.out.size
   have hts := tsz_at ls hlt
   have HA := hid (show putL acc (ls.take (q + 1)) = putB (putL acc (ls.take q)) ls[q] by rw [List.take_succ_eq_append_getElem hlt, putL_app]; rfl)
   have hal := putL_len (ls.take q) acc
   obtain ⟨s, hs⟩ : ∃ s, s = ls[q] := ⟨_, rfl⟩
   rw [← hs] at e0 hts HA
   obtain ⟨ac, hac⟩ : ∃ ac, ac = putL acc (ls.take q) := ⟨_, rfl⟩
   rw [← hac] at HP HA hal
   clear hbx hs hac
   go_wp2_with (go_at_call 96; refine (plen_any HP.out).mono ?_)
   rintro e w1 ⟨rfl, rfl⟩
   by_cases h0 : ac.length = 0
   ·skip
    have HA2 := hid (show putL acc (ls.take (q + 1)) = ac ++ s.data.toList by rw [HA.out]; unfold putB; rw [if_pos h0])
    rw [h0]
    go_wp2_with (go_at_call 35; refine (pws_any s HP.out (by omega) hbw).mono ?_)
    rintro e w2 ⟨⟨x, rfl⟩, h2, g2⟩
    have H2 := hid h2
    have G2 := hid (HG.out.trans g2)
    clear h2 g2 e0
    go_wp2_with fail
    go_roundw
    case rel => exact ⟨q + 1, by omega, by go_num, hid (by rw [HA2.out]; exact H2.out), hid G2.out⟩
    case measure => simp [intOf]; omega
   ·have e1 : (0 : Int) < (ac.length : Int) := by omega
    have e2 : 0 < ac.length := by omega
    have HA2 := hid (show putL acc (ls.take (q + 1)) = (ac ++ [32]) ++ s.data.toList by rw [HA.out]; unfold putB; rw [if_neg h0])
    go_wp2_with (go_at_call 36; refine (pwb_any 32 HP.out (by omega) hbw).mono ?_)
    rintro e w2 ⟨rfl, h2, g2⟩
    have H2 := hid h2
    have G2 := hid (HG.out.trans g2)
    have hz2 := g2.size
    clear h2 g2 e0
    go_wp2_with (go_at_call 35; refine (pws_any s H2.out (by simp; omega) (by omega)).mono ?_)
    rintro e w3 ⟨⟨x, rfl⟩, h3, g3⟩
    have H3 := hid h3
    have G3 := hid (G2.out.trans g3)
    clear h3 g3
    go_wp2_with fail
    go_roundw
    case rel => exact ⟨q + 1, by omega, by go_num, hid (by rw [HA2.out]; exact H3.out), hid G3.out⟩
    case measure => simp [intOf]; omega
  ·have hql : q = ls.length := by omega
   subst hql
   rw [List.take_of_length_le (Nat.le_refl _)] at HP
   go_wp2
   go_end0
   exact ⟨⟨_, rfl⟩, HP.out, HG.out⟩
theorem put_new {base p : Nat} {w : World} {acc : List UInt8} {bad : Bool} (ls : List Str) (h : PrAt base p w acc bad) (hb : base ≤ w.heap.size) (hl : acc.length + tsz ls ≤ 140737488355328) :
    Calls Tryz.prog 75 #[.pointer (some ⟨p, 0, none⟩), .slice (some ⟨w.heap.size, 0, none⟩) ls.length ls.length] (w.alloc (.cells (ls.map Value.string).toArray 9)) fun e w' => (∃ x, e = .returned x) ∧ PrAt base p w' (putL acc ls) bad ∧ PrGo base p w w' := by
 have hbl : Below w.heap.size w (w.alloc (.cells (ls.map Value.string).toArray 9)) := (Below.refl _ _).alloc (Nat.le_refl _) _
 refine (put_any ls (h.below hbl) (BoxIs.made w _ 9) (by have := h.lt; omega) (by simp; omega) hl).mono ?_
 rintro e w' ⟨he, h1, h2⟩
 exact ⟨he, h1, (PrGo.of_below hbl hb).trans h2⟩
end Go.Proofs.YtnpgpcnkdocknaaGreatDoor
namespace Go.Proofs.YtnpgpcnkdocknaaGreatDoor
open Go.Shelf Go.RowKit
set_option linter.unusedVariables false
def laysFJ_ren : Go.Shelf.Ren := ⟨fun | 173 => 37 | 246 => 62 | 283 => 86 | 284 => 87 | 285 => 88 | 286 => 89 | 129 => 110 | 317 => 109 | 318 => 111 | 319 => 112 | 320 => 113 | 337 => 123 | 338 => 124 | n => n, fun | 2 => 2 | 3 => 3 | 9 => 9 | 4 => 4 | 171 => 137 | 0 => 0 | 53 => 138 | 37 => 66 | 5 => 5 | 173 => 141 | 212 => 158 | 51 => 159 | 20 => 20 | 213 => 160 | 46 => 149 | 232 => 174 | 233 => 175 | n => n, fun | 17 => 0 | 18 => 5 | 19 => 6 | n => n⟩
theorem laysFJ : Go.Proofs.LaysM.n173 Tryz.prog laysFJ_ren where
 mixed := by kernel_rfl
 f129 := Tryz.func110.trans (congrArg some (by kernel_rfl))
 f173 := Tryz.func37.trans (congrArg some (by kernel_rfl))
 f246 := Tryz.func62.trans (congrArg some (by kernel_rfl))
 f283 := Tryz.func86.trans (congrArg some (by kernel_rfl))
 f284 := Tryz.func87.trans (congrArg some (by kernel_rfl))
 f285 := Tryz.func88.trans (congrArg some (by kernel_rfl))
 f286 := Tryz.func89.trans (congrArg some (by kernel_rfl))
 f317 := Tryz.func109.trans (congrArg some (by kernel_rfl))
 f318 := Tryz.func111.trans (congrArg some (by kernel_rfl))
 f319 := Tryz.func112.trans (congrArg some (by kernel_rfl))
 f320 := Tryz.func113.trans (congrArg some (by kernel_rfl))
 f337 := Tryz.func123.trans (congrArg some (by kernel_rfl))
 f338 := Tryz.func124.trans (congrArg some (by kernel_rfl))
 t0 := Tryz.underlying0
 a0 := Tryz.isAgg0
 z0 := Tryz.sizeOf0
 v0 := Tryz.zeroValue0
 t2 := Tryz.underlying2
 a2 := Tryz.isAgg2
 z2 := Tryz.sizeOf2
 v2 := Tryz.zeroValue2
 t3 := Tryz.underlying3
 a3 := Tryz.isAgg3
 z3 := Tryz.sizeOf3
 v3 := Tryz.zeroValue3
 t4 := Tryz.underlying4
 a4 := Tryz.isAgg4
 z4 := Tryz.sizeOf4
 v4 := Tryz.zeroValue4
 t5 := Tryz.underlying5
 a5 := Tryz.isAgg5
 z5 := Tryz.sizeOf5
 v5 := Tryz.zeroValue5
 t9 := Tryz.underlying9
 a9 := Tryz.isAgg9
 z9 := Tryz.sizeOf9
 v9 := Tryz.zeroValue9
 t20 := Tryz.underlying20
 a20 := Tryz.isAgg20
 z20 := Tryz.sizeOf20
 v20 := Tryz.zeroValue20
 t37 := Tryz.underlying66
 a37 := Tryz.isAgg66
 z37 := Tryz.sizeOf66
 v37 := Tryz.zeroValue66
 t46 := Tryz.underlying149
 a46 := Tryz.isAgg149
 z46 := Tryz.sizeOf149
 v46 := Tryz.zeroValue149
 t51 := Tryz.underlying159
 a51 := Tryz.isAgg159
 z51 := Tryz.sizeOf159
 v51 := Tryz.zeroValue159
 t53 := Tryz.underlying138
 a53 := Tryz.isAgg138
 z53 := Tryz.sizeOf138
 v53 := Tryz.zeroValue138
 t171 := Tryz.underlying137
 a171 := Tryz.isAgg137
 z171 := Tryz.sizeOf137
 v171 := Tryz.zeroValue137
 t173 := Tryz.underlying141
 a173 := Tryz.isAgg141
 z173 := Tryz.sizeOf141
 v173 := Tryz.zeroValue141
 t212 := Tryz.underlying158
 a212 := Tryz.isAgg158
 z212 := Tryz.sizeOf158
 v212 := Tryz.zeroValue158
 t213 := Tryz.underlying160
 a213 := Tryz.isAgg160
 z213 := Tryz.sizeOf160
 t232 := Tryz.underlying174
 a232 := Tryz.isAgg174
 z232 := Tryz.sizeOf174
 v232 := Tryz.zeroValue174
 t233 := Tryz.underlying175
 a233 := Tryz.isAgg175
 z233 := Tryz.sizeOf175
 v233 := Tryz.zeroValue175
 g17 := by kernel_rfl
 g18 := by kernel_rfl
 g19 := by kernel_rfl
 i0 := by kernel_rfl
 i2 := by kernel_rfl
 i3 := by kernel_rfl
 i4 := by kernel_rfl
 i5 := by kernel_rfl
 i9 := by kernel_rfl
 i20 := by kernel_rfl
 i37 := by kernel_rfl
 i46 := by kernel_rfl
 i51 := by kernel_rfl
 i53 := by kernel_rfl
 i171 := by kernel_rfl
 i173 := by kernel_rfl
 i212 := by kernel_rfl
 i232 := by kernel_rfl
 i233 := by kernel_rfl
 m17 := by kernel_rfl
 m18 := by kernel_rfl
 m19 := by kernel_rfl
def laysFs_ren : Go.Shelf.Ren := ⟨fun | 157 => 116 | 229 => 126 | 199 => 127 | 261 => 129 | 311 => 130 | 312 => 131 | n => n, fun | 9 => 9 | 31 => 37 | 3 => 3 | 5 => 5 | 4 => 4 | 119 => 168 | 0 => 0 | 40 => 170 | 152 => 176 | 21 => 21 | 154 => 178 | 51 => 159 | 141 => 180 | 196 => 184 | 193 => 181 | 198 => 187 | 49 => 185 | 194 => 182 | 201 => 190 | 226 => 192 | 46 => 149 | 227 => 193 | n => n, fun | 0 => 4 | 6 => 7 | n => n⟩
theorem laysFs : Go.Proofs.LaysM.n157 Tryz.prog laysFs_ren where
 mixed := by kernel_rfl
 f157 := Tryz.func116.trans (congrArg some (by kernel_rfl))
 f199 := Tryz.func127.trans (congrArg some (by kernel_rfl))
 f229 := Tryz.func126.trans (congrArg some (by kernel_rfl))
 f261 := Tryz.func129.trans (congrArg some (by kernel_rfl))
 f311 := Tryz.func130.trans (congrArg some (by kernel_rfl))
 f312 := Tryz.func131.trans (congrArg some (by kernel_rfl))
 t0 := Tryz.underlying0
 a0 := Tryz.isAgg0
 z0 := Tryz.sizeOf0
 v0 := Tryz.zeroValue0
 t3 := Tryz.underlying3
 a3 := Tryz.isAgg3
 z3 := Tryz.sizeOf3
 v3 := Tryz.zeroValue3
 t4 := Tryz.underlying4
 a4 := Tryz.isAgg4
 z4 := Tryz.sizeOf4
 v4 := Tryz.zeroValue4
 t5 := Tryz.underlying5
 a5 := Tryz.isAgg5
 z5 := Tryz.sizeOf5
 v5 := Tryz.zeroValue5
 t9 := Tryz.underlying9
 a9 := Tryz.isAgg9
 z9 := Tryz.sizeOf9
 v9 := Tryz.zeroValue9
 t21 := Tryz.underlying21
 a21 := Tryz.isAgg21
 z21 := Tryz.sizeOf21
 v21 := Tryz.zeroValue21
 t31 := Tryz.underlying37
 a31 := Tryz.isAgg37
 z31 := Tryz.sizeOf37
 v31 := Tryz.zeroValue37
 t40 := Tryz.underlying170
 a40 := Tryz.isAgg170
 z40 := Tryz.sizeOf170
 v40 := Tryz.zeroValue170
 t46 := Tryz.underlying149
 a46 := Tryz.isAgg149
 z46 := Tryz.sizeOf149
 v46 := Tryz.zeroValue149
 t49 := Tryz.underlying185
 a49 := Tryz.isAgg185
 z49 := Tryz.sizeOf185
 v49 := Tryz.zeroValue185
 t51 := Tryz.underlying159
 a51 := Tryz.isAgg159
 z51 := Tryz.sizeOf159
 v51 := Tryz.zeroValue159
 t119 := Tryz.underlying168
 a119 := Tryz.isAgg168
 z119 := Tryz.sizeOf168
 t141 := Tryz.underlying180
 a141 := Tryz.isAgg180
 z141 := Tryz.sizeOf180
 v141 := Tryz.zeroValue180
 t152 := Tryz.underlying176
 a152 := Tryz.isAgg176
 z152 := Tryz.sizeOf176
 v152 := Tryz.zeroValue176
 t154 := Tryz.underlying178
 a154 := Tryz.isAgg178
 z154 := Tryz.sizeOf178
 v154 := Tryz.zeroValue178
 t193 := Tryz.underlying181
 a193 := Tryz.isAgg181
 z193 := Tryz.sizeOf181
 v193 := Tryz.zeroValue181
 t194 := Tryz.underlying182
 a194 := Tryz.isAgg182
 z194 := Tryz.sizeOf182
 v194 := Tryz.zeroValue182
 t196 := Tryz.underlying184
 a196 := Tryz.isAgg184
 z196 := Tryz.sizeOf184
 v196 := Tryz.zeroValue184
 t198 := Tryz.underlying187
 a198 := Tryz.isAgg187
 z198 := Tryz.sizeOf187
 v198 := Tryz.zeroValue187
 t201 := Tryz.underlying190
 a201 := Tryz.isAgg190
 z201 := Tryz.sizeOf190
 v201 := Tryz.zeroValue190
 t226 := Tryz.underlying192
 a226 := Tryz.isAgg192
 z226 := Tryz.sizeOf192
 v226 := Tryz.zeroValue192
 t227 := Tryz.underlying193
 a227 := Tryz.isAgg193
 z227 := Tryz.sizeOf193
 v227 := Tryz.zeroValue193
 g0 := by kernel_rfl
 g6 := by kernel_rfl
 i0 := by kernel_rfl
 i3 := by kernel_rfl
 i4 := by kernel_rfl
 i5 := by kernel_rfl
 i9 := by kernel_rfl
 i21 := by kernel_rfl
 i31 := by kernel_rfl
 i40 := by kernel_rfl
 i46 := by kernel_rfl
 i49 := by kernel_rfl
 i51 := by kernel_rfl
 i141 := by kernel_rfl
 i152 := by kernel_rfl
 i154 := by kernel_rfl
 i193 := by kernel_rfl
 i194 := by kernel_rfl
 i196 := by kernel_rfl
 i198 := by kernel_rfl
 i201 := by kernel_rfl
 i226 := by kernel_rfl
 i227 := by kernel_rfl
 m0 := by kernel_rfl
 m6 := by kernel_rfl
theorem gAsc : Tryz.prog.globalNamed "strings.asciiSpace" = some 4 := by kernel_rfl
structure FmtT (w : World) : Prop where
 pow : PowT w
 tab : Lib.TabIs Tryz.prog w "strings.asciiSpace" .u8 Lib.asciiSpaceTab
 lt : 4 < w.heap.size
theorem FmtT.below {w w' : World} {B : Nat} (h : FmtT w) (hb : Below B w w') (h1 : 0 < B) (h2 : 4 < B) : FmtT w' :=
 ⟨h.pow.below hb h1, var?_below hb gAsc h2 h.tab, Nat.lt_of_lt_of_le h.lt hb.size⟩
theorem FmtT.go {w w' : World} (h : FmtT w) (hb : Below w.heap.size w w') : FmtT w' := h.below hb h.pow.lt h.lt
theorem fj_n (n : Int) (h0 : -9223372036854775808 ≤ n) (h1 : n ≤ 9223372036854775807) (w : World) (hN : PowT w) :
    Calls Tryz.prog 37 #[.int .i64 n, .int .i64 10] w fun e w' => e = .returned (.string ⟨(Lib.itoa n).toArray⟩) ∧ Below w.heap.size w w' := by
 refine (Any.strconv_FormatInt_10 laysFJ n h0 h1 w hN.tab).mono ?_
 rintro e w' ⟨he, k, os, rfl⟩
 refine ⟨he, ?_⟩
 exact ⟨rfl, rfl, rfl, by simp [Sort.grow], fun i hi => by
  show ((w.drewN k).heap ++ os)[i]? = _
  rw [Array.getElem?_append_left (by show i < w.heap.size; omega)]
  rfl⟩
def signsText : ByteArray := ⟨#[43, 32, 45, 32, 42, 32, 47, 32, 37, 32, 60, 32, 61, 61]⟩
theorem signs_f : Lib.fields signsText.data.toList = [[43], [45], [42], [47], [37], [60], [61, 61]] := by decide +kernel
theorem signs_fields : (Lib.fields signsText.data.toList).map (fun l => Value.string ⟨l.toArray⟩) = [.string ⟨#[43]⟩, .string ⟨#[45]⟩, .string ⟨#[42]⟩, .string ⟨#[47]⟩, .string ⟨#[37]⟩, .string ⟨#[60]⟩, .string ⟨#[61, 61]⟩] := by rw [signs_f]; rfl
theorem signs_len : (Lib.fields signsText.data.toList).length = 7 := by rw [signs_f]; rfl
theorem signs_ascii : ∀ (j : Nat) b, signsText.data.toList[j]? = some b → b.toNat < 128 := fun j b h => by
 have key : ∀ b ∈ signsText.data.toList, b.toNat < 128 := by decide
 exact key b (List.mem_of_getElem? h)
theorem fields_n (w : World) (hN : FmtT w) :
    Calls Tryz.prog 116 #[.string signsText] w fun e w' => e = .returned (.slice (some ⟨w.heap.size, 0, none⟩) 7 7) ∧ w' = w.alloc (.cells #[.string ⟨#[43]⟩, .string ⟨#[45]⟩, .string ⟨#[42]⟩, .string ⟨#[47]⟩, .string ⟨#[37]⟩, .string ⟨#[60]⟩, .string ⟨#[61, 61]⟩] 9) := by
 refine (Any.strings_Fields_laid laysFs signsText w (by decide) signs_ascii hN.tab).mono ?_
 rintro e w' ⟨he, hw⟩
 rw [signs_len] at he
 rw [signs_fields] at hw
 exact ⟨he, hw⟩
end Go.Proofs.YtnpgpcnkdocknaaGreatDoor
namespace Go.Proofs.YtnpgpcnkdocknaaGreatDoor
open Go.RowKit
set_option linter.unusedVariables false
theorem nameOf_one (l : List UInt8) (t : LTok) (p : Nat) (e : Int) : nameOf l ([t], p, e) = (decide (e = 0) && decide (t.kind = 2) && (t.text == l)) := rfl
theorem kname_of (s : ByteArray) : knameB s = (nameOf s.data.toList (lexR s.data.toList) && !keptB s) := by unfold knameB; rw [name_eq]
set_option maxHeartbeats 1000000 in
set_option maxRecDepth 100000 in
theorem name_any (s : ByteArray) (hs : s.size ≤ 4398046511103) (w : World) : Calls Tryz.prog 97 #[.string s] w fun e w' => e = .returned (.bool (knameB s)) ∧ Below w.heap.size w w' := by
 have HK := hid (kname_of s)
 obtain ⟨R, hR⟩ : ∃ R, R = lexR s.data.toList := ⟨_, rfl⟩
 rw [← hR] at HK
 have HT := hid (fun w => tokens_any s hs w)
 rw [← hR] at HT
 clear hR
 obtain ⟨L, p, er⟩ := R
 by_cases her : er = 0
 ·subst her
  by_cases hl : L.length = 1
  ·obtain ⟨t, rfl⟩ : ∃ t, L = [t] := List.length_eq_one_iff.1 hl
   clear hl
   by_cases hk : t.kind = 2
   ·cases hx : (t.text == s.data.toList)
    ·have HZ := hid (show knameB s = false by rw [HK.out, nameOf_one, hx]; simp)
     have HX := hid hx
     have HKD := hid hk
     clear hx hk
     go_enter Tryz.func97, Tryz.ntmps97
     go_wp2_with fail
     refine (HT.out _).mono ?_
     rintro e w1 ⟨v, rfl, hr, hb⟩
     obtain ⟨A, cap, rfl, hcap, _⟩ := hr.form
     obtain ⟨b, off, rfl, hbS, hok, hc⟩ := RdL.flat hr (q := 0) (by simp)
     have c0 : w1.cell? ⟨b, off, none⟩ = some (.int .i64 2) := by have := hc 0 _ rfl; simpa [HKD.out] using this
     have c2 : w1.cell? ⟨b, off + 2, none⟩ = some (.string ⟨t.text.toArray⟩) := by have := hc 2 _ rfl; simpa using this
     have hcmp : (t.text == s.toList) = false := by rw [ByteArray.toList_eq]; exact HX.out
     clear hc hr hok
     go_wp2_with fail
     go_ret
     exact ⟨by rw [HZ.out]; rfl, hb⟩
    ·have HZ := hid (show knameB s = !keptB s by rw [HK.out, nameOf_one, hx]; simp [hk])
     have HX := hid hx
     have HKD := hid hk
     clear hx hk
     go_enter Tryz.func97, Tryz.ntmps97
     go_wp2_with fail
     refine (HT.out _).mono ?_
     rintro e w1 ⟨v, rfl, hr, hb⟩
     obtain ⟨A, cap, rfl, hcap, _⟩ := hr.form
     obtain ⟨b, off, rfl, hbS, hok, hc⟩ := RdL.flat hr (q := 0) (by simp)
     have c0 : w1.cell? ⟨b, off, none⟩ = some (.int .i64 2) := by have := hc 0 _ rfl; simpa [HKD.out] using this
     have c2 : w1.cell? ⟨b, off + 2, none⟩ = some (.string ⟨t.text.toArray⟩) := by have := hc 2 _ rfl; simpa using this
     have hcmp : (t.text == s.toList) = true := by rw [ByteArray.toList_eq]; exact HX.out
     clear hc hr hok
     go_wp2_with fail
     refine (kept_any s _).mono ?_
     rintro e w' ⟨rfl, rfl⟩
     go_wp2_with fail
     go_ret
     exact ⟨by rw [HZ.out]; rfl, hb⟩
   ·have HZ := hid (show knameB s = false by rw [HK.out, nameOf_one]; simp [hk])
    have hk' : (t.kind == 2) = false := by simpa using hk
    clear hk
    go_enter Tryz.func97, Tryz.ntmps97
    go_wp2_with fail
    refine (HT.out _).mono ?_
    rintro e w1 ⟨v, rfl, hr, hb⟩
    obtain ⟨A, cap, rfl, hcap, _⟩ := hr.form
    obtain ⟨b, off, rfl, hbS, hok, hc⟩ := RdL.flat hr (q := 0) (by simp)
    have c0 : w1.cell? ⟨b, off, none⟩ = some (.int .i64 t.kind) := by have := hc 0 _ rfl; simpa using this
    clear hc hr hok
    go_wp2_with fail
    go_ret
    exact ⟨by rw [HZ.out]; rfl, hb⟩
  ·have HZ := hid (show knameB s = false by
     rw [HK.out]
     unfold nameOf
     split
     ·rename_i h; injection h with h1 h2; subst h1; exact absurd rfl hl
     ·rfl)
   have hl' : ((L.length : Int) == 1) = false := by simp; omega
   clear hl
   go_enter Tryz.func97, Tryz.ntmps97
   go_wp2_with fail
   refine (HT.out _).mono ?_
   rintro e w1 ⟨v, rfl, hr, hb⟩
   obtain ⟨A, cap, rfl, hcap, _⟩ := hr.form
   clear hr
   go_wp2_with fail
   go_ret
   exact ⟨by rw [HZ.out]; rfl, hb⟩
 ·have HZ := hid (show knameB s = false by
    rw [HK.out]
    unfold nameOf
    split
    ·rename_i h; injection h with h1 h2; injection h2 with h2 h3; subst h3; simp [her]
    ·rfl)
  have her' : (er == 0) = false := by simpa using her
  clear her
  go_enter Tryz.func97, Tryz.ntmps97
  go_wp2_with fail
  refine (HT.out _).mono ?_
  rintro e w1 ⟨v, rfl, hr, hb⟩
  clear hr
  go_wp2_with fail
  go_ret
  exact ⟨by rw [HZ.out]; rfl, hb⟩
theorem sgn_at (k : Int) (h0 : 3 ≤ k) (h1 : k ≤ 9) : ∃ q : Nat, q < 7 ∧ k = 3 + q ∧ (#[Value.string ⟨#[43]⟩, .string ⟨#[45]⟩, .string ⟨#[42]⟩, .string ⟨#[47]⟩, .string ⟨#[37]⟩, .string ⟨#[60]⟩, .string ⟨#[61, 61]⟩] : Array Value)[q]? = some (.string (sgn k)) := by
 refine ⟨(k - 3).toNat, by omega, by omega, ?_⟩
 unfold sgn
 obtain ⟨q, hq⟩ : ∃ q, q = (k - 3).toNat := ⟨_, rfl⟩
 have hlt : q < 7 := by omega
 rw [← hq]
 match q, hlt with
 | 0, _ => rfl
 | 1, _ => rfl
 | 2, _ => rfl
 | 3, _ => rfl
 | 4, _ => rfl
 | 5, _ => rfl
 | 6, _ => rfl
 | n + 7, h => omega
set_option maxHeartbeats 1000000 in
set_option maxRecDepth 100000 in
theorem sign_any (k : Int) (h0 : 3 ≤ k) (h1 : k ≤ 9) (w : World) (hN : FmtT w) :
    Calls Tryz.prog 98 #[.int .i64 k] w fun e w' => e = .returned (.string (sgn k)) ∧ Below w.heap.size w w' := by
 obtain ⟨q, hq, rfl, hs⟩ := sgn_at k h0 h1
 generalize sgn (3 + (q : Int)) = sg at hs
 have HN := hid hN
 clear hN h0 h1
 go_enter Tryz.func98, Tryz.ntmps98
 go_wp2_with (go_at_call 116; refine (fields_n _ HN.out).mono ?_)
 rintro e w1 ⟨rfl, rfl⟩
 have hw1 : Below w.heap.size w (w.alloc (.cells #[.string ⟨#[43]⟩, .string ⟨#[45]⟩, .string ⟨#[42]⟩, .string ⟨#[47]⟩, .string ⟨#[37]⟩, .string ⟨#[60]⟩, .string ⟨#[61, 61]⟩] 9)) := (Below.refl _ _).alloc (Nat.le_refl _) _
 have HB := hid hw1
 have e0 : (w.alloc (.cells #[.string ⟨#[43]⟩, .string ⟨#[45]⟩, .string ⟨#[42]⟩, .string ⟨#[47]⟩, .string ⟨#[37]⟩, .string ⟨#[60]⟩, .string ⟨#[61, 61]⟩] 9)).cell? ⟨w.heap.size, q, none⟩ = some (.string sg) := by
  rw [(BoxIs.made w _ 9).cell q]; exact hs
 generalize (w.alloc (.cells #[.string ⟨#[43]⟩, .string ⟨#[45]⟩, .string ⟨#[42]⟩, .string ⟨#[47]⟩, .string ⟨#[37]⟩, .string ⟨#[60]⟩, .string ⟨#[61, 61]⟩] 9)) = W at *
 have e5 : (3 : Int) + (q : Int) - 3 = q := by omega
 go_wp2
 go_ret
 exact ⟨rfl, HB.out⟩
set_option maxHeartbeats 1000000 in
set_option maxRecDepth 100000 in
theorem pname_any {base p : Nat} {w : World} {acc : List UInt8} {bad : Bool} (s : ByteArray) (h : PrAt base p w acc bad) (hs : s.size ≤ 4398046511103) (hb : base ≤ w.heap.size) (hl : acc.length + (s.size + 1) ≤ 140737488355328) :
    Calls Tryz.prog 76 #[.pointer (some ⟨p, 0, none⟩), .string s] w fun e w' => (∃ x, e = .returned x) ∧ PrAt base p w' (putL acc [s]) (bad || !knameB s) ∧ PrGo base p w w' := by
 have key : ∀ (w1 : World) (b2 : Bool), PrAt base p w1 acc b2 → PrGo base p w w1 → ∀ v1, w1.cell? ⟨p, 2, none⟩ = some v1 → w1.frozen? ⟨p, 2, none⟩ = false ∧ PrAt base p (w1.setCell ⟨p, 2, none⟩ (.bool (bad || !knameB s))) acc (bad || !knameB s) ∧ PrGo base p w (w1.setCell ⟨p, 2, none⟩ (.bool (bad || !knameB s))) := by
  intro w1 b2 h1 g1 _ _
  obtain ⟨v, a, ha, h1⟩ := h1
  exact ⟨h1.fr 2, ⟨v, a, ha, h1.set2 _⟩, g1.be.setCell (p := ⟨p, 2, none⟩) h1.ge _, g1.ok.setCell ⟨p, 2, none⟩ rfl _⟩
 have c2 : w.cell? ⟨p, 2, none⟩ = some (.bool bad) := by obtain ⟨v, a, ha, h1⟩ := h; exact h1.c2
 have KEY := hid key
 have H := hid h
 have hpl := h.lt
 have HL := hid (show acc.length + tsz [s] ≤ 140737488355328 by rw [tsz_one]; exact hl)
 clear key h hl
 cases bad
 ·go_enter Tryz.func76, Tryz.ntmps76
  go_upto_region 1 with (go_at_call 97; refine (name_any s hs _).mono ?_)
  rintro e w1 ⟨rfl, hb1⟩
  have d2 : w1.cell? ⟨p, 2, none⟩ = some (.bool false) := (hb1.cell (p := ⟨p, 2, none⟩) hpl).trans c2
  obtain ⟨k1, k2, k3⟩ := KEY.out w1 false (H.out.below hb1) (PrGo.of_below hb1 hb) _ d2
  have K2 := hid k2
  have K3 := hid k3
  have hz := hb1.size
  clear k2 k3 KEY H
  simp only [Bool.false_or] at K2 K3 ⊢
  go_upto_region 1 with (fail)
  have hbz : base ≤ (w1.setCell ⟨p, 2, none⟩ (.bool (!knameB s))).heap.size := by rw [size_setCell]; omega
  generalize (w1.setCell ⟨p, 2, none⟩ (.bool (!knameB s))) = W at *
  clear d2 k1 c2 hb1 hz
  go_wp2_with (go_at_call 75; refine (put_new [s] K2.out hbz HL.out).mono ?_)
  rintro e w2 ⟨⟨x, rfl⟩, h2, g2⟩
  have H2 := hid h2
  have G2 := hid (K3.out.trans g2)
  clear h2 g2
  go_wp2
  go_end0
  exact ⟨⟨_, rfl⟩, by rw [Bool.false_or]; exact H2.out, G2.out⟩
 ·obtain ⟨k1, k2, k3⟩ := KEY.out w true H.out (PrGo.refl _ _ _) _ c2
  have K2 := hid k2
  have K3 := hid k3
  clear k2 k3 KEY H
  simp only [Bool.true_or] at K2 K3 ⊢
  go_enter Tryz.func76, Tryz.ntmps76
  go_upto_region 1 with (fail)
  have hbz : base ≤ (w.setCell ⟨p, 2, none⟩ (.bool true)).heap.size := by rw [size_setCell]; omega
  generalize (w.setCell ⟨p, 2, none⟩ (.bool true)) = W at *
  clear c2 k1
  go_wp2_with (go_at_call 75; refine (put_new [s] K2.out hbz HL.out).mono ?_)
  rintro e w2 ⟨⟨x, rfl⟩, h2, g2⟩
  have H2 := hid h2
  have G2 := hid (K3.out.trans g2)
  clear h2 g2
  go_wp2
  go_end0
  exact ⟨⟨_, rfl⟩, H2.out, G2.out⟩
end Go.Proofs.YtnpgpcnkdocknaaGreatDoor
