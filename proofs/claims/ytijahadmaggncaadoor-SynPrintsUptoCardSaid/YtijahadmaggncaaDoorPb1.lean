/- The printer: a strings.Builder within a greater block. -/
import Derived.Test.YtijahadmaggncaaDoorBlk
import Derived.Test.YtijahadmaggncaaDoorBut
import Derived.Lib.Walk
import Derived.Lib.Builder
import Derived.Lib.AppendStr
import Derived.Lib.UnsafeStr
import Derived.Lib.BufferKept
import Derived.WalkKit
import Derived.Laws.Externs
import Derived.Laws.BitsLemmas
import Derived.BigRegion
namespace Go.Proofs.YtijahadmaggncaaDoor
open Go.RowKit
set_option linter.unusedVariables false
/-- block p: a builder that holds l in its row v, and whether all is well -/
structure PrC (base p : Nat) (w : World) (l : List UInt8) (v a : Value) (bad : Bool) : Prop where
  ge : base ≤ p
  hp : w.heap[p]? = some (.cells #[a, v, .bool bad] 47 (0, 0))
  ow : w.ownsRow base 5 1 v l.length (Lib.byteCells l)
  ne : v.ownBlock ≠ some p
def PrAt (base p : Nat) (w : World) (l : List UInt8) (bad : Bool) : Prop := ∃ v a, (a = .pointer none ∨ a = .pointer (some ⟨p, 0, none⟩)) ∧ PrC base p w l v a bad
/-- only the printer's block, rows of bytes and what is above the base have changed -/
structure PrGo (base p : Nat) (w w' : World) : Prop where
  be : Below base w w'
  ok : Lib.OthersKept 5 (some p) w w'
section
variable {base p : Nat} {w w' w2 : World} {l : List UInt8} {v v' v2 a : Value} {bad : Bool}
theorem PrC.lt (h : PrC base p w l v a bad) : p < w.heap.size := by
  rcases Nat.lt_or_ge p w.heap.size with h' | h'
  · exact h'
  · have := h.hp; simp [Array.getElem?_eq_none h'] at this
theorem PrC.c0 (h : PrC base p w l v a bad) : w.cell? ⟨p, 0, none⟩ = some a := by simp [World.cell?, h.hp]
theorem PrC.c1 (h : PrC base p w l v a bad) : w.cell? ⟨p, 1, none⟩ = some v := by simp [World.cell?, h.hp]
theorem PrC.c2 (h : PrC base p w l v a bad) : w.cell? ⟨p, 2, none⟩ = some (.bool bad) := by simp [World.cell?, h.hp]
theorem PrC.shape (h : PrC base p w l v a bad) : w.shape? p = some (47, 3) := by simp [World.shape?, h.hp]
theorem PrC.fr (h : PrC base p w l v a bad) (i : Nat) : w.frozen? ⟨p, i, none⟩ = false := Lib.frozen_of_heap h.hp i
theorem PrC.rows (h : PrC base p w l v a bad) : ∀ k, v.ownBlock = some k → base ≤ k ∧ k < w.heap.size := fun k hk => h.ow.lt k hk
theorem PrC.len (h : PrC base p w l v a bad) : ∃ A c, v = .slice A l.length c := by
  rcases h.ow.2 with ⟨hv, h0⟩ | ⟨g, cap, cur, hv, _⟩
  · exact ⟨none, 0, by rw [hv, h0]⟩
  · exact ⟨_, _, hv⟩
theorem PrC.below (h : PrC base p w l v a bad) (hb : Below w.heap.size w w') : PrC base p w' l v a bad :=
  ⟨h.ge, (hb.block p h.lt).trans h.hp, h.ow.kept (row := none) ⟨hb.os, hb.tape, hb.output, hb.size, fun k hk _ => hb.block k hk⟩ (by cases v.ownBlock <;> simp), h.ne⟩
theorem PrC.set0 (h : PrC base p w l v a bad) (u : Value) : PrC base p (w.setCell ⟨p, 0, none⟩ u) l v u bad :=
  ⟨h.ge, by simp [World.setCell, Array.getElem?_modify, h.hp], h.ow.kept (row := some p) ⟨rfl, rfl, rfl, by simp [World.setCell], fun k _ hk => Below.heap_setCell _ _ _ _ (fun e => hk (by simp [e]))⟩ (Or.inr h.ne), h.ne⟩
theorem PrC.set2 (h : PrC base p w l v a bad) (x : Bool) : PrC base p (w.setCell ⟨p, 2, none⟩ (.bool x)) l v a x :=
  ⟨h.ge, by simp [World.setCell, Array.getElem?_modify, h.hp], h.ow.kept (row := some p) ⟨rfl, rfl, rfl, by simp [World.setCell], fun k _ hk => Below.heap_setCell _ _ _ _ (fun e => hk (by simp [e]))⟩ (Or.inr h.ne), h.ne⟩
/-- a new row, stored -/
theorem PrC.put {l2 : List UInt8} (hge : base ≤ p) (hp : w.heap[p]? = some (.cells #[a, v, .bool bad] 47 (0, 0))) (ho : w.ownsRow base 5 1 v2 l2.length (Lib.byteCells l2)) (hne : v2.ownBlock ≠ some p) : PrC base p (w.setCell ⟨p, 1, none⟩ v2) l2 v2 a bad :=
  ⟨hge, by simp [World.setCell, Array.getElem?_modify, hp], ho.kept (row := some p) ⟨rfl, rfl, rfl, by simp [World.setCell], fun k _ hk => Below.heap_setCell _ _ _ _ (fun e => hk (by simp [e]))⟩ (Or.inr hne), hne⟩
theorem PrAt.below (h : PrAt base p w l bad) (hb : Below w.heap.size w w') : PrAt base p w' l bad := by
  obtain ⟨v, a, ha, h⟩ := h
  exact ⟨v, a, ha, h.below hb⟩
theorem PrAt.lt (h : PrAt base p w l bad) : p < w.heap.size := by obtain ⟨v, a, _, h⟩ := h; exact h.lt
theorem PrAt.ge (h : PrAt base p w l bad) : base ≤ p := by obtain ⟨v, a, _, h⟩ := h; exact h.ge
theorem PrGo.refl (base p : Nat) (w : World) : PrGo base p w w := ⟨Below.refl _ _, Lib.OthersKept.refl _ _ _⟩
theorem PrGo.trans (h : PrGo base p w w') (k : PrGo base p w' w2) : PrGo base p w w2 := ⟨h.be.trans k.be, h.ok.trans k.ok⟩
theorem PrGo.of_below (hb : Below w.heap.size w w') (hw : base ≤ w.heap.size) : PrGo base p w w' := ⟨hb.mono hw, (Lib.OthersKept.refl _ _ w).below hb⟩
theorem PrGo.size (h : PrGo base p w w') : w.heap.size ≤ w'.heap.size := h.be.size
/-- a box of cells that is no row of bytes -/
def BoxIs (w : World) (d : Nat) (cs : Array Value) (E : TypeId) : Prop := w.heap[d]? = some (.cells cs E (0, 0))
theorem heap_new_ (w : World) (o : Obj) : (w.alloc o).heap[w.heap.size]? = some o := by
  show (w.heap.push o)[w.heap.size]? = some o
  simp
theorem BoxIs.made (w : World) (cs : Array Value) (E : TypeId) : BoxIs (w.alloc (.cells cs E)) w.heap.size cs E := by
  exact heap_new_ w _
theorem BoxIs.lt {d : Nat} {cs : Array Value} {E : TypeId} (h : BoxIs w d cs E) : d < w.heap.size := by
  rcases Nat.lt_or_ge d w.heap.size with h' | h'
  · exact h'
  · unfold BoxIs at h; simp [Array.getElem?_eq_none h'] at h
theorem BoxIs.go {d : Nat} {cs : Array Value} {E : TypeId} (h : BoxIs w d cs E) (hg : PrGo base p w w') (hd : d ≠ p) (hE : E ≠ 5) : BoxIs w' d cs E :=
  hg.ok d _ h (fun e => hd (Option.some.inj e)) (fun c z e => by injection e with _ e2 _; exact hE e2)
theorem BoxIs.below {d : Nat} {cs : Array Value} {E : TypeId} (h : BoxIs w d cs E) (hb : Below w.heap.size w w') : BoxIs w' d cs E := (hb.block d h.lt).trans h
theorem BoxIs.cell {d : Nat} {cs : Array Value} {E : TypeId} (h : BoxIs w d cs E) (i : Nat) : w.cell? ⟨d, i, none⟩ = cs[i]? := by
  unfold BoxIs at h; simp [World.cell?, h]
end
theorem infoB1 : (Tryd.prog.info? 5).map (fun i => (i.zero, i.size, i.bytes)) = some (some (.int .u8 0), 1, 1) := by kernel_rfl
theorem sizeBd : (Tryd.prog.info? 45).map (·.size) = some 2 := by kernel_rfl
theorem liesBd : liesAt Tryd.prog Tryd.prog.depth 47 (3 / Tryd.prog.cellsOf 47) 0 45 1 = true := by kernel_rfl
set_option maxHeartbeats 1000000 in
set_option maxRecDepth 100000 in
theorem cc_any {base p : Nat} {w : World} {l : List UInt8} {bad : Bool} (h : PrAt base p w l bad) :
    Calls Tryd.prog 139 #[.pointer (some ⟨p, 0, none⟩)] w fun e w' => e = .returned (.tuple #[]) ∧ ∃ v, PrC base p w' l v (.pointer (some ⟨p, 0, none⟩)) bad ∧ PrGo base p w w' := by
  obtain ⟨j, hj, hjs⟩ := Option.map_eq_some_iff.1 sizeBd
  obtain ⟨v, a, ha, h⟩ := h
  have h0 := h.c0
  have hsh := h.shape
  have hfr := h.fr 0
  have H := Lib.hid h
  rcases ha with rfl | rfl
  · clear h
    go_enter Tryd.func139, Tryd.ntmps139
    go_wp2
    rw [Lib.run_to_unsafe w ⟨p, 0, none⟩ Tryd.underlying42 Tryd.underlying198 hj (by rw [hjs]; decide) hsh (show 0 < 3 by decide)]
    simp only [Result.andThen]
    rw [Oper.upon_value]
    go_wp2
    rw [run_callFunc_extern Tryd.func160 (by kernel_rfl) (by kernel_rfl) (by kernel_rfl) (e := Extern.AbiNoEscape.same) (by kernel_rfl)]
    rw [Lib.run_noEscape]
    simp only [Result.andThen]
    rw [Oper.upon_value]
    go_wp2
    rw [Lib.run_from_unsafe w ⟨p, 0, none⟩ Tryd.underlying198 Tryd.underlying42 hj hsh liesBd]
    simp only [Result.andThen]
    rw [Oper.upon_value]
    go_wp2
    go_end0
    exact ⟨rfl, v, H.out.set0 _, (Below.refl _ _).setCell (p := ⟨p, 0, none⟩) H.out.ge _, (Lib.OthersKept.refl _ _ w).setCell ⟨p, 0, none⟩ rfl _⟩
  · clear h
    go_enter Tryd.func139, Tryd.ntmps139
    go_wp2
    rw [Lib.run_neq_ptr_same w _ Tryd.underlying42 hj]
    go_wp2
    go_end0
    exact ⟨rfl, v, H.out, PrGo.refl _ _ _⟩
theorem row_kind {w : World} {base n : Nat} {v : Value} {xs : List Value} (h : w.ownsRow base 5 1 v n xs) : ∀ g, v.ownBlock = some g → ∃ c fz, w.heap[g]? = some (.cells c 5 fz) := fun g hg => by
  rcases h.2 with ⟨rfl, _⟩ | ⟨g', cap, cur, rfl, _, hh, _⟩
  · simp [Value.ownBlock] at hg
  · simp only [Value.ownBlock, Option.some.injEq] at hg
    subst hg
    exact ⟨_, _, hh⟩
theorem own_ne {w : World} {base n p : Nat} {a v u : Value} {bad : Bool} {xs : List Value} (h : w.ownsRow base 5 1 v n xs) (hp : w.heap[p]? = some (.cells #[a, u, .bool bad] 47 (0, 0))) : v.ownBlock ≠ some p := fun e => by
  obtain ⟨c, fz, hc⟩ := row_kind h p e
  rw [hp] at hc
  injection hc with hc
  injection hc with _ h2 _
  exact absurd h2 (by decide)
theorem byteC (c : UInt8) : Lib.byteCells [c] = [.int .u8 (c.toNat : Int)] := rfl
/-- behind an append: the row is stored -/
theorem pr_put {base p : Nat} {w1 w2 : World} {l l2 : List UInt8} {v v2 a : Value} {bad : Bool} (h : PrC base p w1 l v a bad) (hg : w1.grownBy w2 v.ownBlock) (ho : w2.ownsRow base 5 1 v2 l2.length (Lib.byteCells l2)) (hb : base ≤ w1.heap.size) :
    w2.cell? ⟨p, 0, none⟩ = some a ∧ w2.frozen? ⟨p, 1, none⟩ = false ∧ w2.cell? ⟨p, 1, none⟩ = some v ∧ PrC base p (w2.setCell ⟨p, 1, none⟩ v2) l2 v2 a bad ∧ PrGo base p w1 (w2.setCell ⟨p, 1, none⟩ v2) := by
  have hp2 : w2.heap[p]? = some (.cells #[a, v, .bool bad] 47 (0, 0)) := by
    rw [hg.block p h.lt (fun e => h.ne e.symm)]; exact h.hp
  refine ⟨by simp [World.cell?, hp2], Lib.frozen_of_heap hp2 1, by simp [World.cell?, hp2], PrC.put h.ge hp2 ho (own_ne ho hp2), ?_, ?_⟩
  · exact (((Below.refl _ _).grown hg hb (fun k hk => (h.rows k hk).1))).setCell (p := ⟨p, 1, none⟩) h.ge _
  · exact (((Lib.OthersKept.refl _ _ w1).grown hg (row_kind h.ow))).setCell ⟨p, 1, none⟩ rfl _
set_option maxHeartbeats 1000000 in
set_option maxRecDepth 100000 in
theorem pwb_any {base p : Nat} {w : World} {l : List UInt8} {bad : Bool} (c : UInt8) (h : PrAt base p w l bad) (hl : l.length + 1 ≤ 140737488355328) (hb : base ≤ w.heap.size) :
    Calls Tryd.prog 105 #[.pointer (some ⟨p, 0, none⟩), .int .u8 (c.toNat : Int)] w fun e w' => e = .returned .nilIface ∧ PrAt base p w' (l ++ [c]) bad ∧ PrGo base p w w' := by
  obtain ⟨i0, hi, hz0, hz1, hz2⟩ := info_parts infoB1
  have HC := Lib.hid (cc_any h)
  clear h
  go_enter Tryd.func105, Tryd.ntmps105
  go_wp2_with (go_at_call 139; refine HC.out.mono ?_)
  rintro e w1 ⟨rfl, v, h1, g1⟩
  have c1 := h1.c1
  have hsz := g1.size
  have bl : Below w1.heap.size w1 (w1.alloc (.cells #[.int .u8 (c.toNat : Int)] 5)) := (Below.refl _ _).alloc (Nat.le_refl _) _
  have H1 := Lib.hid (h1.below bl)
  have G1 := Lib.hid (g1.trans (PrGo.of_below bl (by omega)))
  clear h1 g1 HC
  go_wp2_with (at_builtin; refine wpList_append_own _ rfl _ _ 43 rfl base 5 i0 (.int .u8 0) 1 1 Tryd.underlying43 hi hz0 hz1 hz2 rfl (by decide) _ _ _ rfl H1.out.ow ⟨w1.heap.size, 0, none⟩ 1 1 [.int .u8 (c.toNat : Int)] rfl rfl ?c1 ?c2 ?c3 ?c4 ?c5 ?_)
  case c1 =>
    intro j u hj
    match j, hj with
    | 0, hj => simp at hj; subst hj; simp [Addr.add]
  case c2 => intro u hu; simp at hu; subst hu; rfl
  case c3 => unfold maxLen; omega
  case c4 => omega
  case c5 => simp; omega
  intro v' w2 hown hgrow _
  obtain ⟨d0, df, d1, h2, g2⟩ := pr_put (l2 := l ++ [c]) H1.out hgrow (by rw [List.length_append, Lib.byteCells_append, byteC]; exact hown) (by simp; omega)
  obtain ⟨A, n, hv⟩ := h2.len
  rw [List.length_append, List.length_singleton] at hv
  subst hv
  have H2 := Lib.hid h2
  have G2 := Lib.hid (G1.out.trans g2)
  clear h2 g2 hown hgrow
  go_wp2
  go_ret
  exact ⟨rfl, ⟨_, _, .inr rfl, H2.out⟩, G2.out⟩
set_option maxHeartbeats 1000000 in
set_option maxRecDepth 100000 in
theorem pws_any {base p : Nat} {w : World} {l : List UInt8} {bad : Bool} (s : ByteArray) (h : PrAt base p w l bad) (hl : l.length + s.size ≤ 140737488355328) (hb : base ≤ w.heap.size) :
    Calls Tryd.prog 106 #[.pointer (some ⟨p, 0, none⟩), .string s] w fun e w' => (∃ x, e = .returned x) ∧ PrAt base p w' (l ++ s.data.toList) bad ∧ PrGo base p w w' := by
  obtain ⟨i0, hi, hz0, hz1, hz2⟩ := info_parts infoB1
  have HC := Lib.hid (cc_any h)
  clear h
  go_enter Tryd.func106, Tryd.ntmps106
  go_wp2_with (go_at_call 139; refine HC.out.mono ?_)
  rintro e w1 ⟨rfl, v, h1, g1⟩
  have c1 := h1.c1
  have hsz := g1.size
  have H1 := Lib.hid h1
  have G1 := Lib.hid g1
  clear h1 g1 HC
  go_wp2_with (at_builtin; refine Lib.wpList_append_own_string _ rfl _ _ 43 9 rfl base 5 i0 Tryd.underlying43 Tryd.underlying9 hi hz0 hz1 hz2 _ _ _ rfl H1.out.ow s rfl ?c3 ?c4 ?c5 ?_)
  case c3 => unfold maxLen; omega
  case c4 => omega
  case c5 => omega
  intro v' w2 hown hgrow _
  obtain ⟨d0, df, d1, h2, g2⟩ := pr_put (l2 := l ++ s.data.toList) H1.out hgrow (by rw [List.length_append, Lib.byteCells_append, ← Lib.strCells_eq]; rw [show s.data.toList.length = s.size from Array.length_toList]; exact hown) (by omega)
  obtain ⟨A, n, hv⟩ := h2.len
  rw [List.length_append, show s.data.toList.length = s.size from Array.length_toList] at hv
  subst hv
  have H2 := Lib.hid h2
  have G2 := Lib.hid (G1.out.trans g2)
  clear h2 g2 hown hgrow
  go_wp2
  go_ret2
  exact ⟨⟨_, rfl⟩, ⟨_, _, .inr rfl, H2.out⟩, G2.out⟩
theorem plen_any {base p : Nat} {w : World} {l : List UInt8} {bad : Bool} (h : PrAt base p w l bad) :
    Calls Tryd.prog 104 #[.pointer (some ⟨p, 0, none⟩)] w fun e w' => e = .returned (.int .i64 (l.length : Int)) ∧ w = w' := by
  obtain ⟨v, a, _, h⟩ := h
  obtain ⟨A, c, rfl⟩ := h.len
  have c1 := h.c1
  clear h
  go_enter Tryd.func104, Tryd.ntmps104
  go_wp2
  go_ret
  exact ⟨rfl, rfl⟩
end Go.Proofs.YtijahadmaggncaaDoor
