/- The walk of the law ExprTurns. -/
import Derived.Test.YthbbecmffndgdaaEt5
import Derived.Test.YthbbecmffndgdaaEt6
import Derived.Test.YthbbecmffndgdaaSameE
import Derived.Test.YthbbecmffndgdaaOpen2
namespace Go.Proofs.Ythbbecmffndgdaa
open Go.RowKit
set_option linter.unusedVariables false
theorem rdE_of' {w : World} {S : Blocks} {t : Ex} {cs : Array Value} (h : RdEx w S t cs.toList) : RdE w S t (.agg cs) := by
  obtain ⟨k, n, s, args⟩ := t
  obtain ⟨h1, h2, h3, v, e, h4⟩ := RdEx.open_ h
  have : cs = #[.int .i64 k, .int .i64 n, .string s, v] := by
    apply Array.toList_inj.1
    rw [e]
  subst this
  exact ⟨k, n, s, args, v, rfl, rfl, h1, h2, h3, h4⟩
theorem equal_fr (l : List Str) (w : World) (v u : Value) (h : FrS w l v) (h' : FrS w l u) :
    Calls Try.prog 7 #[v, u] w fun e w' => e = .returned (.bool true) ∧ Below w.heap.size w w' := by
  obtain ⟨S, hS, r⟩ := h
  obtain ⟨T, hT, r'⟩ := h'
  exact equalSs l w S T v u hS hT r r'
theorem same_fr (t : Ex) (w : World) (V U : Value) (h : FrE w t V) (h' : FrE w t U) :
    Calls Try.prog 17 #[V, U] w fun e w' => e = .returned (.bool true) ∧ Below w.heap.size w w' := by
  obtain ⟨S, hS, r⟩ := h
  obtain ⟨T, hT, r'⟩ := h'
  obtain ⟨A, c, rfl⟩ := r.form
  obtain ⟨A', c', rfl⟩ := r'.form
  exact sameExpr_any t w [_, _, _, _] [_, _, _, _] (RdEx.keeps _ _ _ _ _ _ hS (Same.refl _ _) r.toX) (RdEx.keeps _ _ _ _ _ _ hT (Same.refl _ _) r'.toX)
set_option maxHeartbeats 4000000 in
set_option maxRecDepth 100000 in
theorem exprTurns_walk (t : Ex) (nm : Str) (y : Ex) (w : World) (V VY : Value) (r : RdE w (Upto w.heap.size) t V) (ry : RdE w (Upto w.heap.size) y VY) (hl : t.wt ≤ 1048576) :
    Calls Try.prog 5 #[V, .string nm, VY] w fun e w' => e = .returned (.bool true) ∧ Below w.heap.size w w' := by
  obtain ⟨A, c, rfl⟩ := r.form
  obtain ⟨A', c', rfl⟩ := ry.form
  have bel : Below w.heap.size w ((w.alloc (.cells #[.int .i64 t.kind, .int .i64 t.num, .string t.name, .slice A t.args.length c] 38)).alloc (.cells #[.int .i64 y.kind, .int .i64 y.num, .string y.name, .slice A' y.args.length c'] 38)) := ((Below.refl _ _).alloc (Nat.le_refl _) _).alloc (by simp) _
  have BEL := Lib.hid bel
  have RT := Lib.hid (r.go bel (Sub.refl _))
  have RY := Lib.hid (ry.go bel (Sub.refl _))
  have B1 := Lib.hid ((Blk.made w [.int .i64 t.kind, .int .i64 t.num, .string t.name, .slice A t.args.length c] 38 (base := 0) (Nat.zero_le _)).below ((Below.refl _ _).alloc (Nat.le_refl _) (.cells #[.int .i64 y.kind, .int .i64 y.num, .string y.name, .slice A' y.args.length c'] 38)))
  have B2 := Lib.hid (Blk.made (w.alloc (.cells #[.int .i64 t.kind, .int .i64 t.num, .string t.name, .slice A t.args.length c] 38)) [.int .i64 y.kind, .int .i64 y.num, .string y.name, .slice A' y.args.length c'] 38 (base := 0) (Nat.zero_le _))
  rw [World.size_alloc] at B2
  have HL := Lib.hid hl
  clear r ry bel hl
  go_enter Try.func5, Try.ntmps5
  go_upto_region 1 with (fail)
  generalize ((w.alloc (.cells #[.int .i64 t.kind, .int .i64 t.num, .string t.name, .slice A t.args.length c] 38)).alloc (.cells #[.int .i64 y.kind, .int .i64 y.num, .string y.name, .slice A' y.args.length c'] 38)) = W at *
  have SW := Lib.hid ((Sub.upto BEL.out.size : Sub (Upto w.heap.size) (Upto W.heap.size)))
  have hlt1 : w.heap.size < W.heap.size := B1.out.lt
  have hlt2 : w.heap.size + 1 < W.heap.size := B2.out.lt
  have x0 := B1.out.cell 0 _ rfl; have x1 := B1.out.cell 1 _ rfl; have x2 := B1.out.cell 2 _ rfl; have x3 := B1.out.cell 3 _ rfl
  have y0 := B2.out.cell 0 _ rfl; have y1 := B2.out.cell 1 _ rfl; have y2 := B2.out.cell 2 _ rfl; have y3 := B2.out.cell 3 _ rfl
  have HWP := Lib.hid (fun w' h => Stay.size h : ∀ w', Stay W w' → W.heap.size ≤ w'.heap.size)
  go_region_held3 (fun w' => Stay W w') (first | assumption | exact Stay.mk (Kept.start _) | ((refine Stay.mk ?_; (repeat (with_reducible first | refine Kept.set ?_ (by omega) _ | refine Kept.drew ?_ | refine Kept.alloc ?_ _)); first | exact Kept.refl _ | assumption)))
    (first
      | ((go_at_call 15; refine (names_any t _ (Upto w.heap.size) _ (SW.out.trans (Sub.upto (HWP.out _ (by assumption)))) (RT.out.keep (Sub.refl _) (Same.sub (Stay.same (by assumption)) SW.out)) HL.out).mono ?_; rintro e wa ⟨u1, rfl, hx0, hb1⟩; have hx1 : FrS wa t.names u1 := ⟨_, Sub.plus_upto (Sub.nowhere _), hx0⟩; clear hx0; have hst1 : Stay W wa := Stay.step hb1 (by assumption); have hk1 : Kept W wa := Kept.here hst1))
      | ((go_at_call 16; refine (ens_all t _ (Upto w.heap.size) _ (SW.out.trans (Sub.upto (HWP.out _ (by assumption)))) (RT.out.keep (Sub.refl _) (Same.sub (Stay.same (by assumption)) SW.out)) HL.out).mono ?_; rintro e wb ⟨u2, rfl, hx2, hb2⟩; have hst2 : Stay W wb := Stay.step hb2 (by assumption); have hk2 : Kept W wb := Kept.here hst2))
      | ((go_at_call 7; refine (equal_fr t.names _ _ _ ?_ ?_).mono ?_; (focus (repeat (with_reducible first | exact hx1 | refine Fr.drew ?_ | refine Fr.via hb2 ?_))); (focus (repeat (with_reducible first | exact hx2 | refine Fr.drew ?_ | refine Fr.via hb1 ?_))); rintro e wc ⟨rfl, hb3⟩; have hst3 : Stay W wc := Stay.step hb3 (by assumption); have hk3 : Kept W wc := Kept.here hst3))
      | ((go_at_call 18; refine (put_any t nm y _ (Upto w.heap.size) _ _ (SW.out.trans (Sub.upto (HWP.out _ (by assumption)))) (RT.out.keep (Sub.refl _) (Same.sub (Stay.same (by assumption)) SW.out)) (RY.out.keep (Sub.refl _) (Same.sub (Stay.same (by assumption)) SW.out))).mono ?_; rintro e wd ⟨u4, rfl, hp0, hb4⟩; have hp1 : FrE wd (put nm y t) u4 := ⟨_, Sub.plus_upto (SW.out.trans (Sub.upto (Nat.le_trans (HWP.out _ (by assumption)) hb4.size))), hp0⟩; clear hp0; have hst4 : Stay W wd := Stay.step hb4 (by assumption); have hk4 : Kept W wd := Kept.here hst4))
      | ((go_at_call 19; refine (epu_all nm y t _ (Upto w.heap.size) _ _ (SW.out.trans (Sub.upto (HWP.out _ (by assumption)))) (RT.out.keep (Sub.refl _) (Same.sub (Stay.same (by assumption)) SW.out)) (RY.out.keep (Sub.refl _) (Same.sub (Stay.same (by assumption)) SW.out))).mono ?_; rintro e we ⟨u5, rfl, hp0, hb5⟩; have hp2 : FrE we (put nm y t) u5 := ⟨_, Sub.plus_upto (SW.out.trans (Sub.upto (Nat.le_trans (HWP.out _ (by assumption)) hb5.size))), hp0⟩; clear hp0; have hst5 : Stay W we := Stay.step hb5 (by assumption); have hk5 : Kept W we := Kept.here hst5))
      | ((go_at_call_of 17 u4; refine (same_fr (put nm y t) _ _ _ ?_ ?_).mono ?_; (focus (repeat (with_reducible first | exact hp1 | refine FrE.drew ?_ | refine FrE.via hb5 ?_))); (focus (repeat (with_reducible first | exact hp2 | refine FrE.drew ?_ | refine FrE.via hb4 ?_))); rintro e wf ⟨rfl, hb6⟩; have hst6 : Stay W wf := Stay.step hb6 (by assumption); have hk6 : Kept W wf := Kept.here hst6))
      | ((go_at_call 20; refine (fold_any t _ (Upto w.heap.size) _ (SW.out.trans (Sub.upto (HWP.out _ (by assumption)))) (RT.out.keep (Sub.refl _) (Same.sub (Stay.same (by assumption)) SW.out))).mono ?_; rintro e wg ⟨u7, rfl, hp0, hb7⟩; have hq1 : FrE wg (fold doE t) u7 := ⟨_, Sub.plus_upto (SW.out.trans (Sub.upto (Nat.le_trans (HWP.out _ (by assumption)) hb7.size))), hp0⟩; clear hp0; have hst7 : Stay W wg := Stay.step hb7 (by assumption); have hk7 : Kept W wg := Kept.here hst7))
      | ((go_at_call 21; refine (efo_all t _ (Upto w.heap.size) _ (SW.out.trans (Sub.upto (HWP.out _ (by assumption)))) (RT.out.keep (Sub.refl _) (Same.sub (Stay.same (by assumption)) SW.out)) HL.out).mono ?_; rintro e wh ⟨u8, rfl, hp0, hb8⟩; have hq2 : FrE wh (fold doE t) u8 := ⟨_, Sub.plus_upto (SW.out.trans (Sub.upto (Nat.le_trans (HWP.out _ (by assumption)) hb8.size))), hp0⟩; clear hp0; have hst8 : Stay W wh := Stay.step hb8 (by assumption); have hk8 : Kept W wh := Kept.here hst8))
      | ((go_at_call_of 17 u7; refine (same_fr (fold doE t) _ _ _ ?_ ?_).mono ?_; (focus (repeat (with_reducible first | exact hq1 | refine FrE.drew ?_ | refine FrE.via hb8 ?_))); (focus (repeat (with_reducible first | exact hq2 | refine FrE.drew ?_ | refine FrE.via hb7 ?_))); rintro e wi ⟨rfl, hb9⟩; have hst9 : Stay W wi := Stay.step hb9 (by assumption); have hk9 : Kept W wi := Kept.here hst9)))
  all_goals (
    go_wp2
    go_ret
    exact ⟨by simp, BEL.out.trans (hst9.below.mono BEL.out.size)⟩)
end Go.Proofs.Ythbbecmffndgdaa
