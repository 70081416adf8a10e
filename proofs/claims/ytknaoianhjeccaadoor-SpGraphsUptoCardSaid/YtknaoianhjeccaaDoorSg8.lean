/- The walk of the law SpGraphs. -/
import Derived.Test.YtknaoianhjeccaaDoorSg7
import Derived.Test.YtknaoianhjeccaaDoorEd3
namespace Go.Proofs.YtknaoianhjeccaaDoor
open Go.RowKit
set_option linter.unusedVariables false
def gN (t : Tm) : Int := if t.count ≤ 200 then (t.count : Int) else 0
def gE (t : Tm) : List (Int × Int) := if t.count ≤ 200 then agE t else []
def gX (t : Tm) : Int := if t.count ≤ 200 then 0 else 2
theorem graph_g (t : Tm) (w : World) (S : Blocks) (V : Value) (hS : Sub S (Upto w.heap.size)) (r : RdT w S t V) (hl : t.count ≤ 1048576) :
    Calls Tryd.prog 9 #[V] w fun e w' => (∃ x, e = .returned (.tuple #[.agg #[.int .i64 (gN t), x], .int .i64 (gX t)]) ∧ RdP w' (Plus Nowhere w.heap.size w'.heap.size) (gE t) x) ∧ Below w.heap.size w w' := by
  refine (graph_any t t.count rfl (gX t) rfl w S V hS r hl).mono ?_
  rintro e w' ⟨N', x, rfl, h1, h2, hb⟩
  refine ⟨?_, hb⟩
  by_cases h : t.count ≤ 200
  · obtain ⟨rfl, h3⟩ := h1 h
    exact ⟨x, by unfold gN; rw [if_pos h], by unfold gE; rw [if_pos h]; exact h3⟩
  · obtain ⟨rfl, rfl⟩ := h2 h
    exact ⟨_, by unfold gN; rw [if_neg h], by unfold gE; rw [if_neg h]; exact RdL.nil (by simp [maxLen])⟩
theorem dgraph_g (t : Tm) (w : World) (S : Blocks) (V : Value) (hS : Sub S (Upto w.heap.size)) (r : RdT w S t V) (hl : t.count ≤ 1048576) :
    Calls Tryd.prog 10 #[V] w fun e w' => (∃ x, e = .returned (.tuple #[.agg #[.int .i64 (gN t), x], .int .i64 (gX t)]) ∧ RdP w' (Plus Nowhere w.heap.size w'.heap.size) (gE t) x) ∧ Below w.heap.size w w' := by
  refine (dgraph_any t t.count rfl (gX t) rfl w S V hS r hl).mono ?_
  rintro e w' ⟨N', x, rfl, h1, h2, hb⟩
  refine ⟨?_, hb⟩
  by_cases h : t.count ≤ 200
  · obtain ⟨rfl, h3⟩ := h1 h
    exact ⟨x, by unfold gN; rw [if_pos h], by unfold gE; rw [if_pos h]; exact h3⟩
  · obtain ⟨rfl, rfl⟩ := h2 h
    exact ⟨_, by unfold gN; rw [if_neg h], by unfold gE; rw [if_neg h]; exact RdL.nil (by simp [maxLen])⟩
set_option maxHeartbeats 2000000 in
set_option maxRecDepth 100000 in
theorem spGraphs_walk (t : Tm) (w : World) (V : Value) (r : RdT w (Upto w.heap.size) t V) (hl : t.count ≤ 1048576) (hT : Tab w) :
    Calls Tryd.prog 4 #[V] w fun e w' => e = .returned (.bool true) ∧ Below w.heap.size w w' := by
  obtain ⟨k, c, wq, lb, kids, v, et, rfl, h1, h2, h3, h4⟩ := id r
  obtain ⟨A1, n1, rfl, _⟩ := h4.form
  have bel : Below w.heap.size w (w.alloc (.cells #[.int .i64 k, .int .i64 c, .bool wq, .int .i64 lb, .slice A1 kids.length n1] 35)) := (Below.refl _ _).alloc (Nat.le_refl _) _
  have BEL := Lib.hid bel
  have RA := Lib.hid (r.go bel (Sub.refl _))
  have BB := Lib.hid (Blk.made w [.int .i64 k, .int .i64 c, .bool wq, .int .i64 lb, .slice A1 kids.length n1] 35 (base := 0) (Nat.zero_le _))
  have HT := Lib.hid hT
  obtain ⟨N, hN⟩ : ∃ N, N = gN t := ⟨_, rfl⟩
  obtain ⟨E, hE⟩ : ∃ E, E = gX t := ⟨_, rfl⟩
  have CG := Lib.hid (fun w S V hS r => graph_g t w S V hS r hl)
  have CD := Lib.hid (fun w S V hS r => dgraph_g t w S V hS r hl)
  obtain ⟨L, hL⟩ : ∃ L, L = gE t := ⟨_, rfl⟩
  rw [← hN, ← hE, ← hL] at CG CD
  unfold tmV
  clear h4 bel r et h1 h2 h3 hT hN hE hL
  go_enter Tryd.func4, Tryd.ntmps4
  go_upto_region 1 with (fail)
  generalize w.alloc (.cells #[.int .i64 k, .int .i64 c, .bool wq, .int .i64 lb, .slice A1 kids.length n1] 35) = W at *
  obtain ⟨z, hz⟩ : ∃ z, z = w.heap.size := ⟨_, rfl⟩
  rw [← hz] at BB
  have hz1 := Nat.le_of_eq hz
  have hz2 := Nat.le_of_eq hz.symm
  rw [← hz]
  clear hz
  have hzW : z < W.heap.size := BB.out.lt
  have c0 := BB.out.cell 0 _ rfl
  have c1 := BB.out.cell 1 _ rfl
  have c2 := BB.out.cell 2 _ rfl
  have c3 := BB.out.cell 3 _ rfl
  have c4 := BB.out.cell 4 _ rfl
  go_wp2_with fail
  refine (CG.out W _ _ (Sub.upto BEL.out.size) RA.out).mono ?_
  rintro e w1 ⟨⟨x, rfl, hx⟩, b1⟩
  obtain ⟨Ax, nx, rfl, -⟩ := hx.form
  have b2 : Below w1.heap.size w1 (w1.alloc (.cells #[.int .i64 N, .slice Ax L.length nx] 24)) := (Below.refl _ _).alloc (Nat.le_refl _) _
  have BG := Lib.hid (Blk.made w1 [.int .i64 N, .slice Ax L.length nx] 24 (base := 0) (Nat.zero_le _))
  have b12 := b1.trans (b2.mono b1.size)
  have BEL2 := Lib.hid (BEL.out.trans (b12.mono BEL.out.size))
  have BB2 := Lib.hid (BB.out.below b12)
  have RA2 := Lib.hid (RA.out.go b12 (Sub.upto BEL.out.size))
  have HX2 := Lib.hid (hx.go Flat.keeps b2 ((Sub.nowhere _).plus_upto) (Sub.refl _))
  have hW := BEL.out.size
  have hs1 := b1.size
  have hs2 := b2.size
  clear hx b1 b2 b12 BB RA BEL c0 c1 c2 c3 c4
  go_upto_region 2 with (fail)
  obtain ⟨y1, hy1⟩ : ∃ y, w1.heap.size = y := ⟨_, rfl⟩
  rw [hy1] at BG HX2 hs1 hs2 ⊢
  clear hy1
  generalize (w1.alloc (.cells #[.int .i64 N, .slice Ax L.length nx] 24)) = W1 at *
  have c0 := BB2.out.cell 0 _ rfl
  have c1 := BB2.out.cell 1 _ rfl
  have c2 := BB2.out.cell 2 _ rfl
  have c3 := BB2.out.cell 3 _ rfl
  have c4 := BB2.out.cell 4 _ rfl
  go_wp2_with fail
  refine (CD.out W1 _ _ (Sub.upto BEL2.out.size) RA2.out).mono ?_
  rintro e w2 ⟨⟨x, rfl, hx⟩, b1⟩
  obtain ⟨Ay, ny, rfl, -⟩ := hx.form
  have b2 : Below w2.heap.size w2 (w2.alloc (.cells #[.int .i64 N, .slice Ay L.length ny] 24)) := (Below.refl _ _).alloc (Nat.le_refl _) _
  have BH := Lib.hid (Blk.made w2 [.int .i64 N, .slice Ay L.length ny] 24 (base := 0) (Nat.zero_le _))
  have b12 := b1.trans (b2.mono b1.size)
  have BEL3 := Lib.hid (BEL2.out.trans (b12.mono BEL2.out.size))
  have BB3 := Lib.hid (BB2.out.below b12)
  have BG3 := Lib.hid (BG.out.below b12)
  have RA3 := Lib.hid (RA2.out.go b12 (Sub.upto BEL2.out.size))
  have HX3 := Lib.hid (HX2.out.go Flat.keeps b12 (((Sub.nowhere _).plus_upto).trans (Sub.upto hs2)) (Sub.refl _))
  have HY3 := Lib.hid (hx.go Flat.keeps b2 ((Sub.nowhere _).plus_upto) (Sub.refl _))
  have hs3 := b1.size
  have hs4 := b2.size
  clear hx b1 b2 b12 BB2 RA2 BEL2 BG HX2 c0 c1 c2 c3 c4
  go_upto_region 3 with (fail)
  obtain ⟨y2, hy2⟩ : ∃ y, w2.heap.size = y := ⟨_, rfl⟩
  rw [hy2] at BH HY3 hs3 hs4 ⊢
  clear hy2
  generalize (w2.alloc (.cells #[.int .i64 N, .slice Ay L.length ny] 24)) = W2 at *
  have c0 := BB3.out.cell 0 _ rfl
  have c1 := BB3.out.cell 1 _ rfl
  have c2 := BB3.out.cell 2 _ rfl
  have c3 := BB3.out.cell 3 _ rfl
  have c4 := BB3.out.cell 4 _ rfl
  have g0 := BG3.out.cell 0 _ rfl
  have g1 := BG3.out.cell 1 _ rfl
  have h0 := BH.out.cell 0 _ rfl
  have h1 := BH.out.cell 1 _ rfl
  have l1 : z < W2.heap.size := BB3.out.lt
  have l2 : y1 < W2.heap.size := BG3.out.lt
  have l3 : y2 < W2.heap.size := BH.out.lt
  have HWP := Lib.hid (fun w' h => Stay.size h : ∀ w', Stay W2 w' → W2.heap.size ≤ w'.heap.size)
  have HTW := Lib.hid (fun w' h => HT.out.go (BEL3.out.trans ((Stay.below h).mono BEL3.out.size)) : ∀ w', Stay W2 w' → Tab w')
  have SX := Lib.hid (show Sub (Plus Nowhere W.heap.size y1) (Upto W2.heap.size) from ((Sub.nowhere _).plus_upto).trans (Sub.upto (Nat.le_of_lt l2)))
  have SY := Lib.hid (show Sub (Plus Nowhere W1.heap.size y2) (Upto W2.heap.size) from ((Sub.nowhere _).plus_upto).trans (Sub.upto (Nat.le_of_lt l3)))
  have SW := Lib.hid (show Sub (Upto w.heap.size) (Upto W2.heap.size) from Sub.upto BEL3.out.size)
  go_region_held3 (fun w' => Stay W2 w') (first | assumption | exact Stay.mk (Kept.start _) | ((refine Stay.mk ?_; (repeat (with_reducible first | refine Kept.set ?_ (by omega) _ | refine Kept.drew ?_ | refine Kept.alloc ?_ _)); first | exact Kept.refl _ | assumption)))
    (first
      | ((go_at_call 8; refine (sameGraph N L _ _ _ _ _ (SX.out.trans (Sub.upto (HWP.out _ (by first | assumption | exact Stay.mk (Kept.start _))))) (SY.out.trans (Sub.upto (HWP.out _ (by first | assumption | exact Stay.mk (Kept.start _))))) (HX3.out.keep Flat.keeps (Sub.refl _) (Same.sub (Stay.same (by first | assumption | exact Stay.mk (Kept.start _))) SX.out)) (HY3.out.keep Flat.keeps (Sub.refl _) (Same.sub (Stay.same (by first | assumption | exact Stay.mk (Kept.start _))) SY.out))).mono ?_; rintro e wa ⟨rfl, hb1⟩; have hst1 : Stay W2 wa := Stay.step hb1 (by first | assumption | exact Stay.mk (Kept.start _)); have hk1 : Kept W2 wa := Kept.here hst1))
      | ((go_at_call 11; refine (count_any t _ _ _ (SW.out.trans (Sub.upto (HWP.out _ (by first | assumption | exact Stay.mk (Kept.start _))))) (RA3.out.keep (Sub.refl _) (Same.sub (Stay.same (by first | assumption | exact Stay.mk (Kept.start _))) SW.out)) hl).mono ?_; rintro e wb ⟨rfl, hb2⟩; have hst2 : Stay W2 wb := Stay.step hb2 (by first | assumption | exact Stay.mk (Kept.start _)); have hk2 : Kept W2 wb := Kept.here hst2))
      | ((go_at_call 12; refine (dcs_all t _ _ _ (SW.out.trans (Sub.upto (HWP.out _ (by first | assumption | exact Stay.mk (Kept.start _))))) (RA3.out.keep (Sub.refl _) (Same.sub (Stay.same (by first | assumption | exact Stay.mk (Kept.start _))) SW.out)) hl (HTW.out _ (by first | assumption | exact Stay.mk (Kept.start _)))).mono ?_; rintro e wc ⟨rfl, hb3⟩; have hst3 : Stay W2 wc := Stay.step hb3 (by first | assumption | exact Stay.mk (Kept.start _)); have hk3 : Kept W2 wc := Kept.here hst3)))
  go_wp2
  go_ret
  exact ⟨rfl, BEL3.out.trans (hst3.below.mono BEL3.out.size)⟩
end Go.Proofs.YtknaoianhjeccaaDoor
