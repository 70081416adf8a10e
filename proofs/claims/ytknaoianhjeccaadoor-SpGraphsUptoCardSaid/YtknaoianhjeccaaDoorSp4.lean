/- The walk of sp.Leaves. -/
import Derived.Test.YtknaoianhjeccaaDoorSp3
namespace Go.Proofs.YtknaoianhjeccaaDoor
open Go.RowKit
set_option linter.unusedVariables false
theorem tells_all (t : Tm) : Tells t := Tm.ind tells_one tells_two t
set_option maxHeartbeats 1000000 in
set_option maxRecDepth 100000 in
theorem leaves_any (t : Tm) (w : World) (S : Blocks) (V : Value) (hS : Sub S (Upto w.heap.size)) (r : RdT w S t V) (hl : t.count ≤ 1048576) :
    Calls Tryd.prog 34 #[V] w fun e w' => ∃ x, e = .returned x ∧ RdAccs w' (Plus Nowhere w.heap.size w'.heap.size) t.leaves x ∧ Below w.heap.size w w' := by
  obtain ⟨k, c, wr, lb, kids, v, et, rfl, h1, h2, h3, h4⟩ := id r
  obtain ⟨A1, n1, rfl, _⟩ := h4.form
  have bel : Below w.heap.size w ((w.alloc (.cells #[.int .i64 k, .int .i64 c, .bool wr, .int .i64 lb, .slice A1 kids.length n1] 35)).alloc (.cells #[.slice none 0 0] 95)) := ((Below.refl _ _).alloc (Nat.le_refl _) _).alloc (by simp) _
  have BEL := Lib.hid bel
  have RA := Lib.hid (r.go bel hS)
  have hsz : ((w.alloc (.cells #[.int .i64 k, .int .i64 c, .bool wr, .int .i64 lb, .slice A1 kids.length n1] 35)).alloc (.cells #[.slice none 0 0] 95)).heap.size = w.heap.size + 2 := by simp
  have B1 := Blk.made (w.alloc (.cells #[.int .i64 k, .int .i64 c, .bool wr, .int .i64 lb, .slice A1 kids.length n1] 35)) [.slice none 0 0] 95 (base := w.heap.size) (by simp)
  rw [World.size_alloc] at B1
  have H := Lib.hid (show LvAt w.heap.size ((w.alloc (.cells #[.int .i64 k, .int .i64 c, .bool wr, .int .i64 lb, .slice A1 kids.length n1] 35)).alloc (.cells #[.slice none 0 0] 95)) (w.heap.size + 1) (Is (w.heap.size + 1)) [] from
    ⟨_, B1, OwnL.nil _ _ _, rfl, fun b hb => by unfold Is at hb; subst hb; rw [hsz]; exact ⟨by omega, by omega⟩, fun k hk => by cases hk⟩)
  have HS := Lib.hid hS
  have HT := Lib.hid (tells_all t)
  unfold tmV
  clear B1 bel r h4 et h1 h2 h3 hS
  go_enter Tryd.func34, Tryd.ntmps34
  go_upto_region 2 with (fail)
  have hc0 : ((w.alloc (.cells #[.int .i64 k, .int .i64 c, .bool wr, .int .i64 lb, .slice A1 kids.length n1] 35)).alloc (.cells #[.slice none 0 0] 95)).cell? ⟨w.heap.size, 0, none⟩ = some (.int .i64 k) ∧ ((w.alloc (.cells #[.int .i64 k, .int .i64 c, .bool wr, .int .i64 lb, .slice A1 kids.length n1] 35)).alloc (.cells #[.slice none 0 0] 95)).cell? ⟨w.heap.size, 1, none⟩ = some (.int .i64 c) ∧ ((w.alloc (.cells #[.int .i64 k, .int .i64 c, .bool wr, .int .i64 lb, .slice A1 kids.length n1] 35)).alloc (.cells #[.slice none 0 0] 95)).cell? ⟨w.heap.size, 2, none⟩ = some (.bool wr) ∧ ((w.alloc (.cells #[.int .i64 k, .int .i64 c, .bool wr, .int .i64 lb, .slice A1 kids.length n1] 35)).alloc (.cells #[.slice none 0 0] 95)).cell? ⟨w.heap.size, 3, none⟩ = some (.int .i64 lb) ∧ ((w.alloc (.cells #[.int .i64 k, .int .i64 c, .bool wr, .int .i64 lb, .slice A1 kids.length n1] 35)).alloc (.cells #[.slice none 0 0] 95)).cell? ⟨w.heap.size, 4, none⟩ = some (.slice A1 kids.length n1) := by simp
  generalize (w.alloc (.cells #[.int .i64 k, .int .i64 c, .bool wr, .int .i64 lb, .slice A1 kids.length n1] 35)).alloc (.cells #[.slice none 0 0] 95) = W at *
  obtain ⟨c0, c1, c2, c3, c4⟩ := hc0
  go_wp2_with fail
  refine (HT.out w.heap.size W (w.heap.size + 1) (Is (w.heap.size + 1)) [] S _ H.out (by simpa using hl) RA.out HS.out).mono ?_
  rintro e w1 ⟨rfl, X1, h1, hs1, hk1⟩
  obtain ⟨v, g1, g2, g3, g4, g5⟩ := h1
  have d0 := g1.cell 0 _ rfl
  have hz := hk1.size
  have R := Lib.hid (OwnL.toRd g2 (bytes := 24) (S' := Plus Nowhere w.heap.size w1.heap.size) Flat.keeps (by have : t.count = t.leaves.length := rfl; simp; omega) (Sub.nowhere _) (fun b h1 h2 => .inr ⟨h1, h2⟩))
  have FIN := Lib.hid (BEL.out.trans (hk1.below (B := w.heap.size) (by omega) (fun k e => by unfold Is at e; omega)))
  obtain ⟨A2, n2, rfl⟩ := g2.form
  clear g1 g2 g3 g4 g5 hs1 hk1 c0 c1 c2 c3 c4
  go_wp2
  go_ret
  exact ⟨_, rfl, R.out, FIN.out⟩
end Go.Proofs.YtknaoianhjeccaaDoor
