/- Texts merged: EqI, Rs6. -/
import Derived.Test.YtfldajplclahfaaFlat
import Derived.BigQuiet
import Derived.Test.YtfldajplclahfaaRs5
/- slices.Equal at integers. -/
namespace Go.Proofs.Ytfldajplclahfaa
open Go.RowKit
set_option linter.unusedVariables false
set_option maxHeartbeats 400000 in
theorem equalIs (l : List Int) (w : World) (S T : Blocks) (v u : Value) (hS : Sub S (Upto w.heap.size)) (hT : Sub T (Upto w.heap.size)) (r : RdI w S l v) (r' : RdI w T l u) :
    Calls Try.prog 9 #[v, u] w fun e w' => e = .returned (.bool true) ∧ Below w.heap.size w w' := by
  obtain ⟨A, cap, rfl, hl, hcm, hby⟩ := r.form
  obtain ⟨A', cap', rfl, hl', hcm', _⟩ := r'.form
  unfold maxLen at hcm hcm'
  go_enter Try.func9, Try.ntmps9
  go_wp2
  go_loopw [13] (fun t wr => ∃ q : Nat, q ≤ l.length ∧ t = .int .i64 q ∧ Below w.heap.size w wr) (fun t _ => l.length - (intOf t).toNat)
  case atStart => exact ⟨0, by omega, rfl, Below.refl _ _⟩
  case round =>
    obtain ⟨q, hq, rfl, hbel⟩ := hrel
    by_cases hlt : q < l.length
    · obtain ⟨b, off, rfl, hb, hok, hc⟩ := RdI.at1 r hlt
      obtain ⟨b', off', rfl, hb', hok', hc'⟩ := RdI.at1 r' hlt
      have e0 := (hbel.cell (p := ⟨b, off + q, none⟩) (hS _ hb)).trans hc
      have e1 := (hbel.cell (p := ⟨b', off' + q, none⟩) (hT _ hb')).trans hc'
      have hq1 : (q : Int) < (l.length : Int) := by omega
      have hq0 : (0 : Int) ≤ (q : Int) := by omega
      clear r r' hc hc'
      go_wp2
      all_goals (try go_quiet (fail))
      all_goals (try go_wp2)
      go_roundw
      case rel => exact ⟨q + 1, by omega, by go_num, below_drewN hbel _⟩
      case measure => simp [intOf]; omega
    · go_wp2
      go_ret
      exact ⟨rfl, hbel⟩
end Go.Proofs.Ytfldajplclahfaa
/- The walk of the law RaceSees. -/
namespace Go.Proofs.Ytfldajplclahfaa
open Go.RowKit
set_option linter.unusedVariables false
set_option maxHeartbeats 4000000 in
set_option maxRecDepth 100000 in
theorem raceSees_walk (t : Tm) (o : List Int) (i j : Int) (w : World) (V U : Value) (r : RdT w (Upto w.heap.size) t V) (ro : RdI w (Upto w.heap.size) o U) (hl : t.count ≤ 1048576) (hii : inI i) (hij : inI j) :
    Calls Try.prog 5 #[V, U, .int .i64 i, .int .i64 j] w fun e w' => e = .returned (.bool true) ∧ Below w.heap.size w w' := by
  obtain ⟨k, c, wb, lb, kids, v, et, rfl, h1, h2, h3, h4⟩ := id r
  obtain ⟨A1, n1, rfl, _⟩ := h4.form
  obtain ⟨Ao, co, rfl, -⟩ := ro.form
  have bel : Below w.heap.size w (w.alloc (.cells #[.int .i64 k, .int .i64 c, .bool wb, .int .i64 lb, .slice A1 kids.length n1] 26)) := (Below.refl _ _).alloc (Nat.le_refl _) _
  have BEL := Lib.hid bel
  have HR := Lib.hid (show ∀ wx, Below ((w.alloc (.cells #[.int .i64 k, .int .i64 c, .bool wb, .int .i64 lb, .slice A1 kids.length n1] 26))).heap.size (w.alloc (.cells #[.int .i64 k, .int .i64 c, .bool wb, .int .i64 lb, .slice A1 kids.length n1] 26)) wx → Sub (Upto w.heap.size) (Upto wx.heap.size) ∧ RdT wx (Upto w.heap.size) t (.agg #[.int .i64 k, .int .i64 c, .bool wb, .int .i64 lb, .slice A1 kids.length n1]) ∧ RdI wx (Upto w.heap.size) o (.slice Ao o.length co) ∧ Blk 0 wx w.heap.size [.int .i64 k, .int .i64 c, .bool wb, .int .i64 lb, .slice A1 kids.length n1] from fun wx h =>
    have h2 := bel.trans (h.mono bel.size)
    ⟨Sub.upto h2.size, r.go h2 (Sub.refl _), ro.keep Flat.keeps (Sub.refl _) (same_of_below h2 (Sub.refl _)), (Blk.made w [.int .i64 k, .int .i64 c, .bool wb, .int .i64 lb, .slice A1 kids.length n1] 26 (base := 0) (Nat.zero_le _)).below h⟩)
  unfold tmV
  clear h4 bel r ro et h1 h2 h3
  go_enter Try.func5, Try.ntmps5
  go_upto_region 1 with (fail)
  have hbs := BEL.out.size
  obtain ⟨X, hX⟩ : ∃ X, X = w.heap.size := ⟨_, rfl⟩
  rw [← hX] at HR ⊢
  clear hX
  generalize (w.alloc (.cells #[.int .i64 k, .int .i64 c, .bool wb, .int .i64 lb, .slice A1 kids.length n1] 26)) = W at *
  have hR1 := HR.out W (Below.refl _ _)
  have x0 := hR1.2.2.2.cell 0 _ rfl; have x1 := hR1.2.2.2.cell 1 _ rfl; have x2 := hR1.2.2.2.cell 2 _ rfl; have x3 := hR1.2.2.2.cell 3 _ rfl; have x4 := hR1.2.2.2.cell 4 _ rfl
  go_wp2_with fail
  refine (see_any t o W _ _ _ _ hR1.1 hR1.2.1 hR1.1 hR1.2.2.1 hl).mono ?_
  rintro e w1 ⟨x1, rfl, hx1, hb1⟩
  obtain ⟨e1, he1⟩ : ∃ z, z = seeE t o := ⟨_, rfl⟩
  have HE1 := Lib.hid he1
  rw [← he1]
  have B1 := Lib.hid hb1
  have X1 := Lib.hid (show RdI w1 (Upto w1.heap.size) (seeL t o) x1 from hx1.keep Flat.keeps (Sub.plus_upto (Sub.nowhere _)) (Same.refl _ _))
  obtain ⟨Ax1, cx1, rfl, -⟩ := hx1.form
  clear he1 hx1 hb1 x0 x1 x2 x3 x4 hR1
  have hR1 := HR.out w1 B1.out
  have x0 := hR1.2.2.2.cell 0 _ rfl; have x1 := hR1.2.2.2.cell 1 _ rfl; have x2 := hR1.2.2.2.cell 2 _ rfl; have x3 := hR1.2.2.2.cell 3 _ rfl; have x4 := hR1.2.2.2.cell 4 _ rfl
  go_wp2_with fail
  refine (osee_any t o w1 _ _ _ _ hR1.1 hR1.2.1 hR1.1 hR1.2.2.1 hl).mono ?_
  rintro e w2 ⟨x2, rfl, hx2, hb2⟩
  rw [← HE1.out]
  have B2 := Lib.hid (B1.out.trans (hb2.mono B1.out.size))
  have X12 := Lib.hid (X1.out.keep Flat.keeps (Sub.upto hb2.size) (same_of_below hb2 (Sub.refl _)))
  have X2 := Lib.hid (show RdI w2 (Upto w2.heap.size) (seeL t o) x2 from hx2.keep Flat.keeps (Sub.plus_upto (Sub.nowhere _)) (Same.refl _ _))
  obtain ⟨Ax2, cx2, rfl, -⟩ := hx2.form
  clear hx2 hb2 x0 x1 x2 x3 x4 hR1 X1
  have hR1 := HR.out w2 B2.out
  have x0 := hR1.2.2.2.cell 0 _ rfl; have x1 := hR1.2.2.2.cell 1 _ rfl; have x2 := hR1.2.2.2.cell 2 _ rfl; have x3 := hR1.2.2.2.cell 3 _ rfl; have x4 := hR1.2.2.2.cell 4 _ rfl
  go_wp2_with fail
  refine (apart_any t i j w2 _ _ hR1.1 hR1.2.1 hl hii hij).mono ?_
  rintro e w3 ⟨y1, y2, rfl, hy1, hy2, hb3⟩
  obtain ⟨e2, he2⟩ : ∃ z, z = apE t i j := ⟨_, rfl⟩
  have HE2 := Lib.hid he2
  rw [← he2]
  have B3 := Lib.hid (B2.out.trans (hb3.mono B2.out.size))
  have X13 := Lib.hid (X12.out.keep Flat.keeps (Sub.upto hb3.size) (same_of_below hb3 (Sub.refl _)))
  have X23 := Lib.hid (X2.out.keep Flat.keeps (Sub.upto hb3.size) (same_of_below hb3 (Sub.refl _)))
  have Y1 := Lib.hid (show RdI w3 (Upto w3.heap.size) (apL t i j i j) y1 from hy1.keep Flat.keeps (Sub.plus_upto (Sub.nowhere _)) (Same.refl _ _))
  have Y2 := Lib.hid (show RdI w3 (Upto w3.heap.size) (apL t i j j i) y2 from hy2.keep Flat.keeps (Sub.plus_upto (Sub.nowhere _)) (Same.refl _ _))
  obtain ⟨Ay1, cy1, rfl, -⟩ := hy1.form
  obtain ⟨Ay2, cy2, rfl, -⟩ := hy2.form
  clear he2 hy1 hy2 hb3 x0 x1 x2 x3 x4 hR1 X12 X2
  have hR1 := HR.out w3 B3.out
  have x0 := hR1.2.2.2.cell 0 _ rfl; have x1 := hR1.2.2.2.cell 1 _ rfl; have x2 := hR1.2.2.2.cell 2 _ rfl; have x3 := hR1.2.2.2.cell 3 _ rfl; have x4 := hR1.2.2.2.cell 4 _ rfl
  go_wp2_with fail
  refine (oapart_any t i j w3 _ _ hR1.1 hR1.2.1 hl hii hij).mono ?_
  rintro e w4 ⟨z1, z2, rfl, hz1, hz2, hb4⟩
  rw [← HE2.out]
  have B4 := Lib.hid (B3.out.trans (hb4.mono B3.out.size))
  have HC := Lib.hid (fun (l : List Int) v (h : RdI w3 (Upto w3.heap.size) l v) => h.keep Flat.keeps (Sub.upto hb4.size) (same_of_below hb4 (Sub.refl _)))
  have X14 := Lib.hid (HC.out _ _ X13.out)
  have X24 := Lib.hid (HC.out _ _ X23.out)
  have Y14 := Lib.hid (HC.out _ _ Y1.out)
  have Y24 := Lib.hid (HC.out _ _ Y2.out)
  have Z1 := Lib.hid (show RdI w4 (Upto w4.heap.size) (apL t i j i j) z1 from hz1.keep Flat.keeps (Sub.plus_upto (Sub.nowhere _)) (Same.refl _ _))
  have Z2 := Lib.hid (show RdI w4 (Upto w4.heap.size) (apL t i j j i) z2 from hz2.keep Flat.keeps (Sub.plus_upto (Sub.nowhere _)) (Same.refl _ _))
  obtain ⟨Az1, cz1, rfl, -⟩ := hz1.form
  obtain ⟨Az2, cz2, rfl, -⟩ := hz2.form
  clear hz1 hz2 hb4 x0 x1 x2 x3 x4 hR1 HC X13 X23 Y1 Y2 HE1 HE2 HR
  generalize seeL t o = l1 at *
  generalize apL t i j i j = l2 at *
  generalize apL t i j j i = l3 at *
  have hee1 : (e1 == e1) = true := by simp
  have hee2 : (e2 == e2) = true := by simp
  go_wp2_with fail
  refine (equalIs l1 w4 _ _ _ _ (Sub.refl _) (Sub.refl _) X14.out X24.out).mono ?_
  rintro e w5 ⟨rfl, hb5⟩
  have B5 := Lib.hid (B4.out.trans (hb5.mono B4.out.size))
  have HC := Lib.hid (fun (l : List Int) v (h : RdI w4 (Upto w4.heap.size) l v) => h.keep Flat.keeps (Sub.upto hb5.size) (same_of_below hb5 (Sub.refl _)))
  have Y15 := Lib.hid (HC.out _ _ Y14.out)
  have Y25 := Lib.hid (HC.out _ _ Y24.out)
  have Z15 := Lib.hid (HC.out _ _ Z1.out)
  have Z25 := Lib.hid (HC.out _ _ Z2.out)
  clear hb5 HC X14 X24 Y14 Y24 Z1 Z2
  go_wp2_with fail
  refine (equalIs l2 w5 _ _ _ _ (Sub.refl _) (Sub.refl _) Y15.out Z15.out).mono ?_
  rintro e w6 ⟨rfl, hb6⟩
  have B6 := Lib.hid (B5.out.trans (hb6.mono B5.out.size))
  have HC := Lib.hid (fun (l : List Int) v (h : RdI w5 (Upto w5.heap.size) l v) => h.keep Flat.keeps (Sub.upto hb6.size) (same_of_below hb6 (Sub.refl _)))
  have Y26 := Lib.hid (HC.out _ _ Y25.out)
  have Z26 := Lib.hid (HC.out _ _ Z25.out)
  clear hb6 HC Y15 Y25 Z15 Z25
  go_wp2_with fail
  refine (equalIs l3 w6 _ _ _ _ (Sub.refl _) (Sub.refl _) Y26.out Z26.out).mono ?_
  rintro e w7 ⟨rfl, hb7⟩
  have B7 := Lib.hid (BEL.out.trans ((B6.out.trans (hb7.mono B6.out.size)).mono BEL.out.size))
  clear hb7 Y26 Z26
  go_wp2
  go_ret
  exact ⟨rfl, B7.out⟩
end Go.Proofs.Ytfldajplclahfaa
