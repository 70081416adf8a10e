/- The walk of the law OrderLevels. -/
import Derived.Test.YthbbecmffndgdabDoorOl4
import Derived.Test.YthbbecmffndgdabDoorOl5
import Derived.Test.YthbbecmffndgdabDoorEqI
namespace Go.Proofs.YthbbecmffndgdabDoor
open Go.RowKit
set_option linter.unusedVariables false
def lvW (N : Int) (ps : List (Int × Int)) : List Int := if wrongE N ps = 0 then natRow N.toNat (levE N.toNat (natsP ps)) else []
theorem lev_rd {N : Int} {ps : List (Int × Int)} {w w' : World} {x : Value}
    (h1 : wrongE N ps = 0 → ∃ g, x = .slice (some ⟨g, 0, none⟩) N.toNat N.toNat ∧ Blk w.heap.size w' g (rowN N.toNat (levE N.toNat (natsP ps)))) (h2 : wrongE N ps ≠ 0 → x = .slice none 0 0) :
    RdI w' (Plus Nowhere w.heap.size w'.heap.size) (lvW N ps) x := by
  unfold lvW
  by_cases hw : wrongE N ps = 0
  · rw [if_pos hw]
    obtain ⟨g, rfl, hb⟩ := h1 hw
    have hz := wrongE_zero hw
    exact hb.rdN (.inr ⟨hb.ge, hb.lt⟩) (by omega) (fun k _ => by have := levE_le N.toNat (natsP ps) k; omega)
  · rw [if_neg hw, h2 hw]
    exact RdL.nil (by unfold maxLen; omega)
set_option maxHeartbeats 1600000 in
set_option maxRecDepth 100000 in
theorem orderLevels_walk (N : Int) (hNi : inI N) (ps : List (Int × Int)) (w : World) (ve : Value) (hT : Tab w) (r : RdP w (Upto w.heap.size) ps ve) :
    Calls Tryd.prog 6 #[.agg #[.int .i64 N, ve]] w fun e w' => e = .returned (.bool true) ∧ Below w.heap.size w w' := by
  obtain ⟨A, cap, rfl, hl, hcm, hby⟩ := r.form
  have bel : Below w.heap.size w (w.alloc (.cells #[.int .i64 N, .slice A ps.length cap] 24)) := (Below.refl _ _).alloc (Nat.le_refl _) _
  have hsz : w.heap.size ≤ ((w.alloc (.cells #[.int .i64 N, .slice A ps.length cap] 24))).heap.size := by rw [World.size_alloc]; omega
  have BB := Blk.made w [.int .i64 N, .slice A ps.length cap] 24 (base := 0) (Nat.zero_le _)
  have k0 := BB.cell 0 _ rfl
  have k1 := BB.cell 1 _ rfl
  have HB := Lib.hid BB
  have BEL := Lib.hid bel
  have RA := Lib.hid (r.go Flat.keeps bel (Sub.refl _) (Sub.refl _))
  have HT := Lib.hid (hT.go bel)
  have C1 := Lib.hid (levels_any N hNi ps (w.alloc (.cells #[.int .i64 N, .slice A ps.length cap] 24)) (Upto w.heap.size) _ (Sub.upto hsz) (hT.go bel) (r.go Flat.keeps bel (Sub.refl _) (Sub.refl _)))
  clear bel r BB hT
  go_enter Tryd.func6, Tryd.ntmps6
  go_upto_region 1 with (fail)
  generalize (w.alloc (.cells #[.int .i64 N, .slice A ps.length cap] 24)) = W at *
  have hWw := BEL.out.size
  have hSu := Lib.hid (Sub.upto hWw)
  -- Levels
  go_wp2_with fail
  refine C1.out.mono ?_
  rintro e w1 ⟨x1, rfl, h1, h2, hb1⟩
  have X1 := Lib.hid (lev_rd h1 h2)
  have K1 := Lib.hid hb1
  have B1 := Lib.hid (HB.out.below hb1)
  have C2 := Lib.hid (clevels_any N hNi ps w1 (Upto w.heap.size) _ (hSu.out.trans (Sub.upto hb1.size)) (RA.out.go Flat.keeps hb1 hSu.out (Sub.refl _)))
  clear h1 h2 hb1 k0 k1 C1
  have k0 := B1.out.cell 0 _ rfl
  have k1 := B1.out.cell 1 _ rfl
  go_wp2_with fail
  refine C2.out.mono ?_
  rintro e w2 ⟨x2, rfl, h1, h2, hb2⟩
  have X2 := Lib.hid (lev_rd h1 h2)
  have K2 := Lib.hid (K1.out.trans (hb2.mono K1.out.size))
  have X1b := Lib.hid (X1.out.go Flat.keeps hb2 plus_upto (Sub.refl _))
  have B2 := Lib.hid (B1.out.below hb2)
  have hz2 := hb2.size
  have C3 := Lib.hid (height_any N hNi ps w2 (Upto w.heap.size) _ (hSu.out.trans (Sub.upto K2.out.size)) (HT.out.go K2.out) (RA.out.go Flat.keeps K2.out hSu.out (Sub.refl _)))
  clear h1 h2 hb2 k0 k1 C2 X1
  have k0 := B2.out.cell 0 _ rfl
  have k1 := B2.out.cell 1 _ rfl
  go_wp2_with fail
  refine C3.out.mono ?_
  rintro e w3 ⟨rfl, hb3⟩
  have K3 := Lib.hid (K2.out.trans (hb3.mono K2.out.size))
  have X1c := Lib.hid (X1b.out.go Flat.keeps hb3 (plus_upto.trans (Sub.upto hz2)) (Sub.refl _))
  have X2b := Lib.hid (X2.out.go Flat.keeps hb3 plus_upto (Sub.refl _))
  have B3 := Lib.hid (B2.out.below hb3)
  have hz3 := hb3.size
  have C4 := Lib.hid (cheight_any N hNi ps w3 (Upto w.heap.size) _ (hSu.out.trans (Sub.upto K3.out.size)) (RA.out.go Flat.keeps K3.out hSu.out (Sub.refl _)))
  clear hb3 k0 k1 C3 X1b X2
  have k0 := B3.out.cell 0 _ rfl
  have k1 := B3.out.cell 1 _ rfl
  go_wp2_with fail
  refine C4.out.mono ?_
  rintro e w4 ⟨rfl, hb4⟩
  have K4 := Lib.hid (K3.out.trans (hb4.mono K3.out.size))
  have X1d := Lib.hid (X1c.out.go Flat.keeps hb4 (plus_upto.trans (Sub.upto (Nat.le_trans hz2 hz3))) (Sub.refl _))
  have X2c := Lib.hid (X2b.out.go Flat.keeps hb4 (plus_upto.trans (Sub.upto hz3)) (Sub.refl _))
  have B4 := Lib.hid (B3.out.below hb4)
  have hz4 := hb4.size
  have C5 := Lib.hid (chain_any N hNi ps w4 (Upto w.heap.size) _ (hSu.out.trans (Sub.upto K4.out.size)) (HT.out.go K4.out) (RA.out.go Flat.keeps K4.out hSu.out (Sub.refl _)))
  clear hb4 k0 k1 C4 X1c X2b
  have k0 := B4.out.cell 0 _ rfl
  have k1 := B4.out.cell 1 _ rfl
  go_wp2_with fail
  refine C5.out.mono ?_
  rintro e w5 ⟨x5, rfl, h5, hb5⟩
  have X5 := Lib.hid h5
  have K5 := Lib.hid (K4.out.trans (hb5.mono K4.out.size))
  have X1e := Lib.hid (X1d.out.go Flat.keeps hb5 (plus_upto.trans (Sub.upto (Nat.le_trans hz2 (Nat.le_trans hz3 hz4)))) (Sub.refl _))
  have X2d := Lib.hid (X2c.out.go Flat.keeps hb5 (plus_upto.trans (Sub.upto (Nat.le_trans hz3 hz4))) (Sub.refl _))
  have B5 := Lib.hid (B4.out.below hb5)
  have hz5 := hb5.size
  have C6 := Lib.hid (cchain_any N hNi ps w5 (Upto w.heap.size) _ (hSu.out.trans (Sub.upto K5.out.size)) (RA.out.go Flat.keeps K5.out hSu.out (Sub.refl _)))
  clear h5 hb5 k0 k1 C5 X1d X2c
  have k0 := B5.out.cell 0 _ rfl
  have k1 := B5.out.cell 1 _ rfl
  go_wp2_with fail
  refine C6.out.mono ?_
  rintro e w6 ⟨x6, rfl, h6, hb6⟩
  have X6 := Lib.hid h6
  have K6 := Lib.hid (K5.out.trans (hb6.mono K5.out.size))
  have hz6 := hb6.size
  have X1f := Lib.hid (X1e.out.go Flat.keeps hb6 (plus_upto.trans (Sub.upto (Nat.le_trans hz2 (Nat.le_trans hz3 (Nat.le_trans hz4 hz5))))) (Sub.refl _))
  have X2e := Lib.hid (X2d.out.go Flat.keeps hb6 (plus_upto.trans (Sub.upto (Nat.le_trans hz3 (Nat.le_trans hz4 hz5)))) (Sub.refl _))
  have X5b := Lib.hid (X5.out.go Flat.keeps hb6 plus_upto (Sub.refl _))
  have E1 := Lib.hid (equalIs _ w6 _ _ x1 x2 (plus_upto.trans (Sub.upto (Nat.le_trans hz2 (Nat.le_trans hz3 (Nat.le_trans hz4 (Nat.le_trans hz5 hz6)))))) (plus_upto.trans (Sub.upto (Nat.le_trans hz3 (Nat.le_trans hz4 (Nat.le_trans hz5 hz6))))) X1f.out X2e.out)
  have E2 := Lib.hid (fun (w7 : World) (hb7 : Below w6.heap.size w6 w7) => equalIs _ w7 _ _ x5 x6 (plus_upto.trans (Sub.upto (Nat.le_trans hz6 hb7.size))) (plus_upto.trans (Sub.upto hb7.size)) (X5b.out.go Flat.keeps hb7 (plus_upto.trans (Sub.upto hz6)) (Sub.refl _)) (X6.out.go Flat.keeps hb7 plus_upto (Sub.refl _)))
  clear h6 hb6 k0 k1 C6 X1e X2d X5 X6 X1f X2e X5b
  go_wp2_with fail
  refine E1.out.mono ?_
  rintro e w7 ⟨rfl, hb7⟩
  have C8 := Lib.hid (E2.out w7 hb7)
  have K7 := Lib.hid (K6.out.trans (hb7.mono K6.out.size))
  clear hb7 E1 E2
  go_wp2_with fail
  refine C8.out.mono ?_
  rintro e w8 ⟨rfl, hb8⟩
  have K8 := Lib.hid (K7.out.trans (hb8.mono K7.out.size))
  clear hb8 C8
  go_wp2
  go_ret
  exact ⟨rfl, BEL.out.trans (K8.out.mono hWw)⟩
end Go.Proofs.YthbbecmffndgdabDoor
