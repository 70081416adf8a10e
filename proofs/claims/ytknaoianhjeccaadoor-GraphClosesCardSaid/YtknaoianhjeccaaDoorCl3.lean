/- The walk of the law GraphCloses. -/
import Derived.Test.YtknaoianhjeccaaDoorCl2
import Derived.Test.YtknaoianhjeccaaDoorEd3
namespace Go.Proofs.YtknaoianhjeccaaDoor
open Go.RowKit
set_option linter.unusedVariables false
def clN (N : Int) (ps : List (Int × Int)) : Int := if wrongE N ps = 0 then N else 0
def clL (N : Int) (ps : List (Int × Int)) (c : Bool) : List (Int × Int) := if wrongE N ps = 0 then (edgU (rowP N.toNat (coreP c N.toNat (waysE N.toNat (natsP ps)))) N.toNat).map ceE else []
theorem cl_rd {N N' : Int} {ps : List (Int × Int)} {c : Bool} {w : World} {S : Blocks} {x : Value} (h1 : wrongE N ps = 0 → N' = N ∧ RdP w S ((edgU (rowP N.toNat (coreP c N.toNat (waysE N.toNat (natsP ps)))) N.toNat).map ceE) x)
    (h2 : wrongE N ps ≠ 0 → N' = 0 ∧ x = .slice none 0 0) : N' = clN N ps ∧ RdP w S (clL N ps c) x := by
  unfold clN clL
  by_cases hw : wrongE N ps = 0
  · rw [if_pos hw, if_pos hw]; exact h1 hw
  · rw [if_neg hw, if_neg hw, (h2 hw).2]; exact ⟨(h2 hw).1, RdL.nil (by unfold maxLen; omega)⟩
theorem coreP_false (n : Nat) (W : Nat → Nat → Bool) : coreP false n W = W := by
  funext i j; exact coreP_no n W i j
set_option maxHeartbeats 1600000 in
set_option maxRecDepth 100000 in
theorem graphCloses_walk (N : Int) (hNi : inI N) (ps : List (Int × Int)) (w : World) (ve : Value) (hT : Tab w) (r : RdP w (Upto w.heap.size) ps ve) :
    Calls Tryd.prog 3 #[.agg #[.int .i64 N, ve]] w fun e w' => e = .returned (.bool true) ∧ Below w.heap.size w w' := by
  obtain ⟨A, cap, rfl, hl, hcm, hby⟩ := r.form
  have bel : Below w.heap.size w (w.alloc (.cells #[.int .i64 N, .slice A ps.length cap] 24)) := (Below.refl _ _).alloc (Nat.le_refl _) _
  have hsz : w.heap.size ≤ ((w.alloc (.cells #[.int .i64 N, .slice A ps.length cap] 24))).heap.size := by rw [World.size_alloc]; omega
  have BB := Blk.made w [.int .i64 N, .slice A ps.length cap] 24 (base := 0) (Nat.zero_le _)
  have k0 := BB.cell 0 _ rfl
  have k1 := BB.cell 1 _ rfl
  have HB := Lib.hid BB
  have BEL := Lib.hid bel
  have RA := Lib.hid (r.go Flat.keeps bel (Sub.refl _) (Sub.refl _))
  have HT := Lib.hid (hT.go bel)
  have C1 := Lib.hid (closure_any N hNi ps (w.alloc (.cells #[.int .i64 N, .slice A ps.length cap] 24)) (Upto w.heap.size) _ (Sub.upto hsz) (hT.go bel) (r.go Flat.keeps bel (Sub.refl _) (Sub.refl _)))
  clear bel r BB hT
  go_enter Tryd.func3, Tryd.ntmps3
  go_upto_region 1 with (fail)
  generalize (w.alloc (.cells #[.int .i64 N, .slice A ps.length cap] 24)) = W at *
  have hWw := BEL.out.size
  have hSu := Lib.hid (Sub.upto hWw)
  go_wp2_with fail
  refine C1.out.mono ?_
  rintro e w1 ⟨N1, x1, rfl, h1, h2, hb1⟩
  obtain ⟨hN1, r1⟩ := cl_rd (c := false) (by rw [coreP_false]; exact h1) h2
  subst hN1
  obtain ⟨A1, d1, rfl, -, -, -⟩ := r1.form
  have al1 : Below w1.heap.size w1 (w1.alloc (.cells #[.int .i64 (clN N ps), .slice A1 (clL N ps false).length d1] 24)) := (Below.refl _ _).alloc (Nat.le_refl _) _
  have bb1 : Below W.heap.size W (w1.alloc (.cells #[.int .i64 (clN N ps), .slice A1 (clL N ps false).length d1] 24)) := hb1.trans (al1.mono hb1.size)
  have D1 := Lib.hid (Blk.made w1 [.int .i64 (clN N ps), .slice A1 (clL N ps false).length d1] 24 (base := 0) (Nat.zero_le _))
  have X1 := Lib.hid (r1.go Flat.keeps al1 plus_upto plus_upto)
  have hu1 := Lib.hid al1.size
  have K1 := Lib.hid (show Below W.heap.size W (w1.alloc (.cells #[.int .i64 (clN N ps), .slice A1 (clL N ps false).length d1] 24)) from bb1)
  have B1 := Lib.hid (HB.out.below bb1)
  have C2 := Lib.hid (bclosure_any N hNi ps false (w1.alloc (.cells #[.int .i64 (clN N ps), .slice A1 (clL N ps false).length d1] 24)) (Upto w.heap.size) _ (hSu.out.trans (Sub.upto K1.out.size)) (RA.out.go Flat.keeps K1.out hSu.out (Sub.refl _)))
  obtain ⟨z1, hz1⟩ : ∃ z, z = w1.heap.size := ⟨_, rfl⟩
  clear h1 h2 hb1 C1 r1 al1 bb1 k0 k1
  have k0 := B1.out.cell 0 _ rfl
  have k1 := B1.out.cell 1 _ rfl
  go_upto_region 2 with (fail)
  rw [← hz1] at D1 X1 hu1 ⊢
  generalize (w1.alloc (.cells #[.int .i64 (clN N ps), .slice A1 (clL N ps false).length d1] 24)) = U1 at *
  clear hz1
  go_wp2_with fail
  refine C2.out.mono ?_
  rintro e w2 ⟨N2, x2, rfl, h1, h2, hb2⟩
  obtain ⟨hN2, r2⟩ := cl_rd (c := false) h1 h2
  subst hN2
  obtain ⟨A2, d2, rfl, -, -, -⟩ := r2.form
  have al2 : Below w2.heap.size w2 (w2.alloc (.cells #[.int .i64 (clN N ps), .slice A2 (clL N ps false).length d2] 24)) := (Below.refl _ _).alloc (Nat.le_refl _) _
  have bb2 : Below U1.heap.size U1 (w2.alloc (.cells #[.int .i64 (clN N ps), .slice A2 (clL N ps false).length d2] 24)) := hb2.trans (al2.mono hb2.size)
  have D2 := Lib.hid (Blk.made w2 [.int .i64 (clN N ps), .slice A2 (clL N ps false).length d2] 24 (base := 0) (Nat.zero_le _))
  have X2 := Lib.hid (r2.go Flat.keeps al2 plus_upto plus_upto)
  have hu2 := Lib.hid al2.size
  have D1 := Lib.hid (D1.out.below bb2)
  have X1 := Lib.hid (X1.out.go Flat.keeps bb2 (Sub.upto hu1.out) (Sub.refl _))
  have hu1 := Lib.hid (Nat.le_trans hu1.out bb2.size)
  have K2 := Lib.hid (show Below W.heap.size W (w2.alloc (.cells #[.int .i64 (clN N ps), .slice A2 (clL N ps false).length d2] 24)) from K1.out.trans (bb2.mono K1.out.size))
  have B2 := Lib.hid (B1.out.below bb2)
  have C3 := Lib.hid (core_any N hNi ps (w2.alloc (.cells #[.int .i64 (clN N ps), .slice A2 (clL N ps false).length d2] 24)) (Upto w.heap.size) _ (hSu.out.trans (Sub.upto K2.out.size)) (HT.out.go K2.out) (RA.out.go Flat.keeps K2.out hSu.out (Sub.refl _)))
  obtain ⟨z2, hz2⟩ : ∃ z, z = w2.heap.size := ⟨_, rfl⟩
  clear h1 h2 hb2 C2 r2 al2 bb2 k0 k1
  have k0 := B2.out.cell 0 _ rfl
  have k1 := B2.out.cell 1 _ rfl
  go_upto_region 3 with (fail)
  rw [← hz2] at D2 X2 hu2 ⊢
  generalize (w2.alloc (.cells #[.int .i64 (clN N ps), .slice A2 (clL N ps false).length d2] 24)) = U2 at *
  clear hz2
  go_wp2_with fail
  refine C3.out.mono ?_
  rintro e w3 ⟨N3, x3, rfl, h1, h2, hb3⟩
  obtain ⟨hN3, r3⟩ := cl_rd (c := true) h1 h2
  subst hN3
  obtain ⟨A3, d3, rfl, -, -, -⟩ := r3.form
  have al3 : Below w3.heap.size w3 (w3.alloc (.cells #[.int .i64 (clN N ps), .slice A3 (clL N ps true).length d3] 24)) := (Below.refl _ _).alloc (Nat.le_refl _) _
  have bb3 : Below U2.heap.size U2 (w3.alloc (.cells #[.int .i64 (clN N ps), .slice A3 (clL N ps true).length d3] 24)) := hb3.trans (al3.mono hb3.size)
  have D3 := Lib.hid (Blk.made w3 [.int .i64 (clN N ps), .slice A3 (clL N ps true).length d3] 24 (base := 0) (Nat.zero_le _))
  have X3 := Lib.hid (r3.go Flat.keeps al3 plus_upto plus_upto)
  have hu3 := Lib.hid al3.size
  have D1 := Lib.hid (D1.out.below bb3)
  have X1 := Lib.hid (X1.out.go Flat.keeps bb3 (Sub.upto hu1.out) (Sub.refl _))
  have hu1 := Lib.hid (Nat.le_trans hu1.out bb3.size)
  have D2 := Lib.hid (D2.out.below bb3)
  have X2 := Lib.hid (X2.out.go Flat.keeps bb3 (Sub.upto hu2.out) (Sub.refl _))
  have hu2 := Lib.hid (Nat.le_trans hu2.out bb3.size)
  have K3 := Lib.hid (show Below W.heap.size W (w3.alloc (.cells #[.int .i64 (clN N ps), .slice A3 (clL N ps true).length d3] 24)) from K2.out.trans (bb3.mono K2.out.size))
  have B3 := Lib.hid (B2.out.below bb3)
  have C4 := Lib.hid (bclosure_any N hNi ps true (w3.alloc (.cells #[.int .i64 (clN N ps), .slice A3 (clL N ps true).length d3] 24)) (Upto w.heap.size) _ (hSu.out.trans (Sub.upto K3.out.size)) (RA.out.go Flat.keeps K3.out hSu.out (Sub.refl _)))
  obtain ⟨z3, hz3⟩ : ∃ z, z = w3.heap.size := ⟨_, rfl⟩
  clear h1 h2 hb3 C3 r3 al3 bb3 k0 k1
  have k0 := B3.out.cell 0 _ rfl
  have k1 := B3.out.cell 1 _ rfl
  go_upto_region 4 with (fail)
  rw [← hz3] at D3 X3 hu3 ⊢
  generalize (w3.alloc (.cells #[.int .i64 (clN N ps), .slice A3 (clL N ps true).length d3] 24)) = U3 at *
  clear hz3
  go_wp2_with fail
  refine C4.out.mono ?_
  rintro e w4 ⟨N4, x4, rfl, h1, h2, hb4⟩
  obtain ⟨hN4, r4⟩ := cl_rd (c := true) h1 h2
  subst hN4
  obtain ⟨A4, d4, rfl, -, -, -⟩ := r4.form
  have al4 : Below w4.heap.size w4 (w4.alloc (.cells #[.int .i64 (clN N ps), .slice A4 (clL N ps true).length d4] 24)) := (Below.refl _ _).alloc (Nat.le_refl _) _
  have bb4 : Below U3.heap.size U3 (w4.alloc (.cells #[.int .i64 (clN N ps), .slice A4 (clL N ps true).length d4] 24)) := hb4.trans (al4.mono hb4.size)
  have D4 := Lib.hid (Blk.made w4 [.int .i64 (clN N ps), .slice A4 (clL N ps true).length d4] 24 (base := 0) (Nat.zero_le _))
  have X4 := Lib.hid (r4.go Flat.keeps al4 plus_upto plus_upto)
  have hu4 := Lib.hid al4.size
  have D1 := Lib.hid (D1.out.below bb4)
  have X1 := Lib.hid (X1.out.go Flat.keeps bb4 (Sub.upto hu1.out) (Sub.refl _))
  have hu1 := Lib.hid (Nat.le_trans hu1.out bb4.size)
  have D2 := Lib.hid (D2.out.below bb4)
  have X2 := Lib.hid (X2.out.go Flat.keeps bb4 (Sub.upto hu2.out) (Sub.refl _))
  have hu2 := Lib.hid (Nat.le_trans hu2.out bb4.size)
  have D3 := Lib.hid (D3.out.below bb4)
  have X3 := Lib.hid (X3.out.go Flat.keeps bb4 (Sub.upto hu3.out) (Sub.refl _))
  have hu3 := Lib.hid (Nat.le_trans hu3.out bb4.size)
  have K4 := Lib.hid (show Below W.heap.size W (w4.alloc (.cells #[.int .i64 (clN N ps), .slice A4 (clL N ps true).length d4] 24)) from K3.out.trans (bb4.mono K3.out.size))
  have B4 := Lib.hid (B3.out.below bb4)
  have C5 := Lib.hid (sameGraph (clN N ps) (clL N ps false) (w4.alloc (.cells #[.int .i64 (clN N ps), .slice A4 (clL N ps true).length d4] 24)) _ _ _ _ (Sub.upto hu1.out) (Sub.upto hu2.out) X1.out X2.out)
  have C6 := Lib.hid (fun (v : World) (hv : Below ((w4.alloc (.cells #[.int .i64 (clN N ps), .slice A4 (clL N ps true).length d4] 24))).heap.size (w4.alloc (.cells #[.int .i64 (clN N ps), .slice A4 (clL N ps true).length d4] 24)) v) => sameGraph (clN N ps) (clL N ps true) v _ _ _ _ (Sub.upto (Nat.le_trans hu3.out hv.size)) (Sub.upto (Nat.le_trans hu4.out hv.size)) (X3.out.go Flat.keeps hv (Sub.upto hu3.out) (Sub.refl _)) (X4.out.go Flat.keeps hv (Sub.upto hu4.out) (Sub.refl _)))
  obtain ⟨z4, hz4⟩ : ∃ z, z = w4.heap.size := ⟨_, rfl⟩
  clear h1 h2 hb4 C4 r4 al4 bb4 k0 k1
  have k0 := B4.out.cell 0 _ rfl
  have k1 := B4.out.cell 1 _ rfl
  go_upto_region 5 with (fail)
  rw [← hz4] at D4 X4 hu4 ⊢
  generalize (w4.alloc (.cells #[.int .i64 (clN N ps), .slice A4 (clL N ps true).length d4] 24)) = U4 at *
  clear hz4
  have hd10 := D1.out.cell 0 _ rfl
  have hd11 := D1.out.cell 1 _ rfl
  have hd20 := D2.out.cell 0 _ rfl
  have hd21 := D2.out.cell 1 _ rfl
  go_wp2_with fail
  refine C5.out.mono ?_
  rintro e w5 ⟨rfl, hb5⟩
  have hd30 := (D3.out.below hb5).cell 0 _ rfl
  have hd31 := (D3.out.below hb5).cell 1 _ rfl
  have hd40 := (D4.out.below hb5).cell 0 _ rfl
  have hd41 := (D4.out.below hb5).cell 1 _ rfl
  have C7 := Lib.hid (C6.out w5 hb5)
  have K5 := Lib.hid (K4.out.trans (hb5.mono K4.out.size))
  clear hb5 C5 C6 hd10 hd11 hd20 hd21
  go_wp2_with fail
  refine C7.out.mono ?_
  rintro e w6 ⟨rfl, hb6⟩
  have K6 := Lib.hid (K5.out.trans (hb6.mono K5.out.size))
  clear hb6 C7
  go_wp2
  go_ret
  exact ⟨rfl, BEL.out.trans (K6.out.mono hWw)⟩
end Go.Proofs.YtknaoianhjeccaaDoor
