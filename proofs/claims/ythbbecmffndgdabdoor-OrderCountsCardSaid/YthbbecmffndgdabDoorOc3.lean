/- The walk of the reference's CCount; the walk of the law OrderCounts. -/
import Derived.Test.YthbbecmffndgdabDoorOc1
import Derived.Test.YthbbecmffndgdabDoorOc2
import Derived.Test.YthbbecmffndgdabDoorGr4
namespace Go.Proofs.YthbbecmffndgdabDoor
open Go.RowKit
set_option linter.unusedVariables false
set_option maxHeartbeats 1600000 in
set_option maxRecDepth 100000 in
theorem ccountB_any (N : Int) (hNi : inI N) (ps : List (Int × Int)) (w : World) (S : Blocks) (ve : Value) (hS : Sub S (Upto w.heap.size)) (r : RdP w S ps ve) :
    Calls Tryd.prog 9 #[.agg #[.int .i64 N, ve]] w fun e w' => e = .returned (.tuple #[.int .u64 (cntW N ps).1, .int .i64 (cntW N ps).2]) ∧ Below w.heap.size w w' := by
  obtain ⟨A, cap, rfl, hl, hcm, hby⟩ := r.form
  unfold maxLen at hcm
  have R := Lib.hid r
  have HS := Lib.hid hS
  clear r hS
  go_enter Tryd.func9, Tryd.ntmps9
  have b0 := Blk.made w [.int .i64 N, .slice A ps.length cap] 24 (base := 0) (Nat.zero_le _)
  have bl : Below w.heap.size w (w.alloc (.cells #[.int .i64 N, .slice A ps.length cap] 24)) := (Below.refl _ _).alloc (Nat.le_refl _) _
  have BL := Lib.hid bl
  have k0 := b0.cell 0 _ rfl
  have k1 := b0.cell 1 _ rfl
  have HB0 := Lib.hid b0
  have hsz0 : w.heap.size ≤ ((w.alloc (.cells #[.int .i64 N, .slice A ps.length cap] 24))).heap.size := by rw [World.size_alloc]; omega
  have C1 := Lib.hid (bwrong_any N hNi ps (w.alloc (.cells #[.int .i64 N, .slice A ps.length cap] 24)) S _ (HS.out.trans (Sub.upto hsz0)) (R.out.go Flat.keeps bl HS.out (Sub.refl _)))
  clear b0 bl
  go_upto_region 1 with (fail)
  generalize (w.alloc (.cells #[.int .i64 N, .slice A ps.length cap] 24)) = W0 at *
  go_wp2_with fail
  refine C1.out.mono ?_
  rintro e w1 ⟨rfl, hb1⟩
  have BL1 := Lib.hid (BL.out.trans (hb1.mono BL.out.size))
  have HB1 := Lib.hid (HB0.out.below hb1)
  clear C1 BL HB0 hb1 k0 k1 hsz0
  by_cases hw : wrongE N ps = 0
  · skip
    by_cases h14 : 14 < N
    · have HR := Lib.hid (show cntW N ps = (0, 2) by unfold cntW; rw [if_neg (by simp [hw]), if_pos h14])
      have k0 := HB1.out.cell 0 _ rfl
      rw [hw]
      clear hw
      go_wp2_with fail
      go_ret2
      exact ⟨by rw [HR.out]; rfl, BL1.out⟩
    · skip
      have hrg : 0 ≤ N ∧ N ≤ 200 ∧ ps.any (badP N) = false := by
        unfold wrongE at hw
        cases hx : rangeW N ps with
        | true => rw [hx] at hw; simp at hw
        | false =>
          unfold rangeW at hx
          simp only [Bool.or_eq_false_iff, decide_eq_false_iff_not] at hx
          exact ⟨by omega, by omega, hx.2⟩
      obtain ⟨hn0, _, hgd⟩ := hrg
      have HR := Lib.hid (show cntW N ps = ((cC N.toNat (natsP ps) 0 : Int), 0) by unfold cntW; rw [if_neg (by simp [hw]), if_neg h14])
      obtain ⟨hps, hval⟩ := good_ps hgd
      obtain ⟨n, hnn⟩ : ∃ n : Nat, N = (n : Int) := ⟨N.toNat, by omega⟩
      subst hnn
      rw [Int.toNat_natCast] at hval HR
      obtain ⟨es, hes⟩ : ∃ es, es = natsP ps := ⟨_, rfl⟩
      have hel : ps.length = es.length := by rw [hes, natsP_len]
      rw [← hes] at hps hval HR
      rw [← hps, List.length_map] at R
      rw [hel] at hl hby HB1 ⊢
      rw [hw]
      have HV := Lib.hid hval
      have hn14 : n ≤ 14 := by omega
      have hn14 : n ≤ 14 := by omega
      clear hw hgd hps hval hes hel h14 hn0
      have k0 := HB1.out.cell 0 _ rfl
      have k1 := HB1.out.cell 1 _ rfl
      have bx : Below w1.heap.size w1 (w1.alloc (.map #[] 0)) := (Below.refl _ _).alloc (Nat.le_refl _) _
      have hsw := BL1.out.size
      have HM := Lib.hid (show HadC (w1.alloc (.map #[] 0)) w1.heap.size n es (fun _ => none) from ⟨⟨0, Nat.zero_le _, OwnO.made w1⟩, fun t v h => by cases h⟩)
      have HC := Lib.hid (ccount_any n hn14 es HV.out (2 ^ n) 0 (w1.alloc (.map #[] 0)) S (.slice A es.length cap) w1.heap.size (fun _ => none) (Nat.two_pow_pos n) (Nat.sub_le _ _) (HS.out.trans (Sub.upto (by rw [World.size_alloc]; omega))) (fun h => by have : w1.heap.size < w.heap.size := HS.out _ h; omega)
        ((R.out.go Flat.keeps BL1.out HS.out (Sub.refl _)).go Flat.keeps bx (HS.out.trans (Sub.upto hsw)) (Sub.refl _)) HM.out)
      have BX := Lib.hid (BL1.out.trans (bx.mono hsw))
      clear bx
      have hmm := @run_makeMap Tryd.prog
      go_wp2_with fail
      refine HC.out.mono ?_
      rintro e w5 ⟨rfl, f', _, _, hb5⟩
      have BZ := Lib.hid (BX.out.trans (hb5.below (by rw [World.size_alloc]; omega) (fun k hk => by have : k = w1.heap.size := hk; omega)))
      clear hb5 HC BX
      go_wp2
      go_ret2
      exact ⟨by rw [HR.out]; rfl, BZ.out⟩
  · have HR := Lib.hid (show cntW N ps = (0, wrongE N ps) by unfold cntW; rw [if_pos hw])
    go_wp2_with fail
    go_ret2
    exact ⟨by rw [HR.out]; rfl, BL1.out⟩
set_option maxHeartbeats 800000 in
theorem orderCounts_walk (N : Int) (hNi : inI N) (ps : List (Int × Int)) (w : World) (ve : Value) (hT : Tab w) (r : RdP w (Upto w.heap.size) ps ve) :
    Calls Tryd.prog 3 #[.agg #[.int .i64 N, ve]] w fun e w' => e = .returned (.bool true) ∧ Below w.heap.size w w' := by
  obtain ⟨A, cap, rfl, hl, hcm, hby⟩ := r.form
  --(w.alloc (.cells #[.int .i64 N, .slice A ps.length cap] 24)) = (w.alloc (.cells #[.int .i64 N, .slice A ps.length cap] 24))
  have bel : Below w.heap.size w (w.alloc (.cells #[.int .i64 N, .slice A ps.length cap] 24)) := (Below.refl _ _).alloc (Nat.le_refl _) _
  have hsz : w.heap.size ≤ ((w.alloc (.cells #[.int .i64 N, .slice A ps.length cap] 24))).heap.size := by rw [World.size_alloc]; omega
  have BB := Blk.made w [.int .i64 N, .slice A ps.length cap] 24 (base := 0) (Nat.zero_le _)
  have k0 := BB.cell 0 _ rfl
  have k1 := BB.cell 1 _ rfl
  have HB := Lib.hid BB
  have BEL := Lib.hid bel
  have RA := Lib.hid (r.go Flat.keeps bel (Sub.refl _) (Sub.refl _))
  have C1 := Lib.hid (count_any N hNi ps (w.alloc (.cells #[.int .i64 N, .slice A ps.length cap] 24)) (Upto w.heap.size) _ (Sub.upto hsz) (hT.go bel) (r.go Flat.keeps bel (Sub.refl _) (Sub.refl _)))
  clear bel r BB hT
  go_enter Tryd.func3, Tryd.ntmps3
  go_upto_region 1 with (fail)
  generalize (w.alloc (.cells #[.int .i64 N, .slice A ps.length cap] 24)) = W at *
  go_wp2_with fail
  refine C1.out.mono ?_
  rintro e w1 ⟨rfl, hb1⟩
  have HB1 := Lib.hid (HB.out.below hb1)
  have B1 := Lib.hid (BEL.out.trans (hb1.mono BEL.out.size))
  have C2 := Lib.hid (ccountB_any N hNi ps w1 (Upto w.heap.size) _ (Sub.upto B1.out.size) (RA.out.go Flat.keeps hb1 (Sub.upto hsz) (Sub.refl _)))
  clear hb1 k0 k1 C1 HB
  have k0 := HB1.out.cell 0 _ rfl
  have k1 := HB1.out.cell 1 _ rfl
  go_wp2_with fail
  refine C2.out.mono ?_
  rintro e w2 ⟨rfl, hb2⟩
  have B2 := Lib.hid (B1.out.trans (hb2.mono B1.out.size))
  clear hb2 C2 k0 k1
  go_wp2
  go_ret
  exact ⟨rfl, B2.out⟩
end Go.Proofs.YthbbecmffndgdabDoor
