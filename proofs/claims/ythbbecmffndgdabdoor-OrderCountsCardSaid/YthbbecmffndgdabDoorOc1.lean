/- The walk of order.Count. -/
import Derived.Test.YthbbecmffndgdabDoorGr2
import Derived.Test.YthbbecmffndgdabDoorOcSpec
namespace Go.Proofs.YthbbecmffndgdabDoor
open Go.RowKit
set_option linter.unusedVariables false
theorem infoCi : (Tryd.prog.info? 3).map (fun i => (i.zero, i.size, i.bytes)) = some (some (.int .i64 0), 1, 8) := by kernel_rfl
theorem infoCu : (Tryd.prog.info? 25).map (fun i => (i.zero, i.size, i.bytes)) = some (some (.int .u64 0), 1, 8) := by kernel_rfl
/-- N words, said one by one -/
def rowW (N : Nat) (f : Nat → Nat) : List Value := (List.range N).map fun m => Value.int .u64 (f m : Int)
theorem rowW_len {N : Nat} {f : Nat → Nat} : (rowW N f).length = N := by simp [rowW]
theorem rowW_get {N : Nat} {f : Nat → Nat} {k : Nat} (h : k < N) : (rowW N f)[k]? = some (.int .u64 (f k : Int)) := by
  unfold rowW; rw [List.getElem?_map, List.getElem?_range h]; rfl
theorem rowW_set {N : Nat} {f : Nat → Nat} {m y : Nat} : (rowW N f).set m (.int .u64 (y : Int)) = rowW N (fun k => if k = m then y else f k) := by
  apply List.ext_getElem?
  intro j
  rw [List.getElem?_set, rowW_len]
  by_cases hj : j < N
  · rw [rowW_get hj, rowW_get hj]
    by_cases e : m = j
    · subst e; simp [hj]
    · rw [if_neg e, if_neg (fun h => e h.symm)]
  · rw [List.getElem?_eq_none (l := rowW N f) (by rw [rowW_len]; omega), List.getElem?_eq_none (l := rowW N _) (by rw [rowW_len]; omega)]
    by_cases e : m = j
    · subst e; rw [if_pos rfl, if_neg hj]
    · rw [if_neg e]
theorem rowW_zero (N : Nat) : List.replicate N (Value.int .u64 0) = rowW N (fun _ => 0) := by
  unfold rowW; apply List.ext_getElem <;> simp
theorem Blk.atW {base : Nat} {w : World} {b N : Nat} {f : Nat → Nat} (h : Blk base w b (rowW N f)) {k : Nat} (hk : k < N) : w.cell? ⟨b, k, none⟩ = some (.int .u64 (f k : Int)) := h.cell k _ (rowW_get hk)
theorem Blk.setW {base : Nat} {w : World} {b N : Nat} {f : Nat → Nat} (h : Blk base w b (rowW N f)) {k y : Nat} (hk : k < N) : Blk base (w.setCell ⟨b, k, none⟩ (.int .u64 (y : Int))) b (rowW N (fun j => if j = k then y else f j)) := by
  rw [← rowW_set]
  exact h.set (by rw [rowW_len]; exact hk) _
theorem Blk.congr2 {base : Nat} {w : World} {b N : Nat} {f g : Nat → Nat} (h : Blk base w b (rowW N f)) (e : ∀ k, k < N → f k = g k) : Blk base w b (rowW N g) := by
  have : rowW N f = rowW N g := by
    unfold rowW
    apply List.map_congr_left
    intro k hk
    rw [e k (List.mem_range.1 hk)]
  rw [← this]; exact h
theorem shr_bit (s n : Nat) : (((s : Int) / (2 ^ n : Int)) % 2 = 0 ↔ s.testBit n = false) := by
  rw [Nat.testBit_eq_decide_div_mod_eq, decide_eq_false_iff_not]
  have : ((s : Int) / (2 ^ n : Int)) % 2 = ((s / 2 ^ n % 2 : Nat) : Int) := by
    simp
  rw [this]
  omega
set_option maxHeartbeats 1600000 in
set_option maxRecDepth 100000 in
theorem count_any (N : Int) (hNi : inI N) (ps : List (Int × Int)) (w : World) (S : Blocks) (ve : Value) (hS : Sub S (Upto w.heap.size)) (hT : Tab w) (r : RdP w S ps ve) :
    Calls Tryd.prog 8 #[.agg #[.int .i64 N, ve]] w fun e w' => e = .returned (.tuple #[.int .u64 (cntW N ps).1, .int .i64 (cntW N ps).2]) ∧ Below w.heap.size w w' := by
  obtain ⟨A, cap, rfl, hl, hcm, hby⟩ := r.form
  unfold maxLen at hcm
  obtain ⟨i0, hi, hz0, hz1, hz2⟩ := info_parts infoCi
  obtain ⟨i1, hj, hy0, hy1, hy2⟩ := info_parts infoCu
  have R := Lib.hid r
  have HS := Lib.hid hS
  clear r hS
  go_enter Tryd.func8, Tryd.ntmps8
  have b0 := Blk.made w [.int .i64 N, .slice A ps.length cap] 24 (base := 0) (Nat.zero_le _)
  have bl : Below w.heap.size w (w.alloc (.cells #[.int .i64 N, .slice A ps.length cap] 24)) := (Below.refl _ _).alloc (Nat.le_refl _) _
  have BL := Lib.hid bl
  have k0 := b0.cell 0 _ rfl
  have k1 := b0.cell 1 _ rfl
  have HB0 := Lib.hid b0
  have hsz0 : w.heap.size ≤ ((w.alloc (.cells #[.int .i64 N, .slice A ps.length cap] 24))).heap.size := by rw [World.size_alloc]; omega
  have C1 := Lib.hid (wrong_any N hNi ps (w.alloc (.cells #[.int .i64 N, .slice A ps.length cap] 24)) S _ (HS.out.trans (Sub.upto hsz0)) (hT.go bl) (R.out.go Flat.keeps bl HS.out (Sub.refl _)))
  clear b0 bl hT
  go_upto_region 1 with (fail)
  generalize (w.alloc (.cells #[.int .i64 N, .slice A ps.length cap] 24)) = W0 at *
  go_wp2_with fail
  refine C1.out.mono ?_
  rintro e w1 ⟨rfl, hb1⟩
  have BL1 := Lib.hid (BL.out.trans (hb1.mono BL.out.size))
  have HB1 := Lib.hid (HB0.out.below hb1)
  clear C1 BL HB0 hb1 k0 k1 hsz0
  by_cases hw : wrongE N ps = 0
  · skip
    by_cases h14 : 14 < N
    · have HR := Lib.hid (show cntW N ps = (0, 2) by unfold cntW; rw [if_neg (by simp [hw]), if_pos h14])
      have k0 := HB1.out.cell 0 _ rfl
      rw [hw]
      clear hw
      go_wp2_with fail
      go_ret2
      exact ⟨by rw [HR.out]; rfl, BL1.out⟩
    · skip
      have hrg : 0 ≤ N ∧ N ≤ 200 ∧ ps.any (badP N) = false := by
        unfold wrongE at hw
        cases hx : rangeW N ps with
        | true => rw [hx] at hw; simp at hw
        | false =>
          unfold rangeW at hx
          simp only [Bool.or_eq_false_iff, decide_eq_false_iff_not] at hx
          exact ⟨by omega, by omega, hx.2⟩
      obtain ⟨hn0, _, hgd⟩ := hrg
      have HR := Lib.hid (show cntW N ps = ((cC N.toNat (natsP ps) 0 : Int), 0) by unfold cntW; rw [if_neg (by simp [hw]), if_neg h14])
      obtain ⟨hps, hval⟩ := good_ps hgd
      obtain ⟨n, hnn⟩ : ∃ n : Nat, N = (n : Int) := ⟨N.toNat, by omega⟩
      subst hnn
      rw [Int.toNat_natCast] at hval HR
      obtain ⟨es, hes⟩ : ∃ es, es = natsP ps := ⟨_, rfl⟩
      have hel : ps.length = es.length := by rw [hes, natsP_len]
      rw [← hes] at hps hval HR
      rw [← hps, List.length_map] at R
      rw [hel] at hl hby HB1 ⊢
      rw [hw]
      have HV := Lib.hid hval
      have hn14 : n ≤ 14 := by omega
      obtain ⟨q2, hq2⟩ : ∃ q2, q2 = 2 ^ n := ⟨_, rfl⟩
      have hq3 : q2 ≤ 16384 := by rw [hq2]; exact Nat.pow_le_pow_right (n := 2) (by omega) hn14
      have hq4 : 0 < q2 := by rw [hq2]; exact Nat.two_pow_pos n
      have hmk := fun w => run_make1 (P := Tryd.prog) 30 3 i0 _ Tryd.underlying30 hi hz0 hz1 rfl n (by rw [hz2]; omega) (by omega) w
      have hmk2 := fun w => run_make1 (P := Tryd.prog) 49 25 i1 _ Tryd.underlying49 hj hy0 hy1 rfl q2 (by rw [hy2]; omega) (by omega) w
      have HQ2 := Lib.hid hq2
      have hsh : IntKind.i64.wrap ((2 : Int) ^ n) = (q2 : Int) := by
        rw [hq2, Int.natCast_pow]; exact IntWalk.i64_in _ (by rw [show ((2 : Int) ^ n) = ((2 ^ n : Nat) : Int) by rw [Int.natCast_pow]; rfl, ← hq2]; omega)
      have HSH := Lib.hid hsh
      clear hw hgd hps hval hes hel hq2 hi hj hz0 hz1 hz2 hy0 hy1 hy2 h14 hsh hn0
      have k0 := HB1.out.cell 0 _ rfl
      have k1 := HB1.out.cell 1 _ rfl
      have M0 := Lib.hid (Blk.madeN w1 n (.int .i64 0) 3 (base := w1.heap.size) (Nat.le_refl _))
      have B2 := Lib.hid (show Below w.heap.size w (w1.alloc (.cells (Array.replicate n (.int .i64 0)) 3)) from BL1.out.alloc BL1.out.size _)
      have HB2 := Lib.hid (HB1.out.below ((Below.refl _ _).alloc (Nat.le_refl _) (.cells (Array.replicate n (.int .i64 0)) 3)))
      rw [rowN_zero] at M0
      have hw1 := BL1.out.size
      have hk9 : w.heap.size < w1.heap.size := HB1.out.lt
      obtain ⟨d, hd⟩ : ∃ d, d = w1.heap.size := ⟨_, rfl⟩
      have hdw : w.heap.size < d := by omega
      clear BL1 HB1
      go_upto_region 7 with (fail)
      clear hmk
      generalize (w1.alloc (.cells (Array.replicate n (.int .i64 0)) 3)) = W2 at *
      rw [← hd] at M0 ⊢
      clear hd hw1 hk9 k0 k1
      have k0 := HB2.out.cell 0 _ rfl
      have k1 := HB2.out.cell 1 _ rfl
      have HMK := Lib.hid hmk2
      clear hmk2
      go_wp2
      go_loopw [26] (fun t wr => ∃ q : Nat, q ≤ es.length ∧ t = .int .i64 q ∧ Hid (Blk d wr d (rowN n (ahN (es.take q)))) ∧ Hid (Blk 0 wr w.heap.size [.int .i64 (n : Int), .slice A es.length cap]) ∧ Below w.heap.size w wr) (fun t _ => es.length - (intOf t).toNat)
      case atStart => exact ⟨0, by omega, rfl, Lib.hid (M0.out.congrN fun k _ => by simp [ahN]), HB2, B2.out⟩
      case round =>
        clear M0 HB2 B2 k0 k1
        obtain ⟨q, hq, rfl, M, B, hb⟩ := hrel
        have k0 := B.out.cell 0 _ rfl
        have k1 := B.out.cell 1 _ rfl
        by_cases hlt : q < es.length
        · skip
          have hlt2 : q < (es.map ceE).length := by rw [List.length_map]; exact hlt
          obtain ⟨bb, off, rfl, hbS, hok, hc1, hc2⟩ := RdP.at1 (R.out.go Flat.keeps hb HS.out (Sub.refl _)) hlt2
          obtain ⟨a, b, hab⟩ : ∃ a b, es[q] = (a, b) := ⟨_, _, rfl⟩
          have hce : (es.map ceE)[q] = ((a : Int), (b : Int)) := by rw [List.getElem_map, hab]; rfl
          rw [hce] at hc1 hc2
          have hmem : (a, b) ∈ es := by rw [← hab]; exact List.getElem_mem hlt
          have haN := (HV.out a b hmem).1
          have hbN := (HV.out a b hmem).2
          have htk := Lib.hid (show es.take (q + 1) = es.take q ++ [(a, b)] by rw [List.take_succ_eq_append_getElem hlt, hab])
          have hyl := ahN_lt (N := n) (es := es.take q) (fun a b h => HV.out a b (List.mem_of_mem_take h)) b
          have hyl2 : ahN (es.take q) b < 16384 := Nat.lt_of_lt_of_le hyl (Nat.pow_le_pow_right (n := 2) (by omega) hn14)
          have hpl : 2 ^ a < 16384 := Nat.lt_of_lt_of_le (Nat.pow_lt_pow_right (by omega) haN) (Nat.pow_le_pow_right (n := 2) (by omega) hn14)
          simp only at hc1 hc2
          clear hok hab hmem hlt2 hce hyl
          have hbx := (Below.refl wr.heap.size wr).alloc (Nat.le_refl _) (.cells #[.int .i64 (a : Int), .int .i64 (b : Int)] 48)
          have E1 := Lib.hid (Blk.made wr [.int .i64 (a : Int), .int .i64 (b : Int)] 48 (base := 0) (Nat.zero_le _))
          have M2 := Lib.hid (M.out.below hbx)
          have B2 := Lib.hid (B.out.below hbx)
          have BL2 := Lib.hid (hb.trans (hbx.mono hb.size))
          clear hbx M hb B
          go_upto_region 10 with (fail)
          generalize wr.alloc (.cells #[.int .i64 (a : Int), .int .i64 (b : Int)] 48) = W1 at *
          clear hc1 hc2 k0 k1
          have e0 := E1.out.cell 0 _ rfl
          have e1 := E1.out.cell 1 _ rfl
          have m0 := M2.out.atN hbN
          have mf := M2.out.fr b
          obtain ⟨y, hy⟩ : ∃ y, y = ahN (es.take q) b := ⟨_, rfl⟩
          obtain ⟨p, hp⟩ : ∃ p, p = 2 ^ a := ⟨_, rfl⟩
          rw [← hy] at m0 hyl2
          rw [← hp] at hpl
          have h1 : IntKind.i64.wrap ((2 : Int) ^ a) = (p : Int) := by
            rw [hp, Int.natCast_pow]; exact IntWalk.i64_in _ (by rw [show ((2 : Int) ^ a) = ((2 ^ a : Nat) : Int) by rw [Int.natCast_pow]; rfl, ← hp]; omega)
          have h2 : bits .or .i64 (y : Int) (p : Int) = ((y ||| p : Nat) : Int) := i64_or_nat y p (by omega) (by omega)
          have M3 := Lib.hid (((M2.out.setN (k := b) (y := y ||| p) hbN).congrN (g := ahN (es.take (q + 1))) (fun k _ => by
            rw [htk.out, ahN_snoc]
            by_cases e : k = b
            · rw [if_pos e, if_pos e, e, hy, hp]
            · rw [if_neg e, if_neg e])).drewN 1)
          have B3 := Lib.hid ((B2.out.other (p := ⟨d, b, none⟩) (by show d ≠ _; omega) (.int .i64 ((y ||| p : Nat) : Int))).drewN 1)
          have L3 := Lib.hid (BL2.out.setCell (p := ⟨d, b, none⟩) (by show w.heap.size ≤ d; omega) (.int .i64 ((y ||| p : Nat) : Int))).drew
          clear M2 B2 BL2 E1 hy hp
          go_region
          all_goals
            clear h1 h2
            go_wp2_with fail
            go_roundw
            case rel => exact ⟨q + 1, by omega, by go_num, M3, B3, L3.out⟩
            case measure => simp [intOf]; omega
        · skip
          have hqe : q = es.length := by omega
          subst hqe
          rw [List.take_length] at M
          have hmk2 := HMK.out
          have hsh := HSH.out
          have bC : Below wr.heap.size wr (wr.alloc (.cells (Array.replicate q2 (.int .u64 0)) 25)) := (Below.refl _ _).alloc (Nat.le_refl _) _
          have N0 := Lib.hid (Blk.madeN wr q2 (.int .u64 0) 25 (base := wr.heap.size) (Nat.le_refl _))
          rw [rowW_zero] at N0
          have M1 := Lib.hid (M.out.below bC)
          have B1 := Lib.hid (B.out.below bC)
          have L1 := Lib.hid (hb.trans (bC.mono hb.size))
          obtain ⟨c, hc⟩ : ∃ c, c = wr.heap.size := ⟨_, rfl⟩
          have hdc : d < c := by have := M.out.lt; omega
          clear M B hb bC HMK hq hlt
          go_upto_region 13 with (fail)
          clear hmk2 hsh
          generalize (wr.alloc (.cells (Array.replicate q2 (.int .u64 0)) 25)) = W1 at *
          rw [← hc] at N0 ⊢
          clear hc k0 k1
          have n0 := N0.out.atW hq4
          have nf := N0.out.fr 0
          have N1 := Lib.hid ((N0.out.setW (k := 0) (y := 1) hq4).congr2 (g := startA) (fun k _ => rfl))
          have M2 := Lib.hid (M1.out.other (p := ⟨c, 0, none⟩) (by show c ≠ d; omega) (.int .u64 1))
          have B2 := Lib.hid (B1.out.other (p := ⟨c, 0, none⟩) (by show c ≠ _; omega) (.int .u64 1))
          have L2 := Lib.hid (L1.out.setCell (p := ⟨c, 0, none⟩) (by show _ ≤ c; omega) (.int .u64 1))
          have HLT0 := Lib.hid (show ∀ t, startA t < 18446744073709551616 from fun t => by unfold startA; split <;> omega)
          clear N0 M1 B1 L1
          go_upto_region 14 with (fail)
          generalize W1.setCell ⟨c, 0, none⟩ (.int .u64 1) = W3 at *
          clear n0 nf
          go_wp2
          go_loopw [49] (fun t wr => ∃ (s : Nat) (X : Nat → Nat), s ≤ q2 ∧ t = .int .i64 s ∧ Hid (Blk d wr d (rowN n (ahN es))) ∧ Hid (Blk c wr c (rowW q2 X)) ∧ Hid (DPo n es s X) ∧ Hid (∀ t, X t < 18446744073709551616) ∧ Hid (Blk 0 wr w.heap.size [.int .i64 (n : Int), .slice A es.length cap]) ∧ Below w.heap.size w wr) (fun t _ => q2 - (intOf t).toNat)
          case atStart => exact ⟨0, startA, by omega, rfl, M2, N1, Lib.hid (dp_start n es), HLT0, B2, L2.out⟩
          case round =>
            clear M2 N1 HLT0 B2 L2
            obtain ⟨s, X, hs, rfl, M, Nw, HD, HX, B, hb⟩ := hrel
            by_cases hlt : s < q2
            · skip
              have n0 := Nw.out.atW hlt
              have k0 := B.out.cell 0 _ rfl
              obtain ⟨a, ha⟩ : ∃ a, a = X s := ⟨_, rfl⟩
              have hs2 : s < 2 ^ n := by rw [← HQ2.out]; exact hlt
              have HI := Lib.hid (show DPi n es s 0 a X by rw [ha]; exact dpo_in hs2 HD.out)
              have haM : a < 18446744073709551616 := by rw [ha]; exact HX.out s
              rw [← ha] at n0
              have HBB := Lib.hid hb
              have HS2 := Lib.hid hs2
              clear ha HD hb hs2
              go_wp2
              go_loopw [56] (fun t wr => ∃ (k : Nat) (X : Nat → Nat), k ≤ n ∧ t = .int .i64 k ∧ Hid (Blk d wr d (rowN n (ahN es))) ∧ Hid (Blk c wr c (rowW q2 X)) ∧ Hid (DPi n es s k a X) ∧ Hid (∀ t, X t < 18446744073709551616) ∧ Hid (Blk 0 wr w.heap.size [.int .i64 (n : Int), .slice A es.length cap]) ∧ Below w.heap.size w wr) (fun t _ => n - (intOf t).toNat)
              case atStart => exact ⟨0, X, by omega, rfl, M, Nw, HI, HX, B, HBB.out⟩
              case round =>
                clear M Nw HI HX B HBB n0 k0
                clear X
                obtain ⟨k, X, hk, rfl, M, Nw, HI, HX, B, hb⟩ := hrel
                have k0 := B.out.cell 0 _ rfl
                by_cases hltk : k < n
                · skip
                  have m0 := M.out.atN hltk
                  obtain ⟨y, hy⟩ : ∃ y, y = ahN es k := ⟨_, rfl⟩
                  rw [← hy] at m0
                  have hyl : y < 16384 := by rw [hy]; exact Nat.lt_of_lt_of_le (ahN_lt HV.out k) (Nat.pow_le_pow_right (n := 2) (by omega) hn14)
                  have hsl : s < 16384 := by omega
                  have HOK := Lib.hid (show okC es s k = (!s.testBit k && decide (lessN y s = 0)) by rw [hy]; exact ok_less hn14 HV.out HS2.out k)
                  have HSK := Lib.hid (fun h => dpi_skip HI.out h)
                  clear hy
                  by_cases ha0 : 0 < a
                  · have ha0' : (0 : Int) < (a : Int) := by omega
                    obtain ⟨z, hz⟩ : ∃ z, z = s / 2 ^ k := ⟨_, rfl⟩
                    have hzl : z ≤ s := by rw [hz]; exact Nat.div_le_self _ _
                    have hz1 : (s : Int) / (2 : Int) ^ k = (z : Int) := by rw [hz, Int.natCast_ediv, Int.natCast_pow]; rfl
                    have hz2 : bits .and .i64 (z : Int) 1 = ((z &&& 1 : Nat) : Int) := i64_and_nat z 1 (by omega) (by omega)
                    have hz3 : s.testBit k = decide (z % 2 = 1) := by rw [hz, Nat.testBit_eq_decide_div_mod_eq]
                    rw [Nat.and_one_is_mod] at hz2
                    by_cases hb1 : z % 2 = 1
                    · have HX2 := Lib.hid (HSK.out (fun h => by have := h.2; rw [HOK.out, hz3, decide_eq_true hb1] at this; simp at this))
                      rw [hb1] at hz2
                      clear hz hz3 hb1 HOK HSK HI
                      go_wp2
                      go_roundw
                      case rel => exact ⟨k + 1, X, by omega, by go_num, M, Nw, HX2, HX, B, hb⟩
                      case measure => simp [intOf]; omega
                    · have hb0 : z % 2 = 0 := by omega
                      rw [hb0] at hz2
                      have hl1 : bits .andNot .i64 (y : Int) (s : Int) = ((lessN y s : Nat) : Int) := i64_andNot_nat y s (by omega) (by omega)
                      have hl2 := lessN_lt y s
                      have HB0 := Lib.hid (show s.testBit k = false by rw [hz3, decide_eq_false hb1])
                      obtain ⟨u, hu⟩ : ∃ u, u = lessN y s := ⟨_, rfl⟩
                      rw [← hu] at hl1 hl2 HOK
                      by_cases hu0 : u = 0
                      · have HOK1 := Lib.hid (show okC es s k = true by rw [HOK.out, HB0.out, decide_eq_true hu0]; rfl)
                        subst hu0
                        have HZ := Lib.hid hz3
                        clear hz hz3 hb1 HOK hu hzl hsl hb0
                        go_upto_region 21 with (fail)
                        clear hz1 hz2 hl1 hl2 hyl m0 ha0' ha0 HZ
                        have hlt2 := add_bit_lt HB0.out HS2.out hltk
                        have hor := add_bit HB0.out
                        obtain ⟨p, hp⟩ : ∃ p, p = 2 ^ k := ⟨_, rfl⟩
                        rw [← hp, ← HQ2.out] at hlt2
                        rw [← hp] at hor
                        have hpl : p ≤ 16384 := by omega
                        have hp1 : IntKind.i64.wrap ((2 : Int) ^ k) = (p : Int) := by
                          rw [hp, Int.natCast_pow]; exact IntWalk.i64_in _ (by rw [show ((2 : Int) ^ k) = ((2 ^ k : Nat) : Int) by rw [Int.natCast_pow]; rfl, ← hp]; omega)
                        have hp2 : bits .or .i64 (s : Int) (p : Int) = ((s + p : Nat) : Int) := by rw [hor]; exact i64_or_nat s p (by omega) (by omega)
                        obtain ⟨v, hv⟩ : ∃ v, v = s + p := ⟨_, rfl⟩
                        rw [← hv] at hp2 hlt2
                        have n0 := Nw.out.atW hlt2
                        have nf := Nw.out.fr v
                        obtain ⟨x, hx⟩ : ∃ x, x = X v := ⟨_, rfl⟩
                        have hxl : x < 18446744073709551616 := by rw [hx]; exact HX.out v
                        rw [← hx] at n0
                        have hw9 : IntKind.u64.wrap ((x : Int) + (a : Int)) = (((x + a) % 18446744073709551616 : Nat) : Int) := by rw [IntKind.wrap_u64]; omega
                        have N2 := Lib.hid (Nw.out.setW (k := v) (y := (x + a) % 18446744073709551616) hlt2)
                        have M2 := Lib.hid (M.out.other (p := ⟨c, v, none⟩) (by show c ≠ d; omega) (.int .u64 (((x + a) % 18446744073709551616 : Nat) : Int)))
                        have B2 := Lib.hid (B.out.other (p := ⟨c, v, none⟩) (by show c ≠ _; omega) (.int .u64 (((x + a) % 18446744073709551616 : Nat) : Int)))
                        have L2 := Lib.hid (hb.setCell (p := ⟨c, v, none⟩) (by show _ ≤ c; omega) (.int .u64 (((x + a) % 18446744073709551616 : Nat) : Int)))
                        have HX2 := Lib.hid (show ∀ t, (if t = v then (x + a) % 18446744073709551616 else X t) < 18446744073709551616 from fun t => by split; exact Nat.mod_lt _ (by omega); exact HX.out t)
                        have HI2 := Lib.hid (dpi_put (A' := fun t => if t = v then (x + a) % 18446744073709551616 else X t) HI.out HS2.out hltk HOK1.out (by rw [← hp, ← hv, if_pos rfl, ← hx]) (fun t ht => by rw [← hp, ← hv] at ht; rw [if_neg ht]))
                        generalize (x + a) % 18446744073709551616 = g at *
                        clear HSK HI hor hp hv hx Nw M B hb HX HB0 HOK1 hpl hxl
                        go_wp2
                        go_roundw
                        case rel => exact ⟨k + 1, _, by omega, by go_num, M2, N2, HI2, HX2, B2, L2.out⟩
                        case measure => simp [intOf]; omega
                      · have HX2 := Lib.hid (HSK.out (fun h => by have := h.2; rw [HOK.out, decide_eq_false hu0] at this; simp at this))
                        have hu1 : ¬ (u : Int) = 0 := by omega
                        clear hz hz3 hb1 HOK HSK HI hu hu0 HB0
                        go_wp2
                        go_roundw
                        case rel => exact ⟨k + 1, X, by omega, by go_num, M, Nw, HX2, HX, B, hb⟩
                        case measure => simp [intOf]; omega
                  · have ha0' : ¬ (0 : Int) < (a : Int) := by omega
                    have HX2 := Lib.hid (HSK.out (fun h => ha0 h.1))
                    clear HOK HSK HI ha0
                    go_wp2
                    go_roundw
                    case rel => exact ⟨k + 1, X, by omega, by go_num, M, Nw, HX2, HX, B, hb⟩
                    case measure => simp [intOf]; omega
                · skip
                  have hke : k = n := by omega
                  subst hke
                  have HD2 := Lib.hid (dpi_out HI.out HS2.out)
                  go_wp2
                  go_roundw
                  case rel => exact ⟨s + 1, X, by omega, by go_num, M, Nw, HD2, HX, B, hb⟩
                  case measure => simp [intOf]; omega
            · skip
              have hse : s = q2 := by omega
              subst hse
              have HE := Lib.hid (dpo_end (A := X) (by rw [← HQ2.out]; exact HD.out) (HX.out _))
              have n0 := Nw.out.atW (show s - 1 < s by omega)
              rw [show X (s - 1) = cC n es 0 by rw [← HE.out, ← HQ2.out]] at n0
              rw [show ((s - 1 : Nat)) = s - 1 from rfl] at n0
              have hsc : ((s : Int) - 1).toNat = s - 1 := by omega
              go_wp2
              go_ret2
              exact ⟨by rw [HR.out]; rfl, hb⟩
  · have HR := Lib.hid (show cntW N ps = (0, wrongE N ps) by unfold cntW; rw [if_pos hw])
    go_wp2_with fail
    go_ret2
    exact ⟨by rw [HR.out]; rfl, BL1.out⟩
end Go.Proofs.YthbbecmffndgdabDoor
