/- The walks of the laws BagsFirst and BagsFind. -/
import Derived.Test.YtfldajplclahfaaBg7
import Derived.Test.YtfldajplclahfaaRc3
import Derived.Test.YtfldajplclahfaaEqI
namespace Go.Proofs.Ytfldajplclahfaa
open Go.RowKit
set_option linter.unusedVariables false
theorem minJ_snoc (w : Int) (ps : List (Int × Int)) {q : Nat} (h : q < ps.length) : minJ w (ps.take (q + 1)) = if minJ w (ps.take q) < 0 ∨ ps[q].2 < minJ w (ps.take q) then ps[q].2 else minJ w (ps.take q) := by
  unfold minJ
  rw [List.take_succ_eq_append_getElem h, List.foldl_append]; rfl
set_option maxHeartbeats 2000000 in
set_option maxRecDepth 100000 in
theorem bagsFirst_walk (t : Tm) (w : World) (V : Value) (r : RdT w (Upto w.heap.size) t V) (hl : t.count ≤ 1048576) :
    Calls Try.prog 3 #[V] w fun e w' => e = .returned (.bool true) ∧ Below w.heap.size w w' := by
  have hS : Sub (Upto w.heap.size) (Upto w.heap.size) := Sub.refl _
  obtain ⟨k, c, wb, lb, kids, v, et, rfl, h1, h2, h3, h4⟩ := id r
  obtain ⟨A1, n1, rfl, _⟩ := h4.form
  have bel : Below w.heap.size w (w.alloc (.cells #[.int .i64 k, .int .i64 c, .bool wb, .int .i64 lb, .slice A1 kids.length n1] 26)) := (Below.refl _ _).alloc (Nat.le_refl _) _
  have BEL := Lib.hid bel
  have RA := Lib.hid (r.go bel hS)
  have HS := Lib.hid (hS.trans (Sub.upto bel.size))
  have BX := Lib.hid (Blk.made w [.int .i64 k, .int .i64 c, .bool wb, .int .i64 lb, .slice A1 kids.length n1] 26 (base := 0) (Nat.zero_le _))
  unfold tmV
  clear h4 bel r et h1 h2 h3 hS
  go_enter Try.func3, Try.ntmps3
  go_upto_region 1 with (fail)
  generalize (w.alloc (.cells #[.int .i64 k, .int .i64 c, .bool wb, .int .i64 lb, .slice A1 kids.length n1] 26)) = W at *
  have x0 := BX.out.cell 0 _ rfl; have x1 := BX.out.cell 1 _ rfl; have x2 := BX.out.cell 2 _ rfl; have x3 := BX.out.cell 3 _ rfl; have x4 := BX.out.cell 4 _ rfl
  go_wp2_with fail
  refine (oraces_any t W _ _ HS.out RA.out hl).mono ?_
  rintro e w1 ⟨xp, rfl, hxp, b1⟩
  have hll2 : t.count * t.count ≤ 1048576 * 1048576 := Nat.mul_le_mul (by omega) (by omega)
  have hlr := racesUp_len t t.count
  have HMEM := Lib.hid (races_in t t.count (Nat.le_refl _))
  obtain ⟨ps, hps⟩ : ∃ ps, ps = t.races := ⟨_, rfl⟩
  have hps2 : ps = racesUp t t.count := hps
  rw [← hps2] at hlr HMEM
  rw [← hps] at hxp
  have HPS := Lib.hid hps
  clear hps hps2
  obtain ⟨Ap, cp, rfl, hpl, hpm, _⟩ := hxp.form
  unfold maxLen at hpm
  have HP := Lib.hid hxp
  have B1 := Lib.hid (BEL.out.trans (b1.mono BEL.out.size))
  have BX1 := Lib.hid (BX.out.below b1)
  have R1 := Lib.hid (RA.out.go b1 HS.out)
  have HS1 := Lib.hid (HS.out.trans (Sub.upto b1.size))
  have HLEN := Lib.hid (show ps.length ≤ 1099511627776 by omega)
  clear hxp b1 hll2 hlr x0 x1 x2 x3 x4 BEL RA BX HS
  go_wp2_with fail
  go_loopw [3, 9] (fun o t wr => ∃ q : Nat, q ≤ ps.length ∧ t = .int .i64 q ∧ o = .int .i64 (minJ (-1) (ps.take q)) ∧ Below w1.heap.size w1 wr) (fun _ t _ => ps.length - (intOf t).toNat)
  case atStart => exact ⟨0, by omega, rfl, rfl, Below.refl _ _⟩
  case round =>
    obtain ⟨q, hq, rfl, rfl, hb⟩ := hrel
    have hzr := hb.size
    by_cases hlt : q < ps.length
    · obtain ⟨bp, op, rfl, hbp, hokp, hc0, hc1⟩ := RdP.at1 HP.out hlt
      have HSN := Lib.hid (minJ_snoc (-1) ps hlt)
      have hbpw : bp < w1.heap.size := (hbp.elim (fun h => h.elim) (fun h => h.2))
      have z0 := (hb.cell (p := ⟨bp, op + q * 2, none⟩) hbpw).trans hc0
      have z1 := (hb.cell (p := ⟨bp, op + q * 2 + 1, none⟩) hbpw).trans hc1
      obtain ⟨y0, hy0⟩ : ∃ y, y = ps[q].1 := ⟨_, rfl⟩
      obtain ⟨y1, hy1⟩ : ∃ y, y = ps[q].2 := ⟨_, rfl⟩
      rw [← hy0] at z0
      rw [← hy1] at z1 HSN
      obtain ⟨v0, hv0⟩ : ∃ y, y = minJ (-1) (ps.take q) := ⟨_, rfl⟩
      rw [← hv0] at HSN ⊢
      have q0 : (0 : Int) ≤ (q : Int) := by omega
      have q1 : (q : Int) < (ps.length : Int) := by omega
      have HLL := HLEN.out
      have HB1 := Lib.hid (hb.trans ((show Below wr.heap.size wr (wr.alloc (.cells #[.int .i64 y0, .int .i64 y1] 30)) from (Below.refl _ _).alloc (Nat.le_refl _) _).mono hzr))
      clear hy0 hy1 hv0 hc0 hc1 hokp hb
      by_cases hv : v0 < 0
      · have HN := Lib.hid (show minJ (-1) (ps.take (q + 1)) = y1 by rw [HSN.out, if_pos (.inl hv)])
        go_wp2
        go_roundw
        case rel => exact ⟨q + 1, by omega, by go_num, by rw [HN.out], HB1.out⟩
        case measure => simp [intOf]; omega
      · by_cases hy : y1 < v0
        · have HN := Lib.hid (show minJ (-1) (ps.take (q + 1)) = y1 by rw [HSN.out, if_pos (.inr hy)])
          go_wp2
          go_roundw
          case rel => exact ⟨q + 1, by omega, by go_num, by rw [HN.out], HB1.out⟩
          case measure => simp [intOf]; omega
        · have HN := Lib.hid (show minJ (-1) (ps.take (q + 1)) = v0 by rw [HSN.out, if_neg (fun e => e.elim hv hy)])
          go_wp2
          go_roundw
          case rel => exact ⟨q + 1, by omega, by go_num, by rw [HN.out], HB1.out⟩
          case measure => simp [intOf]; omega
    · have hqe : q = ps.length := by omega
      subst hqe
      rw [List.take_length]
      have HV := Lib.hid (show (stS t t.count).first = minJ (-1) ps by rw [HPS.out]; exact first_min t)
      obtain ⟨v0, hv0⟩ : ∃ y, y = minJ (-1) ps := ⟨_, rfl⟩
      rw [← hv0] at HV ⊢
      clear hv0
      have BX2 := Lib.hid (BX1.out.below hb)
      have R2 := Lib.hid (R1.out.go hb HS1.out)
      have HS2 := Lib.hid (HS1.out.trans (Sub.upto hb.size))
      have B2 := Lib.hid (B1.out.trans (hb.mono B1.out.size))
      have x0 := BX2.out.cell 0 _ rfl; have x1 := BX2.out.cell 1 _ rfl; have x2 := BX2.out.cell 2 _ rfl; have x3 := BX2.out.cell 3 _ rfl; have x4 := BX2.out.cell 4 _ rfl
      clear hb HP BX1 R1
      go_wp2_with fail
      refine (first_any t wr _ _ HS2.out R2.out hl).mono ?_
      rintro e w3 ⟨rfl, hb3⟩
      rw [HV.out]
      have HB3 := Lib.hid (B2.out.trans (hb3.mono B2.out.size))
      clear hb3 x0 x1 x2 x3 x4
      go_wp2
      go_ret
      exact ⟨by first | rfl | simp, HB3.out⟩
theorem cells_found (t : Tm) : sortZ (stS t t.count).found = sortZ (firsts (cellsR t t.races)) := by
  refine ssort_ext _ _ (sortZ_lt (stS_inv t t.count (Nat.le_refl _)).nd) (sortZ_lt (firsts_nodup _)) (fun x => ?_)
  rw [sortZ_mem, sortZ_mem, firsts_mem, found_races]
  unfold cellsR
  rw [List.mem_map]
set_option maxHeartbeats 2000000 in
set_option maxRecDepth 100000 in
theorem bagsFind_walk (t : Tm) (w : World) (V : Value) (r : RdT w (Upto w.heap.size) t V) (hl : t.count ≤ 1048576) :
    Calls Try.prog 4 #[V] w fun e w' => e = .returned (.bool true) ∧ Below w.heap.size w w' := by
  have hS : Sub (Upto w.heap.size) (Upto w.heap.size) := Sub.refl _
  obtain ⟨k, c, wb, lb, kids, v, et, rfl, h1, h2, h3, h4⟩ := id r
  obtain ⟨A1, n1, rfl, _⟩ := h4.form
  have bel : Below w.heap.size w (w.alloc (.cells #[.int .i64 k, .int .i64 c, .bool wb, .int .i64 lb, .slice A1 kids.length n1] 26)) := (Below.refl _ _).alloc (Nat.le_refl _) _
  have BEL := Lib.hid bel
  have RA := Lib.hid (r.go bel hS)
  have HS := Lib.hid (hS.trans (Sub.upto bel.size))
  have BX := Lib.hid (Blk.made w [.int .i64 k, .int .i64 c, .bool wb, .int .i64 lb, .slice A1 kids.length n1] 26 (base := 0) (Nat.zero_le _))
  unfold tmV
  clear h4 bel r et h1 h2 h3 hS
  go_enter Try.func4, Try.ntmps4
  go_upto_region 1 with (fail)
  have hsz := BEL.out.size
  generalize (w.alloc (.cells #[.int .i64 k, .int .i64 c, .bool wb, .int .i64 lb, .slice A1 kids.length n1] 26)) = W at *
  have x0 := BX.out.cell 0 _ rfl; have x1 := BX.out.cell 1 _ rfl; have x2 := BX.out.cell 2 _ rfl; have x3 := BX.out.cell 3 _ rfl; have x4 := BX.out.cell 4 _ rfl
  have hxl := BX.out.lt
  refine wp_region_pre 3 (S := (fun w' => Stay W w')) (by kernel_rfl) (by kernel_rfl) (Stay.mk (Kept.start _)) (fun hHeld => ?_)
  simp only [List.take_succ_cons, List.take_zero]
  refine wpAnyH_take_at (i := 0) (v := ?_) (some 3) rfl rfl (by kernel_rfl) (by kernel_rfl) (by kernel_rfl) (fun _ _ _ h => h) (Or.inl ⟨by rfl, ?_⟩) (by assumption) ?_
  rotate_left
  · (intro w hSw; (try dsimp only at hSw); go_simp; (try with_reducible rfl))
  (try simp only [Act.put, List.setIfInBounds_toArray, List.set_cons_zero, List.set_cons_succ])
  refine wpAnyH_take_at (i := 2) (v := ?_) (some 5) rfl rfl (by kernel_rfl) (by kernel_rfl) (by kernel_rfl) (fun _ _ _ h => h) (Or.inl ⟨by rfl, ?_⟩) (by assumption) ?_
  rotate_left
  · (intro w hSw; (try dsimp only at hSw); go_simp; (try with_reducible rfl))
  (try simp only [Act.put, List.setIfInBounds_toArray, List.set_cons_zero, List.set_cons_succ])
  refine wpAnyH_ready (rs := [1]) (by kernel_rfl) (by simp) ?_
  refine AllReadyH.cons rfl (fun K hK => ?_) AllReadyH.nil
  go_simp
  refine (bcells_any t W.drew _ _ HS.out (RA.out.keep (Sub.refl _) (Same.refl _ _)) hl).mono ?_
  rintro e w1 ⟨x, rfl, hx, hb⟩
  have hst : Stay W w1 := Stay.step hb (Stay.mk (Kept.start _))
  refine hK.out _ _ ?_ (fun hHeld => ?_)
  · exact hst
  clear hK K
  (try simp only [Act.put, List.setIfInBounds_toArray, List.set_cons_zero, List.set_cons_succ])
  refine wpAnyH_done (by kernel_rfl) ?_ _
  unfold QPre
  simp only [List.drop_succ_cons, List.drop_zero]
  have R1 := Lib.hid (RA.out.go hst.below HS.out)
  have HS1 := Lib.hid (HS.out.trans (Sub.upto hst.size))
  have B1 := Lib.hid (BEL.out.trans (hst.below.mono hsz))
  have hx1 : RdI w1 (Upto w1.heap.size) (sortZ (stS t t.count).found) x := hx.keep Flat.keeps (Sub.plus_upto (Sub.nowhere _)) (Same.refl _ _)
  rw [cells_found] at hx1
  have HX1 := Lib.hid hx1
  obtain ⟨Aa, ca, rfl, -⟩ := hx.form
  clear hx hb hst hHeld x0 x1 x2 x3 x4 hx1 BX RA BEL
  go_wp2_with fail
  refine (ocells_any t w1 _ _ HS1.out R1.out hl).mono ?_
  rintro e w2 ⟨y, rfl, ⟨T, hT, hy⟩, hb2⟩
  have HX2 := Lib.hid (HX1.out.keep Flat.keeps (Sub.upto hb2.size) (same_of_below hb2 (Sub.refl _)))
  have B2 := Lib.hid (B1.out.trans (hb2.mono B1.out.size))
  obtain ⟨Ab, cb, rfl, -⟩ := hy.form
  have HT := Lib.hid hT
  have HY := Lib.hid hy
  clear hT hy hb2 HX1
  go_wp2_with fail
  refine (equalIs _ w2 _ _ _ _ (Sub.refl _) HT.out HX2.out HY.out).mono ?_
  rintro e w3 ⟨rfl, hb3⟩
  have B3 := Lib.hid (B2.out.trans (hb3.mono B2.out.size))
  clear hb3 HX2 HY
  go_wp2
  go_ret
  exact ⟨rfl, B3.out⟩
end Go.Proofs.Ytfldajplclahfaa
