/- The walk of graph.Wrong. -/
import Derived.Test.YtknaoianhjeccaaDoorGr1
import Derived.Test.YtknaoianhjeccaaDoorGrSpec3
namespace Go.Proofs.YtknaoianhjeccaaDoor
open Go.RowKit
set_option linter.unusedVariables false
set_option maxHeartbeats 1600000 in
set_option maxRecDepth 100000 in
theorem wrong_any (N : Int) (hNi : inI N) (ps : List (Int × Int)) (w : World) (S : Blocks) (ve : Value) (hS : Sub S (Upto w.heap.size)) (hT : Tab w) (r : RdP w S ps ve) :
    Calls Tryd.prog 36 #[.agg #[.int .i64 N, ve]] w fun e w' => e = .returned (.int .i64 (wrongE N ps)) ∧ Below w.heap.size w w' := by
  obtain ⟨A, cap, rfl, hl, hcm, hby⟩ := r.form
  unfold maxLen at hcm
  have R := Lib.hid r
  have HS := Lib.hid hS
  have HT := Lib.hid hT
  have HN := Lib.hid hNi
  clear r hS hT hNi
  go_enter Tryd.func36, Tryd.ntmps36
  have b0 := Blk.made w [.int .i64 N, .slice A ps.length cap] 24 (base := 0) (Nat.zero_le _)
  have BL := Lib.hid (show Below w.heap.size w (w.alloc (.cells #[.int .i64 N, .slice A ps.length cap] 24)) from (Below.refl _ _).alloc (Nat.le_refl _) _)
  have k0 := b0.cell 0 _ rfl
  have k1 := b0.cell 1 _ rfl
  have HB0 := Lib.hid b0
  clear b0
  go_upto_region 1 with (fail)
  generalize (w.alloc (.cells #[.int .i64 N, .slice A ps.length cap] 24)) = W0 at *
  by_cases hn : N < 0
  · have HR := Lib.hid (wrongE_range (ps := ps) (.inl hn))
    go_wp2_with fail
    go_ret
    exact ⟨by rw [HR.out]; rfl, BL.out⟩
  by_cases hn2 : N > 200
  · have HR := Lib.hid (wrongE_range (ps := ps) (.inr hn2))
    go_wp2_with fail
    go_ret
    exact ⟨by rw [HR.out]; rfl, BL.out⟩
  go_wp2
  go_loopw [16] (fun t wr => ∃ q : Nat, q ≤ ps.length ∧ t = .int .i64 q ∧ Hid ((ps.take q).any (badP N) = false) ∧ Hid (Blk 0 wr w.heap.size [.int .i64 N, .slice A ps.length cap]) ∧ Below w.heap.size w wr) (fun t _ => ps.length - (intOf t).toNat)
  case atStart => exact ⟨0, by omega, rfl, Lib.hid rfl, HB0, BL.out⟩
  case round =>
    clear HB0 BL k0 k1
    obtain ⟨q, hq, rfl, HA, B1, BL1⟩ := hrel
    have k0 := B1.out.cell 0 _ rfl
    have k1 := B1.out.cell 1 _ rfl
    by_cases hlt : q < ps.length
    · obtain ⟨bb, off, rfl, hbS, hok, hc1, hc2⟩ := RdP.at1 (R.out.go Flat.keeps BL1 HS.out (Sub.refl _)) hlt
      obtain ⟨a, b, hab⟩ : ∃ a b, ps[q] = (a, b) := ⟨_, _, rfl⟩
      rw [hab] at hc1 hc2 hok
      have HAB := Lib.hid hab
      simp only at hc1 hc2
      have HOK := Lib.hid hok
      clear hok hab
      have hbx := (Below.refl wr.heap.size wr).alloc (Nat.le_refl _) (.cells #[.int .i64 a, .int .i64 b] 49)
      have E1 := Lib.hid (Blk.made wr [.int .i64 a, .int .i64 b] 49 (base := 0) (Nat.zero_le _))
      have B2 := Lib.hid (B1.out.below hbx)
      have BL2 := Lib.hid (BL1.trans (hbx.mono BL1.size))
      clear hbx B1 BL1
      go_upto_region 6 with (fail)
      generalize wr.alloc (.cells #[.int .i64 a, .int .i64 b] 49) = W1 at *
      clear k0 k1 hc1 hc2
      have k0 := B2.out.cell 0 _ rfl
      have e0 := E1.out.cell 0 _ rfl
      have e1 := E1.out.cell 1 _ rfl
      have HBD := Lib.hid (show badP N (a, b) = true → wrongE N ps = 2 from fun h => wrongE_bad hlt (by rw [HAB.out]; exact h))
      have HGD := Lib.hid (show badP N (a, b) = false → (ps.take (q + 1)).any (badP N) = false from fun h => any_succ hlt HA.out (by rw [HAB.out]; exact h))
      clear HAB
      by_cases ha : a < 0
      · have HR := Lib.hid (HBD.out (by unfold badP; simp; omega))
        go_wp2_with fail
        go_ret
        exact ⟨by rw [HR.out]; rfl, BL2.out⟩
      by_cases hb : b < 0
      · have HR := Lib.hid (HBD.out (by unfold badP; simp; omega))
        go_wp2_with fail
        go_ret
        exact ⟨by rw [HR.out]; rfl, BL2.out⟩
      by_cases hc : N ≤ a
      · have HR := Lib.hid (HBD.out (by unfold badP; simp; omega))
        go_wp2_with fail
        go_ret
        exact ⟨by rw [HR.out]; rfl, BL2.out⟩
      by_cases hd : N ≤ b
      · have HR := Lib.hid (HBD.out (by unfold badP; simp; omega))
        go_wp2_with fail
        go_ret
        exact ⟨by rw [HR.out]; rfl, BL2.out⟩
      have HA2 := Lib.hid (HGD.out (badP_iff.2 ⟨by simp; omega, by simp; omega, by simp; omega, by simp; omega⟩))
      clear HGD HBD
      go_wp2_with fail
      go_roundw
      case rel => exact ⟨q + 1, by omega, by go_num, HA2, B2, BL2.out⟩
      case measure => simp [intOf]; omega
    · have HG := any_all (by omega) HA.out
      have hV := wrongE_good (ps := ps) (by omega) (by omega) HG
      obtain ⟨hps, hval⟩ := good_ps HG
      obtain ⟨n, hnn⟩ : ∃ n : Nat, N = (n : Int) := ⟨N.toNat, by omega⟩
      subst hnn
      rw [Int.toNat_natCast] at hval hV
      have r2 := R.out.go Flat.keeps BL1 HS.out (Sub.refl _)
      obtain ⟨W1, hW1⟩ : ∃ W1 : World, W1 = wr := ⟨_, rfl⟩
      subst hW1
      obtain ⟨es, hes⟩ : ∃ es, es = natsP ps := ⟨_, rfl⟩
      rw [← hes] at hps hval hV
      have hel : es.length = ps.length := by rw [hes, natsP_len]
      have hbd : Below W1.heap.size W1 W1.drew := (Below.refl _ _).drew
      have C := Lib.hid (take_any n (by omega) es hval W1.drew S _ (HS.out.trans (Sub.upto BL1.size)) ((HT.out.go BL1).go hbd) (by rw [hps]; exact r2.go Flat.keeps hbd (HS.out.trans (Sub.upto BL1.size)) (Sub.refl _)))
      have B2 := Lib.hid (B1.out.below hbd)
      have BL2 := Lib.hid (BL1.trans (hbd.mono BL1.size))
      have HLN := Lib.hid (takeG_end n es).1.len
      have HRE := Lib.hid (round_eq hval)
      have HW := Lib.hid hV
      have k0 : W1.drew.cell? ⟨w.heap.size, 0, none⟩ = some (.int .i64 (n : Int)) := B2.out.cell 0 _ rfl
      have k1 : W1.drew.cell? ⟨w.heap.size, 1, none⟩ = some (.slice A ps.length cap) := B2.out.cell 1 _ rfl
      clear hV hval hps hbd B1 BL1 HG HA r2 hes hel
      go_wp2_with fail
      go_region_with (go_at_call 37; refine C.out.mono ?_; rintro e w' ⟨x, rfl, ho, hb⟩; obtain ⟨A', c', rfl⟩ := ho.form; have j0 : w'.cell? ⟨w.heap.size, 0, none⟩ = some (.int .i64 (n : Int)) := (B2.out.below hb).cell 0 _ rfl)
      all_goals
        have HBW := Lib.hid (BL2.out.trans (hb.mono BL2.out.size))
        by_cases hlt3 : (takeG n es).length < n
        · have HR := Lib.hid (show wrongE (n : Int) ps = 3 by rw [HW.out, ← HRE.out, decide_eq_true hlt3]; rfl)
          go_wp2_with fail
          go_ret
          exact ⟨by rw [HR.out]; rfl, HBW.out⟩
        · have HR := Lib.hid (show wrongE (n : Int) ps = 0 by rw [HW.out, ← HRE.out, decide_eq_false hlt3]; rfl)
          go_wp2_with fail
          go_ret
          exact ⟨by rw [HR.out]; rfl, HBW.out⟩
end Go.Proofs.YtknaoianhjeccaaDoor
