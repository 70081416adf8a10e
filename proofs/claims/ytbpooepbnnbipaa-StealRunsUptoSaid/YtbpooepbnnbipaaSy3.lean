/- The walk of the yard's settle. -/
import Derived.Test.YtbpooepbnnbipaaSy2
import Derived.Test.YtbpooepbnnbipaaStSet
import Derived.Test.YtbpooepbnnbipaaRegPre
namespace Go.Proofs.Ytbpooepbnnbipaa
open Go.RowKit
set_option linter.unusedVariables false
/-- what a call of settle owes -/
def SetC (base y : Nat) (t : Tm) (k N gp cp ga ca gq cq : Nat) (ds : List Nat) (lv : Int) (od : Value) (wk : Nat) : Prop := ∀ (w : World) (col : Nat → Nat) (s : Vs), Yd base w y col t k N gp cp ga ca gq cq ds lv od s → VAt t k wk s →
  Calls Try.prog 16 #[.pointer (some ⟨y, 0, none⟩), .int .i64 (wk : Int)] w fun e w' => e = .returned (.tuple #[]) ∧
    ∃ col', Yd base w' y col' t k N gp cp ga ca gq cq ds lv od (calmW t s wk) ∧ (∀ b, b < w.heap.size → col' b = col b) ∧ But (Yc col) w w'
set_option maxHeartbeats 2000000 in
set_option maxRecDepth 100000 in
theorem settle_any (base y : Nat) (t : Tm) (k N gp cp ga ca gq cq : Nat) (ds : List Nat) (lv : Int) (od : Value) (wk : Nat) (hwk : wk < k) (hN : N ≤ 8796093022208) (hNn : (nodesT t).length ≤ N) (hL : (nodesT t).length ≤ 1099511627776) (hk : k ≤ 16) : SetC base y t k N gp cp ga ca gq cq ds lv od wk := by
  intro w col s hY hV
  have HEND := Lib.hid (ended_any base y t k N gp cp ga ca gq cq ds lv od wk hwk hN hL hk)
  have h0 := Lib.hid (show ∃ s1, SInv base y t k N gp cp ga ca gq cq ds lv od wk w col s w s1 from ⟨s, col, hY, hV, rfl, fun _ _ => rfl, But.refl _ _⟩)
  have WK : (wk : Int) < (k : Int) := by omega
  have HL := Lib.hid hL
  clear hY hV
  go_enter Try.func16, Try.ntmps16
  go_wp2
  go_loopw [4] (fun v wr => Hid (∃ s1, SInv base y t k N gp cp ga ca gq cq ds lv od wk w col s wr s1)) (fun _ wr => muW base y t k N gp cp ga ca gq cq ds lv od wk w col s wr)
  case atStart => exact h0
  case round =>
    clear h0
    obtain ⟨s1, h1, hmu⟩ := SInv.least hrel.out
    obtain ⟨col1, hY1, hV1, hcm, hcol, hbut⟩ := id h1
    have HI := Lib.hid h1
    have HMU := Lib.hid hmu
    have HV := Lib.hid hV1
    have HCOL := Lib.hid hcol
    have HYD := Lib.hid hY1
    have c2 := hY1.hd.cell 2 _ rfl
    have cw := hY1.worker hwk
    clear hrel h1 hmu hcol
    cases hat : (s1.at_[wk]?).getD none with
    | none =>
      rw [hat] at cw
      replace cw : wr.cell? ⟨ga, wk, none⟩ = some (.int .i64 (-1)) := cw
      have hst := hV1.stop hwk (calmS_idle (show (s1.one wk).at_ = none from hat))
      have HF := Lib.hid (show ∃ col', Yd base wr y col' t k N gp cp ga ca gq cq ds lv od (calmW t s wk) ∧ (∀ b, b < w.heap.size → col' b = col b) ∧ But (Yc col) w wr from ⟨col1, by rw [← hcm, hst]; exact hY1, HCOL.out, hbut⟩)
      clear hY1 hV1 hcm hbut hst hat
      go_wp2
      go_end0
      exact ⟨rfl, HF.out⟩
    | some p =>
      rw [hat] at cw
      replace cw : wr.cell? ⟨ga, wk, none⟩ = some (.int .i64 (nmP t p : Int)) := cw
      have hone : (s1.one wk).at_ = some p := hat
      have hv := hV1.tok.val p (by rw [hone]; simp)
      have hlt := nm_lt hv
      obtain ⟨x, hx⟩ := Option.isSome_iff_exists.1 hv
      obtain ⟨L, hLL⟩ : ∃ L, L = (nodesT t).length := ⟨_, rfl⟩
      have c0 := hY1.hd.cell 0 _ rfl
      have e0 : World.cell? _ ⟨gp, nmP t p * 7, none⟩ = _ := hY1.part hv 0 rfl
      have e1 := hY1.part hv 1 rfl
      have e2 := hY1.part hv 2 rfl
      have e3 := hY1.part hv 3 rfl
      have e4 := hY1.part hv 4 rfl
      have e5 := hY1.part hv 5 rfl
      have e6 := hY1.part hv 6 rfl
      rw [← hLL] at c0 hlt
      obtain ⟨m, hm⟩ : ∃ m, m = nmP t p := ⟨_, rfl⟩
      obtain ⟨kd, hkd⟩ : ∃ kd, kd = (partP t p).kind := ⟨_, rfl⟩
      obtain ⟨lt', hlt'⟩ : ∃ z, z = (partP t p).left := ⟨_, rfl⟩
      obtain ⟨rt', hrt'⟩ : ∃ z, z = (partP t p).right := ⟨_, rfl⟩
      generalize (partP t p).leaf = lf at e1
      generalize (partP t p).up = uu at e4
      generalize (partP t p).onR = lu at e5
      generalize s1.dn p = du at e6
      rw [← hm] at cw hlt e0 e1 e2 e3 e4 e5 e6
      rw [← hkd] at e0
      rw [← hlt'] at e2
      rw [← hrt'] at e3
      have HM := Lib.hid hm
      have HKD := Lib.hid hkd
      have HLT := Lib.hid hlt'
      have HRT := Lib.hid hrt'
      have HLL := Lib.hid hLL
      have HONE := Lib.hid hone
      have HX := Lib.hid hx
      have HVV := Lib.hid hv
      have HCM := Lib.hid hcm
      have HBU := Lib.hid hbut
      clear hm hkd hlt' hrt' hLL hone hx hY1 hV1 hv hat hcm hbut
      go_upto_region 3 with (fail)
      have BX := Blk.made wr [.int .i64 kd, .int .i64 lf, .int .i64 lt', .int .i64 rt', .int .i64 uu, .bool lu, .bool du] 100 (base := wr.heap.size) (Nat.le_refl _)
      have BW := (Below.refl wr.heap.size wr).alloc (Nat.le_refl _) (.cells [.int .i64 kd, .int .i64 lf, .int .i64 lt', .int .i64 rt', .int .i64 uu, .bool lu, .bool du].toArray 100)
      change Code.wp _ _ _ _ (wr.alloc (.cells [.int .i64 kd, .int .i64 lf, .int .i64 lt', .int .i64 rt', .int .i64 uu, .bool lu, .bool du].toArray 100))
      generalize wr.alloc (.cells [.int .i64 kd, .int .i64 lf, .int .i64 lt', .int .i64 rt', .int .i64 uu, .bool lu, .bool du].toArray 100) = W at *
      obtain ⟨bx, hbx⟩ : ∃ bx, bx = wr.heap.size := ⟨_, rfl⟩
      have HYW := Lib.hid (HYD.out.below BW)
      have HBW := Lib.hid (But.of_below (T := Yc col1) BW)
      have HSZ := Lib.hid BW.size
      obtain ⟨X, d, hd1, hq0, hcx, _⟩ := HYD.out.deque hwk
      have hxlt : ∀ b, X b → b < wr.heap.size := by obtain ⟨A, m, top, r, _, _, _, _, h5, _⟩ := hq0; exact fun b hb => (h5 b hb).2
      have hxb : ¬ X bx := fun h => by have := hxlt _ h; omega
      have HQ := Lib.hid (hq0.but (But.of_below (T := Nowhere) BW) (fun _ _ h => h))
      have HD1 := Lib.hid hd1
      have HCX := Lib.hid hcx
      rw [← hbx] at BX ⊢
      have HBX := Lib.hid BX
      have d0 := HYW.out.hd.cell 0 _ rfl
      have d2 := HYW.out.hd.cell 2 _ rfl
      have d3 := HYW.out.hd.cell 3 _ rfl
      have dw : W.cell? ⟨ga, wk, none⟩ = some (.int .i64 (m : Int)) := (But.of_below (T := Nowhere) BW).cell (p := ⟨ga, wk, none⟩) (fun h => h) cw
      rw [← HLL.out] at d0
      have x0 := BX.cell 0 _ rfl
      have x2 := BX.cell 2 _ rfl
      have x3 := BX.cell 3 _ rfl
      clear BX BW hq0 hd1 hcx hxlt hbx c0 c2 cw e0 e1 e2 e3 e4 e5 e6
      cases h2 : x.two with
      | none =>
        have H2 := Lib.hid h2
        by_cases hk1 : x.kind = 1
        · have hkd : kd = 1 := by rw [HKD.out, partP_leaf HX.out h2 hk1]
          have hst := HV.out.stop hwk (calmS_leaf HONE.out HX.out h2 hk1)
          have HF := Lib.hid (show ∃ col', Yd base W y col' t k N gp cp ga ca gq cq ds lv od (calmW t s wk) ∧ (∀ b, b < w.heap.size → col' b = col b) ∧ But (Yc col) w W from ⟨col1, by rw [← HCM.out, hst]; exact HYW.out, HCOL.out, HBU.out.on HBW.out (fun x hx hu => by unfold Yc at *; rw [← HCOL.out x hx]; exact hu)⟩)
          subst hkd
          clear hst h2
          go_wp2
          refine bodyPost_ret (results_none rfl _ _ _) rfl ?_
          exact ⟨rfl, HF.out⟩
        · have hkd : kd = 0 := by rw [HKD.out, partP_other HX.out h2 hk1]
          subst hkd
          have HK1 := Lib.hid hk1
          clear h2 hk1
          go_wp2_with fail
          have HE4 := Lib.hid (HEND.out p HVV.out)
          rw [← HM.out] at HE4
          clear x0 x2 x3 d0 d3
          refine wp_region_pre 9 (S := (fun wx => wx.cell? ⟨y, 2, none⟩ = some (.slice (some ⟨ga, 0, none⟩) k ca))) (by kernel_rfl) (by kernel_rfl) d2 (fun hHeld => ?_)
          simp only [List.take_succ_cons, List.take_zero]
          refine wpAnyH_take_at (i := 0) (v := ?_) (some 30) rfl rfl (by kernel_rfl) (by kernel_rfl) (by kernel_rfl) (fun _ _ _ h => h) (Or.inl ⟨by rfl, ?_⟩) (by assumption) ?_
          rotate_left
          · (intro w hSw; (try dsimp only at hSw); go_simp; (try with_reducible rfl))
          (try simp only [Act.put, List.setIfInBounds_toArray, List.set_cons_zero, List.set_cons_succ])
          refine wpAnyH_take_at (i := 1) (v := ?_) (some 31) rfl rfl (by kernel_rfl) (by kernel_rfl) (by kernel_rfl) (fun _ _ _ h => h) (Or.inl ⟨by rfl, ?_⟩) (by assumption) ?_
          rotate_left
          · (intro w hSw; (try dsimp only at hSw); go_simp; (try with_reducible rfl))
          (try simp only [Act.put, List.setIfInBounds_toArray, List.set_cons_zero, List.set_cons_succ])
          refine wpAnyH_take_at (i := 2) (v := ?_) (some 32) rfl rfl (by kernel_rfl) (by kernel_rfl) (by kernel_rfl) (fun _ _ _ h => h) (Or.inl ⟨by rfl, ?_⟩) (by assumption) ?_
          rotate_left
          · (intro w hSw; (try dsimp only at hSw); go_simp; (try with_reducible rfl))
          (try simp only [Act.put, List.setIfInBounds_toArray, List.set_cons_zero, List.set_cons_succ])
          refine wpAnyH_take_at (i := 3) (v := ?_) (some 33) rfl rfl (by kernel_rfl) (by kernel_rfl) (by kernel_rfl) (fun _ _ _ h => h) (Or.inl ⟨by rfl, ?_⟩) (by assumption) ?_
          rotate_left
          · (intro w hSw; (try dsimp only at hSw); go_simp; (try with_reducible rfl))
          (try simp only [Act.put, List.setIfInBounds_toArray, List.set_cons_zero, List.set_cons_succ])
          refine wpAnyH_take_at (i := 4) (v := ?_) (some 34) rfl rfl (by kernel_rfl) (by kernel_rfl) (by kernel_rfl) (fun _ _ _ h => h) (Or.inl ⟨by rfl, ?_⟩) (by assumption) ?_
          rotate_left
          · (intro w hSw; (try dsimp only at hSw); go_simp; (try with_reducible rfl))
          (try simp only [Act.put, List.setIfInBounds_toArray, List.set_cons_zero, List.set_cons_succ])
          refine wpAnyH_take_at (i := 5) (v := ?_) (some 35) rfl rfl (by kernel_rfl) (by kernel_rfl) (by kernel_rfl) (fun _ _ _ h => h) (Or.inl ⟨by rfl, ?_⟩) (by assumption) ?_
          rotate_left
          · (intro w hSw; (try dsimp only at hSw); go_simp; (try with_reducible rfl))
          (try simp only [Act.put, List.setIfInBounds_toArray, List.set_cons_zero, List.set_cons_succ])
          refine wpAnyH_take_at (i := 6) (v := ?_) (some 36) rfl rfl (by kernel_rfl) (by kernel_rfl) (by kernel_rfl) (fun _ _ _ h => h) (Or.inl ⟨by rfl, ?_⟩) (by assumption) ?_
          rotate_left
          · (intro w hSw; (try dsimp only at hSw); go_simp; (try with_reducible rfl))
          (try simp only [Act.put, List.setIfInBounds_toArray, List.set_cons_zero, List.set_cons_succ])
          refine wpAnyH_take_at (i := 7) (v := ?_) (some 37) rfl rfl (by kernel_rfl) (by kernel_rfl) (by kernel_rfl) (fun _ _ _ h => h) (Or.inl ⟨by rfl, ?_⟩) (by assumption) ?_
          rotate_left
          · (intro w hSw; (try dsimp only at hSw); go_simp; (try with_reducible rfl))
          (try simp only [Act.put, List.setIfInBounds_toArray, List.set_cons_zero, List.set_cons_succ])
          refine wpAnyH_ready (rs := [8]) (by kernel_rfl) (by simp) ?_
          refine AllReadyH.cons rfl (fun K hK => ?_) AllReadyH.nil
          go_simp
          refine (HE4.out W.drew col1 s1 (HYW.out.below (Below.refl _ _).drew)).mono ?_
          rintro e w4 ⟨he, col2, hy4, hc4, hb4⟩
          obtain ⟨v4, hv4⟩ : ∃ z, z = numA t (endP t s1.dn ((s1.qs[wk]?).getD []) p).1 := ⟨_, rfl⟩
          rw [← hv4] at he
          subst he
          refine hK.out _ _ ?_ (fun hHeld => ?_)
          · exact hy4.hd.cell 2 _ rfl
          clear hK K
          (try simp only [Act.put, List.setIfInBounds_toArray, List.set_cons_zero, List.set_cons_succ])
          refine wpAnyH_done (by kernel_rfl) ?_ _
          unfold QPre
          simp only [List.drop_succ_cons, List.drop_zero]
          have hY5 := hy4.move hwk (endP t s1.dn ((s1.qs[wk]?).getD []) p).1
          rw [← hv4] at hY5
          have hga : Yc col1 ga := by unfold Yc; rw [HYD.out.ca]; decide
          have HN := Lib.hid (SInv.next HI.out hwk (calmS_other HONE.out HX.out H2.out HK1.out) HCOL.out (fun b hb => hc4 b (Nat.lt_of_lt_of_le hb HSZ.out)) (((HBW.out.drew).trans hb4).setCell (p := ⟨ga, wk, none⟩) hga (.int .i64 v4)) hY5)
          have cw := hy4.worker hwk
          have fw := hy4.at_.fr wk
          generalize numA t _ = v0 at cw
          clear hv4 hY5 hy4 hc4 hb4 d2 dw
          go_wp2
          go_roundw
          case rel => exact Lib.hid ⟨_, HN.out.1⟩
          case measure => exact SInv.lt HMU.out HN.out.1 HN.out.2
      | some z =>
        obtain ⟨par, xa, xb⟩ := z
        have H2 := Lib.hid h2
        have htw : twoT t p = some (par, xa, xb) := by unfold twoT; rw [HX.out]; exact h2
        have hlt2 : lt' = (nmP t (false :: p) : Int) := by rw [HLT.out, partP_two htw]
        have hrt2 : rt' = (nmP t (true :: p) : Int) := by rw [HRT.out, partP_two htw]
        have HLT2 := Lib.hid hlt2
        have HRT2 := Lib.hid hrt2
        cases par with
        | true =>
          have hkd : kd = 3 := by rw [HKD.out, partP_two htw]; rfl
          subst hkd
          clear h2 htw hlt2 hrt2
          go_wp2_with fail
          have c3 := HYW.out.ptr.cell wk d HD1.out 0 _ rfl
          rw [Nat.mul_one, Nat.add_zero] at c3
          replace c3 : W.cell? ⟨gq, wk, none⟩ = some (.pointer (some ⟨d, 0, none⟩)) := c3
          clear x0 d0
          refine wp_region_pre 9 (S := (fun wx => wx.cell? ⟨y, 3, none⟩ = some (.slice (some ⟨gq, 0, none⟩) k cq) ∧ wx.cell? ⟨gq, wk, none⟩ = some (.pointer (some ⟨d, 0, none⟩)) ∧ wx.cell? ⟨bx, 3, none⟩ = some (.int .i64 rt'))) (by kernel_rfl) (by kernel_rfl) ⟨d3, c3, x3⟩ (fun hHeld => ?_)
          simp only [List.take_succ_cons, List.take_zero]
          refine wpAnyH_take_at (i := 0) (v := ?_) (some 44) rfl rfl (by kernel_rfl) (by kernel_rfl) (by kernel_rfl) (fun _ _ _ h => h) (Or.inl ⟨by rfl, ?_⟩) (by assumption) ?_
          rotate_left
          · (intro w hSw; (try dsimp only at hSw); go_simp; (try with_reducible rfl))
          (try simp only [Act.put, List.setIfInBounds_toArray, List.set_cons_zero, List.set_cons_succ])
          refine wpAnyH_take_at (i := 1) (v := ?_) (some 45) rfl rfl (by kernel_rfl) (by kernel_rfl) (by kernel_rfl) (fun _ _ _ h => h) (Or.inl ⟨by rfl, ?_⟩) (by assumption) ?_
          rotate_left
          · (intro w hSw; (try dsimp only at hSw); go_simp; (try with_reducible rfl))
          (try simp only [Act.put, List.setIfInBounds_toArray, List.set_cons_zero, List.set_cons_succ])
          refine wpAnyH_take_at (i := 2) (v := ?_) (some 46) rfl rfl (by kernel_rfl) (by kernel_rfl) (by kernel_rfl) (fun _ _ _ h => h) (Or.inl ⟨by rfl, ?_⟩) (by assumption) ?_
          rotate_left
          · (intro w hSw; (try dsimp only at hSw); go_simp; (try with_reducible rfl))
          (try simp only [Act.put, List.setIfInBounds_toArray, List.set_cons_zero, List.set_cons_succ])
          refine wpAnyH_take_at (i := 3) (v := ?_) (some 47) rfl rfl (by kernel_rfl) (by kernel_rfl) (by kernel_rfl) (fun _ _ _ h => h) (Or.inl ⟨by rfl, ?_⟩) (by assumption) ?_
          rotate_left
          · (intro w hSw; (try dsimp only at hSw); go_simp; (try with_reducible rfl))
          (try simp only [Act.put, List.setIfInBounds_toArray, List.set_cons_zero, List.set_cons_succ])
          refine wpAnyH_take_at (i := 4) (v := ?_) (some 48) rfl rfl (by kernel_rfl) (by kernel_rfl) (by kernel_rfl) (fun _ _ _ h => h) (Or.inl ⟨by rfl, ?_⟩) (by assumption) ?_
          rotate_left
          · (intro w hSw; (try dsimp only at hSw); go_simp; (try with_reducible rfl))
          (try simp only [Act.put, List.setIfInBounds_toArray, List.set_cons_zero, List.set_cons_succ])
          refine wpAnyH_take_at (i := 5) (v := ?_) (some 49) rfl rfl (by kernel_rfl) (by kernel_rfl) (by kernel_rfl) (fun _ _ _ h => h) (Or.inl ⟨by rfl, ?_⟩) (by assumption) ?_
          rotate_left
          · (intro w hSw; (try dsimp only at hSw); go_simp; (try with_reducible rfl))
          (try simp only [Act.put, List.setIfInBounds_toArray, List.set_cons_zero, List.set_cons_succ])
          refine wpAnyH_take_at (i := 6) (v := ?_) (some 50) rfl rfl (by kernel_rfl) (by kernel_rfl) (by kernel_rfl) (fun _ _ _ h => h) (Or.inl ⟨by rfl, ?_⟩) (by assumption) ?_
          rotate_left
          · (intro w hSw; (try dsimp only at hSw); go_simp; (try with_reducible rfl))
          (try simp only [Act.put, List.setIfInBounds_toArray, List.set_cons_zero, List.set_cons_succ])
          refine wpAnyH_take_at (i := 7) (v := ?_) (some 51) rfl rfl (by kernel_rfl) (by kernel_rfl) (by kernel_rfl) (fun _ _ _ h => h) (Or.inl ⟨by rfl, ?_⟩) (by assumption) ?_
          rotate_left
          · (intro w hSw; (try dsimp only at hSw); go_simp; (try with_reducible rfl))
          (try simp only [Act.put, List.setIfInBounds_toArray, List.set_cons_zero, List.set_cons_succ])
          refine wpAnyH_take_at (i := 8) (v := ?_) (some 52) rfl rfl (by kernel_rfl) (by kernel_rfl) (by kernel_rfl) (fun _ _ _ h => h) (Or.inl ⟨by rfl, ?_⟩) (by assumption) ?_
          rotate_left
          · (intro w hSw; (try dsimp only at hSw); go_simp; (try with_reducible rfl))
          (try simp only [Act.put, List.setIfInBounds_toArray, List.set_cons_zero, List.set_cons_succ])
          refine wpAnyH_done (by kernel_rfl) ?_ _
          unfold QPre
          simp only [List.drop_succ_cons, List.drop_zero]
          clear d2 d3 c3 x2 x3 dw
          go_wp2_with fail
          refine (push_any (HQ.out.but (T := Nowhere) ((But.refl _ W).drew) (fun _ _ h => h)) hN (by rw [List.length_map]; exact Nat.lt_of_lt_of_le (HV.out.qlen HONE.out) hNn) rt').mono ?_
          rintro e w4 ⟨rfl, X', hq4, hx4, hb4⟩
          have hq5 : DqAt base w4 d X' N (((s1.qs[wk]?).getD [] ++ [true :: p]).map fun p => (nmP t p : Int)) := by
            rw [List.map_append, List.map_singleton, ← HRT2.out]; exact hq4
          obtain ⟨col2, hcol2⟩ : ∃ col2 : Nat → Nat, (∀ b, X' b → col2 b = 6 + wk) ∧ ∀ b, ¬ X' b → col2 b = col1 b := by
            classical
            exact ⟨fun b => if X' b then 6 + wk else col1 b, fun b h => if_pos h, fun b h => if_neg h⟩
          have hc4 : ∀ b, b < W.drew.heap.size → col2 b = col1 b := fun b hb => by
            by_cases hx : X' b
            · rw [hcol2.1 b hx]
              rcases hx4 b hx with h | h
              · exact (HCX.out b h).symm
              · exact absurd h.1 (by omega)
            · exact hcol2.2 b hx
          have HY4 := Lib.hid ((HYW.out.below (Below.refl _ _).drew).queue hwk HD1.out HCX.out hb4 hq5 hc4 hcol2.1)
          have B4 : But (Yc col1) wr w4 := (HBW.out.drew).trans (hb4.sub fun b hb => by have := HCX.out b hb; unfold Yc; omega)
          have HB4 := Lib.hid B4
          have HC4 := Lib.hid (show ∀ b, b < wr.heap.size → col2 b = col1 b from fun b hb => hc4 b (Nat.lt_of_lt_of_le hb HSZ.out))
          have y2 := HY4.out.hd.cell 2 _ rfl
          have b2 := (HBX.out.drew.but hb4 hxb).cell 2 _ rfl
          clear hq4 hx4 hb4 hq5 hcol2 hc4 B4
          go_wp2_with fail
          refine wp_region_pre 7 (S := (fun wx => wx.cell? ⟨y, 2, none⟩ = some (.slice (some ⟨ga, 0, none⟩) k ca) ∧ wx.cell? ⟨bx, 2, none⟩ = some (.int .i64 lt'))) (by kernel_rfl) (by kernel_rfl) ⟨y2, b2⟩ (fun hHeld => ?_)
          simp only [List.take_succ_cons, List.take_zero]
          refine wpAnyH_take_at (i := 0) (v := ?_) (some 54) rfl rfl (by kernel_rfl) (by kernel_rfl) (by kernel_rfl) (fun _ _ _ h => h) (Or.inl ⟨by rfl, ?_⟩) (by assumption) ?_
          rotate_left
          · (intro w hSw; (try dsimp only at hSw); go_simp; (try with_reducible rfl))
          (try simp only [Act.put, List.setIfInBounds_toArray, List.set_cons_zero, List.set_cons_succ])
          refine wpAnyH_take_at (i := 1) (v := ?_) (some 55) rfl rfl (by kernel_rfl) (by kernel_rfl) (by kernel_rfl) (fun _ _ _ h => h) (Or.inl ⟨by rfl, ?_⟩) (by assumption) ?_
          rotate_left
          · (intro w hSw; (try dsimp only at hSw); go_simp; (try with_reducible rfl))
          (try simp only [Act.put, List.setIfInBounds_toArray, List.set_cons_zero, List.set_cons_succ])
          refine wpAnyH_take_at (i := 2) (v := ?_) (some 56) rfl rfl (by kernel_rfl) (by kernel_rfl) (by kernel_rfl) (fun _ _ _ h => h) (Or.inl ⟨by rfl, ?_⟩) (by assumption) ?_
          rotate_left
          · (intro w hSw; (try dsimp only at hSw); go_simp; (try with_reducible rfl))
          (try simp only [Act.put, List.setIfInBounds_toArray, List.set_cons_zero, List.set_cons_succ])
          refine wpAnyH_take_at (i := 3) (v := ?_) (some 57) rfl rfl (by kernel_rfl) (by kernel_rfl) (by kernel_rfl) (fun _ _ _ h => h) (Or.inl ⟨by rfl, ?_⟩) (by assumption) ?_
          rotate_left
          · (intro w hSw; (try dsimp only at hSw); go_simp; (try with_reducible rfl))
          (try simp only [Act.put, List.setIfInBounds_toArray, List.set_cons_zero, List.set_cons_succ])
          refine wpAnyH_take_at (i := 4) (v := ?_) (some 58) rfl rfl (by kernel_rfl) (by kernel_rfl) (by kernel_rfl) (fun _ _ _ h => h) (Or.inl ⟨by rfl, ?_⟩) (by assumption) ?_
          rotate_left
          · (intro w hSw; (try dsimp only at hSw); go_simp; (try with_reducible rfl))
          (try simp only [Act.put, List.setIfInBounds_toArray, List.set_cons_zero, List.set_cons_succ])
          refine wpAnyH_take_at (i := 5) (v := ?_) (some 59) rfl rfl (by kernel_rfl) (by kernel_rfl) (by kernel_rfl) (fun _ _ _ h => h) (Or.inl ⟨by rfl, ?_⟩) (by assumption) ?_
          rotate_left
          · (intro w hSw; (try dsimp only at hSw); go_simp; (try with_reducible rfl))
          (try simp only [Act.put, List.setIfInBounds_toArray, List.set_cons_zero, List.set_cons_succ])
          refine wpAnyH_take_at (i := 6) (v := ?_) (some 60) rfl rfl (by kernel_rfl) (by kernel_rfl) (by kernel_rfl) (fun _ _ _ h => h) (Or.inl ⟨by rfl, ?_⟩) (by assumption) ?_
          rotate_left
          · (intro w hSw; (try dsimp only at hSw); go_simp; (try with_reducible rfl))
          (try simp only [Act.put, List.setIfInBounds_toArray, List.set_cons_zero, List.set_cons_succ])
          refine wpAnyH_done (by kernel_rfl) ?_ _
          unfold QPre
          simp only [List.drop_succ_cons, List.drop_zero]
          have HY5 := Lib.hid (HY4.out.below (Below.refl _ _).drew)
          have hY6 := HY5.out.move hwk (some (false :: p))
          rw [show numA t (some (false :: p)) = (nmP t (false :: p) : Int) from rfl, ← HLT2.out] at hY6
          have hga : Yc col1 ga := by unfold Yc; rw [HYD.out.ca]; decide
          have HN := Lib.hid (SInv.next HI.out hwk (calmS_two HONE.out HX.out H2.out) HCOL.out HC4.out ((HB4.out.drew).setCell (p := ⟨ga, wk, none⟩) hga (.int .i64 lt')) hY6)
          have cw := HY5.out.worker hwk
          have fw := HY5.out.at_.fr wk
          generalize numA t _ = v0 at cw
          clear hY6 y2 b2 HY4 HY5
          go_wp2
          go_roundw
          case rel => exact Lib.hid ⟨_, HN.out.1⟩
          case measure => exact SInv.lt HMU.out HN.out.1 HN.out.2
        | false =>
          have hkd : kd = 2 := by rw [HKD.out, partP_two htw]; rfl
          subst hkd
          clear h2 htw hlt2 hrt2
          go_wp2_with fail
          clear x0 x3 d0 d3
          refine wp_region_pre 7 (S := (fun wx => wx.cell? ⟨y, 2, none⟩ = some (.slice (some ⟨ga, 0, none⟩) k ca) ∧ wx.cell? ⟨bx, 2, none⟩ = some (.int .i64 lt'))) (by kernel_rfl) (by kernel_rfl) ⟨d2, x2⟩ (fun hHeld => ?_)
          simp only [List.take_succ_cons, List.take_zero]
          refine wpAnyH_take_at (i := 0) (v := ?_) (some 64) rfl rfl (by kernel_rfl) (by kernel_rfl) (by kernel_rfl) (fun _ _ _ h => h) (Or.inl ⟨by rfl, ?_⟩) (by assumption) ?_
          rotate_left
          · (intro w hSw; (try dsimp only at hSw); go_simp; (try with_reducible rfl))
          (try simp only [Act.put, List.setIfInBounds_toArray, List.set_cons_zero, List.set_cons_succ])
          refine wpAnyH_take_at (i := 1) (v := ?_) (some 65) rfl rfl (by kernel_rfl) (by kernel_rfl) (by kernel_rfl) (fun _ _ _ h => h) (Or.inl ⟨by rfl, ?_⟩) (by assumption) ?_
          rotate_left
          · (intro w hSw; (try dsimp only at hSw); go_simp; (try with_reducible rfl))
          (try simp only [Act.put, List.setIfInBounds_toArray, List.set_cons_zero, List.set_cons_succ])
          refine wpAnyH_take_at (i := 2) (v := ?_) (some 66) rfl rfl (by kernel_rfl) (by kernel_rfl) (by kernel_rfl) (fun _ _ _ h => h) (Or.inl ⟨by rfl, ?_⟩) (by assumption) ?_
          rotate_left
          · (intro w hSw; (try dsimp only at hSw); go_simp; (try with_reducible rfl))
          (try simp only [Act.put, List.setIfInBounds_toArray, List.set_cons_zero, List.set_cons_succ])
          refine wpAnyH_take_at (i := 3) (v := ?_) (some 67) rfl rfl (by kernel_rfl) (by kernel_rfl) (by kernel_rfl) (fun _ _ _ h => h) (Or.inl ⟨by rfl, ?_⟩) (by assumption) ?_
          rotate_left
          · (intro w hSw; (try dsimp only at hSw); go_simp; (try with_reducible rfl))
          (try simp only [Act.put, List.setIfInBounds_toArray, List.set_cons_zero, List.set_cons_succ])
          refine wpAnyH_take_at (i := 4) (v := ?_) (some 68) rfl rfl (by kernel_rfl) (by kernel_rfl) (by kernel_rfl) (fun _ _ _ h => h) (Or.inl ⟨by rfl, ?_⟩) (by assumption) ?_
          rotate_left
          · (intro w hSw; (try dsimp only at hSw); go_simp; (try with_reducible rfl))
          (try simp only [Act.put, List.setIfInBounds_toArray, List.set_cons_zero, List.set_cons_succ])
          refine wpAnyH_take_at (i := 5) (v := ?_) (some 69) rfl rfl (by kernel_rfl) (by kernel_rfl) (by kernel_rfl) (fun _ _ _ h => h) (Or.inl ⟨by rfl, ?_⟩) (by assumption) ?_
          rotate_left
          · (intro w hSw; (try dsimp only at hSw); go_simp; (try with_reducible rfl))
          (try simp only [Act.put, List.setIfInBounds_toArray, List.set_cons_zero, List.set_cons_succ])
          refine wpAnyH_take_at (i := 6) (v := ?_) (some 70) rfl rfl (by kernel_rfl) (by kernel_rfl) (by kernel_rfl) (fun _ _ _ h => h) (Or.inl ⟨by rfl, ?_⟩) (by assumption) ?_
          rotate_left
          · (intro w hSw; (try dsimp only at hSw); go_simp; (try with_reducible rfl))
          (try simp only [Act.put, List.setIfInBounds_toArray, List.set_cons_zero, List.set_cons_succ])
          refine wpAnyH_done (by kernel_rfl) ?_ _
          unfold QPre
          simp only [List.drop_succ_cons, List.drop_zero]
          have HY5 := Lib.hid (HYW.out.below (Below.refl _ _).drew)
          have hY6 := HY5.out.move hwk (some (false :: p))
          rw [show numA t (some (false :: p)) = (nmP t (false :: p) : Int) from rfl, ← HLT2.out] at hY6
          have hqs := set_self s1.qs wk (by rw [HV.out.lq]; exact hwk)
          have hY7 : Yd base (W.drew.setCell ⟨ga, wk, none⟩ (.int .i64 lt')) y col1 t k N gp cp ga ca gq cq ds lv od (s1.put wk ⟨some (false :: p), (s1.one wk).dn, if false then (s1.one wk).q ++ [true :: p] else (s1.one wk).q⟩) := by
            have e : s1.put wk ⟨some (false :: p), (s1.one wk).dn, if false then (s1.one wk).q ++ [true :: p] else (s1.one wk).q⟩ = { s1 with at_ := s1.at_.set wk (some (false :: p)) } := by
              unfold Vs.put Vs.one
              simp only [Bool.false_eq_true, if_false]
              rw [hqs]
            rw [e]; exact hY6
          have hga : Yc col1 ga := by unfold Yc; rw [HYD.out.ca]; decide
          have HN := Lib.hid (SInv.next HI.out hwk (calmS_two HONE.out HX.out H2.out) HCOL.out (fun _ _ => rfl) ((HBW.out.drew).setCell (p := ⟨ga, wk, none⟩) hga (.int .i64 lt')) hY7)
          have cw := HY5.out.worker hwk
          have fw := HY5.out.at_.fr wk
          generalize numA t _ = v0 at cw
          clear hY6 hY7 hqs d2 x2 dw HY5
          go_wp2
          go_roundw
          case rel => exact Lib.hid ⟨_, HN.out.1⟩
          case measure => exact SInv.lt HMU.out HN.out.1 HN.out.2
end Go.Proofs.Ytbpooepbnnbipaa
