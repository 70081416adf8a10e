/- The walk of the reference's calm. -/
import Derived.Test.YtbpooepbnnbipaaSw3
import Derived.Test.YtbpooepbnnbipaaRegPre
namespace Go.Proofs.Ytbpooepbnnbipaa
open Go.RowKit
set_option linter.unusedVariables false
/-- on the way: what a state that is reached is to the start -/
def RInv (base y : Nat) (col : Nat → Nat) (t : Tm) (k A ca Q D : Nat) (kk c lb : Int) (wb : Bool) (kv od : Value) (wk : Nat) (w0 : World) (s : Vs) (wx : World) (s1 : Vs) : Prop :=
  Vr base wx y col t k A ca Q D kk c lb wb kv od s1 ∧ VAt t k wk s1 ∧ calmW t s1 wk = calmW t s wk ∧ But (Yc col) w0 wx
noncomputable def muR (base y : Nat) (col : Nat → Nat) (t : Tm) (k A ca Q D : Nat) (kk c lb : Int) (wb : Bool) (kv od : Value) (wk : Nat) (w0 : World) (s : Vs) (wx : World) : Nat :=
  leastN fun n => ∃ s1, RInv base y col t k A ca Q D kk c lb wb kv od wk w0 s wx s1 ∧ muT t (s1.one wk) = n
section
variable {base y : Nat} {col : Nat → Nat} {t : Tm} {k A ca Q D : Nat} {kk c lb : Int} {wb : Bool} {kv od : Value} {wk : Nat} {w0 wx wx' : World} {s s1 s2 : Vs}
theorem RInv.least (h : ∃ s1, RInv base y col t k A ca Q D kk c lb wb kv od wk w0 s wx s1) : ∃ s1, RInv base y col t k A ca Q D kk c lb wb kv od wk w0 s wx s1 ∧ muT t (s1.one wk) = muR base y col t k A ca Q D kk c lb wb kv od wk w0 s wx := by
  obtain ⟨s1, h1⟩ := h
  exact (least_spec (P := fun n => ∃ s1, RInv base y col t k A ca Q D kk c lb wb kv od wk w0 s wx s1 ∧ muT t (s1.one wk) = n) ⟨_, s1, h1, rfl⟩).1
theorem RInv.lt (hm : muT t (s1.one wk) = muR base y col t k A ca Q D kk c lb wb kv od wk w0 s wx) (h2 : RInv base y col t k A ca Q D kk c lb wb kv od wk w0 s wx' s2) (hlt : muT t (s2.one wk) < muT t (s1.one wk)) : muR base y col t k A ca Q D kk c lb wb kv od wk w0 s wx' < muR base y col t k A ca Q D kk c lb wb kv od wk w0 s wx := by
  have := (least_spec (P := fun n => ∃ s1, RInv base y col t k A ca Q D kk c lb wb kv od wk w0 s wx' s1 ∧ muT t (s1.one wk) = n) ⟨_, s2, h2, rfl⟩).2 _ ⟨s2, h2, rfl⟩
  exact Nat.lt_of_le_of_lt this (by omega)
theorem RInv.next (h : RInv base y col t k A ca Q D kk c lb wb kv od wk w0 s wx s1) (hw : wk < k) {cx : Ca} (hs : calmS t (s1.one wk) = some cx) (hb : But (Yc col) wx wx') (hY : Vr base wx' y col t k A ca Q D kk c lb wb kv od (s1.put wk cx)) : RInv base y col t k A ca Q D kk c lb wb kv od wk w0 s wx' (s1.put wk cx) ∧ muT t ((s1.put wk cx).one wk) < muT t (s1.one wk) := by
  obtain ⟨_, h2, h3, h5⟩ := h
  obtain ⟨k1, k2, k3⟩ := h2.step hw hs
  exact ⟨⟨hY, k1, k2.trans h3, h5.trans hb⟩, k3⟩
end
theorem txtA_str (a : Option Pt) : ∃ z, txtA a = .string z := by cases a <;> exact ⟨_, rfl⟩
theorem infoTx : (Try.prog.info? 9).map (fun i => (i.zero, i.size, i.bytes)) = some (some (.string ⟨#[]⟩), 1, 16) := by kernel_rfl
theorem oneTx : ∀ e, okTx e → ∀ u ∈ encTx e, u.oneCell' = true := by
  intro e _ u hu
  simp [encTx] at hu
  subst hu; rfl
theorem frT_new (w : World) {p : Pt} {x : ByteArray} (hx : x = txtP p) {g : Nat} (hg : w.heap.size = g) : Fr encTx okTx 1 16 (w.alloc (.cells #[.string x] 9)) [p] (.slice (some ⟨g, 0, none⟩) 1 1) := by
  subst hg hx
  have B := Blk.made w [.string (txtP p)] 9 (base := 0) (Nat.zero_le _)
  refine ⟨Is w.heap.size, fun b hb => by unfold Is at hb; subst hb; simp [Upto], _, 1, [[.string (txtP p)]], rfl, Nat.le_refl _, by simp [maxLen], by simp, rfl, ⟨by simp, fun _ => ⟨w.heap.size, 0, rfl, rfl, fun i c hi j v hv => by
    match i, hi with
    | 0, hi => simp at hi; subst hi; simpa using B.cell j v hv⟩⟩, fun i e c hi hc => by
    match i, hi, hc with
    | 0, hi, hc => simp at hi hc; subst hi hc; exact ⟨rfl, trivial⟩⟩
def CalC (base y : Nat) (col : Nat → Nat) (t : Tm) (k A ca Q D : Nat) (kk c lb : Int) (wb : Bool) (kv od : Value) (wk : Nat) : Prop := ∀ (w : World) (s : Vs), Vr base w y col t k A ca Q D kk c lb wb kv od s → VAt t k wk s →
  Calls Try.prog 18 #[.pointer (some ⟨y, 0, none⟩), .int .i64 (wk : Int)] w fun e w' => e = .returned (.tuple #[]) ∧ Vr base w' y col t k A ca Q D kk c lb wb kv od (calmW t s wk) ∧ But (Yc col) w w'
set_option maxHeartbeats 2000000 in
set_option maxRecDepth 100000 in
theorem calm_any (base y : Nat) (col : Nat → Nat) (t : Tm) (k A ca Q D : Nat) (kk c lb : Int) (wb : Bool) (kv od : Value) (wk : Nat) (hwk : wk < k) (hL : (nodesT t).length ≤ 1048576) (hk : k ≤ 16) : CalC base y col t k A ca Q D kk c lb wb kv od wk := by
  intro w s hY hV
  have HBEH := Lib.hid (behind_any base y col t k A ca Q D kk c lb wb kv od wk hwk hL hk)
  have h0 := Lib.hid (show ∃ s1, RInv base y col t k A ca Q D kk c lb wb kv od wk w s w s1 from ⟨s, hY, hV, rfl, But.refl _ _⟩)
  have WK : (wk : Int) < (k : Int) := by omega
  obtain ⟨i0, hi, hz0, hz1, hz2⟩ := info_parts infoTx
  clear hY hV
  go_enter Try.func18, Try.ntmps18
  go_wp2
  go_loopw [4] (fun v wx => Hid (∃ s1, RInv base y col t k A ca Q D kk c lb wb kv od wk w s wx s1)) (fun _ wx => muR base y col t k A ca Q D kk c lb wb kv od wk w s wx)
  case atStart => exact h0
  case round =>
    clear h0
    obtain ⟨s1, h1, hmu⟩ := RInv.least hrel.out
    obtain ⟨hY1, hV1, hcm, hbut⟩ := id h1
    have HI := Lib.hid h1
    have HMU := Lib.hid hmu
    have HV := Lib.hid hV1
    have HYD := Lib.hid hY1
    have c5 := hY1.hd.cell 5 _ rfl
    have cw := hY1.worker hwk
    clear hrel h1 hmu
    cases hat : (s1.at_[wk]?).getD none with
    | none =>
      rw [hat] at cw
      replace cw : wr.cell? ⟨A, wk, none⟩ = some (.string ⟨#[45]⟩) := cw
      have hst := hV1.stop hwk (calmS_idle (show (s1.one wk).at_ = none from hat))
      have HF := Lib.hid (show Vr base wr y col t k A ca Q D kk c lb wb kv od (calmW t s wk) ∧ But (Yc col) w wr from ⟨by rw [← hcm, hst]; exact hY1, hbut⟩)
      clear hY1 hV1 hcm hbut hst hat
      go_wp2
      go_end0
      exact ⟨rfl, HF.out⟩
    | some p =>
      rw [hat] at cw
      replace cw : wr.cell? ⟨A, wk, none⟩ = some (.string (txtP p)) := cw
      have hone : (s1.one wk).at_ = some p := hat
      have hv := hV1.tok.val p (by rw [hone]; simp)
      obtain ⟨x, hx⟩ := Option.isSome_iff_exists.1 hv
      have hlp : p.length ≤ 1048576 := by have h1 := path_len _ hv; have h2 := nm_lt hv; omega
      have hid : ((txtP p).toList == (⟨#[45]⟩ : ByteArray).toList) = false := by
        rw [ByteArray.toList_eq, ByteArray.toList_eq, beq_eq_false_iff_ne]
        intro e
        exact bytesP_idle p (by simpa using e)
      have hid2 : (bytesP p == [45]) = false := by
        rw [beq_eq_false_iff_ne]
        exact bytesP_idle p
      obtain ⟨S, hS, hrt⟩ := hY1.rt
      have hbl : base ≤ wr.heap.size := Nat.le_of_lt (Nat.lt_of_le_of_lt hY1.hd.ge hY1.hd.lt)
      have HVP := Lib.hid (vpart_any t p x hx wr S _ hrt (hS.trans (Sub.upto hbl)) (Nat.le_trans (count_nodes t) hL) hlp)
      have t0 := hY1.hd.cell 0 _ rfl; have t1 := hY1.hd.cell 1 _ rfl; have t2 := hY1.hd.cell 2 _ rfl; have t3 := hY1.hd.cell 3 _ rfl; have t4 := hY1.hd.cell 4 _ rfl
      have HSB := Lib.hid (hS.trans (Sub.upto hbl))
      have HX := Lib.hid hx
      have HONE := Lib.hid hone
      have HVV := Lib.hid hv
      have HCM := Lib.hid hcm
      have HBU := Lib.hid hbut
      clear hS hrt hx hlp hbl hone hY1 hV1 hv hat hcm hbut
      unfold tmV at HVP
      go_wp2_with fail
      refine HVP.out.mono ?_
      rintro e w5 ⟨Vx, rfl, hrx, hb5⟩
      have HY5 := Lib.hid (HYD.out.below hb5)
      have HB5 := Lib.hid (But.of_below (T := Yc col) hb5)
      have HS5 := Lib.hid (HSB.out.trans (Sub.upto hb5.size))
      have RX := Lib.hid hrx
      obtain ⟨ku, cu, wu, lu, kidsu, vu, eu, rfl, hku, _, _, hkd⟩ := hrx
      obtain ⟨Au, nu, rfl, _⟩ := hkd.form
      have hkx : x.kind = ku := by rw [eu]; rfl
      have HKX := Lib.hid hkx
      generalize kidsu.length = nu' at *
      clear hb5 hkd eu hkx HVP t0 t1 t2 t3 t4 c5 cw
      unfold tmV at *
      go_upto_region 3 with (fail)
      have BX := Blk.made w5 [.int .i64 ku, .int .i64 cu, .bool wu, .int .i64 lu, .slice Au nu' nu] 26 (base := w5.heap.size) (Nat.le_refl _)
      have BW := (Below.refl w5.heap.size w5).alloc (Nat.le_refl _) (.cells [.int .i64 ku, .int .i64 cu, .bool wu, .int .i64 lu, .slice Au nu' nu].toArray 26)
      change Code.wp _ _ _ _ (w5.alloc (.cells [.int .i64 ku, .int .i64 cu, .bool wu, .int .i64 lu, .slice Au nu' nu].toArray 26))
      generalize w5.alloc (.cells [.int .i64 ku, .int .i64 cu, .bool wu, .int .i64 lu, .slice Au nu' nu].toArray 26) = W at *
      have HYW := Lib.hid (HY5.out.below BW)
      have HBW := Lib.hid (HB5.out.trans (But.of_below BW))
      have HSW := Lib.hid (HS5.out.trans (Sub.upto BW.size))
      have RW := Lib.hid (RX.out.go BW HS5.out)
      generalize w5.heap.size = bx at *
      have x0 := BX.cell 0 _ rfl; have x1 := BX.cell 1 _ rfl; have x2 := BX.cell 2 _ rfl; have x3 := BX.cell 3 _ rfl; have x4 := BX.cell 4 _ rfl
      have HBX := Lib.hid BX
      clear BX BW HY5 HB5 HS5 RX
      cases h2 : x.two with
      | none =>
        have H2 := Lib.hid h2
        have HBO := Lib.hid (both_none x h2 W S _ RW.out)
        clear h2
        go_wp2_with fail
        refine HBO.out.mono ?_
        rintro e w6 ⟨rfl, hb6⟩
        unfold tm0
        go_upto_region 5 with (fail)
        have hb9 : Below W.heap.size W ((w6.alloc (.cells #[.int .i64 0, .int .i64 0, .bool false, .int .i64 0, .slice none 0 0] 26)).alloc (.cells #[.int .i64 0, .int .i64 0, .bool false, .int .i64 0, .slice none 0 0] 26)) := (hb6.alloc hb6.size _).alloc (by rw [World.size_alloc]; exact Nat.le_succ_of_le hb6.size) _
        have HY9 := Lib.hid (HYW.out.below hb9)
        have HB9 := Lib.hid (HBW.out.trans (But.of_below (T := Yc col) hb9))
        have HBX9 := Lib.hid (HBX.out.below hb9)
        generalize w6.heap.size = z6 at *
        generalize ((w6.alloc (.cells #[.int .i64 0, .int .i64 0, .bool false, .int .i64 0, .slice none 0 0] 26)).alloc (.cells #[.int .i64 0, .int .i64 0, .bool false, .int .i64 0, .slice none 0 0] 26)) = W9 at *
        clear hb6 hb9 HBO HYW HBW HBX RW HSW x0 x1 x2 x3 x4
        have x0 := HBX9.out.cell 0 _ rfl
        by_cases hk1 : x.kind = 1
        · have hku : ku = 1 := by rw [← HKX.out]; exact hk1
          have hst := HV.out.stop hwk (calmS_leaf HONE.out HX.out H2.out hk1)
          have HF := Lib.hid (show Vr base W9 y col t k A ca Q D kk c lb wb kv od (calmW t s wk) ∧ But (Yc col) w W9 from ⟨by rw [← HCM.out, hst]; exact HY9.out, HBU.out.trans HB9.out⟩)
          subst hku
          clear hst hk1
          go_wp2
          refine bodyPost_ret (results_none rfl _ _ _) rfl ?_
          exact ⟨rfl, HF.out⟩
        · have hku : ¬ ku = 1 := by rw [← HKX.out]; exact hk1
          have hku2 : (ku == 1) = false := by simpa using hku
          have HK1 := Lib.hid hk1
          clear hk1 hku
          go_wp2_with fail
          have hpre : PreE t (((s1.qs[wk]?).getD []) ++ othV s1 wk) s1.dn p := by
            have hT := HV.out.tok
            rw [HONE.out] at hT
            exact preE_of hT (fun b hb => by
              obtain ⟨par, y, z, e⟩ := subT_up hb
              unfold twoT at e
              rw [HX.out] at e
              rw [show (some x).bind Tm.two = x.two from rfl, H2.out] at e; cases e)
          have HPR := Lib.hid hpre
          have d5 := HY9.out.hd.cell 5 _ rfl
          clear hpre x0
          refine wp_region_pre 9 (S := (fun wx => wx.cell? ⟨y, 5, none⟩ = some (.slice (some ⟨A, 0, none⟩) k ca))) (by kernel_rfl) (by kernel_rfl) d5 (fun hHeld => ?_)
          simp only [List.take_succ_cons, List.take_zero]
          refine wpAnyH_take_at (i := 0) (v := ?_) (some 40) rfl rfl (by kernel_rfl) (by kernel_rfl) (by kernel_rfl) (fun _ _ _ h => h) (Or.inl ⟨by rfl, ?_⟩) (by assumption) ?_
          rotate_left
          · (intro w hSw; (try dsimp only at hSw); go_simp; (try with_reducible rfl))
          (try simp only [Act.put, List.setIfInBounds_toArray, List.set_cons_zero, List.set_cons_succ])
          refine wpAnyH_take_at (i := 1) (v := ?_) (some 41) rfl rfl (by kernel_rfl) (by kernel_rfl) (by kernel_rfl) (fun _ _ _ h => h) (Or.inl ⟨by rfl, ?_⟩) (by assumption) ?_
          rotate_left
          · (intro w hSw; (try dsimp only at hSw); go_simp; (try with_reducible rfl))
          (try simp only [Act.put, List.setIfInBounds_toArray, List.set_cons_zero, List.set_cons_succ])
          refine wpAnyH_take_at (i := 2) (v := ?_) (some 42) rfl rfl (by kernel_rfl) (by kernel_rfl) (by kernel_rfl) (fun _ _ _ h => h) (Or.inl ⟨by rfl, ?_⟩) (by assumption) ?_
          rotate_left
          · (intro w hSw; (try dsimp only at hSw); go_simp; (try with_reducible rfl))
          (try simp only [Act.put, List.setIfInBounds_toArray, List.set_cons_zero, List.set_cons_succ])
          refine wpAnyH_take_at (i := 3) (v := ?_) (some 43) rfl rfl (by kernel_rfl) (by kernel_rfl) (by kernel_rfl) (fun _ _ _ h => h) (Or.inl ⟨by rfl, ?_⟩) (by assumption) ?_
          rotate_left
          · (intro w hSw; (try dsimp only at hSw); go_simp; (try with_reducible rfl))
          (try simp only [Act.put, List.setIfInBounds_toArray, List.set_cons_zero, List.set_cons_succ])
          refine wpAnyH_take_at (i := 4) (v := ?_) (some 44) rfl rfl (by kernel_rfl) (by kernel_rfl) (by kernel_rfl) (fun _ _ _ h => h) (Or.inl ⟨by rfl, ?_⟩) (by assumption) ?_
          rotate_left
          · (intro w hSw; (try dsimp only at hSw); go_simp; (try with_reducible rfl))
          (try simp only [Act.put, List.setIfInBounds_toArray, List.set_cons_zero, List.set_cons_succ])
          refine wpAnyH_take_at (i := 5) (v := ?_) (some 45) rfl rfl (by kernel_rfl) (by kernel_rfl) (by kernel_rfl) (fun _ _ _ h => h) (Or.inl ⟨by rfl, ?_⟩) (by assumption) ?_
          rotate_left
          · (intro w hSw; (try dsimp only at hSw); go_simp; (try with_reducible rfl))
          (try simp only [Act.put, List.setIfInBounds_toArray, List.set_cons_zero, List.set_cons_succ])
          refine wpAnyH_take_at (i := 6) (v := ?_) (some 46) rfl rfl (by kernel_rfl) (by kernel_rfl) (by kernel_rfl) (fun _ _ _ h => h) (Or.inl ⟨by rfl, ?_⟩) (by assumption) ?_
          rotate_left
          · (intro w hSw; (try dsimp only at hSw); go_simp; (try with_reducible rfl))
          (try simp only [Act.put, List.setIfInBounds_toArray, List.set_cons_zero, List.set_cons_succ])
          refine wpAnyH_take_at (i := 7) (v := ?_) (some 47) rfl rfl (by kernel_rfl) (by kernel_rfl) (by kernel_rfl) (fun _ _ _ h => h) (Or.inl ⟨by rfl, ?_⟩) (by assumption) ?_
          rotate_left
          · (intro w hSw; (try dsimp only at hSw); go_simp; (try with_reducible rfl))
          (try simp only [Act.put, List.setIfInBounds_toArray, List.set_cons_zero, List.set_cons_succ])
          refine wpAnyH_ready (rs := [8]) (by kernel_rfl) (by simp) ?_
          refine AllReadyH.cons rfl (fun K hK => ?_) AllReadyH.nil
          go_simp
          refine (HBEH.out p W9.drew s1 _ (HY9.out.below (Below.refl _ _).drew) HPR.out).mono ?_
          rintro e w4 ⟨he, hy4, hb4⟩
          obtain ⟨v4, hv4⟩ := txtA_str (endP t s1.dn ((s1.qs[wk]?).getD []) p).1
          rw [hv4] at he
          subst he
          refine hK.out _ _ ?_ (fun hHeld => ?_)
          · exact hy4.hd.cell 5 _ rfl
          clear hK K
          (try simp only [Act.put, List.setIfInBounds_toArray, List.set_cons_zero, List.set_cons_succ])
          refine wpAnyH_done (by kernel_rfl) ?_ _
          unfold QPre
          simp only [List.drop_succ_cons, List.drop_zero]
          have hY5 := hy4.move hwk (endP t s1.dn ((s1.qs[wk]?).getD []) p).1
          rw [hv4] at hY5
          have hga : Yc col A := by unfold Yc; rw [HYD.out.cA]; decide
          have HN := Lib.hid (RInv.next HI.out hwk (calmS_other HONE.out HX.out H2.out HK1.out) (((HB9.out.drew).trans hb4).setCell (p := ⟨A, wk, none⟩) hga (.string v4)) hY5)
          have cw := hy4.worker hwk
          have fw := hy4.at_.fr wk
          generalize txtA _ = v0 at cw
          clear hv4 hY5 hy4 hb4 d5 hHeld
          go_wp2
          go_roundw
          case rel => exact Lib.hid ⟨_, HN.out.1⟩
          case measure => exact RInv.lt HMU.out HN.out.1 HN.out.2
      | some z =>
        obtain ⟨par, xa, xb⟩ := z
        have H2 := Lib.hid h2
        have HBO := Lib.hid (both_two x par xa xb h2 W S _ HSW.out RW.out)
        have hku : ku = if par then 3 else 2 := by rw [← HKX.out]; exact (Tm.two_kind h2).1
        have HKU := Lib.hid hku
        clear h2 hku
        go_wp2_with fail
        refine HBO.out.mono ?_
        rintro e w6 ⟨⟨Va, Vb, rfl, ra, rb⟩, hb6⟩
        obtain ⟨ka, c7, w7, l7, kids7, v7, ea, rfl, _, _, _, hka⟩ := ra
        obtain ⟨Aa, na, rfl, _⟩ := hka.form
        obtain ⟨kb, c8, w8, l8, kids8, v8, eb, rfl, _, _, _, hkb⟩ := rb
        obtain ⟨Ab, nb, rfl, _⟩ := hkb.form
        generalize kids7.length = na' at *
        generalize kids8.length = nb' at *
        clear hka hkb ea eb
        unfold tmV
        go_upto_region 5 with (fail)
        have hb9 : Below W.heap.size W ((w6.alloc (.cells #[.int .i64 ka, .int .i64 c7, .bool w7, .int .i64 l7, .slice Aa na' na] 26)).alloc (.cells #[.int .i64 kb, .int .i64 c8, .bool w8, .int .i64 l8, .slice Ab nb' nb] 26)) := (hb6.alloc hb6.size _).alloc (by rw [World.size_alloc]; exact Nat.le_succ_of_le hb6.size) _
        have HY9 := Lib.hid (HYW.out.below hb9)
        have HB9 := Lib.hid (HBW.out.trans (But.of_below (T := Yc col) hb9))
        have HBX9 := Lib.hid (HBX.out.below hb9)
        generalize w6.heap.size = z6 at *
        generalize ((w6.alloc (.cells #[.int .i64 ka, .int .i64 c7, .bool w7, .int .i64 l7, .slice Aa na' na] 26)).alloc (.cells #[.int .i64 kb, .int .i64 c8, .bool w8, .int .i64 l8, .slice Ab nb' nb] 26)) = W9 at *
        clear hb6 hb9 HBO HYW HBW HBX RW HSW x0 x1 x2 x3 x4
        have x0 := HBX9.out.cell 0 _ rfl
        have hov : ¬ (9223372036854775807 < 1 + (txtP p).size) := by
          have h1 := path_len _ HVV.out
          have h2 := nm_lt HVV.out
          have h3 : (txtP p).size = p.length := by simp [ByteArray.size, bytesP_len]
          omega
        have hov2 : ¬ (9223372036854775807 < (txtP p).size + 1) := by omega
        have HTR := Lib.hid (txt_r p)
        have HTL := Lib.hid (txt_l p)
        obtain ⟨su, hsu⟩ : ∃ su, su = txtP p := ⟨_, rfl⟩
        rw [← hsu] at hov hov2 HTR HTL ⊢
        clear hsu
        cases par with
        | false =>
          have hku : ku = 2 := HKU.out
          subst hku
          go_upto_region 8 with (fail)
          have HYS := HY9
          have cw := HYS.out.worker hwk
          have fw := HYS.out.at_.fr wk
          have d5 := HYS.out.hd.cell 5 _ rfl
          generalize txtA _ = v0 at cw
          go_wp2
          have hY6 := HYS.out.move hwk (some (false :: p))
          rw [show txtA (some (false :: p)) = .string (su ++ ⟨#[108]⟩) by rw [HTL.out]; rfl] at hY6
          have hga : Yc col A := by unfold Yc; rw [HYD.out.cA]; decide
          have hqs := set_self s1.qs wk (by rw [HV.out.lq]; exact hwk)
          have hY7 : Vr base (W9.setCell ⟨A, wk, none⟩ (.string (su ++ ⟨#[108]⟩))) y col t k A ca Q D kk c lb wb kv od (s1.put wk ⟨some (false :: p), (s1.one wk).dn, if false then (s1.one wk).q ++ [true :: p] else (s1.one wk).q⟩) := by
            have e : s1.put wk ⟨some (false :: p), (s1.one wk).dn, if false then (s1.one wk).q ++ [true :: p] else (s1.one wk).q⟩ = { s1 with at_ := s1.at_.set wk (some (false :: p)) } := by
              unfold Vs.put Vs.one
              simp only [Bool.false_eq_true, if_false]
              rw [hqs]
            rw [e]; exact hY6
          have HN := Lib.hid (RInv.next HI.out hwk (calmS_two HONE.out HX.out H2.out) (HB9.out.setCell (p := ⟨A, wk, none⟩) hga (.string (su ++ ⟨#[108]⟩))) hY7)
          clear hY6 hY7 hqs d5 x0
          go_roundw
          case rel => exact Lib.hid ⟨_, HN.out.1⟩
          case measure => exact RInv.lt HMU.out HN.out.1 HN.out.2
        | true =>
          have hku : ku = 3 := HKU.out
          subst hku
          go_upto_region 7 with (fail)
          obtain ⟨B, n6, cq, hrq⟩ := HY9.out.deque hwk
          obtain ⟨qv, hqv⟩ : ∃ qv, qv = (s1.qs[wk]?).getD [] := ⟨_, rfl⟩
          rw [← hqv] at cq hrq
          have HQV := Lib.hid hqv
          have hql : qv.length < (nodesT t).length := by rw [hqv]; exact HV.out.qlen HONE.out
          have HFR := Lib.hid (Fr.of hrq (fun b hb => hb.1))
          have d6 := HY9.out.hd.cell 6 _ rfl
          have hyl := HY9.out.hd.lt
          have hQl : Q < W9.heap.size := World.block_lt_of_cell? _ _ cq
          have mb1 := Lib.hid (show (qv.length + [(true :: p : Pt)].length) * 16 ≤ 140737488355328 by simp; omega)
          have mb2 := Lib.hid (show qv.length + [(true :: p : Pt)].length ≤ maxLen by unfold maxLen; simp; omega)
          obtain ⟨lq, hlq⟩ : ∃ lq, lq = qv.length := ⟨_, rfl⟩
          rw [← hlq] at cq
          have HLQ := Lib.hid hlq
          rw [hlq] at cq
          clear hrq hqv hql hlq x0
          refine wp_region_pre 18 (S := (fun w' => Stay W9 w')) (by kernel_rfl) (by kernel_rfl) (Stay.mk (Kept.start _)) (fun hHeld => ?_)
          simp only [List.take_succ_cons, List.take_zero]
          refine wpAnyH_take_at (i := 0) (v := ?_) (some 55) rfl rfl (by kernel_rfl) (by kernel_rfl) (by kernel_rfl) (fun _ _ _ h => h) (Or.inl ⟨by rfl, ?_⟩) (by assumption) ?_
          rotate_left
          · (intro w hSw; (try dsimp only at hSw); go_simp; (try with_reducible rfl))
          (try simp only [Act.put, List.setIfInBounds_toArray, List.set_cons_zero, List.set_cons_succ])
          refine wpAnyH_take_at (i := 1) (v := ?_) (some 56) rfl rfl (by kernel_rfl) (by kernel_rfl) (by kernel_rfl) (fun _ _ _ h => h) (Or.inl ⟨by rfl, ?_⟩) (by assumption) ?_
          rotate_left
          · (intro w hSw; (try dsimp only at hSw); go_simp; (try with_reducible rfl))
          (try simp only [Act.put, List.setIfInBounds_toArray, List.set_cons_zero, List.set_cons_succ])
          refine wpAnyH_take_at (i := 2) (v := ?_) (some 57) rfl rfl (by kernel_rfl) (by kernel_rfl) (by kernel_rfl) (fun _ _ _ h => h) (Or.inl ⟨by rfl, ?_⟩) (by assumption) ?_
          rotate_left
          · (intro w hSw; (try dsimp only at hSw); go_simp; (try with_reducible rfl))
          (try simp only [Act.put, List.setIfInBounds_toArray, List.set_cons_zero, List.set_cons_succ])
          refine wpAnyH_take_at (i := 3) (v := ?_) (some 58) rfl rfl (by kernel_rfl) (by kernel_rfl) (by kernel_rfl) (fun _ _ _ h => h) (Or.inl ⟨by rfl, ?_⟩) (by assumption) ?_
          rotate_left
          · (intro w hSw; (try dsimp only at hSw); go_simp; (try with_reducible rfl))
          (try simp only [Act.put, List.setIfInBounds_toArray, List.set_cons_zero, List.set_cons_succ])
          refine wpAnyH_take_at (i := 4) (v := ?_) (some 59) rfl rfl (by kernel_rfl) (by kernel_rfl) (by kernel_rfl) (fun _ _ _ h => h) (Or.inl ⟨by rfl, ?_⟩) (by assumption) ?_
          rotate_left
          · (intro w hSw; (try dsimp only at hSw); go_simp; (try with_reducible rfl))
          (try simp only [Act.put, List.setIfInBounds_toArray, List.set_cons_zero, List.set_cons_succ])
          refine wpAnyH_take_at (i := 6) (v := ?_) (some 61) rfl rfl (by kernel_rfl) (by kernel_rfl) (by kernel_rfl) (fun _ _ _ h => h) (Or.inl ⟨by rfl, ?_⟩) (by assumption) ?_
          rotate_left
          · (intro w hSw; (try dsimp only at hSw); go_simp; (try with_reducible rfl))
          (try simp only [Act.put, List.setIfInBounds_toArray, List.set_cons_zero, List.set_cons_succ])
          refine wpAnyH_take_at (i := 7) (v := ?_) (some 62) rfl rfl (by kernel_rfl) (by kernel_rfl) (by kernel_rfl) (fun _ _ _ h => h) (Or.inl ⟨by rfl, ?_⟩) (by assumption) ?_
          rotate_left
          · (intro w hSw; (try dsimp only at hSw); go_simp; (try with_reducible rfl))
          (try simp only [Act.put, List.setIfInBounds_toArray, List.set_cons_zero, List.set_cons_succ])
          refine wpAnyH_take_at (i := 8) (v := ?_) (some 63) rfl rfl (by kernel_rfl) (by kernel_rfl) (by kernel_rfl) (fun _ _ _ h => h) (Or.inl ⟨by rfl, ?_⟩) (by assumption) ?_
          rotate_left
          · (intro w hSw; (try dsimp only at hSw); go_simp; (try with_reducible rfl))
          (try simp only [Act.put, List.setIfInBounds_toArray, List.set_cons_zero, List.set_cons_succ])
          refine wpAnyH_take_at (i := 9) (v := ?_) (some 64) rfl rfl (by kernel_rfl) (by kernel_rfl) (by kernel_rfl) (fun _ _ _ h => h) (Or.inl ⟨by rfl, ?_⟩) (by assumption) ?_
          rotate_left
          · (intro w hSw; (try dsimp only at hSw); go_simp; (try with_reducible rfl))
          (try simp only [Act.put, List.setIfInBounds_toArray, List.set_cons_zero, List.set_cons_succ])
          refine wpAnyH_take_at (i := 10) (v := ?_) (some 65) rfl rfl (by kernel_rfl) (by kernel_rfl) (by kernel_rfl) (fun _ _ _ h => h) (Or.inl ⟨by rfl, ?_⟩) (by assumption) ?_
          rotate_left
          · (intro w hSw; (try dsimp only at hSw); go_simp; (try with_reducible rfl))
          (try simp only [Act.put, List.setIfInBounds_toArray, List.set_cons_zero, List.set_cons_succ])
          refine wpAnyH_take_at (i := 11) (v := ?_) (some 66) rfl rfl (by kernel_rfl) (by kernel_rfl) (by kernel_rfl) (fun _ _ _ h => h) (Or.inl ⟨by rfl, ?_⟩) (by assumption) ?_
          rotate_left
          · (intro w hSw; (try dsimp only at hSw); go_simp; (try with_reducible rfl))
          (try simp only [Act.put, List.setIfInBounds_toArray, List.set_cons_zero, List.set_cons_succ])
          refine wpAnyH_take_at (i := 12) (v := ?_) (some 67) rfl rfl (by kernel_rfl) (by kernel_rfl) (by kernel_rfl) (fun _ _ _ h => h) (Or.inl ⟨by rfl, ?_⟩) (by assumption) ?_
          rotate_left
          · (intro w hSw; (try dsimp only at hSw); go_simp; (try with_reducible rfl))
          (try simp only [Act.put, List.setIfInBounds_toArray, List.set_cons_zero, List.set_cons_succ])
          refine wpAnyH_take_at (i := 14) (v := ?_) (some 69) rfl rfl (by kernel_rfl) (by kernel_rfl) (by kernel_rfl) (fun _ _ _ h => h) (Or.inl ⟨by rfl, ?_⟩) (by assumption) ?_
          rotate_left
          · (intro w hSw; (try dsimp only at hSw); go_simp; (try with_reducible rfl))
          (try simp only [Act.put, List.setIfInBounds_toArray, List.set_cons_zero, List.set_cons_succ])
          refine wpAnyH_take_at (i := 15) (v := ?_) (some 70) rfl rfl (by kernel_rfl) (by kernel_rfl) (by kernel_rfl) (fun _ _ _ h => h) (Or.inl ⟨by rfl, ?_⟩) (by assumption) ?_
          rotate_left
          · (intro w hSw; (try dsimp only at hSw); go_simp; (try with_reducible rfl))
          (try simp only [Act.put, List.setIfInBounds_toArray, List.set_cons_zero, List.set_cons_succ])
          refine wpAnyH_ready (rs := [5, 16]) (by kernel_rfl) (by simp) ?_
          refine AllReadyH.cons rfl (fun K hK => ?_) (AllReadyH.cons rfl (fun K hK => ?_) AllReadyH.nil)
          focus
            have hst1 : Stay W9 (W9.drew.alloc (.cells #[] 9)) := Stay.mk (Kept.alloc (Kept.here hHeld) (.cells #[] 9))
            go_simp
            skip
            refine hK.out _ _ ?_ (fun hHeld => ?_)
            · exact hst1
            clear hK K
            (try simp only [Act.put, List.setIfInBounds_toArray, List.set_cons_zero, List.set_cons_succ])
            refine wpAnyH_ready (rs := [13, 16]) (by kernel_rfl) (by simp) ?_
            refine AllReadyH.cons rfl (fun K hK => ?_) (AllReadyH.cons rfl (fun K hK => ?_) AllReadyH.nil)
            focus
              refine step_append_zero (by rfl) (.tmp 60) (.tmp 67) 68 (by rfl) _ (by rfl) (by rfl) i0 _ Try.underlying68 hi hz0 hz1 hz2 rfl (by decide) (enc := encTx) (ok := okTx) (m := qv) (base := W9.heap.size) oneTx ?_ (Stay.size hst1) ?_
              exact HFR.out.drew.alloc
              intro v1 w1 ho1 hb1
              have hst2 : Stay W9 w1 := Stay.of ((Stay.below hst1).trans (hb1.mono (Stay.size hst1)))
              refine hK.out _ _ ?_ (fun hHeld => ?_)
              · exact hst2
              clear hK K
              (try simp only [Act.put])
              have hst3 : Stay W9 (w1.alloc (.cells #[.string (su ++ ⟨#[114]⟩)] 9)) := Stay.mk (Kept.alloc (Kept.here hst2) (.cells #[.string (su ++ ⟨#[114]⟩)] 9))
              refine wpAnyH_ready (rs := [16]) (by kernel_rfl) (by simp) ?_
              refine AllReadyH.cons rfl (fun K hK => ?_) AllReadyH.nil
              go_simp
              skip
              refine hK.out _ _ ?_ (fun hHeld => ?_)
              · exact hst3
              clear hK K
              (try simp only [Act.put, List.setIfInBounds_toArray, List.set_cons_zero, List.set_cons_succ])
              refine wpAnyH_ready (rs := [17]) (by kernel_rfl) (by simp) ?_
              refine AllReadyH.cons rfl (fun K hK => ?_) AllReadyH.nil
              refine step_append_app (by rfl) (.tmp 68) (.tmp 71) 68 (by rfl) (by rfl) (by rfl) i0 _ Try.underlying68 hi hz0 hz1 hz2 rfl (by decide) (enc := encTx) (ok := okTx) (l := qv) (m := [true :: p]) (v := v1) (base := W9.heap.size) oneTx ?_ ?_ (Stay.size hst3) mb1.out mb2.out ?_
              exact frT_new _ HTR.out rfl
              exact ho1.alloc
              intro v2 w2 ho2 hb2
              have hst9 : Stay W9 w2 := Stay.of ((Stay.below hst3).trans hb2)
              refine hK.out _ _ ?_ (fun hHeld => ?_)
              · exact hst9
              clear hK K
              (try simp only [Act.put, List.setIfInBounds_toArray])
              refine wpAnyH_done (by kernel_rfl) ?_ _
              unfold QPre
              simp only [List.drop_succ_cons, List.drop_zero]
            rotate_left
            focus
              have hst2 : Stay W9 ((W9.drew.alloc (.cells #[] 9)).alloc (.cells #[.string (su ++ ⟨#[114]⟩)] 9)) := Stay.mk (Kept.alloc (Kept.here hst1) (.cells #[.string (su ++ ⟨#[114]⟩)] 9))
              go_simp
              skip
              refine hK.out _ _ ?_ (fun hHeld => ?_)
              · exact hst2
              clear hK K
              (try simp only [Act.put, List.setIfInBounds_toArray, List.set_cons_zero, List.set_cons_succ])
              refine wpAnyH_ready (rs := [13]) (by kernel_rfl) (by simp) ?_
              refine AllReadyH.cons rfl (fun K hK => ?_) AllReadyH.nil
              refine step_append_zero (by rfl) (.tmp 60) (.tmp 67) 68 (by rfl) _ (by rfl) (by rfl) i0 _ Try.underlying68 hi hz0 hz1 hz2 rfl (by decide) (enc := encTx) (ok := okTx) (m := qv) (base := W9.heap.size) oneTx ?_ (Stay.size hst2) ?_
              exact HFR.out.drew.alloc.alloc
              intro v1 w1 ho1 hb1
              have hst3 : Stay W9 w1 := Stay.of ((Stay.below hst2).trans (hb1.mono (Stay.size hst2)))
              refine hK.out _ _ ?_ (fun hHeld => ?_)
              · exact hst3
              clear hK K
              (try simp only [Act.put, List.setIfInBounds_toArray])
              refine wpAnyH_ready (rs := [17]) (by kernel_rfl) (by simp) ?_
              refine AllReadyH.cons rfl (fun K hK => ?_) AllReadyH.nil
              refine step_append_app (by rfl) (.tmp 68) (.tmp 71) 68 (by rfl) (by rfl) (by rfl) i0 _ Try.underlying68 hi hz0 hz1 hz2 rfl (by decide) (enc := encTx) (ok := okTx) (l := qv) (m := [true :: p]) (v := v1) (base := W9.heap.size) oneTx ?_ ?_ (Stay.size hst3) mb1.out mb2.out ?_
              exact Fr.via hb1 (frT_new _ HTR.out (by simp))
              exact ho1
              intro v2 w2 ho2 hb2
              have hst9 : Stay W9 w2 := Stay.of ((Stay.below hst3).trans hb2)
              refine hK.out _ _ ?_ (fun hHeld => ?_)
              · exact hst9
              clear hK K
              (try simp only [Act.put, List.setIfInBounds_toArray])
              refine wpAnyH_done (by kernel_rfl) ?_ _
              unfold QPre
              simp only [List.drop_succ_cons, List.drop_zero]
          rotate_left 2
          focus
            have hst1 : Stay W9 (W9.drew.alloc (.cells #[.string (su ++ ⟨#[114]⟩)] 9)) := Stay.mk (Kept.alloc (Kept.here hHeld) (.cells #[.string (su ++ ⟨#[114]⟩)] 9))
            go_simp
            skip
            refine hK.out _ _ ?_ (fun hHeld => ?_)
            · exact hst1
            clear hK K
            (try simp only [Act.put, List.setIfInBounds_toArray, List.set_cons_zero, List.set_cons_succ])
            have hst2 : Stay W9 ((W9.drew.alloc (.cells #[.string (su ++ ⟨#[114]⟩)] 9)).alloc (.cells #[] 9)) := Stay.mk (Kept.alloc (Kept.here hst1) (.cells #[] 9))
            refine wpAnyH_ready (rs := [5]) (by kernel_rfl) (by simp) ?_
            refine AllReadyH.cons rfl (fun K hK => ?_) AllReadyH.nil
            go_simp
            skip
            refine hK.out _ _ ?_ (fun hHeld => ?_)
            · exact hst2
            clear hK K
            (try simp only [Act.put, List.setIfInBounds_toArray, List.set_cons_zero, List.set_cons_succ])
            refine wpAnyH_ready (rs := [13]) (by kernel_rfl) (by simp) ?_
            refine AllReadyH.cons rfl (fun K hK => ?_) AllReadyH.nil
            refine step_append_zero (by rfl) (.tmp 60) (.tmp 67) 68 (by rfl) _ (by rfl) (by rfl) i0 _ Try.underlying68 hi hz0 hz1 hz2 rfl (by decide) (enc := encTx) (ok := okTx) (m := qv) (base := W9.heap.size) oneTx ?_ (Stay.size hst2) ?_
            exact HFR.out.drew.alloc.alloc
            intro v1 w1 ho1 hb1
            have hst3 : Stay W9 w1 := Stay.of ((Stay.below hst2).trans (hb1.mono (Stay.size hst2)))
            refine hK.out _ _ ?_ (fun hHeld => ?_)
            · exact hst3
            clear hK K
            (try simp only [Act.put, List.setIfInBounds_toArray])
            refine wpAnyH_ready (rs := [17]) (by kernel_rfl) (by simp) ?_
            refine AllReadyH.cons rfl (fun K hK => ?_) AllReadyH.nil
            refine step_append_app (by rfl) (.tmp 68) (.tmp 71) 68 (by rfl) (by rfl) (by rfl) i0 _ Try.underlying68 hi hz0 hz1 hz2 rfl (by decide) (enc := encTx) (ok := okTx) (l := qv) (m := [true :: p]) (v := v1) (base := W9.heap.size) oneTx ?_ ?_ (Stay.size hst3) mb1.out mb2.out ?_
            exact Fr.via hb1 (Fr.alloc (frT_new W9.drew HTR.out rfl))
            exact ho1
            intro v2 w2 ho2 hb2
            have hst9 : Stay W9 w2 := Stay.of ((Stay.below hst3).trans hb2)
            refine hK.out _ _ ?_ (fun hHeld => ?_)
            · exact hst9
            clear hK K
            (try simp only [Act.put, List.setIfInBounds_toArray])
            refine wpAnyH_done (by kernel_rfl) ?_ _
            unfold QPre
            simp only [List.drop_succ_cons, List.drop_zero]
          all_goals
            obtain ⟨A2, c2, hv2⟩ := AppL.form ho2
            subst hv2
            have hbl := Stay.below hst9
            have hrd : RdP w2 (Old w2 col) (qv ++ [true :: p]) (.slice A2 (qv ++ [true :: p]).length c2) := AppL.toRd ho2 (by have := mb1.out; rw [List.length_append]; exact this) (fun b h1 h2 => ⟨h2, HY9.out.new b h1⟩)
            have HYQ := HY9.out.below hbl
            have HYQ2 := Lib.hid (HYQ.queue hwk hrd)
            have HBQ : Hid (But (Yc col) wr (w2.setCell ⟨Q, wk, none⟩ (.slice A2 (qv ++ [true :: p]).length c2))) := Lib.hid ((HB9.out.trans (But.of_below hbl)).setCell (p := ⟨Q, wk, none⟩) (show Yc col Q by unfold Yc; rw [HYD.out.cQ]; decide) _)
            have fq := HYQ.qfr wk
            obtain ⟨B', n', cq', _⟩ := HYQ.deque hwk
            generalize (qv ++ [true :: p]).length = nx at *
            clear hst9 hHeld hb2 ho2 hrd hbl HYQ hb1 ho1 cq d6 HFR
            go_upto_region 8 with (fail)
            generalize w2.setCell ⟨Q, wk, none⟩ (.slice A2 nx c2) = W8 at *
            clear fq cq'
            have HYS := HYQ2
            have cw := HYS.out.worker hwk
            have fw := HYS.out.at_.fr wk
            have d5 := HYS.out.hd.cell 5 _ rfl
            generalize txtA _ = v0 at cw
            go_wp2
            have hY6 := HYS.out.move hwk (some (false :: p))
            rw [show txtA (some (false :: p)) = .string (su ++ ⟨#[108]⟩) by rw [HTL.out]; rfl] at hY6
            have hga : Yc col A := by unfold Yc; rw [HYD.out.cA]; decide
            have hY7 : Vr base (W8.setCell ⟨A, wk, none⟩ (.string (su ++ ⟨#[108]⟩))) y col t k A ca Q D kk c lb wb kv od (s1.put wk ⟨some (false :: p), (s1.one wk).dn, if true then (s1.one wk).q ++ [true :: p] else (s1.one wk).q⟩) := by
              have e : s1.put wk ⟨some (false :: p), (s1.one wk).dn, if true then (s1.one wk).q ++ [true :: p] else (s1.one wk).q⟩ = { s1 with at_ := s1.at_.set wk (some (false :: p)), qs := s1.qs.set wk (qv ++ [true :: p]) } := by
                unfold Vs.put Vs.one
                simp only [if_true]
                rw [HQV.out]
              rw [e]; exact hY6
            have HN := Lib.hid (RInv.next HI.out hwk (calmS_two HONE.out HX.out H2.out) (HBQ.out.setCell (p := ⟨A, wk, none⟩) hga (.string (su ++ ⟨#[108]⟩))) hY7)
            clear hY6 hY7 d5
            go_roundw
            case rel => exact Lib.hid ⟨_, HN.out.1⟩
            case measure => exact RInv.lt HMU.out HN.out.1 HN.out.2
end Go.Proofs.Ytbpooepbnnbipaa
