/- The walk of the reference's behind. -/
import Derived.Test.YtbpooepbnnbipaaSw2
import Derived.Test.YtbpooepbnnbipaaSy2
import Derived.BigQuiet
import Derived.BigRegion
namespace Go.Proofs.Ytbpooepbnnbipaa
open Go.RowKit
set_option linter.unusedVariables false
def BehC (base y : Nat) (col : Nat → Nat) (t : Tm) (k A ca Q D : Nat) (kk c lb : Int) (wr : Bool) (kv od : Value) (wk : Nat) (p : Pt) : Prop := ∀ (w : World) (s : Vs) (O : List Pt), Vr base w y col t k A ca Q D kk c lb wr kv od s → PreE t (((s.qs[wk]?).getD []) ++ O) s.dn p →
  Calls Try.prog 20 #[.pointer (some ⟨y, 0, none⟩), .int .i64 (wk : Int), .string (txtP p)] w fun e w' => e = .returned (txtA (endP t s.dn ((s.qs[wk]?).getD []) p).1) ∧
    Vr base w' y col t k A ca Q D kk c lb wr kv od { s with dn := (endP t s.dn ((s.qs[wk]?).getD []) p).2.1, qs := s.qs.set wk (endP t s.dn ((s.qs[wk]?).getD []) p).2.2 } ∧ But (Yc col) w w'
theorem txtP_ok {t : Tm} {p : Pt} (h : (subT t p).isSome = true) (hL : (nodesT t).length ≤ 1048576) : okKy (txtP p) := by
  have h1 := path_len p h
  have h2 := nm_lt h
  have : (txtP p).size = p.length := by simp [ByteArray.size, bytesP_len]
  unfold okKy maxLen
  omega
theorem txt_r (up : Pt) : txtP up ++ ⟨#[114]⟩ = txtP (true :: up) := bytes_inj (by simp [bytesP_cons, stepB, ByteArray.data_append])
theorem txt_l (up : Pt) : txtP up ++ ⟨#[108]⟩ = txtP (false :: up) := bytes_inj (by simp [bytesP_cons, stepB, ByteArray.data_append])
set_option maxHeartbeats 2000000 in
set_option maxRecDepth 100000 in
theorem behind_any (base y : Nat) (col : Nat → Nat) (t : Tm) (k A ca Q D : Nat) (kk c lb : Int) (wr : Bool) (kv od : Value) (wk : Nat) (hwk : wk < k) (hL : (nodesT t).length ≤ 1048576) (hk : k ≤ 16) : ∀ p : Pt, BehC base y col t k A ca Q D kk c lb wr kv od wk p := by
  intro p
  induction p with
  | nil =>
    intro w s O hY hP
    obtain ⟨n, f, ho, hn, hf⟩ := hY.mp
    have HOK := Lib.hid (txtP_ok hP.ok hL)
    have HN : n < maxLen := by unfold maxLen; omega
    have HO := Lib.hid ho
    have HNN := Lib.hid hn
    have HF := Lib.hid hf
    have HY := Lib.hid hY
    have HP := Lib.hid hP
    have c7 := hY.hd.cell 7 _ rfl
    have he : endP t s.dn ((s.qs[wk]?).getD []) [] = (none, setD s.dn [], (s.qs[wk]?).getD []) := by simp [endP]
    have HE := Lib.hid he
    have HQ := Lib.hid (set_self s.qs wk (by rw [hY.lq]; exact hwk))
    clear hY hP ho hn hf he
    go_enter Try.func20, Try.ntmps20
    go_wp2_with (at_mapUpdate; refine wpList_putK rfl _ _ _ 66 rfl 3 (txtP []) (.int .i64 1) Try.underlying9 Try.underlying66 rfl HO.out rfl rfl HOK.out HN ?_)
    intro w4 ho4 hg4
    have HM := Lib.hid (HY.out.mark hg4 (MpAt.put HNN.out HF.out HP.out.ok HP.out.nd ho4))
    have HB := Lib.hid ((But.of_grown hg4).sub (U := Yc col) (fun b e => by injection e with e; unfold Yc; rw [← e, HY.out.cD]; decide))
    clear ho4 hg4 c7
    go_wp2
    go_ret
    rw [HE.out]
    refine ⟨rfl, ?_, HB.out⟩
    rw [HQ.out]
    exact HM.out
  | cons b up ih =>
    intro w s O hY hP
    obtain ⟨par, a, x, h2⟩ := subT_up hP.ok
    obtain ⟨n, f, ho, hn, hf⟩ := hY.mp
    have HOK := Lib.hid (txtP_ok hP.ok hL)
    have HN : n < maxLen := by unfold maxLen; omega
    have HO := Lib.hid ho
    have HNN := Lib.hid hn
    have HF := Lib.hid hf
    have HY := Lib.hid hY
    have HP := Lib.hid hP
    have H2 := Lib.hid h2
    have IH := Lib.hid ih
    have c7 := hY.hd.cell 7 _ rfl
    have hsz : (txtP (b :: up)).size = up.length + 1 := by simp [ByteArray.size, bytesP_len]
    obtain ⟨str, hstr⟩ : ∃ str, str = txtP (b :: up) := ⟨_, rfl⟩
    obtain ⟨m, hm⟩ : ∃ m, m = up.length := ⟨_, rfl⟩
    have hm2 : m ≤ 1048576 := by have h1 := path_len _ hP.ok; have h2 := nm_lt hP.ok; rw [List.length_cons] at h1; omega
    rw [← hm] at hsz
    have HM0 := Lib.hid hm
    have HQ := Lib.hid (set_self s.qs wk (by rw [hY.lq]; exact hwk))
    have HSTR := Lib.hid hstr
    have hne : str.toList.isEmpty = false := by rw [hstr, ByteArray.toList_eq]; simp [bytesP_cons]
    rw [← hstr] at HOK hsz ⊢
    clear hY hP ho hn hf h2 ih hstr hm
    go_enter Try.func20, Try.ntmps20
    go_wp2_with (at_mapUpdate; refine wpList_putK rfl _ _ _ 66 rfl 3 str (.int .i64 1) Try.underlying9 Try.underlying66 rfl HO.out rfl rfl HOK.out HN ?_)
    intro w4 ho4 hg4
    rw [HSTR.out] at ho4
    have HM := Lib.hid (HY.out.mark hg4 (MpAt.put HNN.out HF.out HP.out.ok HP.out.nd ho4))
    have HB := Lib.hid ((But.of_grown hg4).sub (U := Yc col) (fun b e => by injection e with e; unfold Yc; rw [← e, HY.out.cD]; decide))
    clear ho4 hg4 c7
    go_wp2_with fail
    have hwm : IntKind.i64.wrap (m : Int) = m := IntWalk.i64_in _ (by omega)
    have hlo : (0 : Int) ≤ (m : Int) := by omega
    have hhi : (m : Int) ≤ (m : Int) + 1 := by omega
    have hhi2 : (m : Int) ≤ (str.size : Int) := by omega
    have hlt : m < str.size := by omega
    have hlt2 : (m : Int) < (m : Int) + 1 := by omega
    have hex : str.extract 0 m = txtP up := by
      have e : str.data.toList = bytesP up ++ [stepB b] := by rw [HSTR.out]; simp [bytesP_cons]
      refine bytes_inj ?_
      rw [ByteArray.data_extract, Array.toList_extract, e, HM0.out]
      simp [bytesP_len]
    have hch : ((str[m]'hlt).toNat : Int) = ((stepB b).toNat : Int) := by
      have e : str = ⟨(bytesP up ++ [stepB b]).toArray⟩ := by rw [HSTR.out]; simp [bytesP_cons]
      have e2 := HM0.out
      subst e e2
      simp [ByteArray.getElem_eq_getElem_data, bytesP_len]
    go_quiet (fail)
    clear hex hch hlt2 hlt hhi2 hhi hlo hwm
    have HY3 := Lib.hid (HM.out.below (below_drewN (Below.refl _ w4) ‹Nat›))
    have HB3 := Lib.hid (HB.out.drewN ‹Nat›)
    generalize w4.drewN ‹Nat› = W3 at *
    obtain ⟨S, hS, hrt⟩ := HY3.out.rt
    have hbl : base ≤ W3.heap.size := Nat.le_of_lt (Nat.lt_of_le_of_lt HY3.out.hd.ge HY3.out.hd.lt)
    obtain ⟨xu, hxu⟩ := Option.isSome_iff_exists.1 (subT_of_two H2.out)
    have hlu : up.length ≤ 1048576 := by rw [← HM0.out]; exact hm2
    have HVP := Lib.hid (vpart_any t up xu hxu W3 S _ hrt (hS.trans (Sub.upto hbl)) (Nat.le_trans (count_nodes t) hL) hlu)
    have c0 := HY3.out.hd.cell 0 _ rfl; have c1 := HY3.out.hd.cell 1 _ rfl; have c2 := HY3.out.hd.cell 2 _ rfl; have c3 := HY3.out.hd.cell 3 _ rfl; have c4 := HY3.out.hd.cell 4 _ rfl
    have HXU := Lib.hid hxu
    clear hS hrt hxu hlu HM HB
    unfold tmV at HVP
    go_wp2_with fail
    refine HVP.out.mono ?_
    rintro e w5 ⟨Vx, rfl, hrx, hb5⟩
    have HY5 := Lib.hid (HY3.out.below hb5)
    have HB5 := Lib.hid (HB3.out.trans (But.of_below hb5))
    have hk2 : xu.kind = if par then 3 else 2 := by
      have h := H2.out
      unfold twoT at h
      rw [HXU.out] at h
      exact (Tm.two_kind (show xu.two = some (par, a, x) from h)).1
    obtain ⟨ku, cu, wu, lu, kidsu, vu, eu, rfl, hku, _, _, hkd⟩ := hrx
    rw [eu] at hk2
    simp only [Tm.kind] at hk2
    have HK2 := Lib.hid hk2
    obtain ⟨Au, nu, rfl, _⟩ := hkd.form
    generalize kidsu.length = nu' at *
    clear hb5 hkd eu hk2 HY3 HB3 HVP c0 c1 c2 c3 c4
    unfold tmV
    go_upto_region 6 with (fail)
    have BX := Blk.made w5 [.int .i64 ku, .int .i64 cu, .bool wu, .int .i64 lu, .slice Au nu' nu] 26 (base := w5.heap.size) (Nat.le_refl _)
    have BW := (Below.refl w5.heap.size w5).alloc (Nat.le_refl _) (.cells [.int .i64 ku, .int .i64 cu, .bool wu, .int .i64 lu, .slice Au nu' nu].toArray 26)
    change Code.wp _ _ _ _ (w5.alloc (.cells [.int .i64 ku, .int .i64 cu, .bool wu, .int .i64 lu, .slice Au nu' nu].toArray 26))
    generalize w5.alloc (.cells [.int .i64 ku, .int .i64 cu, .bool wu, .int .i64 lu, .slice Au nu' nu].toArray 26) = W at *
    have HY := Lib.hid (HY5.out.below BW)
    have HB := Lib.hid (HB5.out.trans (But.of_below BW))
    have x0 := BX.cell 0 _ rfl
    generalize w5.heap.size = bx at *
    clear BX BW HY5 HB5
    have hsl : (txtP up).size = m := by rw [HM0.out]; simp [ByteArray.size, bytesP_len]
    have hov : ¬ (9223372036854775807 < 1 + (txtP up).size) := by omega
    have HTR := Lib.hid (txt_r up)
    have HTL := Lib.hid (txt_l up)
    obtain ⟨su, hsu⟩ : ∃ su, su = txtP up := ⟨_, rfl⟩
    have HSU := Lib.hid hsu
    rw [← hsu] at hsl hov HTR HTL ⊢
    clear hsu
    cases par with
    | false =>
      have hk2 : ku = 2 := HK2.out
      subst hk2
      cases b with
      | false =>
        have HE := Lib.hid (endP_seqL H2.out s.dn ((s.qs[wk]?).getD []))
        rw [show ((stepB false).toNat : Int) = 108 from rfl]
        go_wp2
        go_ret
        rw [HE.out]
        refine ⟨?_, ?_, HB.out⟩
        · rw [HTR.out]; rfl
        · rw [HQ.out]; exact HY.out
      | true =>
        have HE := Lib.hid (endP_seqR H2.out s.dn ((s.qs[wk]?).getD []))
        have HPU := Lib.hid (HP.out.up H2.out (setD_mono (HP.out.sq up a x H2.out (List.suffix_refl _))) (setD_same _ _))
        rw [show ((stepB true).toNat : Int) = 114 from rfl]
        go_wp2_with (rw [HSU.out]; refine (IH.out W _ O HY.out HPU.out).mono ?_; rintro e w6 ⟨rfl, hy6, hb6⟩; have HY6 := Lib.hid hy6; have HB6 := Lib.hid hb6; clear hy6 hb6)
        go_ret
        rw [HE.out]
        exact ⟨rfl, HY6.out, HB.out.trans HB6.out⟩
    | true =>
      have hk2 : ku = 3 := HK2.out
      subst hk2
      obtain ⟨n', f', ho', hn', hf'⟩ := HY.out.mp
      have hf1 := hf' (false :: up)
      have hf2 := hf' (true :: up)
      rw [← HTL.out] at hf1
      rw [← HTR.out] at hf2
      have HO' := Lib.hid ho'
      have hpl : (txtP (false :: up)).size = m + 1 := by rw [HM0.out]; simp [ByteArray.size, bytesP_len]
      have hpr : (txtP (true :: up)).size = m + 1 := by rw [HM0.out]; simp [ByteArray.size, bytesP_len]
      have HK1 : Hid (okKy (su ++ ⟨#[108]⟩)) := Lib.hid (by rw [HTL.out]; unfold okKy maxLen; omega)
      have HK3 : Hid (okKy (su ++ ⟨#[114]⟩)) := Lib.hid (by rw [HTR.out]; unfold okKy maxLen; omega)
      have c3 := HY.out.hd.cell 7 _ rfl
      clear ho' hn' hf' hpl hpr
      have hzr : (zeroValue 3).run Try.prog W = .ok (.int .i64 0) W := by kernel_rfl
      have r1 := HO'.out.look Try.underlying9 Try.underlying66 hzr HK1.out
      have r2 := HO'.out.look Try.underlying9 Try.underlying66 hzr HK3.out
      clear hzr
      cases hdl : setD s.dn (b :: up) (false :: up) && setD s.dn (b :: up) (true :: up) with
      | true =>
        have hdl := (Bool.and_eq_true _ _).mp hdl
        have HE := Lib.hid (endP_both H2.out s.dn ((s.qs[wk]?).getD []) b hdl.1 hdl.2)
        have HPU := Lib.hid (HP.out.up H2.out hdl.1 hdl.2)
        simp only [hdl.1, if_true] at hf1
        simp only [hdl.2, if_true] at hf2
        clear hdl
        rw [hf1] at r1
        rw [hf2] at r2
        go_wp2_with (rw [HSU.out]; refine (IH.out W _ O HY.out HPU.out).mono ?_; rintro e w6 ⟨rfl, hy6, hb6⟩; have HY6 := Lib.hid hy6; have HB6 := Lib.hid hb6; clear hy6 hb6)
        go_ret
        rw [HE.out]
        exact ⟨rfl, HY6.out, HB.out.trans HB6.out⟩
      | false =>
        have HDL := Lib.hid hdl
        have hdl2 : setD s.dn (b :: up) (false :: up) = false ∨ (setD s.dn (b :: up) (false :: up) = true ∧ setD s.dn (b :: up) (true :: up) = false) := by
          cases h1 : setD s.dn (b :: up) (false :: up)
          · exact .inl rfl
          · rw [h1] at hdl; exact .inr ⟨rfl, hdl⟩
        clear hdl
        obtain ⟨qv, hqv⟩ : ∃ qv, qv = (s.qs[wk]?).getD [] := ⟨_, rfl⟩
        obtain ⟨B, n6, cq, hrq⟩ := HY.out.deque hwk
        change W.cell? ⟨Q, wk, none⟩ = some (.slice B ((s.qs[wk]?).getD []).length n6) at cq
        change RdP W (Old W col) ((s.qs[wk]?).getD []) (.slice B ((s.qs[wk]?).getD []).length n6) at hrq
        rw [← hqv] at cq hrq
        have HRQ := Lib.hid hrq
        have HQV := Lib.hid hqv
        have fq := HY.out.qfr wk
        have d6 := HY.out.hd.cell 6 _ rfl
        have WK : (wk : Int) < (k : Int) := by omega
        clear hqv hrq
        rcases hdl2 with hdl2 | ⟨hd1, hd2⟩
        · simp only [hdl2, Bool.false_eq_true, if_false] at hf1
          rw [hf1] at r1
          clear hdl2 r2 hf2
          cases b with
          | true =>
            have HE := Lib.hid (endP_right H2.out s.dn ((s.qs[wk]?).getD []) HDL.out)
            rw [show ((stepB true).toNat : Int) = 114 from rfl]
            go_wp2
            go_ret
            rw [HE.out]
            refine ⟨rfl, ?_, HB.out⟩
            rw [HQ.out]; exact HY.out
          | false =>
            rw [show ((stepB false).toNat : Int) = 108 from rfl]
            rcases nil_or_snoc' qv with hqn | ⟨q', x', hqx⟩
            · have HE := Lib.hid (endP_nil H2.out s.dn HDL.out)
              subst hqn
              rw [List.length_nil] at cq
              have HQV2 := Lib.hid HQV.out.symm
              go_wp2
              go_ret
              rw [HQV2.out, HE.out]
              refine ⟨rfl, ?_, HB.out⟩
              have := HQ.out
              rw [HQV2.out] at this
              rw [this]; exact HY.out
            · have HE := Lib.hid (endP_pop H2.out s.dn q' x' HDL.out)
              subst hqx
              have HQV2 := Lib.hid HQV.out.symm
              obtain ⟨bq, oq, hB, hbq, _, hxq⟩ := RdL.one (f := fun p => .string (txtP p)) HRQ.out (q := q'.length) (by simp)
              subst hB
              rw [List.getElem_concat_length rfl] at hxq
              obtain ⟨nq, hnq⟩ : ∃ nq, nq = q'.length := ⟨_, rfl⟩
              have hlq : (q' ++ [x']).length = nq + 1 := by simp [hnq]
              obtain ⟨A9, c9, e0, hle, hcm, hby⟩ := HRQ.out.form
              injection e0 with ea _ ec
              subst ea ec
              have hq4 : bq ≠ Q := fun e => by have := hbq.2; rw [e, HY.out.cQ] at this; cases this
              have HTK := Lib.hid (HRQ.out.take (m := nq) (by omega))
              rw [hnq, List.take_left' rfl, ← hnq] at HTK
              have HY9 := Lib.hid (HY.out.queue hwk HTK.out)
              rw [hlq] at cq hle hby
              rw [← hnq] at hxq
              have HNQ := Lib.hid hnq
              clear hlq hnq hbq
              have hnm : nq + 1 ≤ 4611686018427387904 := by omega
              have hw1 : IntKind.i64.wrap (nq : Int) = nq := IntWalk.i64_in _ (by omega)
              go_upto_region 15 with (fail)
              go_region
              have HY10 := Lib.hid (HY9.out.below (Below.refl _ _).drew)
              have HB10 := Lib.hid ((HB.out.setCell (p := ⟨Q, wk, none⟩) (show Yc col Q by unfold Yc; rw [HY.out.cQ]; decide) (.slice (some ⟨bq, oq, none⟩) nq n6)).drew)
              have hxq2 : ((W.setCell ⟨Q, wk, none⟩ (.slice (some ⟨bq, oq, none⟩) nq n6)).drew).cell? ⟨bq, oq + nq, none⟩ = some (.string (txtP x')) := by
                rw [World.cell?_drew, World.cell?_setCell_other _ _ _ _ (fun e => by injection e with e; exact hq4 e.symm)]
                exact hxq
              clear HY9 hxq cq fq d6
              generalize (W.setCell ⟨Q, wk, none⟩ (.slice (some ⟨bq, oq, none⟩) nq n6)).drew = W9 at *
              go_wp2
              go_ret
              rw [HQV2.out, HE.out]
              exact ⟨rfl, HY10.out, HB10.out⟩
        · simp only [hd1, if_true] at hf1
          simp only [hd2, Bool.false_eq_true, if_false] at hf2
          rw [hf1] at r1
          rw [hf2] at r2
          clear hd1 hd2
          cases b with
          | true =>
            have HE := Lib.hid (endP_right H2.out s.dn ((s.qs[wk]?).getD []) HDL.out)
            rw [show ((stepB true).toNat : Int) = 114 from rfl]
            go_wp2
            go_ret
            rw [HE.out]
            refine ⟨rfl, ?_, HB.out⟩
            rw [HQ.out]; exact HY.out
          | false =>
            rw [show ((stepB false).toNat : Int) = 108 from rfl]
            rcases nil_or_snoc' qv with hqn | ⟨q', x', hqx⟩
            · have HE := Lib.hid (endP_nil H2.out s.dn HDL.out)
              subst hqn
              rw [List.length_nil] at cq
              have HQV2 := Lib.hid HQV.out.symm
              go_wp2
              go_ret
              rw [HQV2.out, HE.out]
              refine ⟨rfl, ?_, HB.out⟩
              have := HQ.out
              rw [HQV2.out] at this
              rw [this]; exact HY.out
            · have HE := Lib.hid (endP_pop H2.out s.dn q' x' HDL.out)
              subst hqx
              have HQV2 := Lib.hid HQV.out.symm
              obtain ⟨bq, oq, hB, hbq, _, hxq⟩ := RdL.one (f := fun p => .string (txtP p)) HRQ.out (q := q'.length) (by simp)
              subst hB
              rw [List.getElem_concat_length rfl] at hxq
              obtain ⟨nq, hnq⟩ : ∃ nq, nq = q'.length := ⟨_, rfl⟩
              have hlq : (q' ++ [x']).length = nq + 1 := by simp [hnq]
              obtain ⟨A9, c9, e0, hle, hcm, hby⟩ := HRQ.out.form
              injection e0 with ea _ ec
              subst ea ec
              have hq4 : bq ≠ Q := fun e => by have := hbq.2; rw [e, HY.out.cQ] at this; cases this
              have HTK := Lib.hid (HRQ.out.take (m := nq) (by omega))
              rw [hnq, List.take_left' rfl, ← hnq] at HTK
              have HY9 := Lib.hid (HY.out.queue hwk HTK.out)
              rw [hlq] at cq hle hby
              rw [← hnq] at hxq
              have HNQ := Lib.hid hnq
              clear hlq hnq hbq
              have hnm : nq + 1 ≤ 4611686018427387904 := by omega
              have hw1 : IntKind.i64.wrap (nq : Int) = nq := IntWalk.i64_in _ (by omega)
              go_upto_region 15 with (fail)
              go_region
              have HY10 := Lib.hid (HY9.out.below (Below.refl _ _).drew)
              have HB10 := Lib.hid ((HB.out.setCell (p := ⟨Q, wk, none⟩) (show Yc col Q by unfold Yc; rw [HY.out.cQ]; decide) (.slice (some ⟨bq, oq, none⟩) nq n6)).drew)
              have hxq2 : ((W.setCell ⟨Q, wk, none⟩ (.slice (some ⟨bq, oq, none⟩) nq n6)).drew).cell? ⟨bq, oq + nq, none⟩ = some (.string (txtP x')) := by
                rw [World.cell?_drew, World.cell?_setCell_other _ _ _ _ (fun e => by injection e with e; exact hq4 e.symm)]
                exact hxq
              clear HY9 hxq cq fq d6
              generalize (W.setCell ⟨Q, wk, none⟩ (.slice (some ⟨bq, oq, none⟩) nq n6)).drew = W9 at *
              go_wp2
              go_ret
              rw [HQV2.out, HE.out]
              exact ⟨rfl, HY10.out, HB10.out⟩
end Go.Proofs.Ytbpooepbnnbipaa
