/- The walk of the reference's kstmts. -/
import Derived.Test.YtijahadmaggncaaDoorKp3
namespace Go.Proofs.YtijahadmaggncaaDoor
open Go.RowKit
set_option linter.unusedVariables false
theorem tkL_false (neg : Bool) : ∀ (l : List St) (s : St), s ∈ l → (tkS neg s).2 = false → (tkL neg l).2 = false
  | [], s, h, _ => by cases h
  | t :: l, s, h, hs => by
    rw [tkL]
    show ((tkS neg t).2 && (tkL neg l).2) = false
    rcases List.mem_cons.1 h with rfl | h
    · rw [hs, Bool.false_and]
    · rw [tkL_false neg l s h hs, Bool.and_false]
set_option maxHeartbeats 4000000 in
set_option maxRecDepth 100000 in
theorem kstmts_one (l : List St) (h : ∀ k s a b body els, St.mk k s a b body els ∈ l → KxS k s a b body els) : KxL l := by
  intro w S V hS r hF hwt
  obtain ⟨i0, hi, hz0, hz1, hz2⟩ := info_parts infoStr
  obtain ⟨A, cap, rfl, hl, hcm, hby⟩ := r.form
  unfold maxLen at hcm
  have H := Lib.hid h
  have R := Lib.hid r
  have HS := Lib.hid hS
  have HF := Lib.hid hF
  clear h r hS hF
  go_enter Tryd.func20, Tryd.ntmps20
  go_wp2_with fail
  go_loopw [4, 11] (fun o t wr => ∃ q : Nat, q ≤ l.length ∧ t = .int .i64 q ∧ Hid (OwnT wr w.heap.size (tkL true (l.take q)).1 o) ∧ Hid (Below w.heap.size w wr) ∧ Hid ((tkL true (l.take q)).2 = true) ∧ tsz (tkL true (l.take q)).1 ≤ 64 * St.wts (l.take q)) (fun _ t _ => l.length - (intOf t).toNat)
  case atStart => exact ⟨0, by omega, rfl, Lib.hid (by rw [List.take_zero]; exact OwnL.nil _ _ _), Lib.hid (Below.refl _ _), Lib.hid (by rw [List.take_zero]; rfl), by rw [List.take_zero]; simp [tkL, tsz]⟩
  case round =>
    obtain ⟨q, hq, rfl, HO, HB, HK, hts⟩ := hrel
    by_cases hlt : q < l.length
    · have RW := R.out.go RdSt.keeps HB.out HS.out (Sub.refl _)
      obtain ⟨b0, off, cs, rfl, hb, hcl, hcell, hrd⟩ := RW.at_ hlt
      have hb : b0 < w.heap.size := HS.out _ hb
      have hbr : w.heap.size ≤ wr.heap.size := HB.out.size
      have hb0 : b0 < wr.heap.size := by omega
      have hmem := List.getElem_mem hlt
      have hwq := wts_takeK l hlt
      have HT := Lib.hid (tkL_take true l hlt)
      obtain ⟨wn, hwn⟩ : ∃ wn, wn = St.wts (l.take (q + 1)) := ⟨_, rfl⟩
      have hwn1 : St.wts (l.take q) + l[q].wt ≤ wn := by
        have e : ∀ (m : List St) (x : St), St.wts (m ++ [x]) = St.wts m + x.wt := by
          intro m x
          induction m with
          | nil => simp [St.wts]
          | cons y m ih => simp only [List.cons_append, St.wts, ih]; omega
        rw [hwn, List.take_succ_eq_append_getElem hlt, e]
        omega
      have HWN := Lib.hid hwn
      have HNO := Lib.hid (tkL_false true l l[q] hmem)
      clear hwn
      obtain ⟨st, hst⟩ : ∃ st, l[q] = st := ⟨_, rfl⟩
      rw [hst] at hrd hmem hwq HT hwn1 HNO
      obtain ⟨k, s, a, b, body, els⟩ := st
      obtain ⟨k1, n1, s1, A1, m1, p1, k2, n2, s2, A2, m2, p2, A3, p3, A4, p4, rfl, hk, hs, ra, rb, rv, rv'⟩ := hrd.cells
      have e0 : wr.cell? ⟨b0, off + q * 12, none⟩ = some _ := hcell 0 _ rfl
      have e1 : wr.cell? ⟨b0, off + q * 12 + 1, none⟩ = some _ := hcell 1 _ rfl; have e2 : wr.cell? ⟨b0, off + q * 12 + 2, none⟩ = some _ := hcell 2 _ rfl; have e3 : wr.cell? ⟨b0, off + q * 12 + 3, none⟩ = some _ := hcell 3 _ rfl; have e4 : wr.cell? ⟨b0, off + q * 12 + 4, none⟩ = some _ := hcell 4 _ rfl; have e5 : wr.cell? ⟨b0, off + q * 12 + 5, none⟩ = some _ := hcell 5 _ rfl; have e6 : wr.cell? ⟨b0, off + q * 12 + 6, none⟩ = some _ := hcell 6 _ rfl; have e7 : wr.cell? ⟨b0, off + q * 12 + 7, none⟩ = some _ := hcell 7 _ rfl; have e8 : wr.cell? ⟨b0, off + q * 12 + 8, none⟩ = some _ := hcell 8 _ rfl; have e9 : wr.cell? ⟨b0, off + q * 12 + 9, none⟩ = some _ := hcell 9 _ rfl; have e10 : wr.cell? ⟨b0, off + q * 12 + 10, none⟩ = some _ := hcell 10 _ rfl; have e11 : wr.cell? ⟨b0, off + q * 12 + 11, none⟩ = some _ := hcell 11 _ rfl
      have HIB := Lib.hid (H.out _ _ _ _ _ _ hmem)
      have rva : RdE wr S a (exV k1 n1 s1 (.slice A1 m1 p1)) := RdEx.toEK ra
      have rvb : RdE wr S b (exV k2 n2 s2 (.slice A2 m2 p2)) := RdEx.toEK rb
      have hbel : Below wr.heap.size wr (wr.alloc (.cells #[.int .i64 k, .string s, .int .i64 k1, .int .i64 n1, .string s1, .slice A1 m1 p1, .int .i64 k2, .int .i64 n2, .string s2, .slice A2 m2 p2, .slice A3 body.length p3, .slice A4 els.length p4] 76)) := (Below.refl _ _).alloc (Nat.le_refl _) _
      have hbe2 : Below w.heap.size wr (wr.alloc (.cells #[.int .i64 k, .string s, .int .i64 k1, .int .i64 n1, .string s1, .slice A1 m1 p1, .int .i64 k2, .int .i64 n2, .string s2, .slice A2 m2 p2, .slice A3 body.length p3, .slice A4 els.length p4] 76)) := hbel.mono hbr
      have HC := Lib.hid (HIB.out (wr.alloc (.cells #[.int .i64 k, .string s, .int .i64 k1, .int .i64 n1, .string s1, .slice A1 m1 p1, .int .i64 k2, .int .i64 n2, .string s2, .slice A2 m2 p2, .slice A3 body.length p3, .slice A4 els.length p4] 76)) S k1 n1 s1 A1 m1 p1 k2 n2 s2 A2 m2 p2 A3 p3 A4 p4 (HS.out.trans (Sub.upto (Nat.le_trans hbr hbel.size))) hk hs (rva.go hbe2 HS.out) (rvb.go hbe2 HS.out) (rv.go RdSt.keeps hbe2 HS.out (Sub.refl _)) (rv'.go RdSt.keeps hbe2 HS.out (Sub.refl _)) ((HF.out.go HB.out).go hbel) (by omega))
      have GN := Lib.hid (HB.out.trans hbe2)
      have OW := Lib.hid (show OwnT (wr.alloc (.cells #[.int .i64 k, .string s, .int .i64 k1, .int .i64 n1, .string s1, .slice A1 m1 p1, .int .i64 k2, .int .i64 n2, .string s2, .slice A2 m2 p2, .slice A3 body.length p3, .slice A4 els.length p4] 76)) w.heap.size _ _ from HO.out.keep Flat.keeps hbel)
      have hzW := GN.out.size
      clear HO hbel hbe2 rva rvb rv rv' ra rb hrd hcell hmem RW HB hcl
      go_upto_region 5 with (fail)
      have hlz : wr.heap.size < ((wr.alloc (.cells #[.int .i64 k, .string s, .int .i64 k1, .int .i64 n1, .string s1, .slice A1 m1 p1, .int .i64 k2, .int .i64 n2, .string s2, .slice A2 m2 p2, .slice A3 body.length p3, .slice A4 els.length p4] 76))).heap.size := by simp
      have BX := Blk.made wr [.int .i64 k, .string s, .int .i64 k1, .int .i64 n1, .string s1, .slice A1 m1 p1, .int .i64 k2, .int .i64 n2, .string s2, .slice A2 m2 p2, .slice A3 body.length p3, .slice A4 els.length p4] 76 (base := 0) (Nat.zero_le _)
      clear e0 e1 e2 e3 e4 e5 e6 e7 e8 e9 e10 e11
      generalize (wr.alloc (.cells #[.int .i64 k, .string s, .int .i64 k1, .int .i64 n1, .string s1, .slice A1 m1 p1, .int .i64 k2, .int .i64 n2, .string s2, .slice A2 m2 p2, .slice A3 body.length p3, .slice A4 els.length p4] 76)) = W at *
      generalize wr.heap.size = d at *
      have e0 := BX.cell 0 _ rfl; have e1 := BX.cell 1 _ rfl; have e2 := BX.cell 2 _ rfl; have e3 := BX.cell 3 _ rfl; have e4 := BX.cell 4 _ rfl; have e5 := BX.cell 5 _ rfl; have e6 := BX.cell 6 _ rfl; have e7 := BX.cell 7 _ rfl; have e8 := BX.cell 8 _ rfl; have e9 := BX.cell 9 _ rfl; have e10 := BX.cell 10 _ rfl; have e11 := BX.cell 11 _ rfl
      go_wp2_with (go_at_call 39; refine (calls_hid HC.out).mono ?_)
      rintro e w1 hh
      obtain ⟨x, out, rfl, o1, b1, t1, q1⟩ := hh.out
      obtain ⟨Ax, cx, rfl⟩ := o1.form
      have B1 := Lib.hid (GN.out.trans (b1.mono hzW))
      have O1 := Lib.hid (show OwnT w1 w.heap.size _ _ from OW.out.keep Flat.keeps b1)
      have R1 := Lib.hid (o1.rd (by have := tsz_len out; omega))
      have T1' := Lib.hid t1
      have Q1 := Lib.hid q1
      have hz1' := B1.out.size
      have hlo := tsz_len out
      have hlt2 := tsz_len (tkL true (l.take q)).1
      clear o1 b1 t1 q1 hh HC GN OW e0 e1 e2 e3 e4 e5 e6 e7 e8 e9 e10 e11 BX
      obtain ⟨ok, hok⟩ : ∃ ok, ok = (tkS true (.mk k s a b body els)).2 := ⟨_, rfl⟩
      have HOK := Lib.hid hok
      rw [← hok]
      clear hok
      cases ok
      · go_wp2
        go_ret2
        exact ⟨_, [], by rw [HNO.out HOK.out.symm]; rfl, OwnL.nil _ _ _, B1.out, Nat.zero_le _, fun h => by rw [HNO.out HOK.out.symm] at h; cases h⟩
      · have HOUT := Lib.hid (show out = (tkS true (.mk k s a b body els)).1 from Q1.out HOK.out.symm)
        have t2 := T1'.out
        have hsum : (tkL true (l.take q)).1.length + out.length ≤ 134217728 := by omega
        go_wp2_with (at_builtin; refine wpList_append_list rfl _ _ 50 rfl i0 _ Tryd.underlying50 hi hz0 hz1 hz2 rfl (by decide) Flat.keeps O1.out (R1.out.bare Nowhere) rfl rfl (Sub.nowhere _) (Sub.nowhere _) not_nowhere oneS ?c3 ?c4 ?c5 ?_)
        case c3 => unfold maxLen; omega
        case c4 => omega
        try (case c5 => exact hz1')
        intro v2 w2 ho hg hk2
        have HO2 := Lib.hid (show OwnT w2 w.heap.size (tkL true (l.take (q + 1))).1 v2 from by rw [HT.out]; show OwnT w2 _ ((tkL true (l.take q)).1 ++ (tkS true (.mk k s a b body els)).1) _; rw [← HOUT.out]; exact ho)
        have HB2 := Lib.hid (B1.out.grown hg hz1' (fun g hg => (O1.out.lt g hg).1))
        have HK2 := Lib.hid (show (tkL true (l.take (q + 1))).2 = true by rw [HT.out]; show ((tkL true (l.take q)).2 && (tkS true (.mk k s a b body els)).2) = true; rw [HK.out, ← HOK.out]; rfl)
        have HT2 := Lib.hid (show tsz (tkL true (l.take (q + 1))).1 ≤ 64 * wn from by rw [HT.out]; show tsz ((tkL true (l.take q)).1 ++ (tkS true (.mk k s a b body els)).1) ≤ _; rw [tsz_app, ← HOUT.out]; omega)
        clear ho hg hk2 O1 B1 R1 hsum
        go_wp2_with fail
        go_roundw
        case rel => exact ⟨q + 1, by omega, by go_num, HO2, HB2, HK2, by rw [← HWN.out]; exact HT2.out⟩
        case measure => simp [intOf]; omega
    · have hql : q = l.length := by omega
      subst hql
      rw [List.take_of_length_le (Nat.le_refl _)] at HO HK hts
      obtain ⟨A9, c9, rfl⟩ := HO.out.form
      go_wp2
      go_ret2
      exact ⟨_, _, by rw [HK.out]; rfl, HO.out, HB.out, hts, fun _ => rfl⟩
end Go.Proofs.YtijahadmaggncaaDoor
