/- The walk of the reference's kstmt. (printed by gen_kp7.py) -/
import Derived.Test.YtnpgpcnkdocknaaGreatDoorGKp6
namespace Go.Proofs.YtnpgpcnkdocknaaGreatDoor
open Go.RowKit
set_option linter.unusedVariables false
theorem form_cell (q : Nat) (hq : q < 7) (e : Bool) (he : e = false ∨ q ≠ 5) : (#[.string ⟨#[108, 101, 116, 32, 110, 32, 61, 32, 97, 32, 59]⟩, .string ⟨#[108, 111, 97, 100, 32, 110, 32, 61, 32, 91, 32, 97, 32, 93, 32, 59]⟩, .string ⟨#[115, 116, 111, 114, 101, 32, 91, 32, 97, 32, 93, 32, 61, 32, 98, 32, 59]⟩, .string ⟨#[97, 115, 121, 110, 99, 32, 66]⟩, .string ⟨#[102, 105, 110, 105, 115, 104, 32, 66]⟩, .string ⟨#[105, 102, 32, 97, 32, 66]⟩, .string ⟨#[102, 111, 114, 32, 110, 32, 61, 32, 97, 32, 116, 111, 32, 98, 32, 66]⟩] : Array Value)[q]? = some (.string (formK q e)) := by
 match q, hq with
 | 0, _ => cases e <;> rfl
 | 1, _ => cases e <;> rfl
 | 2, _ => cases e <;> rfl
 | 3, _ => cases e <;> rfl
 | 4, _ => cases e <;> rfl
 | 5, _ => rcases he with rfl | h; rfl; exact absurd rfl h
 | 6, _ => cases e <;> rfl
 | n + 7, h => omega
theorem form_size (q : Nat) (hq : q < 7) (e : Bool) : (formK q e).size ≤ 1000 := by
 match q, hq with
 | 0, _ => cases e <;> decide
 | 1, _ => cases e <;> decide
 | 2, _ => cases e <;> decide
 | 3, _ => cases e <;> decide
 | 4, _ => cases e <;> decide
 | 5, _ => cases e <;> decide
 | 6, _ => cases e <;> decide
 | n + 7, h => omega
theorem form_len (q : Nat) (hq : q < 7) (e : Bool) : (fieldsF (formK q e)).length ≤ 9 := by
 match q, hq with
 | 0, _ => cases e <;> decide +kernel
 | 1, _ => cases e <;> decide +kernel
 | 2, _ => cases e <;> decide +kernel
 | 3, _ => cases e <;> decide +kernel
 | 4, _ => cases e <;> decide +kernel
 | 5, _ => cases e <;> decide +kernel
 | 6, _ => cases e <;> decide +kernel
 | n + 7, h => omega
theorem sum_take_le : ∀ (l : List Nat) (q : Nat), (l.take q).sum ≤ l.sum
 | [], q => by simp
 | x :: l, 0 => by simp
 | x :: l, q + 1 => by have := sum_take_le l q; simp only [List.take_succ_cons, List.sum_cons]; omega
theorem sum_take_succ (l : List Nat) {q : Nat} (hq : q < l.length) : (l.take (q + 1)).sum = (l.take q).sum + l[q] := by
 rw [List.take_succ_eq_append_getElem hq, List.sum_append]; simp
theorem toList_ne {p : Str} {l : List UInt8} (h : (p.toList == l) = false) : ¬ p.data.toList = l := fun e => by
 rw [← ByteArray.toList_eq p] at e
 rw [e] at h; simp at h
theorem toList_is {p : Str} {l : List UInt8} (h : (p.toList == l) = true) : p.data.toList = l := by
 rw [← ByteArray.toList_eq p]; exact eq_of_beq h
set_option maxHeartbeats 4000000 in
set_option maxRecDepth 100000 in
theorem kstmt_any (k : Int) (s : Str) (a b : Ex) (body els : List St) (hbody : KxL body) (hels : KxL els) : KxS k s a b body els := by
 intro w S k1 n1 s1 A1 m1 p1 k2 n2 s2 A2 m2 p2 A3 p3 A4 p4 hS hk hs ra rb rc rd hF hwt
 obtain ⟨i0, hi, hz0, hz1, hz2⟩ := info_parts infoStr
 have hbl : Below w.heap.size w (w.alloc (.cells #[.int .i64 k, .string s, .int .i64 k1, .int .i64 n1, .string s1, .slice A1 m1 p1, .int .i64 k2, .int .i64 n2, .string s2, .slice A2 m2 p2, .slice A3 body.length p3, .slice A4 els.length p4] 82)) := (Below.refl _ _).alloc (Nat.le_refl _) _
 have BX := hid (Blk.made w [.int .i64 k, .string s, .int .i64 k1, .int .i64 n1, .string s1, .slice A1 m1 p1, .int .i64 k2, .int .i64 n2, .string s2, .slice A2 m2 p2, .slice A3 body.length p3, .slice A4 els.length p4] 82 (base := 0) (Nat.zero_le _))
 have HS := hid hS
 have RA := hid (ra.go hbl hS)
 have RB := hid (rb.go hbl hS)
 have RC := hid (rc.go RdSt.keeps hbl hS (Sub.refl _))
 have RD := hid (rd.go RdSt.keeps hbl hS (Sub.refl _))
 have HF := hid (hF.go hbl)
 have B0 := hid hbl
 have HB := hid hbody
 have HE := hid hels
 have hsz0 := hbl.size
 have hwt2 := hwt
 simp only [St.wt] at hwt2
 obtain ⟨e, he⟩ : ∃ e, e = !els.isEmpty := ⟨_, rfl⟩
 obtain ⟨wt, hwt0⟩ : ∃ wt, wt = (St.mk k s a b body els).wt := ⟨_, rfl⟩
 obtain ⟨TT, hTT⟩ : ∃ TT, TT = tkS true (.mk k s a b body els) := ⟨_, rfl⟩
 rw [← hwt0] at hwt
 rw [← hwt0, ← hTT]
 have HTT := hid hTT
 have HWT := hid hwt0
 clear hTT hwt0
 have hdW : w.heap.size < (w.alloc (.cells #[.int .i64 k, .string s, .int .i64 k1, .int .i64 n1, .string s1, .slice A1 m1 p1, .int .i64 k2, .int .i64 n2, .string s2, .slice A2 m2 p2, .slice A3 body.length p3, .slice A4 els.length p4] 82)).heap.size := by simp
 by_cases hk7 : 1 ≤ k ∧ k ≤ 7
 ·--<in
  obtain ⟨q0, hq7, hkq⟩ : ∃ q0 : Nat, q0 < 7 ∧ k = 1 + (q0 : Int) := ⟨(k - 1).toNat, by omega, by omega⟩
  have hpf := parts_forms k s a b body els hq7 hkq
  rw [← he, ← HWT.out] at hpf
  have HTS := hid (show TT = seqT ((fieldsF (formK q0 e)).map (ptK s a b body els)) by rw [HTT.out, tkS, ← he, hpf.1])
  have HSU := hid hpf.2
  have HFC := hid (form_cell q0 hq7)
  have hfs := form_size q0 hq7 e
  have HHE := hid he
  subst hkq
  have e1 : ¬ ((1 : Int) + (q0 : Int) < 1) := by omega
  have e2 : ¬ (7 < (1 : Int) + (q0 : Int)) := by omega
  have e3 : (1 : Int) + (q0 : Int) - 1 = q0 := by omega
  have HKI := hid hk
  have HSS := hid hs
  clear hs
  clear hpf he hk hbl ra rb rc rd hF hS hbody hels hk7
  by_cases h6 : q0 = 5
  focus
   have H6 := hid h6
   have e6 : ((1 : Int) + (q0 : Int) == 6) = true := by rw [h6]; rfl
   clear h6
   by_cases hl0 : els.length = 0
   focus
    have hl1 : ¬ (0 : Int) < (els.length : Int) := by omega
    have HEE := hid (show e = false by rw [HHE.out]; cases els with
     | nil => rfl
     | cons x r => simp at hl0)
    clear hl0
    go_enter Tryz.func32, Tryz.ntmps32
    go_upto_region 1 with (fail)
    generalize (w.alloc (.cells #[.int .i64 (1 + (q0 : Int)), .string s, .int .i64 k1, .int .i64 n1, .string s1, .slice A1 m1 p1, .int .i64 k2, .int .i64 n2, .string s2, .slice A2 m2 p2, .slice A3 body.length p3, .slice A4 els.length p4] 82)) = W at *
    have hd0 : w.heap.size ≤ W.heap.size := hsz0
    generalize hd : w.heap.size = d at *
    have HD := hid hd
    clear hd
    have c0 : W.cell? ⟨d, 0, none⟩ = some (.int .i64 (1 + (q0 : Int))) := BX.out.cell 0 _ rfl
    have c11 : W.cell? ⟨d, 11, none⟩ = some (.slice A4 els.length p4) := BX.out.cell 11 _ rfl
    have e0 : (W.alloc (.cells #[.string ⟨#[108, 101, 116, 32, 110, 32, 61, 32, 97, 32, 59]⟩, .string ⟨#[108, 111, 97, 100, 32, 110, 32, 61, 32, 91, 32, 97, 32, 93, 32, 59]⟩, .string ⟨#[115, 116, 111, 114, 101, 32, 91, 32, 97, 32, 93, 32, 61, 32, 98, 32, 59]⟩, .string ⟨#[97, 115, 121, 110, 99, 32, 66]⟩, .string ⟨#[102, 105, 110, 105, 115, 104, 32, 66]⟩, .string ⟨#[105, 102, 32, 97, 32, 66]⟩, .string ⟨#[102, 111, 114, 32, 110, 32, 61, 32, 97, 32, 116, 111, 32, 98, 32, 66]⟩] 9)).cell? ⟨W.heap.size, q0, none⟩ = some (.string (formK q0 e)) := by
     rw [cell_new]
     exact HFC.out e (.inl HEE.out)
    go_upto_region 7 with (fail)
    clear c11
   rotate_left
   focus
    have hl1 : (0 : Int) < (els.length : Int) := by omega
    have hl2 : 0 < els.length := by omega
    have HEE := hid (show e = true by rw [HHE.out]; cases els with
     | nil => simp at hl0
     | cons x r => rfl)
    have hcat := hid (show formK q0 false ++ ⟨#[32, 101, 108, 115, 101, 32, 69]⟩ = formK q0 e by rw [HEE.out, H6.out]; decide +kernel)
    have hfz := form_size q0 hq7 false
    go_enter Tryz.func32, Tryz.ntmps32
    go_upto_region 1 with (fail)
    generalize (w.alloc (.cells #[.int .i64 (1 + (q0 : Int)), .string s, .int .i64 k1, .int .i64 n1, .string s1, .slice A1 m1 p1, .int .i64 k2, .int .i64 n2, .string s2, .slice A2 m2 p2, .slice A3 body.length p3, .slice A4 els.length p4] 82)) = W at *
    have hd0 : w.heap.size ≤ W.heap.size := hsz0
    generalize hd : w.heap.size = d at *
    have HD := hid hd
    clear hd
    have c0 : W.cell? ⟨d, 0, none⟩ = some (.int .i64 (1 + (q0 : Int))) := BX.out.cell 0 _ rfl
    have c11 : W.cell? ⟨d, 11, none⟩ = some (.slice A4 els.length p4) := BX.out.cell 11 _ rfl
    have e0 : (W.alloc (.cells #[.string ⟨#[108, 101, 116, 32, 110, 32, 61, 32, 97, 32, 59]⟩, .string ⟨#[108, 111, 97, 100, 32, 110, 32, 61, 32, 91, 32, 97, 32, 93, 32, 59]⟩, .string ⟨#[115, 116, 111, 114, 101, 32, 91, 32, 97, 32, 93, 32, 61, 32, 98, 32, 59]⟩, .string ⟨#[97, 115, 121, 110, 99, 32, 66]⟩, .string ⟨#[102, 105, 110, 105, 115, 104, 32, 66]⟩, .string ⟨#[105, 102, 32, 97, 32, 66]⟩, .string ⟨#[102, 111, 114, 32, 110, 32, 61, 32, 97, 32, 116, 111, 32, 98, 32, 66]⟩] 9)).cell? ⟨W.heap.size, q0, none⟩ = some (.string (formK q0 false)) := by
     rw [cell_new]
     exact HFC.out false (.inl rfl)
    go_upto_region 7 with (fail)
    rw [hcat.out]
    clear c11 hcat
  rotate_left 2
  focus
   have e6 : ((1 : Int) + (q0 : Int) == 6) = false := by simp; omega
   go_enter Tryz.func32, Tryz.ntmps32
   go_upto_region 1 with (fail)
   generalize (w.alloc (.cells #[.int .i64 (1 + (q0 : Int)), .string s, .int .i64 k1, .int .i64 n1, .string s1, .slice A1 m1 p1, .int .i64 k2, .int .i64 n2, .string s2, .slice A2 m2 p2, .slice A3 body.length p3, .slice A4 els.length p4] 82)) = W at *
   have hd0 : w.heap.size ≤ W.heap.size := hsz0
   generalize hd : w.heap.size = d at *
   have HD := hid hd
   clear hd
   have c0 : W.cell? ⟨d, 0, none⟩ = some (.int .i64 (1 + (q0 : Int))) := BX.out.cell 0 _ rfl
   have e0 : (W.alloc (.cells #[.string ⟨#[108, 101, 116, 32, 110, 32, 61, 32, 97, 32, 59]⟩, .string ⟨#[108, 111, 97, 100, 32, 110, 32, 61, 32, 91, 32, 97, 32, 93, 32, 59]⟩, .string ⟨#[115, 116, 111, 114, 101, 32, 91, 32, 97, 32, 93, 32, 61, 32, 98, 32, 59]⟩, .string ⟨#[97, 115, 121, 110, 99, 32, 66]⟩, .string ⟨#[102, 105, 110, 105, 115, 104, 32, 66]⟩, .string ⟨#[105, 102, 32, 97, 32, 66]⟩, .string ⟨#[102, 111, 114, 32, 110, 32, 61, 32, 97, 32, 116, 111, 32, 98, 32, 66]⟩] 9)).cell? ⟨W.heap.size, q0, none⟩ = some (.string (formK q0 e)) := by
    rw [cell_new]
    exact HFC.out e (.inr h6)
   go_upto_region 7 with (fail)
  all_goals
   have b7 : Below W.heap.size W (W.alloc (.cells #[.string ⟨#[108, 101, 116, 32, 110, 32, 61, 32, 97, 32, 59]⟩, .string ⟨#[108, 111, 97, 100, 32, 110, 32, 61, 32, 91, 32, 97, 32, 93, 32, 59]⟩, .string ⟨#[115, 116, 111, 114, 101, 32, 91, 32, 97, 32, 93, 32, 61, 32, 98, 32, 59]⟩, .string ⟨#[97, 115, 121, 110, 99, 32, 66]⟩, .string ⟨#[102, 105, 110, 105, 115, 104, 32, 66]⟩, .string ⟨#[105, 102, 32, 97, 32, 66]⟩, .string ⟨#[102, 111, 114, 32, 110, 32, 61, 32, 97, 32, 116, 111, 32, 98, 32, 66]⟩] 9)) := (Below.refl _ _).alloc (Nat.le_refl _) _
   have B7 := hid b7
   have BX7 := hid (BX.out.below b7)
   have hz7 := b7.size
   clear c0 e0 b7
   generalize (W.alloc (.cells #[.string ⟨#[108, 101, 116, 32, 110, 32, 61, 32, 97, 32, 59]⟩, .string ⟨#[108, 111, 97, 100, 32, 110, 32, 61, 32, 91, 32, 97, 32, 93, 32, 59]⟩, .string ⟨#[115, 116, 111, 114, 101, 32, 91, 32, 97, 32, 93, 32, 61, 32, 98, 32, 59]⟩, .string ⟨#[97, 115, 121, 110, 99, 32, 66]⟩, .string ⟨#[102, 105, 110, 105, 115, 104, 32, 66]⟩, .string ⟨#[105, 102, 32, 97, 32, 66]⟩, .string ⟨#[102, 111, 114, 32, 110, 32, 61, 32, 97, 32, 116, 111, 32, 98, 32, 66]⟩] 9)) = W7 at *
   have hpl := form_len q0 hq7 e
   go_wp2_with (go_at_call 54; refine (calls_hid (kfields_any _ hfs W7)).mono ?_)
   rintro e' w1 hh
   obtain ⟨xp, rfl, op, bp⟩ := hh.out
   clear hh
   generalize fieldsF (formK q0 e) = P at *
   obtain ⟨Ap, cp, rfl⟩ := op.form
   have RP := hid (op.rd (by omega))
   have B1 := hid (B7.out.trans (bp.mono hz7))
   have hz1' := B1.out.size
   have HF1 := hid (HF.out.go B1.out)
   have BX1 := hid (BX7.out.below bp)
   have RA1 := hid (RA.out.go B1.out (HS.out.trans (Sub.upto hd0)))
   have RB1 := hid (RB.out.go B1.out (HS.out.trans (Sub.upto hd0)))
   have RC1 := hid (RC.out.go RdSt.keeps B1.out (HS.out.trans (Sub.upto hd0)) (Sub.refl _))
   have RD1 := hid (RD.out.go RdSt.keeps B1.out (HS.out.trans (Sub.upto hd0)) (Sub.refl _))
   have HS1 := hid (HS.out.trans (Sub.upto (Nat.le_trans hd0 hz1')))
   have hd1 : d < w1.heap.size := by omega
   clear op bp B7 BX7 hz7 BX RA RB RC RD HF
   obtain ⟨M, hM⟩ : ∃ M, M = P.map (ptK s a b body els) := ⟨_, rfl⟩
   obtain ⟨N, hN⟩ : ∃ N, N = P.map (mpK s a b body els) := ⟨_, rfl⟩
   have hNl : N.length = P.length := by rw [hN]; simp
   have hMl : M.length = P.length := by rw [hM]; simp
   have hMP := hid hM
   have hNP := hid hN
   rw [← hM] at HTS
   rw [← hN] at HSU
   clear hM hN
   go_wp2_with fail
   go_loopw [5, 38] (fun o t wr => ∃ q : Nat, q ≤ P.length ∧ t = .int .i64 q ∧ Hid (OwnT wr w1.heap.size (seqT (M.take q)).1 o) ∧ Hid (Below w1.heap.size w1 wr) ∧ Hid ((seqT (M.take q)).2 = true) ∧ tsz (seqT (M.take q)).1 ≤ (N.take q).sum) (fun _ t _ => P.length - (intOf t).toNat)
   case atStart => exact ⟨0, by omega, rfl, hid (by rw [List.take_zero]; exact OwnL.nil _ _ _), hid (Below.refl _ _), hid (by rw [List.take_zero]; rfl), by rw [List.take_zero]; exact Nat.zero_le _⟩
   case round =>
    obtain ⟨q, hq, rfl, HO, HBq, HK, hts⟩ := hrel
    by_cases hlt : q < P.length
    ·skip
     have hza := HBq.out.size
     have RPq := RP.out.go Flat.keeps HBq.out (fun b h => h.2) (Sub.refl _)
     obtain ⟨bq, oq, hA, hbq, hokp, hcp⟩ := RdSs.at1 RPq hlt
     subst hA
     obtain ⟨p, hp⟩ : ∃ p, P[q] = p := ⟨_, rfl⟩
     rw [hp] at hokp hcp
     have hbqr : bq < wr.heap.size := by have := hbq.2; omega
     have hMq : M[q]'(by omega) = ptK s a b body els p := by simp only [hMP.out, List.getElem_map, hp]
     have hNq : N[q]'(by omega) = mpK s a b body els p := by simp only [hNP.out, List.getElem_map, hp]
     have HM := hid (show seqT (M.take (q + 1)) = tcat (seqT (M.take q)) (ptK s a b body els p) by rw [seqT_take M (by omega), hMq])
     have HN1 := hid (show (N.take (q + 1)).sum = (N.take q).sum + mpK s a b body els p by rw [sum_take_succ N (by omega), hNq])
     have hle : (N.take (q + 1)).sum ≤ 64 * wt := Nat.le_trans (sum_take_le N _) HSU.out
     have HMF := hid (show (ptK s a b body els p).2 = false → TT.2 = false from fun h => by rw [HTS.out]; exact seqT_false M _ (hMq ▸ List.getElem_mem _) h)
     have hacc := Nat.le_trans (tsz_len (seqT (M.take q)).1) hts
     have bl9 : Below wr.heap.size wr (wr.alloc (.cells #[.string p] 9)) := (Below.refl _ _).alloc (Nat.le_refl _) _
     have OL := hid (OwnT.lit1 (w := wr) p hokp (Nat.le_refl _))
     have OQ := hid (show OwnT (wr.alloc (.cells #[.string p] 9)) w1.heap.size _ _ from HO.out.keep Flat.keeps bl9)
     have BQ := hid (HBq.out.trans (bl9.mono hza))
     have hd9' := BQ.out.size
     have BX9 := hid (BX1.out.below BQ.out)
     have RA9 := hid (RA1.out.go BQ.out HS1.out)
     have RB9 := hid (RB1.out.go BQ.out HS1.out)
     have RC9 := hid (RC1.out.go RdSt.keeps BQ.out HS1.out (Sub.refl _))
     have RD9 := hid (RD1.out.go RdSt.keeps BQ.out HS1.out (Sub.refl _))
     have HF9 := hid (HF1.out.go BQ.out)
     have HS9 := hid (HS1.out.trans (Sub.upto hd9'))
     have hdz9 : d ≤ (wr.alloc (.cells #[.string p] 9)).heap.size := by omega
     have hd1' : d ≤ w1.heap.size := by omega
     clear hMq hNq RPq bl9 HO HBq hbq hokp RA1 RB1 RC1 RD1 HF1 BX1 hp RP
     go_upto_region 11 with (fail)
     have hd9 : d < (wr.alloc (.cells #[.string p] 9)).heap.size := by omega
     generalize (wr.alloc (.cells #[.string p] 9)) = W9 at *
     generalize hz9 : wr.heap.size = z9 at *
     clear hcp hbqr hz9
     cases g0 : (p.toList == [110])
     ·skip
      cases g1 : (p.toList == [97])
      ·skip
       cases g2 : (p.toList == [98])
       ·skip
        cases g3 : (p.toList == [66])
        ·skip
         cases g4 : (p.toList == [69])
         ·skip
          have HPT := hid (show ptK s a b body els p = T1 [p] by unfold ptK; rw [if_neg (toList_ne g0), if_neg (toList_ne g1), if_neg (toList_ne g2), if_neg (toList_ne g3), if_neg (toList_ne g4)])
          have HPM := hid (show mpK s a b body els p = p.size + 1 by unfold mpK; rw [if_neg (toList_ne g0), if_neg (toList_ne g1), if_neg (toList_ne g2), if_neg (toList_ne g3), if_neg (toList_ne g4)])
          have RZ0 := hid (OwnT.rd OL.out (by show 1 * 16 ≤ _; decide))
          obtain ⟨outp, hop⟩ : ∃ outp : List Str, outp = [p] := ⟨_, rfl⟩
          have HEQ := hid (show outp = (ptK s a b body els p).1 by rw [HPT.out, hop])
          have HTZ := hid (show tsz outp ≤ mpK s a b body els p by rw [HPM.out, hop, tsz_one]; exact Nat.le_refl _)
          have HOKP := hid (show (ptK s a b body els p).2 = true by rw [HPT.out])
          have RZ := hid (show RdSs W9 (fun b => z9 ≤ b ∧ b < W9.heap.size) outp (.slice (some ⟨z9, 0, none⟩) 1 1) by rw [hop]; exact RZ0.out)
          have hop1 : outp.length = 1 := by rw [hop]; rfl
          have OZ := OQ
          have BZ := BQ
          have hzz := hd9'
          clear hop OL OQ BQ RZ0
          have hlo := tsz_len outp
          have hsum : (seqT (M.take q)).1.length + outp.length ≤ 8589934592 := by have := HTZ.out; have := HN1.out; omega
          go_wp2_with (at_builtin; refine wpList_append_list rfl _ _ 37 rfl i0 _ Tryz.underlying37 hi hz0 hz1 hz2 rfl (by decide) Flat.keeps OZ.out (RZ.out.bare Nowhere) rfl rfl (Sub.nowhere _) (Sub.nowhere _) not_nowhere oneS ?c3 ?c4 ?c5 ?_)
          case c3 => (try simp only [List.length_cons, List.length_nil]); unfold maxLen; omega
          case c4 => (try simp only [List.length_cons, List.length_nil]); omega
          try (case c5 => exact hzz)
          intro v2 w2 ho hg hk2
          have HO2 := hid (show OwnT w2 w1.heap.size (seqT (M.take (q + 1))).1 v2 from by rw [HM.out]; show OwnT w2 w1.heap.size ((seqT (M.take q)).1 ++ (ptK s a b body els p).1) v2; rw [← HEQ.out]; exact ho)
          have HB2 := hid (BZ.out.grown hg hzz (fun g hg => (OZ.out.lt g hg).1))
          have HK2 := hid (show (seqT (M.take (q + 1))).2 = true by rw [HM.out]; show ((seqT (M.take q)).2 && (ptK s a b body els p).2) = true; rw [HK.out, HOKP.out]; rfl)
          have HT2 := hid (show tsz (seqT (M.take (q + 1))).1 ≤ (N.take (q + 1)).sum from by rw [HM.out, HN1.out]; show tsz ((seqT (M.take q)).1 ++ (ptK s a b body els p).1) ≤ _; rw [tsz_app, ← HEQ.out]; have := HTZ.out; omega)
          clear ho hg hk2 OZ RZ BZ hsum hlo
          go_wp2_with fail
          go_roundw
          case rel => exact ⟨q + 1, by omega, by go_num, HO2, HB2, HK2, HT2.out⟩
          case measure => simp [intOf]; omega
         ·skip
          have HPT := hid (show ptK s a b body els p = tblk (tkL true els) by unfold ptK; rw [if_neg (toList_ne g0), if_neg (toList_ne g1), if_neg (toList_ne g2), if_neg (toList_ne g3), if_pos (toList_is g4)])
          have HPM := hid (show mpK s a b body els p = 64 * St.wts els + 4 by unfold mpK; rw [if_neg (toList_ne g0), if_neg (toList_ne g1), if_neg (toList_ne g2), if_neg (toList_ne g3), if_pos (toList_is g4)])
          have c11 : W9.cell? ⟨d, 11, none⟩ = some (.slice A4 els.length p4) := BX9.out.cell 11 _ rfl
          go_wp2_with (go_at_call 57; refine (calls_hid (kblock_any els HE.out W9 S _ HS9.out RD9.out HF9.out (by omega))).mono ?_)
          rintro e' w4 hh
          obtain ⟨x, outp, rfl, ox, bx, tx, qx⟩ := hh.out
          clear hh OL c11
          obtain ⟨Ax, cx, rfl⟩ := ox.form
          have HTZ := hid (show tsz outp ≤ mpK s a b body els p by rw [HPM.out]; exact tx)
          have OZ := hid (show OwnT w4 w1.heap.size _ _ from OQ.out.keep Flat.keeps bx)
          have RZ := hid (ox.rd (by have := tsz_len outp; omega))
          have BZ := hid (BQ.out.trans (bx.mono hd9'))
          have hzz := Nat.le_trans hd9' bx.size
          have QX := hid qx
          clear qx
          clear ox bx tx OQ BQ
          cases hk4 : (tblk (tkL true els)).2
          ·have HFA := hid (show TT.2 = false from HMF.out (by rw [HPT.out]; exact hk4))
           go_wp2
           go_ret2
           exact ⟨_, [], by rw [HFA.out]; rfl, OwnL.nil _ _ _, by rw [HD.out]; exact (B0.out.trans (B1.out.mono hd0)).trans (BZ.out.mono hd1'), Nat.zero_le _, fun h => by rw [HFA.out] at h; cases h⟩
          ·have HOKP := hid (show (ptK s a b body els p).2 = true by rw [HPT.out]; exact hk4)
           have HEQ := hid (show outp = (ptK s a b body els p).1 by rw [HPT.out]; exact QX.out hk4)
           clear hk4
           have hlo := tsz_len outp
           have hsum : (seqT (M.take q)).1.length + outp.length ≤ 8589934592 := by have := HTZ.out; have := HN1.out; omega
           go_wp2_with (at_builtin; refine wpList_append_list rfl _ _ 37 rfl i0 _ Tryz.underlying37 hi hz0 hz1 hz2 rfl (by decide) Flat.keeps OZ.out (RZ.out.bare Nowhere) rfl rfl (Sub.nowhere _) (Sub.nowhere _) not_nowhere oneS ?c3 ?c4 ?c5 ?_)
           case c3 => (try simp only [List.length_cons, List.length_nil]); unfold maxLen; omega
           case c4 => (try simp only [List.length_cons, List.length_nil]); omega
           try (case c5 => exact hzz)
           intro v2 w2 ho hg hk2
           have HO2 := hid (show OwnT w2 w1.heap.size (seqT (M.take (q + 1))).1 v2 from by rw [HM.out]; show OwnT w2 w1.heap.size ((seqT (M.take q)).1 ++ (ptK s a b body els p).1) v2; rw [← HEQ.out]; exact ho)
           have HB2 := hid (BZ.out.grown hg hzz (fun g hg => (OZ.out.lt g hg).1))
           have HK2 := hid (show (seqT (M.take (q + 1))).2 = true by rw [HM.out]; show ((seqT (M.take q)).2 && (ptK s a b body els p).2) = true; rw [HK.out, HOKP.out]; rfl)
           have HT2 := hid (show tsz (seqT (M.take (q + 1))).1 ≤ (N.take (q + 1)).sum from by rw [HM.out, HN1.out]; show tsz ((seqT (M.take q)).1 ++ (ptK s a b body els p).1) ≤ _; rw [tsz_app, ← HEQ.out]; have := HTZ.out; omega)
           clear ho hg hk2 OZ RZ BZ hsum hlo
           go_wp2_with fail
           go_roundw
           case rel => exact ⟨q + 1, by omega, by go_num, HO2, HB2, HK2, HT2.out⟩
           case measure => simp [intOf]; omega
        ·skip
         have HPT := hid (show ptK s a b body els p = tblk (tkL true body) by unfold ptK; rw [if_neg (toList_ne g0), if_neg (toList_ne g1), if_neg (toList_ne g2), if_pos (toList_is g3)])
         have HPM := hid (show mpK s a b body els p = 64 * St.wts body + 4 by unfold mpK; rw [if_neg (toList_ne g0), if_neg (toList_ne g1), if_neg (toList_ne g2), if_pos (toList_is g3)])
         have c10 : W9.cell? ⟨d, 10, none⟩ = some (.slice A3 body.length p3) := BX9.out.cell 10 _ rfl
         go_wp2_with (go_at_call 57; refine (calls_hid (kblock_any body HB.out W9 S _ HS9.out RC9.out HF9.out (by omega))).mono ?_)
         rintro e' w4 hh
         obtain ⟨x, outp, rfl, ox, bx, tx, qx⟩ := hh.out
         clear hh OL c10
         obtain ⟨Ax, cx, rfl⟩ := ox.form
         have HTZ := hid (show tsz outp ≤ mpK s a b body els p by rw [HPM.out]; exact tx)
         have OZ := hid (show OwnT w4 w1.heap.size _ _ from OQ.out.keep Flat.keeps bx)
         have RZ := hid (ox.rd (by have := tsz_len outp; omega))
         have BZ := hid (BQ.out.trans (bx.mono hd9'))
         have hzz := Nat.le_trans hd9' bx.size
         have QX := hid qx
         clear qx
         clear ox bx tx OQ BQ
         cases hk4 : (tblk (tkL true body)).2
         ·have HFA := hid (show TT.2 = false from HMF.out (by rw [HPT.out]; exact hk4))
          go_wp2
          go_ret2
          exact ⟨_, [], by rw [HFA.out]; rfl, OwnL.nil _ _ _, by rw [HD.out]; exact (B0.out.trans (B1.out.mono hd0)).trans (BZ.out.mono hd1'), Nat.zero_le _, fun h => by rw [HFA.out] at h; cases h⟩
         ·have HOKP := hid (show (ptK s a b body els p).2 = true by rw [HPT.out]; exact hk4)
          have HEQ := hid (show outp = (ptK s a b body els p).1 by rw [HPT.out]; exact QX.out hk4)
          clear hk4
          have hlo := tsz_len outp
          have hsum : (seqT (M.take q)).1.length + outp.length ≤ 8589934592 := by have := HTZ.out; have := HN1.out; omega
          go_wp2_with (at_builtin; refine wpList_append_list rfl _ _ 37 rfl i0 _ Tryz.underlying37 hi hz0 hz1 hz2 rfl (by decide) Flat.keeps OZ.out (RZ.out.bare Nowhere) rfl rfl (Sub.nowhere _) (Sub.nowhere _) not_nowhere oneS ?c3 ?c4 ?c5 ?_)
          case c3 => (try simp only [List.length_cons, List.length_nil]); unfold maxLen; omega
          case c4 => (try simp only [List.length_cons, List.length_nil]); omega
          try (case c5 => exact hzz)
          intro v2 w2 ho hg hk2
          have HO2 := hid (show OwnT w2 w1.heap.size (seqT (M.take (q + 1))).1 v2 from by rw [HM.out]; show OwnT w2 w1.heap.size ((seqT (M.take q)).1 ++ (ptK s a b body els p).1) v2; rw [← HEQ.out]; exact ho)
          have HB2 := hid (BZ.out.grown hg hzz (fun g hg => (OZ.out.lt g hg).1))
          have HK2 := hid (show (seqT (M.take (q + 1))).2 = true by rw [HM.out]; show ((seqT (M.take q)).2 && (ptK s a b body els p).2) = true; rw [HK.out, HOKP.out]; rfl)
          have HT2 := hid (show tsz (seqT (M.take (q + 1))).1 ≤ (N.take (q + 1)).sum from by rw [HM.out, HN1.out]; show tsz ((seqT (M.take q)).1 ++ (ptK s a b body els p).1) ≤ _; rw [tsz_app, ← HEQ.out]; have := HTZ.out; omega)
          clear ho hg hk2 OZ RZ BZ hsum hlo
          go_wp2_with fail
          go_roundw
          case rel => exact ⟨q + 1, by omega, by go_num, HO2, HB2, HK2, HT2.out⟩
          case measure => simp [intOf]; omega
       ·skip
        have HPT := hid (show ptK s a b body els p = tkE true b false by unfold ptK; rw [if_neg (toList_ne g0), if_neg (toList_ne g1), if_pos (toList_is g2)])
        have HPM := hid (show mpK s a b body els p = 64 * b.wt by unfold mpK; rw [if_neg (toList_ne g0), if_neg (toList_ne g1), if_pos (toList_is g2)])
        have c6 : W9.cell? ⟨d, 6, none⟩ = some (.int .i64 k2) := BX9.out.cell 6 _ rfl
        have c7 : W9.cell? ⟨d, 7, none⟩ = some (.int .i64 n2) := BX9.out.cell 7 _ rfl
        have c8 : W9.cell? ⟨d, 8, none⟩ = some (.string s2) := BX9.out.cell 8 _ rfl
        have c9 : W9.cell? ⟨d, 9, none⟩ = some (.slice A2 m2 p2) := BX9.out.cell 9 _ rfl
        go_wp2_with (go_at_call 56; refine (calls_hid (kx_all b false W9 S _ HS9.out RB9.out HF9.out (by omega))).mono ?_)
        rintro e' w4 hh
        obtain ⟨x, rfl, ox, bx, tx⟩ := hh.out
        clear hh OL c6 c7 c8 c9
        obtain ⟨outp, hop⟩ : ∃ outp, outp = (tkE true b false).1 := ⟨_, rfl⟩
        rw [← hop] at ox tx
        have HEQ := hid (show outp = (ptK s a b body els p).1 by rw [HPT.out]; exact hop)
        clear hop
        obtain ⟨Ax, cx, rfl⟩ := ox.form
        have HTZ := hid (show tsz outp ≤ mpK s a b body els p by rw [HPM.out]; exact tx)
        have OZ := hid (show OwnT w4 w1.heap.size _ _ from OQ.out.keep Flat.keeps bx)
        have RZ := hid (ox.rd (by have := tsz_len outp; omega))
        have BZ := hid (BQ.out.trans (bx.mono hd9'))
        have hzz := Nat.le_trans hd9' bx.size
        clear ox bx tx OQ BQ
        cases hk4 : (tkE true b false).2
        ·have HFA := hid (show TT.2 = false from HMF.out (by rw [HPT.out]; exact hk4))
         go_wp2
         go_ret2
         exact ⟨_, [], by rw [HFA.out]; rfl, OwnL.nil _ _ _, by rw [HD.out]; exact (B0.out.trans (B1.out.mono hd0)).trans (BZ.out.mono hd1'), Nat.zero_le _, fun h => by rw [HFA.out] at h; cases h⟩
        ·have HOKP := hid (show (ptK s a b body els p).2 = true by rw [HPT.out]; exact hk4)
         clear hk4
         have hlo := tsz_len outp
         have hsum : (seqT (M.take q)).1.length + outp.length ≤ 8589934592 := by have := HTZ.out; have := HN1.out; omega
         go_wp2_with (at_builtin; refine wpList_append_list rfl _ _ 37 rfl i0 _ Tryz.underlying37 hi hz0 hz1 hz2 rfl (by decide) Flat.keeps OZ.out (RZ.out.bare Nowhere) rfl rfl (Sub.nowhere _) (Sub.nowhere _) not_nowhere oneS ?c3 ?c4 ?c5 ?_)
         case c3 => (try simp only [List.length_cons, List.length_nil]); unfold maxLen; omega
         case c4 => (try simp only [List.length_cons, List.length_nil]); omega
         try (case c5 => exact hzz)
         intro v2 w2 ho hg hk2
         have HO2 := hid (show OwnT w2 w1.heap.size (seqT (M.take (q + 1))).1 v2 from by rw [HM.out]; show OwnT w2 w1.heap.size ((seqT (M.take q)).1 ++ (ptK s a b body els p).1) v2; rw [← HEQ.out]; exact ho)
         have HB2 := hid (BZ.out.grown hg hzz (fun g hg => (OZ.out.lt g hg).1))
         have HK2 := hid (show (seqT (M.take (q + 1))).2 = true by rw [HM.out]; show ((seqT (M.take q)).2 && (ptK s a b body els p).2) = true; rw [HK.out, HOKP.out]; rfl)
         have HT2 := hid (show tsz (seqT (M.take (q + 1))).1 ≤ (N.take (q + 1)).sum from by rw [HM.out, HN1.out]; show tsz ((seqT (M.take q)).1 ++ (ptK s a b body els p).1) ≤ _; rw [tsz_app, ← HEQ.out]; have := HTZ.out; omega)
         clear ho hg hk2 OZ RZ BZ hsum hlo
         go_wp2_with fail
         go_roundw
         case rel => exact ⟨q + 1, by omega, by go_num, HO2, HB2, HK2, HT2.out⟩
         case measure => simp [intOf]; omega
      ·skip
       have HPT := hid (show ptK s a b body els p = tkE true a false by unfold ptK; rw [if_neg (toList_ne g0), if_pos (toList_is g1)])
       have HPM := hid (show mpK s a b body els p = 64 * a.wt by unfold mpK; rw [if_neg (toList_ne g0), if_pos (toList_is g1)])
       have c2 : W9.cell? ⟨d, 2, none⟩ = some (.int .i64 k1) := BX9.out.cell 2 _ rfl
       have c3 : W9.cell? ⟨d, 3, none⟩ = some (.int .i64 n1) := BX9.out.cell 3 _ rfl
       have c4 : W9.cell? ⟨d, 4, none⟩ = some (.string s1) := BX9.out.cell 4 _ rfl
       have c5 : W9.cell? ⟨d, 5, none⟩ = some (.slice A1 m1 p1) := BX9.out.cell 5 _ rfl
       go_wp2_with (go_at_call 56; refine (calls_hid (kx_all a false W9 S _ HS9.out RA9.out HF9.out (by omega))).mono ?_)
       rintro e' w4 hh
       obtain ⟨x, rfl, ox, bx, tx⟩ := hh.out
       clear hh OL c2 c3 c4 c5
       obtain ⟨outp, hop⟩ : ∃ outp, outp = (tkE true a false).1 := ⟨_, rfl⟩
       rw [← hop] at ox tx
       have HEQ := hid (show outp = (ptK s a b body els p).1 by rw [HPT.out]; exact hop)
       clear hop
       obtain ⟨Ax, cx, rfl⟩ := ox.form
       have HTZ := hid (show tsz outp ≤ mpK s a b body els p by rw [HPM.out]; exact tx)
       have OZ := hid (show OwnT w4 w1.heap.size _ _ from OQ.out.keep Flat.keeps bx)
       have RZ := hid (ox.rd (by have := tsz_len outp; omega))
       have BZ := hid (BQ.out.trans (bx.mono hd9'))
       have hzz := Nat.le_trans hd9' bx.size
       clear ox bx tx OQ BQ
       cases hk4 : (tkE true a false).2
       ·have HFA := hid (show TT.2 = false from HMF.out (by rw [HPT.out]; exact hk4))
        go_wp2
        go_ret2
        exact ⟨_, [], by rw [HFA.out]; rfl, OwnL.nil _ _ _, by rw [HD.out]; exact (B0.out.trans (B1.out.mono hd0)).trans (BZ.out.mono hd1'), Nat.zero_le _, fun h => by rw [HFA.out] at h; cases h⟩
       ·have HOKP := hid (show (ptK s a b body els p).2 = true by rw [HPT.out]; exact hk4)
        clear hk4
        have hlo := tsz_len outp
        have hsum : (seqT (M.take q)).1.length + outp.length ≤ 8589934592 := by have := HTZ.out; have := HN1.out; omega
        go_wp2_with (at_builtin; refine wpList_append_list rfl _ _ 37 rfl i0 _ Tryz.underlying37 hi hz0 hz1 hz2 rfl (by decide) Flat.keeps OZ.out (RZ.out.bare Nowhere) rfl rfl (Sub.nowhere _) (Sub.nowhere _) not_nowhere oneS ?c3 ?c4 ?c5 ?_)
        case c3 => (try simp only [List.length_cons, List.length_nil]); unfold maxLen; omega
        case c4 => (try simp only [List.length_cons, List.length_nil]); omega
        try (case c5 => exact hzz)
        intro v2 w2 ho hg hk2
        have HO2 := hid (show OwnT w2 w1.heap.size (seqT (M.take (q + 1))).1 v2 from by rw [HM.out]; show OwnT w2 w1.heap.size ((seqT (M.take q)).1 ++ (ptK s a b body els p).1) v2; rw [← HEQ.out]; exact ho)
        have HB2 := hid (BZ.out.grown hg hzz (fun g hg => (OZ.out.lt g hg).1))
        have HK2 := hid (show (seqT (M.take (q + 1))).2 = true by rw [HM.out]; show ((seqT (M.take q)).2 && (ptK s a b body els p).2) = true; rw [HK.out, HOKP.out]; rfl)
        have HT2 := hid (show tsz (seqT (M.take (q + 1))).1 ≤ (N.take (q + 1)).sum from by rw [HM.out, HN1.out]; show tsz ((seqT (M.take q)).1 ++ (ptK s a b body els p).1) ≤ _; rw [tsz_app, ← HEQ.out]; have := HTZ.out; omega)
        clear ho hg hk2 OZ RZ BZ hsum hlo
        go_wp2_with fail
        go_roundw
        case rel => exact ⟨q + 1, by omega, by go_num, HO2, HB2, HK2, HT2.out⟩
        case measure => simp [intOf]; omega
     ·skip
      have HPT := hid (show ptK s a b body els p = tname s by unfold ptK; rw [if_pos (toList_is g0)])
      have HPM := hid (show mpK s a b body els p = s.size + 1 by unfold mpK; rw [if_pos (toList_is g0)])
      clear OL
      have c1 : W9.cell? ⟨d, 1, none⟩ = some (.string s) := BX9.out.cell 1 _ rfl
      have hs1 : s.size ≤ 9223372036854775807 := by have := HSS.out; unfold okS at this; omega
      have HD9 := hid hd9
      go_upto_region 13 with (fail)
      refine wp_region_pre 6 (S := (fun w' => Stay W9 w')) (by kernel_rfl) (by kernel_rfl) (Stay.mk (Kept.start _)) (fun hHeld => ?_)
      simp only [List.take_succ_cons, List.take_zero]
      refine tkA 0 47 ?_
      refine tkA 1 48 ?_
      refine tkA 3 50 ?_
      refine tkA 4 51 ?_
      (try simp only [Act.put, List.setIfInBounds_toArray, List.set_cons_zero, List.set_cons_succ])
      refine wpAnyH_ready (rs := [2, 5]) (by kernel_rfl) (by simp) ?_
      refine AllReadyH.cons rfl (fun K hK => ?_) (AllReadyH.cons rfl (fun K hK => ?_) AllReadyH.nil)
      ·have hst1 := Stay.mk (Kept.alloc (Kept.here hHeld) (.cells #[.string s] 9))
       go_simp
       skip
       refine hK.out _ _ ?_ (fun hHeld => ?_)
       ·exact hst1
       clear hK K
       (try simp only [Act.put, List.setIfInBounds_toArray, List.set_cons_zero, List.set_cons_succ])
       refine wpAnyH_ready (rs := [5]) (by kernel_rfl) (by simp) ?_
       refine AllReadyH.cons rfl (fun K hK => ?_) AllReadyH.nil
       go_simp
       refine (kname_any s hs1 _).mono ?_
       rintro e' w4 ⟨rfl, hb1⟩
       have hst2 : Stay W9 w4 := Stay.step hb1 hst1
       refine hK.out _ _ ?_ (fun hHeld => ?_)
       ·exact hst2
       clear hK K
       (try simp only [Act.put, List.setIfInBounds_toArray, List.set_cons_zero, List.set_cons_succ])
       refine wpAnyH_done (by kernel_rfl) ?_ _
       unfold QPre
       simp only [List.drop_succ_cons, List.drop_zero]
       have RZ0 := hid (OwnT.rd (show OwnT w4 W9.heap.size [s] (.slice (some ⟨W9.heap.size, 0, none⟩) 1 1) from (OwnT.lit1 (w := W9.drew) (base := W9.heap.size) s HSS.out (Nat.le_refl _)).keep Flat.keeps hb1) (by show 1 * 16 ≤ _; decide))
       have hbf := Stay.below hst2
       obtain ⟨outp, hop⟩ : ∃ outp : List Str, outp = [s] := ⟨_, rfl⟩
       have OZ := hid (show OwnT w4 w1.heap.size _ _ from OQ.out.keep Flat.keeps hbf)
       have BZ := hid (BQ.out.trans (hbf.mono hd9'))
       have hzz := Nat.le_trans hd9' hbf.size
       have HEQ := hid (show outp = (ptK s a b body els p).1 by rw [HPT.out, hop]; rfl)
       have HTZ := hid (show tsz outp ≤ mpK s a b body els p by rw [HPM.out, hop, tsz_one]; exact Nat.le_refl _)
       have RZ := hid (show RdSs w4 _ outp (.slice (some ⟨W9.heap.size, 0, none⟩) 1 1) by rw [hop]; exact RZ0.out)
       have hop1 : outp.length = 1 := by rw [hop]; rfl
       clear hop hst1 hst2 hHeld hbf c1 RZ0 hb1 OQ BQ
       cases hk4 : knameB s
       ·have HFA := hid (show TT.2 = false from HMF.out (by rw [HPT.out]; exact hk4))
        go_wp2
        go_ret2
        exact ⟨_, [], by rw [HFA.out]; rfl, OwnL.nil _ _ _, by rw [HD.out]; exact (B0.out.trans (B1.out.mono hd0)).trans (BZ.out.mono hd1'), Nat.zero_le _, fun h => by rw [HFA.out] at h; cases h⟩
       ·have HOKP := hid (show (ptK s a b body els p).2 = true by rw [HPT.out]; exact hk4)
        clear hk4
        have hlo := tsz_len outp
        have hsum : (seqT (M.take q)).1.length + outp.length ≤ 8589934592 := by have := HTZ.out; have := HN1.out; omega
        go_wp2_with (at_builtin; refine wpList_append_list rfl _ _ 37 rfl i0 _ Tryz.underlying37 hi hz0 hz1 hz2 rfl (by decide) Flat.keeps OZ.out (RZ.out.bare Nowhere) rfl rfl (Sub.nowhere _) (Sub.nowhere _) not_nowhere oneS ?c3 ?c4 ?c5 ?_)
        case c3 => (try simp only [List.length_cons, List.length_nil]); unfold maxLen; omega
        case c4 => (try simp only [List.length_cons, List.length_nil]); omega
        try (case c5 => exact hzz)
        intro v2 w2 ho hg hk2
        have HO2 := hid (show OwnT w2 w1.heap.size (seqT (M.take (q + 1))).1 v2 from by rw [HM.out]; show OwnT w2 w1.heap.size ((seqT (M.take q)).1 ++ (ptK s a b body els p).1) v2; rw [← HEQ.out]; exact ho)
        have HB2 := hid (BZ.out.grown hg hzz (fun g hg => (OZ.out.lt g hg).1))
        have HK2 := hid (show (seqT (M.take (q + 1))).2 = true by rw [HM.out]; show ((seqT (M.take q)).2 && (ptK s a b body els p).2) = true; rw [HK.out, HOKP.out]; rfl)
        have HT2 := hid (show tsz (seqT (M.take (q + 1))).1 ≤ (N.take (q + 1)).sum from by rw [HM.out, HN1.out]; show tsz ((seqT (M.take q)).1 ++ (ptK s a b body els p).1) ≤ _; rw [tsz_app, ← HEQ.out]; have := HTZ.out; omega)
        clear ho hg hk2 OZ RZ BZ hsum hlo
        go_wp2_with fail
        go_roundw
        case rel => exact ⟨q + 1, by omega, by go_num, HO2, HB2, HK2, HT2.out⟩
        case measure => simp [intOf]; omega
      ·go_simp
       refine (kname_any s hs1 _).mono ?_
       rintro e' w4 ⟨rfl, hb1⟩
       have hst1 : Stay W9 w4 := Stay.step hb1 hHeld
       refine hK.out _ _ ?_ (fun hHeld => ?_)
       ·exact hst1
       clear hK K
       (try simp only [Act.put, List.setIfInBounds_toArray, List.set_cons_zero, List.set_cons_succ])
       have hst2 := Stay.mk (Kept.alloc (Kept.here hst1) (.cells #[.string s] 9))
       refine wpAnyH_ready (rs := [2]) (by kernel_rfl) (by simp) ?_
       refine AllReadyH.cons rfl (fun K hK => ?_) AllReadyH.nil
       go_simp
       skip
       refine hK.out _ _ ?_ (fun hHeld => ?_)
       ·exact hst2
       clear hK K
       (try simp only [Act.put, List.setIfInBounds_toArray, List.set_cons_zero, List.set_cons_succ])
       refine wpAnyH_done (by kernel_rfl) ?_ _
       unfold QPre
       simp only [List.drop_succ_cons, List.drop_zero]
       have RZ0 := hid (OwnT.rd (OwnT.lit1 (w := w4) (base := w4.heap.size) s HSS.out (Nat.le_refl _)) (by show 1 * 16 ≤ _; decide))
       have hbf := Stay.below hst2
       obtain ⟨outp, hop⟩ : ∃ outp : List Str, outp = [s] := ⟨_, rfl⟩
       have OZ := hid (show OwnT (w4.alloc (.cells #[.string s] 9)) w1.heap.size _ _ from OQ.out.keep Flat.keeps hbf)
       have BZ := hid (BQ.out.trans (hbf.mono hd9'))
       have hzz := Nat.le_trans hd9' hbf.size
       have HEQ := hid (show outp = (ptK s a b body els p).1 by rw [HPT.out, hop]; rfl)
       have HTZ := hid (show tsz outp ≤ mpK s a b body els p by rw [HPM.out, hop, tsz_one]; exact Nat.le_refl _)
       have RZ := hid (show RdSs (w4.alloc (.cells #[.string s] 9)) _ outp (.slice (some ⟨w4.heap.size, 0, none⟩) 1 1) by rw [hop]; exact RZ0.out)
       have hop1 : outp.length = 1 := by rw [hop]; rfl
       clear hop hst1 hst2 hHeld hbf c1 RZ0 hb1 OQ BQ
       generalize (w4.alloc (.cells #[.string s] 9)) = W5 at *
       cases hk4 : knameB s
       ·have HFA := hid (show TT.2 = false from HMF.out (by rw [HPT.out]; exact hk4))
        go_wp2
        go_ret2
        exact ⟨_, [], by rw [HFA.out]; rfl, OwnL.nil _ _ _, by rw [HD.out]; exact (B0.out.trans (B1.out.mono hd0)).trans (BZ.out.mono hd1'), Nat.zero_le _, fun h => by rw [HFA.out] at h; cases h⟩
       ·have HOKP := hid (show (ptK s a b body els p).2 = true by rw [HPT.out]; exact hk4)
        clear hk4
        have hlo := tsz_len outp
        have hsum : (seqT (M.take q)).1.length + outp.length ≤ 8589934592 := by have := HTZ.out; have := HN1.out; omega
        go_wp2_with (at_builtin; refine wpList_append_list rfl _ _ 37 rfl i0 _ Tryz.underlying37 hi hz0 hz1 hz2 rfl (by decide) Flat.keeps OZ.out (RZ.out.bare Nowhere) rfl rfl (Sub.nowhere _) (Sub.nowhere _) not_nowhere oneS ?c3 ?c4 ?c5 ?_)
        case c3 => (try simp only [List.length_cons, List.length_nil]); unfold maxLen; omega
        case c4 => (try simp only [List.length_cons, List.length_nil]); omega
        try (case c5 => exact hzz)
        intro v2 w2 ho hg hk2
        have HO2 := hid (show OwnT w2 w1.heap.size (seqT (M.take (q + 1))).1 v2 from by rw [HM.out]; show OwnT w2 w1.heap.size ((seqT (M.take q)).1 ++ (ptK s a b body els p).1) v2; rw [← HEQ.out]; exact ho)
        have HB2 := hid (BZ.out.grown hg hzz (fun g hg => (OZ.out.lt g hg).1))
        have HK2 := hid (show (seqT (M.take (q + 1))).2 = true by rw [HM.out]; show ((seqT (M.take q)).2 && (ptK s a b body els p).2) = true; rw [HK.out, HOKP.out]; rfl)
        have HT2 := hid (show tsz (seqT (M.take (q + 1))).1 ≤ (N.take (q + 1)).sum from by rw [HM.out, HN1.out]; show tsz ((seqT (M.take q)).1 ++ (ptK s a b body els p).1) ≤ _; rw [tsz_app, ← HEQ.out]; have := HTZ.out; omega)
        clear ho hg hk2 OZ RZ BZ hsum hlo
        go_wp2_with fail
        go_roundw
        case rel => exact ⟨q + 1, by omega, by go_num, HO2, HB2, HK2, HT2.out⟩
        case measure => simp [intOf]; omega
    ·have hql : q = P.length := by omega
     have h1 : M.take q = M := List.take_of_length_le (by omega)
     have h2 : N.take q = N := List.take_of_length_le (by omega)
     rw [h1] at HO HK hts
     rw [h2] at hts
     obtain ⟨A9, c9, rfl⟩ := HO.out.form
     have hsu := HSU.out
     subst hql
     clear h1 h2
     go_wp2
     go_ret2
     exact ⟨_, _, by rw [HTS.out, HK.out]; rfl, by rw [HD.out]; exact OwnT.rebase HO.out (by omega), by rw [HD.out]; exact (B0.out.trans (B1.out.mono hd0)).trans (HBq.out.mono (by omega)), Nat.le_trans hts hsu, fun _ => by rw [HTS.out]⟩
 ·--<out
  have HN := hid (show TT.2 = false by rw [HTT.out, tkS]; unfold partsK; rw [if_neg (show ¬ k = 1 by omega), if_neg (show ¬ k = 2 by omega), if_neg (show ¬ k = 3 by omega), if_neg (show ¬ k = 4 by omega), if_neg (show ¬ k = 5 by omega), if_neg (show ¬ k = 6 by omega), if_neg (show ¬ k = 7 by omega)]; rfl)
  clear hbl ra rb rc rd hF hS hbody hels he
  by_cases h1 : k < 1
  ·go_enter Tryz.func32, Tryz.ntmps32
   go_wp2
   go_ret2
   exact ⟨_, [], by rw [HN.out]; rfl, OwnL.nil _ _ _, B0.out, Nat.zero_le _, fun h => by rw [HN.out] at h; cases h⟩
  ·have h7 : 7 < k := by omega
   go_enter Tryz.func32, Tryz.ntmps32
   go_wp2
   go_ret2
   exact ⟨_, [], by rw [HN.out]; rfl, OwnL.nil _ _ _, B0.out, Nat.zero_le _, fun h => by rw [HN.out] at h; cases h⟩
end Go.Proofs.YtnpgpcnkdocknaaGreatDoor
