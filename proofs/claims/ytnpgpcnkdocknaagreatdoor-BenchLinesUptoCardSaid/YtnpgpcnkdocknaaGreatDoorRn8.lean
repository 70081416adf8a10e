/- The walk of the renamer's stmts. -/
import Derived.Test.YtnpgpcnkdocknaaGreatDoorRn7
import Derived.BigRegion
namespace Go.Proofs.YtnpgpcnkdocknaaGreatDoor
open Go.RowKit
set_option linter.unusedVariables false
theorem mapcons1 {s t : Str} {E : Env} : (((s, t) :: E).map (·.1)).reverse = (E.map (·.1)).reverse ++ [s] := by simp
theorem mapcons2 {s t : Str} {E : Env} : (((s, t) :: E).map (·.2)).reverse = (E.map (·.2)).reverse ++ [t] := by simp
theorem okS_noS : okS noS := by unfold okS; decide
set_option maxHeartbeats 8000000 in
set_option maxRecDepth 100000 in
theorem rst_one (l : List St) (h : ∀ k s a b body els, St.mk k s a b body els ∈ l → RSs body ∧ RSs els) : RSs l := by
 intro base z m w S V vo vn v hg hT hm hbs hS r h1 h2 h3
 obtain ⟨i0, hi, hz0, hz1', hz2⟩ := info_parts infoSt
 obtain ⟨A, cap, rfl, hl, hcm, hby⟩ := r.form
 unfold maxLen at hcm
 have H := hid h
 have R := hid r
 have HS := hid hS
 have HM := hid (show Two base z w vo vn w (V.map (·.1)).reverse (V.map (·.2)).reverse vo vn vo vn (m : Int) from hm)
 have HPW := hid (show ∀ w', But (RT z vo vn) w w' → PowT w' from fun w' hb => hT.below (hb.below hbs (fun k hk => (HM.out.lts k hk).1)) hg)
 clear h r hS hm hT
 go_enter Tryz.func27, Tryz.ntmps27
 go_wp2_with fail
 go_loopw [5, 12] (fun t5 t12 wr => ∃ q : Nat, q ≤ l.length ∧ t12 = .int .i64 q ∧ ∃ vo' vn', Hid (Two base z w vo vn wr ((renP (l.take q) V m).2.1.map (·.1)).reverse ((renP (l.take q) V m).2.1.map (·.2)).reverse vo' vn' vo' vn' (((renP (l.take q) V m).2.2 : Nat) : Int)) ∧ Hid (OutG w.heap.size wr.heap.size vo' vn' wr (renP (l.take q) V m).1 t5)) (fun _ t12 _ => l.length - (intOf t12).toNat)
 case atStart => exact ⟨0, by omega, rfl, vo, vn, hid (by rw [List.take_zero, renP_nil]; exact HM.out), hid (by rw [List.take_zero, renP_nil]; exact OutG.nil _ _ _ _)⟩
 case round =>
  obtain ⟨q, hq, rfl, vo', vn', HK, HO⟩ := hrel
  by_cases hlt : q < l.length
  ·have hsame : Same S w wr := HK.out.but.same (HS.out.trans (Sub.upto hbs)) (fun k hk ht => by have := (HM.out.lts k ht).1; have := HS.out k hk; unfold Upto at this; omega)
   obtain ⟨b0, off, cs, rfl, hb, hcl, hcell, hrd⟩ := (R.out.keep RdSt.keeps (Sub.refl _) hsame).at_ hlt
   have hb : b0 < base := HS.out _ hb
   have hwr : w.heap.size ≤ wr.heap.size := HK.out.but.size
   have hb0 : b0 < wr.heap.size := by omega
   have hmem := List.getElem_mem hlt
   have htk : l.take (q + 1) = l.take q ++ [l[q]] := by rw [List.take_succ_eq_append_getElem hlt]
   have hwq := wts_take l hlt
   obtain ⟨st, hst⟩ : ∃ st, l[q] = st := ⟨_, rfl⟩
   rw [hst] at hrd hmem htk hwq
   obtain ⟨k, s, a, b, body, els⟩ := st
   obtain ⟨k1, n1, s1, A1, m1, p1, k2, n2, s2, A2, m2, p2, A3, p3, A4, p4, rfl, hk, hs, ra, rb, rv, rv'⟩ := hrd.cells
   have e0 : wr.cell? ⟨b0, off + q * 12, none⟩ = some _ := hcell 0 _ rfl
   have e1 : wr.cell? ⟨b0, off + q * 12 + 1, none⟩ = some _ := hcell 1 _ rfl; have e2 : wr.cell? ⟨b0, off + q * 12 + 2, none⟩ = some _ := hcell 2 _ rfl; have e3 : wr.cell? ⟨b0, off + q * 12 + 3, none⟩ = some _ := hcell 3 _ rfl; have e4 : wr.cell? ⟨b0, off + q * 12 + 4, none⟩ = some _ := hcell 4 _ rfl; have e5 : wr.cell? ⟨b0, off + q * 12 + 5, none⟩ = some _ := hcell 5 _ rfl; have e6 : wr.cell? ⟨b0, off + q * 12 + 6, none⟩ = some _ := hcell 6 _ rfl; have e7 : wr.cell? ⟨b0, off + q * 12 + 7, none⟩ = some _ := hcell 7 _ rfl; have e8 : wr.cell? ⟨b0, off + q * 12 + 8, none⟩ = some _ := hcell 8 _ rfl; have e9 : wr.cell? ⟨b0, off + q * 12 + 9, none⟩ = some _ := hcell 9 _ rfl; have e10 : wr.cell? ⟨b0, off + q * 12 + 10, none⟩ = some _ := hcell 10 _ rfl; have e11 : wr.cell? ⟨b0, off + q * 12 + 11, none⟩ = some _ := hcell 11 _ rfl
   obtain ⟨X, hX, hXl⟩ := renP_env V m _ (l.take q) rfl
   have hOl := renP_len V m (l.take q)
   have hMl := renL_le (l.take q) V m
   rw [← (renP_L (l.take q) V m).2] at hMl
   have htl : (l.take q).length = q := by simp; omega
   have hqw : q ≤ St.wts (l.take q) := by have := len_wts (l.take q); omega
   have hEl0 : ((renP (l.take q) V m).2.1).length ≤ V.length + St.wts (l.take q) := by rw [hX, List.length_append]; omega
   rw [St.wt] at hwq
   obtain ⟨⟨O1, E1, M1⟩, hP⟩ : ∃ x, x = renP (l.take q) V m := ⟨_, rfl⟩
   rw [← hP] at HK HO hOl hMl hEl0
   dsimp only at HK HO hOl hMl hEl0
   have HOKs := hid (show okS s from hs)
   have HIB := hid (H.out _ _ _ _ _ _ hmem)
   have hx1 : a.wt ≤ 67108864 := by omega
   have hEl : E1.length ≤ 1073741000 := by omega
   have hEy : E1.length + 1 + St.wts body + St.wts els ≤ 1073741000 := by omega
   have hMy0 : M1 + 1 + St.wts body + St.wts els ≤ 1073741824 := by omega
   have hby1 : St.wts body ≤ 67108864 := by omega
   have hby2 : St.wts els ≤ 67108864 := by omega
   have hO1l : O1.length ≤ 67108864 := by omega
   have rva : RdE wr S a (exV k1 n1 s1 (.slice A1 m1 p1)) := RdEx.toE ra
   have rvb : RdE wr S b (exV k2 n2 s2 (.slice A2 m2 p2)) := RdEx.toE rb
   have hbel1 : Below wr.heap.size wr (wr.alloc (.cells #[.int .i64 k, .string s, .int .i64 k1, .int .i64 n1, .string s1, .slice A1 m1 p1, .int .i64 k2, .int .i64 n2, .string s2, .slice A2 m2 p2, .slice A3 body.length p3, .slice A4 els.length p4] 82)) := (Below.refl _ _).alloc (Nat.le_refl _) _
   have hbel : Below wr.heap.size wr (((wr.alloc (.cells #[.int .i64 k, .string s, .int .i64 k1, .int .i64 n1, .string s1, .slice A1 m1 p1, .int .i64 k2, .int .i64 n2, .string s2, .slice A2 m2 p2, .slice A3 body.length p3, .slice A4 els.length p4] 82))).alloc (.cells #[.int .i64 k, .string ⟨#[]⟩, .int .i64 0, .int .i64 0, .string ⟨#[]⟩, .slice none 0 0, .int .i64 0, .int .i64 0, .string ⟨#[]⟩, .slice none 0 0, .slice none 0 0, .slice none 0 0] 82)) := hbel1.alloc (by simp) _
   have hsu : Sub S (Upto wr.heap.size) := HS.out.trans (Sub.upto (Nat.le_trans hbs hwr))
   have hrw : RS base z wr.heap.size (wr.heap.size + 1) wr.heap.size S w vo vn a b (exV k1 n1 s1 (.slice A1 m1 p1)) (exV k2 n2 s2 (.slice A2 m2 p2)) body els (.slice A3 body.length p3) (.slice A4 els.length p4) [.int .i64 k, .string s, .int .i64 k1, .int .i64 n1, .string s1, .slice A1 m1 p1, .int .i64 k2, .int .i64 n2, .string s2, .slice A2 m2 p2, .slice A3 body.length p3, .slice A4 els.length p4] O1 u5 (((wr.alloc (.cells #[.int .i64 k, .string s, .int .i64 k1, .int .i64 n1, .string s1, .slice A1 m1 p1, .int .i64 k2, .int .i64 n2, .string s2, .slice A2 m2 p2, .slice A3 body.length p3, .slice A4 els.length p4] 82))).alloc (.cells #[.int .i64 k, .string ⟨#[]⟩, .int .i64 0, .int .i64 0, .string ⟨#[]⟩, .slice none 0 0, .int .i64 0, .int .i64 0, .string ⟨#[]⟩, .slice none 0 0, .slice none 0 0, .slice none 0 0] 82)) (E1.map (·.1)).reverse (E1.map (·.2)).reverse vo' vn' (M1 : Int) [.int .i64 k, .string noS, .int .i64 0, .int .i64 0, .string noS, .slice none 0 0, .int .i64 0, .int .i64 0, .string noS, .slice none 0 0, .slice none 0 0, .slice none 0 0] :=
    ⟨HK.out.below hbel, HO.out.below (Nat.le_refl _) hbel, ⟨(Blk.made wr _ 82 (Nat.le_trans hbs hwr)).below ((Below.refl _ _).alloc (Nat.le_refl _) _), rva.go hbel hsu, rvb.go hbel hsu, rv.go RdSt.keeps hbel hsu (Sub.refl _), rv'.go RdSt.keeps hbel hsu (Sub.refl _)⟩, (by have hy := Blk.made (wr.alloc (.cells #[.int .i64 k, .string s, .int .i64 k1, .int .i64 n1, .string s1, .slice A1 m1 p1, .int .i64 k2, .int .i64 n2, .string s2, .slice A2 m2 p2, .slice A3 body.length p3, .slice A4 els.length p4] 82)) [.int .i64 k, .string noS, .int .i64 0, .int .i64 0, .string noS, .slice none 0 0, .int .i64 0, .int .i64 0, .string noS, .slice none 0 0, .slice none 0 0, .slice none 0 0] 82 (base := base) (Nat.le_trans (Nat.le_trans hbs hwr) hbel1.size); rw [World.size_alloc] at hy; exact hy), Nat.lt_succ_self _, Nat.le_refl _, hwr, hbs, HS.out, fun i hi => by have := (HK.out.lts i hi).2; exact ⟨by omega, by omega⟩⟩
   have hzwl : z < w.heap.size := HM.out.bl.lt
   go_upto_region 6 with (fail)
   clear e0 e1 e2 e3 e4 e5 e6 e7 e8 e9 e10 e11 hcell hrd hcl ra rb rv rv' rva rvb hsame hbel hbel1 hsu hmem hb hb0
   have hWz : ((((wr.alloc (.cells #[.int .i64 k, .string s, .int .i64 k1, .int .i64 n1, .string s1, .slice A1 m1 p1, .int .i64 k2, .int .i64 n2, .string s2, .slice A2 m2 p2, .slice A3 body.length p3, .slice A4 els.length p4] 82))).alloc (.cells #[.int .i64 k, .string ⟨#[]⟩, .int .i64 0, .int .i64 0, .string ⟨#[]⟩, .slice none 0 0, .int .i64 0, .int .i64 0, .string ⟨#[]⟩, .slice none 0 0, .slice none 0 0, .slice none 0 0] 82))).heap.size = wr.heap.size + 1 + 1 := by simp
   generalize (((wr.alloc (.cells #[.int .i64 k, .string s, .int .i64 k1, .int .i64 n1, .string s1, .slice A1 m1 p1, .int .i64 k2, .int .i64 n2, .string s2, .slice A2 m2 p2, .slice A3 body.length p3, .slice A4 els.length p4] 82))).alloc (.cells #[.int .i64 k, .string ⟨#[]⟩, .int .i64 0, .int .i64 0, .string ⟨#[]⟩, .slice none 0 0, .int .i64 0, .int .i64 0, .string ⟨#[]⟩, .slice none 0 0, .slice none 0 0, .slice none 0 0] 82)) = W at *
   obtain ⟨d, hd⟩ : ∃ d, d = wr.heap.size := ⟨_, rfl⟩
   rw [← hd] at hrw
   rw [← hd]
   obtain ⟨y, hy⟩ : ∃ y, y = d + 1 := ⟨_, rfl⟩
   rw [← hy] at hrw
   rw [← hy]
   obtain ⟨M, hM⟩ : ∃ M, M = d := ⟨_, rfl⟩
   have HR0 := hid (show RS base z d y M S w vo vn a b _ _ body els _ _ _ O1 u5 W _ _ vo' vn' _ _ from by rw [hM]; exact hrw)
   have hMy : M ≤ y := by omega
   have hMd : M ≤ d := by omega
   have hdy : d < y := by omega
   have hne : d ≠ y := by omega
   have hne' : y ≠ d := by omega
   have hyW : y + 1 ≤ W.heap.size := by omega
   have hyy : y < y + 1 := by omega
   have hzy : z < y + 1 := by omega
   have hwM : w.heap.size ≤ M := by omega
   have hzd : z ≠ d := by omega
   have hzy2 : z ≠ y := by omega
   have c0 := hrw.rn.bd.cell 0 _ rfl
   have HP := hid hP
   have hld0 := hrw.rn.bd.lt
   clear hrw HK HO hd hy hWz hwr hX hXl hM
   by_cases h1 : k = 1
   ·subst h1
    have HE := hid (show renP (l.take (q + 1)) V m = (O1 ++ [.mk 1 (vN M1) (renE E1 a) exZ [] []], (s, vN M1) :: E1, M1 + 1) by rw [htk, renP_snoc, ← hP, stepR, renS_let (.inl rfl)])
    have c2 := HR0.out.rn.bd.cell 2 _ rfl
    have c3 := HR0.out.rn.bd.cell 3 _ rfl
    have c4 := HR0.out.rn.bd.cell 4 _ rfl
    have c5 := HR0.out.rn.bd.cell 5 _ rfl
    have c1 := HR0.out.rn.bd.cell 1 _ rfl
    have e2 := HR0.out.yb.cell 2 _ rfl
    have e3 := HR0.out.yb.cell 3 _ rfl
    have e4 := HR0.out.yb.cell 4 _ rfl
    have e5 := HR0.out.yb.cell 5 _ rfl
    have g2 := HR0.out.yb.fr 2
    have g3 := HR0.out.yb.fr 3
    have g4 := HR0.out.yb.fr 4
    have g5 := HR0.out.yb.fr 5
    have hld := HR0.out.rn.bd.lt
    have hly := HR0.out.yb.lt
    go_wp2_with fail
    refine (rx_all E1 a base z M1 W S _ vo' vn' HR0.out.tw.now (Nat.le_trans hbs HR0.out.tw.but.size) hEl (HS.out.trans (Sub.upto (Nat.le_trans hbs HR0.out.tw.but.size))) HR0.out.rn.ra).mono ?_
    rintro e w1 ⟨U1, rfl, hu1, hb1⟩
    have HR1 := hid (HR0.out.below hb1)
    have X1 : ExR (y + 1) vo' vn' w1 (renE E1 a) U1 := ⟨_, Nw.fresh HR0.out.tw (Nat.le_refl _) hyW _, hu1⟩
    obtain ⟨A5, n5, rfl⟩ := X1.form
    clear hu1 hb1
    clear hld hly c2 c3 c4 c5 c1 e2 e3 e4 e5 g2 g3 g4 g5
    have c1 := HR1.out.rn.bd.cell 1 _ rfl
    have e2 := HR1.out.yb.cell 2 _ rfl
    have e3 := HR1.out.yb.cell 3 _ rfl
    have e4 := HR1.out.yb.cell 4 _ rfl
    have e5 := HR1.out.yb.cell 5 _ rfl
    have g2 := HR1.out.yb.fr 2
    have g3 := HR1.out.yb.fr 3
    have g4 := HR1.out.yb.fr 4
    have g5 := HR1.out.yb.fr 5
    have hld := HR1.out.rn.bd.lt
    have hly := HR1.out.yb.lt
    have HR2 := hid (HR1.out.setA _ _ _ _ : RS base z d y M S w vo vn a b _ _ body els _ _ _ O1 u5 _ _ _ vo' vn' _ [.int .i64 1, .string noS, .int .i64 (renE E1 a).kind, .int .i64 (renE E1 a).num, .string (renE E1 a).name, .slice A5 (renE E1 a).args.length n5, .int .i64 0, .int .i64 0, .string noS, .slice none 0 0, .slice none 0 0, .slice none 0 0])
    have X2 := hid (X1.setA hyy 2 (.int .i64 (renE E1 a).kind) (.int .i64 (renE E1 a).num) (.string (renE E1 a).name) (.slice A5 (renE E1 a).args.length n5))
    clear X1
    go_wp2_with fail
    clear hld hly c1 e2 e3 e4 e5 g2 g3 g4 g5
    generalize ((((w1.setCell ⟨y, 2, none⟩ (.int .i64 (renE E1 a).kind)).setCell ⟨y, 3, none⟩ (.int .i64 (renE E1 a).num)).setCell ⟨y, 4, none⟩ (.string (renE E1 a).name)).setCell ⟨y, 5, none⟩ (.slice A5 (renE E1 a).args.length n5)) = W2 at *
    refine (bind_any base z W2 E1 M1 vo' vn' s HOKs.out (HPW.out _ HR2.out.tw.but) HR2.out.tw.now (Nat.le_trans hbs HR2.out.tw.but.size) (by omega) (by omega)).mono ?_
    rintro e w3 ⟨rfl, vo2, vn2, ht3⟩
    have HR3 := hid (HR2.out.step ht3)
    have X3 := X2.out.step hzy ht3
    clear ht3 X2
    have e1 := HR3.out.yb.cell 1 _ rfl
    have g1 := HR3.out.yb.fr 1
    have hld := HR3.out.rn.bd.lt
    have hly := HR3.out.yb.lt
    have HR4 := hid (HR3.out.setN (.string (vN M1)))
    have X4 := X3.set hyy (o := 1) (.string (vN M1))
    clear X3
    go_upto_region 24 with (fail)
    clear hld hly  e1 g1
    generalize w3.setCell ⟨y, 1, none⟩ (.string (vN M1)) = W4 at *
    rw [← mapcons1 (t := vN M1), ← mapcons2 (s := s)] at HR4
    have e0 := HR4.out.yb.cell 0 _ rfl
    have e1 := HR4.out.yb.cell 1 _ rfl
    have e2 := HR4.out.yb.cell 2 _ rfl
    have e3 := HR4.out.yb.cell 3 _ rfl
    have e4 := HR4.out.yb.cell 4 _ rfl
    have e5 := HR4.out.yb.cell 5 _ rfl
    have e6 := HR4.out.yb.cell 6 _ rfl
    have e7 := HR4.out.yb.cell 7 _ rfl
    have e8 := HR4.out.yb.cell 8 _ rfl
    have e9 := HR4.out.yb.cell 9 _ rfl
    have e10 := HR4.out.yb.cell 10 _ rfl
    have e11 := HR4.out.yb.cell 11 _ rfl
    have g0 := HR4.out.yb.fr 0
    have g1 := HR4.out.yb.fr 1
    have g2 := HR4.out.yb.fr 2
    have g3 := HR4.out.yb.fr 3
    have g4 := HR4.out.yb.fr 4
    have g5 := HR4.out.yb.fr 5
    have g6 := HR4.out.yb.fr 6
    have g7 := HR4.out.yb.fr 7
    have g8 := HR4.out.yb.fr 8
    have g9 := HR4.out.yb.fr 9
    have g10 := HR4.out.yb.fr 10
    have g11 := HR4.out.yb.fr 11
    have hld := HR4.out.rn.bd.lt
    have hly := HR4.out.yb.lt
    have TL := hid (show Tld (y + 1) vo2 vn2 W4 (.mk 1 (vN M1) (renE E1 a) exZ [] []) [.int .i64 1, .string (vN M1), .int .i64 (renE E1 a).kind, .int .i64 (renE E1 a).num, .string (renE E1 a).name, .slice A5 (renE E1 a).args.length n5, .int .i64 0, .int .i64 0, .string noS, .slice none 0 0, .slice none 0 0, .slice none 0 0] from Tld.mk4 hk (by have := vN_size M1 (by omega); unfold okS; omega) X4 (ExR.zero _ _ _ _) (StR.nil _ _ _ _) (StR.nil _ _ _ _))
    have bel : Below W4.heap.size W4 (W4.alloc (.cells #[.int .i64 1, .string (vN M1), .int .i64 (renE E1 a).kind, .int .i64 (renE E1 a).num, .string (renE E1 a).name, .slice A5 (renE E1 a).args.length n5, .int .i64 0, .int .i64 0, .string noS, .slice none 0 0, .slice none 0 0, .slice none 0 0] 82)) := (Below.refl _ _).alloc (Nat.le_refl _) _
    obtain ⟨T9, nT9, rT9⟩ := TL.out.rd
    obtain ⟨T0, n10, nv0, ro0⟩ := HR4.out.og
    have hyw : y + 1 ≤ W4.heap.size := hly
    have hMW : M ≤ W4.heap.size := Nat.le_trans hMy (Nat.le_of_lt hly)
    have HOW := hid ((ro0.keep RdSt.keeps bel).sub (Sub.left T0 T9))
    have HXW := hid (rdG_one (bytes := 184) (size := 12) (rd := fun w' _ e cs => RdSt w' T9 e cs) (S := Is W4.heap.size) (g := W4.heap.size) rfl (Blk.made W4 [.int .i64 1, .string (vN M1), .int .i64 (renE E1 a).kind, .int .i64 (renE E1 a).num, .string (renE E1 a).name, .slice A5 (renE E1 a).args.length n5, .int .i64 0, .int .i64 0, .string noS, .slice none 0 0, .slice none 0 0, .slice none 0 0] 82 (base := 0) (Nat.zero_le _)).cell (RdSt.keeps _ _ _ _ _ _ (Sub.refl _) (same_of_below bel (nT9.upto (Nat.le_refl _))) rT9) rfl (by decide))
    have HU2 := hid (show Sub T9 (Upto (W4.alloc (.cells #[.int .i64 1, .string (vN M1), .int .i64 (renE E1 a).kind, .int .i64 (renE E1 a).num, .string (renE E1 a).name, .slice A5 (renE E1 a).args.length n5, .int .i64 0, .int .i64 0, .string noS, .slice none 0 0, .slice none 0 0, .slice none 0 0] 82)).heap.size) from (nT9.upto (Nat.le_refl _)).trans (Sub.upto bel.size))
    have HU3 := hid (show ∀ k, u5.ownBlock = some k → ¬ T9 k from fun k hk h9 => by have h1 := (nv0 k hk).2.1; have h2 := (nT9 k h9).1; omega)
    have HTW := hid (HR4.out.tw.below bel)
    have HN0 := hid (n10.up (Nat.le_trans hMW bel.size))
    have HN1 := hid (nv0.up (Nat.le_trans hMW bel.size))
    have HN9 := hid (show Nw w.heap.size (W4.alloc (.cells #[.int .i64 1, .string (vN M1), .int .i64 (renE E1 a).kind, .int .i64 (renE E1 a).num, .string (renE E1 a).name, .slice A5 (renE E1 a).args.length n5, .int .i64 0, .int .i64 0, .string noS, .slice none 0 0, .slice none 0 0, .slice none 0 0] 82)).heap.size vo2 vn2 T9 from (nT9.low (by omega)).up bel.size)
    have HSZ := hid (show w.heap.size ≤ (W4.alloc (.cells #[.int .i64 1, .string (vN M1), .int .i64 (renE E1 a).kind, .int .i64 (renE E1 a).num, .string (renE E1 a).name, .slice A5 (renE E1 a).args.length n5, .int .i64 0, .int .i64 0, .string noS, .slice none 0 0, .slice none 0 0, .slice none 0 0] 82)).heap.size from Nat.le_trans (by omega) bel.size)
    have hO1 : O1.length + 1 ≤ 67108865 := by omega
    clear nT9 rT9 n10 nv0 ro0 bel TL X4
    go_wp2_with (at_builtin; refine wpList_append_list rfl _ _ 31 rfl i0 _ Tryz.underlying31 hi hz0 hz1' hz2 rfl (by decide) RdSt.keeps HOW.out HXW.out rfl rfl (Sub.right _ _) HU2.out HU3.out oneSt ?c3 ?c4 ?c5 ?_)
    case c3 => unfold maxLen; (try simp only [List.length_singleton]); omega
    case c4 => (try simp only [List.length_singleton]); omega
    try (case c5 => first | exact HSZ.out | (have h9 := HSZ.out; rw [World.size_alloc] at h9; exact h9))
    intro v9 w9 ho9 hg9 hn9
    have HT9 := hid (HTW.out.butT (But.of_grown hg9) (fun k hk => ⟨(HN1.out k hk).1, (HN1.out k hk).2.2⟩))
    have HO9 := hid (OutG.append HTW.out HSZ.out HN0.out HN1.out HN9.out hg9 ho9 (by rw [World.size_alloc]; exact hn9))
    clear ho9 hg9 hn9 hO1 hld hly  e0 e1 e2 e3 e4 e5 e6 e7 e8 e9 e10 e11 g0 g1 g2 g3 g4 g5 g6 g7 g8 g9 g10 g11
    go_wp2_with fail
    go_roundw
    case rel => exact ⟨q + 1, by omega, by go_num, _, _, hid (by rw [HE.out]; exact HT9.out), hid (by rw [HE.out]; exact HO9.out)⟩
    case measure => simp [intOf]; omega
   by_cases h2 : k = 2
   ·subst h2
    have HE := hid (show renP (l.take (q + 1)) V m = (O1 ++ [.mk 2 (vN M1) (renE E1 a) exZ [] []], (s, vN M1) :: E1, M1 + 1) by rw [htk, renP_snoc, ← hP, stepR, renS_let (.inr rfl)])
    have c2 := HR0.out.rn.bd.cell 2 _ rfl
    have c3 := HR0.out.rn.bd.cell 3 _ rfl
    have c4 := HR0.out.rn.bd.cell 4 _ rfl
    have c5 := HR0.out.rn.bd.cell 5 _ rfl
    have c1 := HR0.out.rn.bd.cell 1 _ rfl
    have e2 := HR0.out.yb.cell 2 _ rfl
    have e3 := HR0.out.yb.cell 3 _ rfl
    have e4 := HR0.out.yb.cell 4 _ rfl
    have e5 := HR0.out.yb.cell 5 _ rfl
    have g2 := HR0.out.yb.fr 2
    have g3 := HR0.out.yb.fr 3
    have g4 := HR0.out.yb.fr 4
    have g5 := HR0.out.yb.fr 5
    have hld := HR0.out.rn.bd.lt
    have hly := HR0.out.yb.lt
    go_wp2_with fail
    refine (rx_all E1 a base z M1 W S _ vo' vn' HR0.out.tw.now (Nat.le_trans hbs HR0.out.tw.but.size) hEl (HS.out.trans (Sub.upto (Nat.le_trans hbs HR0.out.tw.but.size))) HR0.out.rn.ra).mono ?_
    rintro e w1 ⟨U1, rfl, hu1, hb1⟩
    have HR1 := hid (HR0.out.below hb1)
    have X1 : ExR (y + 1) vo' vn' w1 (renE E1 a) U1 := ⟨_, Nw.fresh HR0.out.tw (Nat.le_refl _) hyW _, hu1⟩
    obtain ⟨A5, n5, rfl⟩ := X1.form
    clear hu1 hb1
    clear hld hly c2 c3 c4 c5 c1 e2 e3 e4 e5 g2 g3 g4 g5
    have c1 := HR1.out.rn.bd.cell 1 _ rfl
    have e2 := HR1.out.yb.cell 2 _ rfl
    have e3 := HR1.out.yb.cell 3 _ rfl
    have e4 := HR1.out.yb.cell 4 _ rfl
    have e5 := HR1.out.yb.cell 5 _ rfl
    have g2 := HR1.out.yb.fr 2
    have g3 := HR1.out.yb.fr 3
    have g4 := HR1.out.yb.fr 4
    have g5 := HR1.out.yb.fr 5
    have hld := HR1.out.rn.bd.lt
    have hly := HR1.out.yb.lt
    have HR2 := hid (HR1.out.setA _ _ _ _ : RS base z d y M S w vo vn a b _ _ body els _ _ _ O1 u5 _ _ _ vo' vn' _ [.int .i64 2, .string noS, .int .i64 (renE E1 a).kind, .int .i64 (renE E1 a).num, .string (renE E1 a).name, .slice A5 (renE E1 a).args.length n5, .int .i64 0, .int .i64 0, .string noS, .slice none 0 0, .slice none 0 0, .slice none 0 0])
    have X2 := hid (X1.setA hyy 2 (.int .i64 (renE E1 a).kind) (.int .i64 (renE E1 a).num) (.string (renE E1 a).name) (.slice A5 (renE E1 a).args.length n5))
    clear X1
    go_wp2_with fail
    clear hld hly c1 e2 e3 e4 e5 g2 g3 g4 g5
    generalize ((((w1.setCell ⟨y, 2, none⟩ (.int .i64 (renE E1 a).kind)).setCell ⟨y, 3, none⟩ (.int .i64 (renE E1 a).num)).setCell ⟨y, 4, none⟩ (.string (renE E1 a).name)).setCell ⟨y, 5, none⟩ (.slice A5 (renE E1 a).args.length n5)) = W2 at *
    refine (bind_any base z W2 E1 M1 vo' vn' s HOKs.out (HPW.out _ HR2.out.tw.but) HR2.out.tw.now (Nat.le_trans hbs HR2.out.tw.but.size) (by omega) (by omega)).mono ?_
    rintro e w3 ⟨rfl, vo2, vn2, ht3⟩
    have HR3 := hid (HR2.out.step ht3)
    have X3 := X2.out.step hzy ht3
    clear ht3 X2
    have e1 := HR3.out.yb.cell 1 _ rfl
    have g1 := HR3.out.yb.fr 1
    have hld := HR3.out.rn.bd.lt
    have hly := HR3.out.yb.lt
    have HR4 := hid (HR3.out.setN (.string (vN M1)))
    have X4 := X3.set hyy (o := 1) (.string (vN M1))
    clear X3
    go_upto_region 24 with (fail)
    clear hld hly  e1 g1
    generalize w3.setCell ⟨y, 1, none⟩ (.string (vN M1)) = W4 at *
    rw [← mapcons1 (t := vN M1), ← mapcons2 (s := s)] at HR4
    have e0 := HR4.out.yb.cell 0 _ rfl
    have e1 := HR4.out.yb.cell 1 _ rfl
    have e2 := HR4.out.yb.cell 2 _ rfl
    have e3 := HR4.out.yb.cell 3 _ rfl
    have e4 := HR4.out.yb.cell 4 _ rfl
    have e5 := HR4.out.yb.cell 5 _ rfl
    have e6 := HR4.out.yb.cell 6 _ rfl
    have e7 := HR4.out.yb.cell 7 _ rfl
    have e8 := HR4.out.yb.cell 8 _ rfl
    have e9 := HR4.out.yb.cell 9 _ rfl
    have e10 := HR4.out.yb.cell 10 _ rfl
    have e11 := HR4.out.yb.cell 11 _ rfl
    have g0 := HR4.out.yb.fr 0
    have g1 := HR4.out.yb.fr 1
    have g2 := HR4.out.yb.fr 2
    have g3 := HR4.out.yb.fr 3
    have g4 := HR4.out.yb.fr 4
    have g5 := HR4.out.yb.fr 5
    have g6 := HR4.out.yb.fr 6
    have g7 := HR4.out.yb.fr 7
    have g8 := HR4.out.yb.fr 8
    have g9 := HR4.out.yb.fr 9
    have g10 := HR4.out.yb.fr 10
    have g11 := HR4.out.yb.fr 11
    have hld := HR4.out.rn.bd.lt
    have hly := HR4.out.yb.lt
    have TL := hid (show Tld (y + 1) vo2 vn2 W4 (.mk 2 (vN M1) (renE E1 a) exZ [] []) [.int .i64 2, .string (vN M1), .int .i64 (renE E1 a).kind, .int .i64 (renE E1 a).num, .string (renE E1 a).name, .slice A5 (renE E1 a).args.length n5, .int .i64 0, .int .i64 0, .string noS, .slice none 0 0, .slice none 0 0, .slice none 0 0] from Tld.mk4 hk (by have := vN_size M1 (by omega); unfold okS; omega) X4 (ExR.zero _ _ _ _) (StR.nil _ _ _ _) (StR.nil _ _ _ _))
    have bel : Below W4.heap.size W4 (W4.alloc (.cells #[.int .i64 2, .string (vN M1), .int .i64 (renE E1 a).kind, .int .i64 (renE E1 a).num, .string (renE E1 a).name, .slice A5 (renE E1 a).args.length n5, .int .i64 0, .int .i64 0, .string noS, .slice none 0 0, .slice none 0 0, .slice none 0 0] 82)) := (Below.refl _ _).alloc (Nat.le_refl _) _
    obtain ⟨T9, nT9, rT9⟩ := TL.out.rd
    obtain ⟨T0, n10, nv0, ro0⟩ := HR4.out.og
    have hyw : y + 1 ≤ W4.heap.size := hly
    have hMW : M ≤ W4.heap.size := Nat.le_trans hMy (Nat.le_of_lt hly)
    have HOW := hid ((ro0.keep RdSt.keeps bel).sub (Sub.left T0 T9))
    have HXW := hid (rdG_one (bytes := 184) (size := 12) (rd := fun w' _ e cs => RdSt w' T9 e cs) (S := Is W4.heap.size) (g := W4.heap.size) rfl (Blk.made W4 [.int .i64 2, .string (vN M1), .int .i64 (renE E1 a).kind, .int .i64 (renE E1 a).num, .string (renE E1 a).name, .slice A5 (renE E1 a).args.length n5, .int .i64 0, .int .i64 0, .string noS, .slice none 0 0, .slice none 0 0, .slice none 0 0] 82 (base := 0) (Nat.zero_le _)).cell (RdSt.keeps _ _ _ _ _ _ (Sub.refl _) (same_of_below bel (nT9.upto (Nat.le_refl _))) rT9) rfl (by decide))
    have HU2 := hid (show Sub T9 (Upto (W4.alloc (.cells #[.int .i64 2, .string (vN M1), .int .i64 (renE E1 a).kind, .int .i64 (renE E1 a).num, .string (renE E1 a).name, .slice A5 (renE E1 a).args.length n5, .int .i64 0, .int .i64 0, .string noS, .slice none 0 0, .slice none 0 0, .slice none 0 0] 82)).heap.size) from (nT9.upto (Nat.le_refl _)).trans (Sub.upto bel.size))
    have HU3 := hid (show ∀ k, u5.ownBlock = some k → ¬ T9 k from fun k hk h9 => by have h1 := (nv0 k hk).2.1; have h2 := (nT9 k h9).1; omega)
    have HTW := hid (HR4.out.tw.below bel)
    have HN0 := hid (n10.up (Nat.le_trans hMW bel.size))
    have HN1 := hid (nv0.up (Nat.le_trans hMW bel.size))
    have HN9 := hid (show Nw w.heap.size (W4.alloc (.cells #[.int .i64 2, .string (vN M1), .int .i64 (renE E1 a).kind, .int .i64 (renE E1 a).num, .string (renE E1 a).name, .slice A5 (renE E1 a).args.length n5, .int .i64 0, .int .i64 0, .string noS, .slice none 0 0, .slice none 0 0, .slice none 0 0] 82)).heap.size vo2 vn2 T9 from (nT9.low (by omega)).up bel.size)
    have HSZ := hid (show w.heap.size ≤ (W4.alloc (.cells #[.int .i64 2, .string (vN M1), .int .i64 (renE E1 a).kind, .int .i64 (renE E1 a).num, .string (renE E1 a).name, .slice A5 (renE E1 a).args.length n5, .int .i64 0, .int .i64 0, .string noS, .slice none 0 0, .slice none 0 0, .slice none 0 0] 82)).heap.size from Nat.le_trans (by omega) bel.size)
    have hO1 : O1.length + 1 ≤ 67108865 := by omega
    clear nT9 rT9 n10 nv0 ro0 bel TL X4
    go_wp2_with (at_builtin; refine wpList_append_list rfl _ _ 31 rfl i0 _ Tryz.underlying31 hi hz0 hz1' hz2 rfl (by decide) RdSt.keeps HOW.out HXW.out rfl rfl (Sub.right _ _) HU2.out HU3.out oneSt ?c3 ?c4 ?c5 ?_)
    case c3 => unfold maxLen; (try simp only [List.length_singleton]); omega
    case c4 => (try simp only [List.length_singleton]); omega
    try (case c5 => first | exact HSZ.out | (have h9 := HSZ.out; rw [World.size_alloc] at h9; exact h9))
    intro v9 w9 ho9 hg9 hn9
    have HT9 := hid (HTW.out.butT (But.of_grown hg9) (fun k hk => ⟨(HN1.out k hk).1, (HN1.out k hk).2.2⟩))
    have HO9 := hid (OutG.append HTW.out HSZ.out HN0.out HN1.out HN9.out hg9 ho9 (by rw [World.size_alloc]; exact hn9))
    clear ho9 hg9 hn9 hO1 hld hly  e0 e1 e2 e3 e4 e5 e6 e7 e8 e9 e10 e11 g0 g1 g2 g3 g4 g5 g6 g7 g8 g9 g10 g11
    go_wp2_with fail
    go_roundw
    case rel => exact ⟨q + 1, by omega, by go_num, _, _, hid (by rw [HE.out]; exact HT9.out), hid (by rw [HE.out]; exact HO9.out)⟩
    case measure => simp [intOf]; omega
   by_cases h3 : k = 3
   ·subst h3
    have HE := hid (show renP (l.take (q + 1)) V m = (O1 ++ [.mk 3 noS (renE E1 a) (renE E1 b) [] []], E1, M1) by rw [htk, renP_snoc, ← hP, stepR, renS_store])
    have hdW := HR0.out.rn.bd.lt
    have c2 := HR0.out.rn.bd.cell 2 _ rfl
    have c3 := HR0.out.rn.bd.cell 3 _ rfl
    have c4 := HR0.out.rn.bd.cell 4 _ rfl
    have c5 := HR0.out.rn.bd.cell 5 _ rfl
    have c6 := HR0.out.rn.bd.cell 6 _ rfl
    have c7 := HR0.out.rn.bd.cell 7 _ rfl
    have c8 := HR0.out.rn.bd.cell 8 _ rfl
    have c9 := HR0.out.rn.bd.cell 9 _ rfl
    have hld := HR0.out.rn.bd.lt
    have hly := HR0.out.yb.lt
    go_upto_region 12 with (fail)
    have HRD := hid (HR0.out.below (Below.refl _ _).drew)
    refine wp_region_pre 9 (S := (fun w' => Stay W w')) (by kernel_rfl) (by kernel_rfl) (Stay.mk (Kept.start _)) (fun hHeld => ?_)
    simp only [List.take_succ_cons, List.take_zero]
    refine tkA 0 36 ?_
    refine tkA 1 37 ?_
    refine tkA 2 38 ?_
    refine tkA 4 40 ?_
    refine tkA 5 41 ?_
    refine tkA 6 42 ?_
    (try simp only [Act.put, List.setIfInBounds_toArray, List.set_cons_zero, List.set_cons_succ])
    refine wpAnyH_ready (rs := [3]) (by kernel_rfl) (by simp) ?_
    refine AllReadyH.cons rfl (fun K hK => ?_) AllReadyH.nil
    go_simp
    refine (rx_all E1 a base z M1 W.drew S _ vo' vn' HRD.out.tw.now (Nat.le_trans hbs HRD.out.tw.but.size) hEl (HS.out.trans (Sub.upto (Nat.le_trans hbs HRD.out.tw.but.size))) HRD.out.rn.ra).mono ?_
    rintro e w1 ⟨U1, rfl, hu1, hb1⟩
    have hst1 : Stay W w1 := Stay.step hb1 hHeld
    have HR1 := hid (HRD.out.below hb1)
    have X1 : ExR (y + 1) vo' vn' w1 (renE E1 a) U1 := ⟨_, Nw.fresh HRD.out.tw (Nat.le_refl _) hyW _, hu1⟩
    obtain ⟨A5, n5, rfl⟩ := X1.form
    refine hK.out _ _ ?_ (fun hHeld => ?_)
    ·exact hst1
    clear hK K
    refine tkA 8 44 ?_
    (try simp only [Act.put, List.setIfInBounds_toArray, List.set_cons_zero, List.set_cons_succ])
    refine wpAnyH_ready (rs := [7]) (by kernel_rfl) (by simp) ?_
    refine AllReadyH.cons rfl (fun K hK => ?_) AllReadyH.nil
    go_simp
    refine (rx_all E1 b base z M1 w1 S _ vo' vn' HR1.out.tw.now (Nat.le_trans hbs HR1.out.tw.but.size) hEl (HS.out.trans (Sub.upto (Nat.le_trans hbs HR1.out.tw.but.size))) HR1.out.rn.rb).mono ?_
    rintro e w2 ⟨U2, rfl, hu2, hb2⟩
    have hst2 : Stay W w2 := Stay.step hb2 hst1
    have HR2 := hid (HR1.out.below hb2)
    have X2 : ExR (y + 1) vo' vn' w2 (renE E1 b) U2 := ⟨_, Nw.fresh HR1.out.tw (Nat.le_refl _) (Nat.le_trans hyW hst1.size) _, hu2⟩
    have X1' := X1.below hb2
    obtain ⟨A6, n6, rfl⟩ := X2.form
    refine hK.out _ _ ?_ (fun hHeld => ?_)
    ·exact hst2
    clear hK K
    (try simp only [Act.put, List.setIfInBounds_toArray, List.set_cons_zero, List.set_cons_succ])
    refine wpAnyH_done (by kernel_rfl) ?_ _
    unfold QPre
    simp only [List.drop_succ_cons, List.drop_zero]
    clear hu1 hu2 hb1 hb2 hst1 hst2 hHeld X1 HRD hdW
    clear hld hly c2 c3 c4 c5 c6 c7 c8 c9  
    have e2 := HR2.out.yb.cell 2 _ rfl
    have e3 := HR2.out.yb.cell 3 _ rfl
    have e4 := HR2.out.yb.cell 4 _ rfl
    have e5 := HR2.out.yb.cell 5 _ rfl
    have e6 := HR2.out.yb.cell 6 _ rfl
    have e7 := HR2.out.yb.cell 7 _ rfl
    have e8 := HR2.out.yb.cell 8 _ rfl
    have e9 := HR2.out.yb.cell 9 _ rfl
    have g2 := HR2.out.yb.fr 2
    have g3 := HR2.out.yb.fr 3
    have g4 := HR2.out.yb.fr 4
    have g5 := HR2.out.yb.fr 5
    have g6 := HR2.out.yb.fr 6
    have g7 := HR2.out.yb.fr 7
    have g8 := HR2.out.yb.fr 8
    have g9 := HR2.out.yb.fr 9
    have hld := HR2.out.rn.bd.lt
    have hly := HR2.out.yb.lt
    have HR4 := hid ((HR2.out.setA (.int .i64 (renE E1 a).kind) (.int .i64 (renE E1 a).num) (.string (renE E1 a).name) (.slice A5 (renE E1 a).args.length n5)).setB (.int .i64 (renE E1 b).kind) (.int .i64 (renE E1 b).num) (.string (renE E1 b).name) (.slice A6 (renE E1 b).args.length n6))
    have XA := (X1'.setA hyy 2 (.int .i64 (renE E1 a).kind) (.int .i64 (renE E1 a).num) (.string (renE E1 a).name) (.slice A5 (renE E1 a).args.length n5)).setA hyy 6 (.int .i64 (renE E1 b).kind) (.int .i64 (renE E1 b).num) (.string (renE E1 b).name) (.slice A6 (renE E1 b).args.length n6)
    have XB := (X2.setA hyy 2 (.int .i64 (renE E1 a).kind) (.int .i64 (renE E1 a).num) (.string (renE E1 a).name) (.slice A5 (renE E1 a).args.length n5)).setA hyy 6 (.int .i64 (renE E1 b).kind) (.int .i64 (renE E1 b).num) (.string (renE E1 b).name) (.slice A6 (renE E1 b).args.length n6)
    clear X1' X2
    go_upto_region 24 with (fail)
    clear hld hly  e2 e3 e4 e5 e6 e7 e8 e9 g2 g3 g4 g5 g6 g7 g8 g9
    generalize ((((((((w2.setCell ⟨y, 2, none⟩ (.int .i64 (renE E1 a).kind)).setCell ⟨y, 3, none⟩ (.int .i64 (renE E1 a).num)).setCell ⟨y, 4, none⟩ (.string (renE E1 a).name)).setCell ⟨y, 5, none⟩ (.slice A5 (renE E1 a).args.length n5)).setCell ⟨y, 6, none⟩ (.int .i64 (renE E1 b).kind)).setCell ⟨y, 7, none⟩ (.int .i64 (renE E1 b).num)).setCell ⟨y, 8, none⟩ (.string (renE E1 b).name)).setCell ⟨y, 9, none⟩ (.slice A6 (renE E1 b).args.length n6)) = W4 at *
    have e0 := HR4.out.yb.cell 0 _ rfl
    have e1 := HR4.out.yb.cell 1 _ rfl
    have e2 := HR4.out.yb.cell 2 _ rfl
    have e3 := HR4.out.yb.cell 3 _ rfl
    have e4 := HR4.out.yb.cell 4 _ rfl
    have e5 := HR4.out.yb.cell 5 _ rfl
    have e6 := HR4.out.yb.cell 6 _ rfl
    have e7 := HR4.out.yb.cell 7 _ rfl
    have e8 := HR4.out.yb.cell 8 _ rfl
    have e9 := HR4.out.yb.cell 9 _ rfl
    have e10 := HR4.out.yb.cell 10 _ rfl
    have e11 := HR4.out.yb.cell 11 _ rfl
    have g0 := HR4.out.yb.fr 0
    have g1 := HR4.out.yb.fr 1
    have g2 := HR4.out.yb.fr 2
    have g3 := HR4.out.yb.fr 3
    have g4 := HR4.out.yb.fr 4
    have g5 := HR4.out.yb.fr 5
    have g6 := HR4.out.yb.fr 6
    have g7 := HR4.out.yb.fr 7
    have g8 := HR4.out.yb.fr 8
    have g9 := HR4.out.yb.fr 9
    have g10 := HR4.out.yb.fr 10
    have g11 := HR4.out.yb.fr 11
    have hld := HR4.out.rn.bd.lt
    have hly := HR4.out.yb.lt
    have TL := hid (show Tld (y + 1) vo' vn' W4 (.mk 3 noS (renE E1 a) (renE E1 b) [] []) [.int .i64 3, .string noS, .int .i64 (renE E1 a).kind, .int .i64 (renE E1 a).num, .string (renE E1 a).name, .slice A5 (renE E1 a).args.length n5, .int .i64 (renE E1 b).kind, .int .i64 (renE E1 b).num, .string (renE E1 b).name, .slice A6 (renE E1 b).args.length n6, .slice none 0 0, .slice none 0 0] from Tld.mk4 hk okS_noS XA XB (StR.nil _ _ _ _) (StR.nil _ _ _ _))
    have bel : Below W4.heap.size W4 (W4.alloc (.cells #[.int .i64 3, .string noS, .int .i64 (renE E1 a).kind, .int .i64 (renE E1 a).num, .string (renE E1 a).name, .slice A5 (renE E1 a).args.length n5, .int .i64 (renE E1 b).kind, .int .i64 (renE E1 b).num, .string (renE E1 b).name, .slice A6 (renE E1 b).args.length n6, .slice none 0 0, .slice none 0 0] 82)) := (Below.refl _ _).alloc (Nat.le_refl _) _
    obtain ⟨T9, nT9, rT9⟩ := TL.out.rd
    obtain ⟨T0, n10, nv0, ro0⟩ := HR4.out.og
    have hyw : y + 1 ≤ W4.heap.size := hly
    have hMW : M ≤ W4.heap.size := Nat.le_trans hMy (Nat.le_of_lt hly)
    have HOW := hid ((ro0.keep RdSt.keeps bel).sub (Sub.left T0 T9))
    have HXW := hid (rdG_one (bytes := 184) (size := 12) (rd := fun w' _ e cs => RdSt w' T9 e cs) (S := Is W4.heap.size) (g := W4.heap.size) rfl (Blk.made W4 [.int .i64 3, .string noS, .int .i64 (renE E1 a).kind, .int .i64 (renE E1 a).num, .string (renE E1 a).name, .slice A5 (renE E1 a).args.length n5, .int .i64 (renE E1 b).kind, .int .i64 (renE E1 b).num, .string (renE E1 b).name, .slice A6 (renE E1 b).args.length n6, .slice none 0 0, .slice none 0 0] 82 (base := 0) (Nat.zero_le _)).cell (RdSt.keeps _ _ _ _ _ _ (Sub.refl _) (same_of_below bel (nT9.upto (Nat.le_refl _))) rT9) rfl (by decide))
    have HU2 := hid (show Sub T9 (Upto (W4.alloc (.cells #[.int .i64 3, .string noS, .int .i64 (renE E1 a).kind, .int .i64 (renE E1 a).num, .string (renE E1 a).name, .slice A5 (renE E1 a).args.length n5, .int .i64 (renE E1 b).kind, .int .i64 (renE E1 b).num, .string (renE E1 b).name, .slice A6 (renE E1 b).args.length n6, .slice none 0 0, .slice none 0 0] 82)).heap.size) from (nT9.upto (Nat.le_refl _)).trans (Sub.upto bel.size))
    have HU3 := hid (show ∀ k, u5.ownBlock = some k → ¬ T9 k from fun k hk h9 => by have h1 := (nv0 k hk).2.1; have h2 := (nT9 k h9).1; omega)
    have HTW := hid (HR4.out.tw.below bel)
    have HN0 := hid (n10.up (Nat.le_trans hMW bel.size))
    have HN1 := hid (nv0.up (Nat.le_trans hMW bel.size))
    have HN9 := hid (show Nw w.heap.size (W4.alloc (.cells #[.int .i64 3, .string noS, .int .i64 (renE E1 a).kind, .int .i64 (renE E1 a).num, .string (renE E1 a).name, .slice A5 (renE E1 a).args.length n5, .int .i64 (renE E1 b).kind, .int .i64 (renE E1 b).num, .string (renE E1 b).name, .slice A6 (renE E1 b).args.length n6, .slice none 0 0, .slice none 0 0] 82)).heap.size vo' vn' T9 from (nT9.low (by omega)).up bel.size)
    have HSZ := hid (show w.heap.size ≤ (W4.alloc (.cells #[.int .i64 3, .string noS, .int .i64 (renE E1 a).kind, .int .i64 (renE E1 a).num, .string (renE E1 a).name, .slice A5 (renE E1 a).args.length n5, .int .i64 (renE E1 b).kind, .int .i64 (renE E1 b).num, .string (renE E1 b).name, .slice A6 (renE E1 b).args.length n6, .slice none 0 0, .slice none 0 0] 82)).heap.size from Nat.le_trans (by omega) bel.size)
    have hO1 : O1.length + 1 ≤ 67108865 := by omega
    clear nT9 rT9 n10 nv0 ro0 bel TL XA XB
    go_wp2_with (at_builtin; refine wpList_append_list rfl _ _ 31 rfl i0 _ Tryz.underlying31 hi hz0 hz1' hz2 rfl (by decide) RdSt.keeps HOW.out HXW.out rfl rfl (Sub.right _ _) HU2.out HU3.out oneSt ?c3 ?c4 ?c5 ?_)
    case c3 => unfold maxLen; (try simp only [List.length_singleton]); omega
    case c4 => (try simp only [List.length_singleton]); omega
    try (case c5 => first | exact HSZ.out | (have h9 := HSZ.out; rw [World.size_alloc] at h9; exact h9))
    intro v9 w9 ho9 hg9 hn9
    have HT9 := hid (HTW.out.butT (But.of_grown hg9) (fun k hk => ⟨(HN1.out k hk).1, (HN1.out k hk).2.2⟩))
    have HO9 := hid (OutG.append HTW.out HSZ.out HN0.out HN1.out HN9.out hg9 ho9 (by rw [World.size_alloc]; exact hn9))
    clear ho9 hg9 hn9 hO1 hld hly  e0 e1 e2 e3 e4 e5 e6 e7 e8 e9 e10 e11 g0 g1 g2 g3 g4 g5 g6 g7 g8 g9 g10 g11
    go_wp2_with fail
    go_roundw
    case rel => exact ⟨q + 1, by omega, by go_num, _, _, hid (by rw [HE.out]; exact HT9.out), hid (by rw [HE.out]; exact HO9.out)⟩
    case measure => simp [intOf]; omega
   by_cases h4 : k = 4
   ·subst h4
    have HE := hid (show renP (l.take (q + 1)) V m = (O1 ++ [.mk 4 noS exZ exZ (renL body E1 M1).1 []], E1, (renL body E1 M1).2) by rw [htk, renP_snoc, ← hP, stepR, renS_blk (.inl rfl)])
    have c10 := HR0.out.rn.bd.cell 10 _ rfl
    have hld := HR0.out.rn.bd.lt
    have hly := HR0.out.yb.lt
    go_wp2_with fail
    refine (blk_any body HIB.out.1 base z (M1) W S (E1) vo' vn' _ hg (HPW.out _ HR0.out.tw.but) HR0.out.tw.now (Nat.le_trans hbs HR0.out.tw.but.size) HS.out HR0.out.rn.r1 (by omega) (by omega) (by omega)).mono ?_
    rintro e w1 ⟨x1, vo2, vn2, rfl, ht1, hx1⟩
    have HR1 := hid (HR0.out.step ht1)
    have X1 := hx1.low hyW
    obtain ⟨A5, n5, rfl⟩ := X1.form
    clear ht1 hx1
    clear hld hly c10  
    have e10 := HR1.out.yb.cell 10 _ rfl
    have g10 := HR1.out.yb.fr 10
    have hld := HR1.out.rn.bd.lt
    have hly := HR1.out.yb.lt
    have HR4 := hid (HR1.out.setV (.slice A5 (renL body E1 M1).1.length n5))
    have X4 := X1.set hyy (o := 10) (.slice A5 (renL body E1 M1).1.length n5)
    clear X1
    go_upto_region 24 with (fail)
    clear hld hly  e10 g10
    generalize w1.setCell ⟨y, 10, none⟩ (.slice A5 (renL body E1 M1).1.length n5) = W4 at *
    have e0 := HR4.out.yb.cell 0 _ rfl
    have e1 := HR4.out.yb.cell 1 _ rfl
    have e2 := HR4.out.yb.cell 2 _ rfl
    have e3 := HR4.out.yb.cell 3 _ rfl
    have e4 := HR4.out.yb.cell 4 _ rfl
    have e5 := HR4.out.yb.cell 5 _ rfl
    have e6 := HR4.out.yb.cell 6 _ rfl
    have e7 := HR4.out.yb.cell 7 _ rfl
    have e8 := HR4.out.yb.cell 8 _ rfl
    have e9 := HR4.out.yb.cell 9 _ rfl
    have e10 := HR4.out.yb.cell 10 _ rfl
    have e11 := HR4.out.yb.cell 11 _ rfl
    have g0 := HR4.out.yb.fr 0
    have g1 := HR4.out.yb.fr 1
    have g2 := HR4.out.yb.fr 2
    have g3 := HR4.out.yb.fr 3
    have g4 := HR4.out.yb.fr 4
    have g5 := HR4.out.yb.fr 5
    have g6 := HR4.out.yb.fr 6
    have g7 := HR4.out.yb.fr 7
    have g8 := HR4.out.yb.fr 8
    have g9 := HR4.out.yb.fr 9
    have g10 := HR4.out.yb.fr 10
    have g11 := HR4.out.yb.fr 11
    have hld := HR4.out.rn.bd.lt
    have hly := HR4.out.yb.lt
    have TL := hid (show Tld (y + 1) vo2 vn2 W4 (.mk 4 noS exZ exZ (renL body E1 M1).1 []) [.int .i64 4, .string noS, .int .i64 0, .int .i64 0, .string noS, .slice none 0 0, .int .i64 0, .int .i64 0, .string noS, .slice none 0 0, .slice A5 (renL body E1 M1).1.length n5, .slice none 0 0] from Tld.mk4 hk okS_noS (ExR.zero _ _ _ _) (ExR.zero _ _ _ _) X4 (StR.nil _ _ _ _))
    have bel : Below W4.heap.size W4 (W4.alloc (.cells #[.int .i64 4, .string noS, .int .i64 0, .int .i64 0, .string noS, .slice none 0 0, .int .i64 0, .int .i64 0, .string noS, .slice none 0 0, .slice A5 (renL body E1 M1).1.length n5, .slice none 0 0] 82)) := (Below.refl _ _).alloc (Nat.le_refl _) _
    obtain ⟨T9, nT9, rT9⟩ := TL.out.rd
    obtain ⟨T0, n10, nv0, ro0⟩ := HR4.out.og
    have hyw : y + 1 ≤ W4.heap.size := hly
    have hMW : M ≤ W4.heap.size := Nat.le_trans hMy (Nat.le_of_lt hly)
    have HOW := hid ((ro0.keep RdSt.keeps bel).sub (Sub.left T0 T9))
    have HXW := hid (rdG_one (bytes := 184) (size := 12) (rd := fun w' _ e cs => RdSt w' T9 e cs) (S := Is W4.heap.size) (g := W4.heap.size) rfl (Blk.made W4 [.int .i64 4, .string noS, .int .i64 0, .int .i64 0, .string noS, .slice none 0 0, .int .i64 0, .int .i64 0, .string noS, .slice none 0 0, .slice A5 (renL body E1 M1).1.length n5, .slice none 0 0] 82 (base := 0) (Nat.zero_le _)).cell (RdSt.keeps _ _ _ _ _ _ (Sub.refl _) (same_of_below bel (nT9.upto (Nat.le_refl _))) rT9) rfl (by decide))
    have HU2 := hid (show Sub T9 (Upto (W4.alloc (.cells #[.int .i64 4, .string noS, .int .i64 0, .int .i64 0, .string noS, .slice none 0 0, .int .i64 0, .int .i64 0, .string noS, .slice none 0 0, .slice A5 (renL body E1 M1).1.length n5, .slice none 0 0] 82)).heap.size) from (nT9.upto (Nat.le_refl _)).trans (Sub.upto bel.size))
    have HU3 := hid (show ∀ k, u5.ownBlock = some k → ¬ T9 k from fun k hk h9 => by have h1 := (nv0 k hk).2.1; have h2 := (nT9 k h9).1; omega)
    have HTW := hid (HR4.out.tw.below bel)
    have HN0 := hid (n10.up (Nat.le_trans hMW bel.size))
    have HN1 := hid (nv0.up (Nat.le_trans hMW bel.size))
    have HN9 := hid (show Nw w.heap.size (W4.alloc (.cells #[.int .i64 4, .string noS, .int .i64 0, .int .i64 0, .string noS, .slice none 0 0, .int .i64 0, .int .i64 0, .string noS, .slice none 0 0, .slice A5 (renL body E1 M1).1.length n5, .slice none 0 0] 82)).heap.size vo2 vn2 T9 from (nT9.low (by omega)).up bel.size)
    have HSZ := hid (show w.heap.size ≤ (W4.alloc (.cells #[.int .i64 4, .string noS, .int .i64 0, .int .i64 0, .string noS, .slice none 0 0, .int .i64 0, .int .i64 0, .string noS, .slice none 0 0, .slice A5 (renL body E1 M1).1.length n5, .slice none 0 0] 82)).heap.size from Nat.le_trans (by omega) bel.size)
    have hO1 : O1.length + 1 ≤ 67108865 := by omega
    clear nT9 rT9 n10 nv0 ro0 bel TL X4
    go_wp2_with (at_builtin; refine wpList_append_list rfl _ _ 31 rfl i0 _ Tryz.underlying31 hi hz0 hz1' hz2 rfl (by decide) RdSt.keeps HOW.out HXW.out rfl rfl (Sub.right _ _) HU2.out HU3.out oneSt ?c3 ?c4 ?c5 ?_)
    case c3 => unfold maxLen; (try simp only [List.length_singleton]); omega
    case c4 => (try simp only [List.length_singleton]); omega
    try (case c5 => first | exact HSZ.out | (have h9 := HSZ.out; rw [World.size_alloc] at h9; exact h9))
    intro v9 w9 ho9 hg9 hn9
    have HT9 := hid (HTW.out.butT (But.of_grown hg9) (fun k hk => ⟨(HN1.out k hk).1, (HN1.out k hk).2.2⟩))
    have HO9 := hid (OutG.append HTW.out HSZ.out HN0.out HN1.out HN9.out hg9 ho9 (by rw [World.size_alloc]; exact hn9))
    clear ho9 hg9 hn9 hO1 hld hly  e0 e1 e2 e3 e4 e5 e6 e7 e8 e9 e10 e11 g0 g1 g2 g3 g4 g5 g6 g7 g8 g9 g10 g11
    go_wp2_with fail
    go_roundw
    case rel => exact ⟨q + 1, by omega, by go_num, _, _, hid (by rw [HE.out]; exact HT9.out), hid (by rw [HE.out]; exact HO9.out)⟩
    case measure => simp [intOf]; omega
   by_cases h5 : k = 5
   ·subst h5
    have HE := hid (show renP (l.take (q + 1)) V m = (O1 ++ [.mk 5 noS exZ exZ (renL body E1 M1).1 []], E1, (renL body E1 M1).2) by rw [htk, renP_snoc, ← hP, stepR, renS_blk (.inr rfl)])
    have c10 := HR0.out.rn.bd.cell 10 _ rfl
    have hld := HR0.out.rn.bd.lt
    have hly := HR0.out.yb.lt
    go_wp2_with fail
    refine (blk_any body HIB.out.1 base z (M1) W S (E1) vo' vn' _ hg (HPW.out _ HR0.out.tw.but) HR0.out.tw.now (Nat.le_trans hbs HR0.out.tw.but.size) HS.out HR0.out.rn.r1 (by omega) (by omega) (by omega)).mono ?_
    rintro e w1 ⟨x1, vo2, vn2, rfl, ht1, hx1⟩
    have HR1 := hid (HR0.out.step ht1)
    have X1 := hx1.low hyW
    obtain ⟨A5, n5, rfl⟩ := X1.form
    clear ht1 hx1
    clear hld hly c10  
    have e10 := HR1.out.yb.cell 10 _ rfl
    have g10 := HR1.out.yb.fr 10
    have hld := HR1.out.rn.bd.lt
    have hly := HR1.out.yb.lt
    have HR4 := hid (HR1.out.setV (.slice A5 (renL body E1 M1).1.length n5))
    have X4 := X1.set hyy (o := 10) (.slice A5 (renL body E1 M1).1.length n5)
    clear X1
    go_upto_region 24 with (fail)
    clear hld hly  e10 g10
    generalize w1.setCell ⟨y, 10, none⟩ (.slice A5 (renL body E1 M1).1.length n5) = W4 at *
    have e0 := HR4.out.yb.cell 0 _ rfl
    have e1 := HR4.out.yb.cell 1 _ rfl
    have e2 := HR4.out.yb.cell 2 _ rfl
    have e3 := HR4.out.yb.cell 3 _ rfl
    have e4 := HR4.out.yb.cell 4 _ rfl
    have e5 := HR4.out.yb.cell 5 _ rfl
    have e6 := HR4.out.yb.cell 6 _ rfl
    have e7 := HR4.out.yb.cell 7 _ rfl
    have e8 := HR4.out.yb.cell 8 _ rfl
    have e9 := HR4.out.yb.cell 9 _ rfl
    have e10 := HR4.out.yb.cell 10 _ rfl
    have e11 := HR4.out.yb.cell 11 _ rfl
    have g0 := HR4.out.yb.fr 0
    have g1 := HR4.out.yb.fr 1
    have g2 := HR4.out.yb.fr 2
    have g3 := HR4.out.yb.fr 3
    have g4 := HR4.out.yb.fr 4
    have g5 := HR4.out.yb.fr 5
    have g6 := HR4.out.yb.fr 6
    have g7 := HR4.out.yb.fr 7
    have g8 := HR4.out.yb.fr 8
    have g9 := HR4.out.yb.fr 9
    have g10 := HR4.out.yb.fr 10
    have g11 := HR4.out.yb.fr 11
    have hld := HR4.out.rn.bd.lt
    have hly := HR4.out.yb.lt
    have TL := hid (show Tld (y + 1) vo2 vn2 W4 (.mk 5 noS exZ exZ (renL body E1 M1).1 []) [.int .i64 5, .string noS, .int .i64 0, .int .i64 0, .string noS, .slice none 0 0, .int .i64 0, .int .i64 0, .string noS, .slice none 0 0, .slice A5 (renL body E1 M1).1.length n5, .slice none 0 0] from Tld.mk4 hk okS_noS (ExR.zero _ _ _ _) (ExR.zero _ _ _ _) X4 (StR.nil _ _ _ _))
    have bel : Below W4.heap.size W4 (W4.alloc (.cells #[.int .i64 5, .string noS, .int .i64 0, .int .i64 0, .string noS, .slice none 0 0, .int .i64 0, .int .i64 0, .string noS, .slice none 0 0, .slice A5 (renL body E1 M1).1.length n5, .slice none 0 0] 82)) := (Below.refl _ _).alloc (Nat.le_refl _) _
    obtain ⟨T9, nT9, rT9⟩ := TL.out.rd
    obtain ⟨T0, n10, nv0, ro0⟩ := HR4.out.og
    have hyw : y + 1 ≤ W4.heap.size := hly
    have hMW : M ≤ W4.heap.size := Nat.le_trans hMy (Nat.le_of_lt hly)
    have HOW := hid ((ro0.keep RdSt.keeps bel).sub (Sub.left T0 T9))
    have HXW := hid (rdG_one (bytes := 184) (size := 12) (rd := fun w' _ e cs => RdSt w' T9 e cs) (S := Is W4.heap.size) (g := W4.heap.size) rfl (Blk.made W4 [.int .i64 5, .string noS, .int .i64 0, .int .i64 0, .string noS, .slice none 0 0, .int .i64 0, .int .i64 0, .string noS, .slice none 0 0, .slice A5 (renL body E1 M1).1.length n5, .slice none 0 0] 82 (base := 0) (Nat.zero_le _)).cell (RdSt.keeps _ _ _ _ _ _ (Sub.refl _) (same_of_below bel (nT9.upto (Nat.le_refl _))) rT9) rfl (by decide))
    have HU2 := hid (show Sub T9 (Upto (W4.alloc (.cells #[.int .i64 5, .string noS, .int .i64 0, .int .i64 0, .string noS, .slice none 0 0, .int .i64 0, .int .i64 0, .string noS, .slice none 0 0, .slice A5 (renL body E1 M1).1.length n5, .slice none 0 0] 82)).heap.size) from (nT9.upto (Nat.le_refl _)).trans (Sub.upto bel.size))
    have HU3 := hid (show ∀ k, u5.ownBlock = some k → ¬ T9 k from fun k hk h9 => by have h1 := (nv0 k hk).2.1; have h2 := (nT9 k h9).1; omega)
    have HTW := hid (HR4.out.tw.below bel)
    have HN0 := hid (n10.up (Nat.le_trans hMW bel.size))
    have HN1 := hid (nv0.up (Nat.le_trans hMW bel.size))
    have HN9 := hid (show Nw w.heap.size (W4.alloc (.cells #[.int .i64 5, .string noS, .int .i64 0, .int .i64 0, .string noS, .slice none 0 0, .int .i64 0, .int .i64 0, .string noS, .slice none 0 0, .slice A5 (renL body E1 M1).1.length n5, .slice none 0 0] 82)).heap.size vo2 vn2 T9 from (nT9.low (by omega)).up bel.size)
    have HSZ := hid (show w.heap.size ≤ (W4.alloc (.cells #[.int .i64 5, .string noS, .int .i64 0, .int .i64 0, .string noS, .slice none 0 0, .int .i64 0, .int .i64 0, .string noS, .slice none 0 0, .slice A5 (renL body E1 M1).1.length n5, .slice none 0 0] 82)).heap.size from Nat.le_trans (by omega) bel.size)
    have hO1 : O1.length + 1 ≤ 67108865 := by omega
    clear nT9 rT9 n10 nv0 ro0 bel TL X4
    go_wp2_with (at_builtin; refine wpList_append_list rfl _ _ 31 rfl i0 _ Tryz.underlying31 hi hz0 hz1' hz2 rfl (by decide) RdSt.keeps HOW.out HXW.out rfl rfl (Sub.right _ _) HU2.out HU3.out oneSt ?c3 ?c4 ?c5 ?_)
    case c3 => unfold maxLen; (try simp only [List.length_singleton]); omega
    case c4 => (try simp only [List.length_singleton]); omega
    try (case c5 => first | exact HSZ.out | (have h9 := HSZ.out; rw [World.size_alloc] at h9; exact h9))
    intro v9 w9 ho9 hg9 hn9
    have HT9 := hid (HTW.out.butT (But.of_grown hg9) (fun k hk => ⟨(HN1.out k hk).1, (HN1.out k hk).2.2⟩))
    have HO9 := hid (OutG.append HTW.out HSZ.out HN0.out HN1.out HN9.out hg9 ho9 (by rw [World.size_alloc]; exact hn9))
    clear ho9 hg9 hn9 hO1 hld hly  e0 e1 e2 e3 e4 e5 e6 e7 e8 e9 e10 e11 g0 g1 g2 g3 g4 g5 g6 g7 g8 g9 g10 g11
    go_wp2_with fail
    go_roundw
    case rel => exact ⟨q + 1, by omega, by go_num, _, _, hid (by rw [HE.out]; exact HT9.out), hid (by rw [HE.out]; exact HO9.out)⟩
    case measure => simp [intOf]; omega
   by_cases h6 : k = 6
   ·subst h6
    have HE := hid (show renP (l.take (q + 1)) V m = (O1 ++ [.mk 6 noS (renE E1 a) exZ (renL body E1 M1).1 (renL els E1 (renL body E1 M1).2).1], E1, (renL els E1 (renL body E1 M1).2).2) by rw [htk, renP_snoc, ← hP, stepR, renS_if])
    have hM2 := renL_le body E1 M1
    have hdW := HR0.out.rn.bd.lt
    have c2 := HR0.out.rn.bd.cell 2 _ rfl
    have c3 := HR0.out.rn.bd.cell 3 _ rfl
    have c4 := HR0.out.rn.bd.cell 4 _ rfl
    have c5 := HR0.out.rn.bd.cell 5 _ rfl
    have c10 := HR0.out.rn.bd.cell 10 _ rfl
    have c11 := HR0.out.rn.bd.cell 11 _ rfl
    have hld := HR0.out.rn.bd.lt
    have hly := HR0.out.yb.lt
    go_upto_region 17 with (fail)
    have HRD := hid (HR0.out.below (Below.refl _ _).drew)
    refine wp_region_pre 13 (S := (fun w' => SameD d W w')) (by kernel_rfl) (by kernel_rfl) (show SameD d W W.drew from fun _ _ => rfl) (fun hHeld => ?_)
    simp only [List.take_succ_cons, List.take_zero]
    refine tkA 0 56 ?_
    refine tkA 1 57 ?_
    refine tkA 2 58 ?_
    refine tkA 4 60 ?_
    refine tkA 5 61 ?_
    refine tkA 6 62 ?_
    refine tkA 8 64 ?_
    refine tkA 9 65 ?_
    refine tkA 10 66 ?_
    (try simp only [Act.put, List.setIfInBounds_toArray, List.set_cons_zero, List.set_cons_succ])
    refine wpAnyH_ready (rs := [3]) (by kernel_rfl) (by simp) ?_
    refine AllReadyH.cons rfl (fun K hK => ?_) AllReadyH.nil
    go_simp
    refine (rx_all E1 a base z M1 W.drew S _ vo' vn' HRD.out.tw.now (Nat.le_trans hbs HRD.out.tw.but.size) hEl (HS.out.trans (Sub.upto (Nat.le_trans hbs HRD.out.tw.but.size))) HRD.out.rn.ra).mono ?_
    rintro e w1 ⟨U1, rfl, hu1, hb1⟩
    have sd1 : SameD d W w1 := SameD.trans hHeld (SameD.of_but (But.of_below (T := Nowhere) hb1) hdW (fun h => h))
    have HR1 := hid (HRD.out.below hb1)
    have X1 : ExR (y + 1) vo' vn' w1 (renE E1 a) U1 := ⟨_, Nw.fresh HRD.out.tw (Nat.le_refl _) hyW _, hu1⟩
    obtain ⟨A5, n5, rfl⟩ := X1.form
    refine hK.out _ _ ?_ (fun hHeld => ?_)
    ·exact sd1
    clear hK K
    refine tkA 12 68 ?_
    (try simp only [Act.put, List.setIfInBounds_toArray, List.set_cons_zero, List.set_cons_succ])
    refine wpAnyH_ready (rs := [7]) (by kernel_rfl) (by simp) ?_
    refine AllReadyH.cons rfl (fun K hK => ?_) AllReadyH.nil
    go_simp
    refine (blk_any body HIB.out.1 base z (M1) w1 S (E1) vo' vn' _ hg (HPW.out _ HR1.out.tw.but) HR1.out.tw.now (Nat.le_trans hbs HR1.out.tw.but.size) HS.out HR1.out.rn.r1 (by omega) (by omega) (by omega)).mono ?_
    rintro e w2 ⟨x2, vo2, vn2, rfl, ht2, hx2⟩
    have sd2 : SameD d W w2 := SameD.trans sd1 (SameD.of_but ht2.but HR1.out.rn.bd.lt (fun h => (HR1.out.nd _ h).1 rfl))
    have HR2 := hid (HR1.out.step ht2)
    have X2 := X1.step hzy ht2
    have Y2 := hx2.low (Nat.le_trans hyW (Nat.le_trans (Nat.le_refl _) hb1.size))
    obtain ⟨A6, n6, rfl⟩ := Y2.form
    refine hK.out _ _ ?_ (fun hHeld => ?_)
    ·exact sd2
    clear hK K
    (try simp only [Act.put, List.setIfInBounds_toArray, List.set_cons_zero, List.set_cons_succ])
    refine wpAnyH_ready (rs := [11]) (by kernel_rfl) (by simp) ?_
    refine AllReadyH.cons rfl (fun K hK => ?_) AllReadyH.nil
    go_simp
    refine (blk_any els HIB.out.2 base z ((renL body E1 M1).2) w2 S (E1) vo2 vn2 _ hg (HPW.out _ HR2.out.tw.but) HR2.out.tw.now (Nat.le_trans hbs HR2.out.tw.but.size) HS.out HR2.out.rn.r2 (by omega) (by omega) (by omega)).mono ?_
    rintro e w3 ⟨x3, vo3, vn3, rfl, ht3, hx3⟩
    have sd3 : SameD d W w3 := SameD.trans sd2 (SameD.of_but ht3.but HR2.out.rn.bd.lt (fun h => (HR2.out.nd _ h).1 rfl))
    have HR3 := hid (HR2.out.step ht3)
    have X3 := X2.step hzy ht3
    have Y3 := Y2.step hzy ht3
    have Z3 := hx3.low (Nat.le_trans hyW (Nat.le_trans hb1.size ht2.but.size))
    obtain ⟨A7, n7, rfl⟩ := Z3.form
    refine hK.out _ _ ?_ (fun hHeld => ?_)
    ·exact sd3
    clear hK K
    (try simp only [Act.put, List.setIfInBounds_toArray, List.set_cons_zero, List.set_cons_succ])
    refine wpAnyH_done (by kernel_rfl) ?_ _
    unfold QPre
    simp only [List.drop_succ_cons, List.drop_zero]
    clear hu1 hb1 hx2 hx3 ht2 ht3 sd1 sd2 sd3 hHeld X1 X2 Y2 HRD hdW
    clear hld hly c2 c3 c4 c5 c10 c11  
    have e2 := HR3.out.yb.cell 2 _ rfl
    have e3 := HR3.out.yb.cell 3 _ rfl
    have e4 := HR3.out.yb.cell 4 _ rfl
    have e5 := HR3.out.yb.cell 5 _ rfl
    have e10 := HR3.out.yb.cell 10 _ rfl
    have e11 := HR3.out.yb.cell 11 _ rfl
    have g2 := HR3.out.yb.fr 2
    have g3 := HR3.out.yb.fr 3
    have g4 := HR3.out.yb.fr 4
    have g5 := HR3.out.yb.fr 5
    have g10 := HR3.out.yb.fr 10
    have g11 := HR3.out.yb.fr 11
    have hld := HR3.out.rn.bd.lt
    have hly := HR3.out.yb.lt
    have HR4 := hid (((HR3.out.setA (.int .i64 (renE E1 a).kind) (.int .i64 (renE E1 a).num) (.string (renE E1 a).name) (.slice A5 (renE E1 a).args.length n5)).setV (.slice A6 (renL body E1 M1).1.length n6)).setW (.slice A7 (renL els E1 (renL body E1 M1).2).1.length n7))
    have X4 := ((X3.setA hyy 2 (.int .i64 (renE E1 a).kind) (.int .i64 (renE E1 a).num) (.string (renE E1 a).name) (.slice A5 (renE E1 a).args.length n5)).set hyy (o := 10) (.slice A6 (renL body E1 M1).1.length n6)).set hyy (o := 11) (.slice A7 (renL els E1 (renL body E1 M1).2).1.length n7)
    have Y4 := ((Y3.setA hyy 2 (.int .i64 (renE E1 a).kind) (.int .i64 (renE E1 a).num) (.string (renE E1 a).name) (.slice A5 (renE E1 a).args.length n5)).set hyy (o := 10) (.slice A6 (renL body E1 M1).1.length n6)).set hyy (o := 11) (.slice A7 (renL els E1 (renL body E1 M1).2).1.length n7)
    have Z4 := ((Z3.setA hyy 2 (.int .i64 (renE E1 a).kind) (.int .i64 (renE E1 a).num) (.string (renE E1 a).name) (.slice A5 (renE E1 a).args.length n5)).set hyy (o := 10) (.slice A6 (renL body E1 M1).1.length n6)).set hyy (o := 11) (.slice A7 (renL els E1 (renL body E1 M1).2).1.length n7)
    clear X3 Y3 Z3
    go_upto_region 24 with (fail)
    clear hld hly  e2 e3 e4 e5 e10 e11 g2 g3 g4 g5 g10 g11
    generalize ((((((w3.setCell ⟨y, 2, none⟩ (.int .i64 (renE E1 a).kind)).setCell ⟨y, 3, none⟩ (.int .i64 (renE E1 a).num)).setCell ⟨y, 4, none⟩ (.string (renE E1 a).name)).setCell ⟨y, 5, none⟩ (.slice A5 (renE E1 a).args.length n5)).setCell ⟨y, 10, none⟩ (.slice A6 (renL body E1 M1).1.length n6)).setCell ⟨y, 11, none⟩ (.slice A7 (renL els E1 (renL body E1 M1).2).1.length n7)) = W4 at *
    have e0 := HR4.out.yb.cell 0 _ rfl
    have e1 := HR4.out.yb.cell 1 _ rfl
    have e2 := HR4.out.yb.cell 2 _ rfl
    have e3 := HR4.out.yb.cell 3 _ rfl
    have e4 := HR4.out.yb.cell 4 _ rfl
    have e5 := HR4.out.yb.cell 5 _ rfl
    have e6 := HR4.out.yb.cell 6 _ rfl
    have e7 := HR4.out.yb.cell 7 _ rfl
    have e8 := HR4.out.yb.cell 8 _ rfl
    have e9 := HR4.out.yb.cell 9 _ rfl
    have e10 := HR4.out.yb.cell 10 _ rfl
    have e11 := HR4.out.yb.cell 11 _ rfl
    have g0 := HR4.out.yb.fr 0
    have g1 := HR4.out.yb.fr 1
    have g2 := HR4.out.yb.fr 2
    have g3 := HR4.out.yb.fr 3
    have g4 := HR4.out.yb.fr 4
    have g5 := HR4.out.yb.fr 5
    have g6 := HR4.out.yb.fr 6
    have g7 := HR4.out.yb.fr 7
    have g8 := HR4.out.yb.fr 8
    have g9 := HR4.out.yb.fr 9
    have g10 := HR4.out.yb.fr 10
    have g11 := HR4.out.yb.fr 11
    have hld := HR4.out.rn.bd.lt
    have hly := HR4.out.yb.lt
    have TL := hid (show Tld (y + 1) vo3 vn3 W4 (.mk 6 noS (renE E1 a) exZ (renL body E1 M1).1 (renL els E1 (renL body E1 M1).2).1) [.int .i64 6, .string noS, .int .i64 (renE E1 a).kind, .int .i64 (renE E1 a).num, .string (renE E1 a).name, .slice A5 (renE E1 a).args.length n5, .int .i64 0, .int .i64 0, .string noS, .slice none 0 0, .slice A6 (renL body E1 M1).1.length n6, .slice A7 (renL els E1 (renL body E1 M1).2).1.length n7] from Tld.mk4 hk okS_noS X4 (ExR.zero _ _ _ _) Y4 Z4)
    have bel : Below W4.heap.size W4 (W4.alloc (.cells #[.int .i64 6, .string noS, .int .i64 (renE E1 a).kind, .int .i64 (renE E1 a).num, .string (renE E1 a).name, .slice A5 (renE E1 a).args.length n5, .int .i64 0, .int .i64 0, .string noS, .slice none 0 0, .slice A6 (renL body E1 M1).1.length n6, .slice A7 (renL els E1 (renL body E1 M1).2).1.length n7] 82)) := (Below.refl _ _).alloc (Nat.le_refl _) _
    obtain ⟨T9, nT9, rT9⟩ := TL.out.rd
    obtain ⟨T0, n10, nv0, ro0⟩ := HR4.out.og
    have hyw : y + 1 ≤ W4.heap.size := hly
    have hMW : M ≤ W4.heap.size := Nat.le_trans hMy (Nat.le_of_lt hly)
    have HOW := hid ((ro0.keep RdSt.keeps bel).sub (Sub.left T0 T9))
    have HXW := hid (rdG_one (bytes := 184) (size := 12) (rd := fun w' _ e cs => RdSt w' T9 e cs) (S := Is W4.heap.size) (g := W4.heap.size) rfl (Blk.made W4 [.int .i64 6, .string noS, .int .i64 (renE E1 a).kind, .int .i64 (renE E1 a).num, .string (renE E1 a).name, .slice A5 (renE E1 a).args.length n5, .int .i64 0, .int .i64 0, .string noS, .slice none 0 0, .slice A6 (renL body E1 M1).1.length n6, .slice A7 (renL els E1 (renL body E1 M1).2).1.length n7] 82 (base := 0) (Nat.zero_le _)).cell (RdSt.keeps _ _ _ _ _ _ (Sub.refl _) (same_of_below bel (nT9.upto (Nat.le_refl _))) rT9) rfl (by decide))
    have HU2 := hid (show Sub T9 (Upto (W4.alloc (.cells #[.int .i64 6, .string noS, .int .i64 (renE E1 a).kind, .int .i64 (renE E1 a).num, .string (renE E1 a).name, .slice A5 (renE E1 a).args.length n5, .int .i64 0, .int .i64 0, .string noS, .slice none 0 0, .slice A6 (renL body E1 M1).1.length n6, .slice A7 (renL els E1 (renL body E1 M1).2).1.length n7] 82)).heap.size) from (nT9.upto (Nat.le_refl _)).trans (Sub.upto bel.size))
    have HU3 := hid (show ∀ k, u5.ownBlock = some k → ¬ T9 k from fun k hk h9 => by have h1 := (nv0 k hk).2.1; have h2 := (nT9 k h9).1; omega)
    have HTW := hid (HR4.out.tw.below bel)
    have HN0 := hid (n10.up (Nat.le_trans hMW bel.size))
    have HN1 := hid (nv0.up (Nat.le_trans hMW bel.size))
    have HN9 := hid (show Nw w.heap.size (W4.alloc (.cells #[.int .i64 6, .string noS, .int .i64 (renE E1 a).kind, .int .i64 (renE E1 a).num, .string (renE E1 a).name, .slice A5 (renE E1 a).args.length n5, .int .i64 0, .int .i64 0, .string noS, .slice none 0 0, .slice A6 (renL body E1 M1).1.length n6, .slice A7 (renL els E1 (renL body E1 M1).2).1.length n7] 82)).heap.size vo3 vn3 T9 from (nT9.low (by omega)).up bel.size)
    have HSZ := hid (show w.heap.size ≤ (W4.alloc (.cells #[.int .i64 6, .string noS, .int .i64 (renE E1 a).kind, .int .i64 (renE E1 a).num, .string (renE E1 a).name, .slice A5 (renE E1 a).args.length n5, .int .i64 0, .int .i64 0, .string noS, .slice none 0 0, .slice A6 (renL body E1 M1).1.length n6, .slice A7 (renL els E1 (renL body E1 M1).2).1.length n7] 82)).heap.size from Nat.le_trans (by omega) bel.size)
    have hO1 : O1.length + 1 ≤ 67108865 := by omega
    clear nT9 rT9 n10 nv0 ro0 bel TL X4 Y4 Z4
    go_wp2_with (at_builtin; refine wpList_append_list rfl _ _ 31 rfl i0 _ Tryz.underlying31 hi hz0 hz1' hz2 rfl (by decide) RdSt.keeps HOW.out HXW.out rfl rfl (Sub.right _ _) HU2.out HU3.out oneSt ?c3 ?c4 ?c5 ?_)
    case c3 => unfold maxLen; (try simp only [List.length_singleton]); omega
    case c4 => (try simp only [List.length_singleton]); omega
    try (case c5 => first | exact HSZ.out | (have h9 := HSZ.out; rw [World.size_alloc] at h9; exact h9))
    intro v9 w9 ho9 hg9 hn9
    have HT9 := hid (HTW.out.butT (But.of_grown hg9) (fun k hk => ⟨(HN1.out k hk).1, (HN1.out k hk).2.2⟩))
    have HO9 := hid (OutG.append HTW.out HSZ.out HN0.out HN1.out HN9.out hg9 ho9 (by rw [World.size_alloc]; exact hn9))
    clear ho9 hg9 hn9 hO1 hld hly  e0 e1 e2 e3 e4 e5 e6 e7 e8 e9 e10 e11 g0 g1 g2 g3 g4 g5 g6 g7 g8 g9 g10 g11
    go_wp2_with fail
    go_roundw
    case rel => exact ⟨q + 1, by omega, by go_num, _, _, hid (by rw [HE.out]; exact HT9.out), hid (by rw [HE.out]; exact HO9.out)⟩
    case measure => simp [intOf]; omega
   by_cases h7 : k = 7
   ·subst h7
    have HE := hid (show renP (l.take (q + 1)) V m = (O1 ++ [.mk 7 (vN M1) (renE E1 a) (renE E1 b) (renL body ((s, vN M1) :: E1) (M1 + 1)).1 []], E1, (renL body ((s, vN M1) :: E1) (M1 + 1)).2) by rw [htk, renP_snoc, ← hP, stepR, renS_for])
    have hdW := HR0.out.rn.bd.lt
    have c2 := HR0.out.rn.bd.cell 2 _ rfl
    have c3 := HR0.out.rn.bd.cell 3 _ rfl
    have c4 := HR0.out.rn.bd.cell 4 _ rfl
    have c5 := HR0.out.rn.bd.cell 5 _ rfl
    have c6 := HR0.out.rn.bd.cell 6 _ rfl
    have c7 := HR0.out.rn.bd.cell 7 _ rfl
    have c8 := HR0.out.rn.bd.cell 8 _ rfl
    have c9 := HR0.out.rn.bd.cell 9 _ rfl
    have hld := HR0.out.rn.bd.lt
    have hly := HR0.out.yb.lt
    go_upto_region 19 with (fail)
    have HRD := hid (HR0.out.below (Below.refl _ _).drew)
    refine wp_region_pre 9 (S := (fun w' => Stay W w')) (by kernel_rfl) (by kernel_rfl) (Stay.mk (Kept.start _)) (fun hHeld => ?_)
    simp only [List.take_succ_cons, List.take_zero]
    refine tkA 0 73 ?_
    refine tkA 1 74 ?_
    refine tkA 2 75 ?_
    refine tkA 4 77 ?_
    refine tkA 5 78 ?_
    refine tkA 6 79 ?_
    (try simp only [Act.put, List.setIfInBounds_toArray, List.set_cons_zero, List.set_cons_succ])
    refine wpAnyH_ready (rs := [3]) (by kernel_rfl) (by simp) ?_
    refine AllReadyH.cons rfl (fun K hK => ?_) AllReadyH.nil
    go_simp
    refine (rx_all E1 a base z M1 W.drew S _ vo' vn' HRD.out.tw.now (Nat.le_trans hbs HRD.out.tw.but.size) hEl (HS.out.trans (Sub.upto (Nat.le_trans hbs HRD.out.tw.but.size))) HRD.out.rn.ra).mono ?_
    rintro e w1 ⟨U1, rfl, hu1, hb1⟩
    have hst1 : Stay W w1 := Stay.step hb1 hHeld
    have HR1 := hid (HRD.out.below hb1)
    have X1 : ExR (y + 1) vo' vn' w1 (renE E1 a) U1 := ⟨_, Nw.fresh HRD.out.tw (Nat.le_refl _) hyW _, hu1⟩
    obtain ⟨A5, n5, rfl⟩ := X1.form
    refine hK.out _ _ ?_ (fun hHeld => ?_)
    ·exact hst1
    clear hK K
    refine tkA 8 81 ?_
    (try simp only [Act.put, List.setIfInBounds_toArray, List.set_cons_zero, List.set_cons_succ])
    refine wpAnyH_ready (rs := [7]) (by kernel_rfl) (by simp) ?_
    refine AllReadyH.cons rfl (fun K hK => ?_) AllReadyH.nil
    go_simp
    refine (rx_all E1 b base z M1 w1 S _ vo' vn' HR1.out.tw.now (Nat.le_trans hbs HR1.out.tw.but.size) hEl (HS.out.trans (Sub.upto (Nat.le_trans hbs HR1.out.tw.but.size))) HR1.out.rn.rb).mono ?_
    rintro e w2 ⟨U2, rfl, hu2, hb2⟩
    have hst2 : Stay W w2 := Stay.step hb2 hst1
    have HR2 := hid (HR1.out.below hb2)
    have X2 : ExR (y + 1) vo' vn' w2 (renE E1 b) U2 := ⟨_, Nw.fresh HR1.out.tw (Nat.le_refl _) (Nat.le_trans hyW hst1.size) _, hu2⟩
    have X1' := X1.below hb2
    obtain ⟨A6, n6, rfl⟩ := X2.form
    refine hK.out _ _ ?_ (fun hHeld => ?_)
    ·exact hst2
    clear hK K
    (try simp only [Act.put, List.setIfInBounds_toArray, List.set_cons_zero, List.set_cons_succ])
    refine wpAnyH_done (by kernel_rfl) ?_ _
    unfold QPre
    simp only [List.drop_succ_cons, List.drop_zero]
    clear hu1 hu2 hb1 hb2 hst1 hst2 hHeld X1 HRD hdW
    clear hld hly c2 c3 c4 c5 c6 c7 c8 c9  
    have e2 := HR2.out.yb.cell 2 _ rfl
    have e3 := HR2.out.yb.cell 3 _ rfl
    have e4 := HR2.out.yb.cell 4 _ rfl
    have e5 := HR2.out.yb.cell 5 _ rfl
    have e6 := HR2.out.yb.cell 6 _ rfl
    have e7 := HR2.out.yb.cell 7 _ rfl
    have e8 := HR2.out.yb.cell 8 _ rfl
    have e9 := HR2.out.yb.cell 9 _ rfl
    have g2 := HR2.out.yb.fr 2
    have g3 := HR2.out.yb.fr 3
    have g4 := HR2.out.yb.fr 4
    have g5 := HR2.out.yb.fr 5
    have g6 := HR2.out.yb.fr 6
    have g7 := HR2.out.yb.fr 7
    have g8 := HR2.out.yb.fr 8
    have g9 := HR2.out.yb.fr 9
    have hld := HR2.out.rn.bd.lt
    have hly := HR2.out.yb.lt
    have HR4 := hid ((HR2.out.setA (.int .i64 (renE E1 a).kind) (.int .i64 (renE E1 a).num) (.string (renE E1 a).name) (.slice A5 (renE E1 a).args.length n5)).setB (.int .i64 (renE E1 b).kind) (.int .i64 (renE E1 b).num) (.string (renE E1 b).name) (.slice A6 (renE E1 b).args.length n6))
    have XA := (X1'.setA hyy 2 (.int .i64 (renE E1 a).kind) (.int .i64 (renE E1 a).num) (.string (renE E1 a).name) (.slice A5 (renE E1 a).args.length n5)).setA hyy 6 (.int .i64 (renE E1 b).kind) (.int .i64 (renE E1 b).num) (.string (renE E1 b).name) (.slice A6 (renE E1 b).args.length n6)
    have XB := (X2.setA hyy 2 (.int .i64 (renE E1 a).kind) (.int .i64 (renE E1 a).num) (.string (renE E1 a).name) (.slice A5 (renE E1 a).args.length n5)).setA hyy 6 (.int .i64 (renE E1 b).kind) (.int .i64 (renE E1 b).num) (.string (renE E1 b).name) (.slice A6 (renE E1 b).args.length n6)
    clear X1' X2
    go_upto_region 20 with (fail)
    clear hld hly  e2 e3 e4 e5 e6 e7 e8 e9 g2 g3 g4 g5 g6 g7 g8 g9
    generalize ((((((((w2.setCell ⟨y, 2, none⟩ (.int .i64 (renE E1 a).kind)).setCell ⟨y, 3, none⟩ (.int .i64 (renE E1 a).num)).setCell ⟨y, 4, none⟩ (.string (renE E1 a).name)).setCell ⟨y, 5, none⟩ (.slice A5 (renE E1 a).args.length n5)).setCell ⟨y, 6, none⟩ (.int .i64 (renE E1 b).kind)).setCell ⟨y, 7, none⟩ (.int .i64 (renE E1 b).num)).setCell ⟨y, 8, none⟩ (.string (renE E1 b).name)).setCell ⟨y, 9, none⟩ (.slice A6 (renE E1 b).args.length n6)) = W4 at *
    obtain ⟨Ao, co, rfl⟩ := HR4.out.tw.oo.form
    obtain ⟨An, cn, rfl⟩ := HR4.out.tw.on.form
    have hEo : ((E1.map (·.1)).reverse).length = E1.length := by simp
    have hEn : ((E1.map (·.2)).reverse).length = E1.length := by simp
    rw [hEo] at HR4 XA XB
    rw [hEn] at HR4 XA XB
    have zc := HR4.out.tw.bl.cell 0 _ rfl
    have hzl := HR4.out.tw.bl.lt
    have c1 := HR4.out.rn.bd.cell 1 _ rfl
    have hld := HR4.out.rn.bd.lt
    have hly := HR4.out.yb.lt
    go_wp2_with fail
    refine (bind_any base z W4 E1 M1 _ _ s HOKs.out (HPW.out _ HR4.out.tw.but) HR4.out.tw.now (Nat.le_trans hbs HR4.out.tw.but.size) (by omega) (by omega)).mono ?_
    rintro e w5 ⟨rfl, vo5, vn5, ht5⟩
    have HR5 := hid (HR4.out.step ht5)
    have XA5 := XA.step hzy ht5
    have XB5 := XB.step hzy ht5
    clear ht5 XA XB zc hzl
    clear hld hly c1  
    have c10 := HR5.out.rn.bd.cell 10 _ rfl
    have e1 := HR5.out.yb.cell 1 _ rfl
    have g1 := HR5.out.yb.fr 1
    have hld := HR5.out.rn.bd.lt
    have hly := HR5.out.yb.lt
    have HR6 := hid (HR5.out.setN (.string (vN M1)))
    have XA6 := XA5.set hyy (o := 1) (.string (vN M1))
    have XB6 := XB5.set hyy (o := 1) (.string (vN M1))
    clear XA5 XB5
    go_wp2_with fail
    clear hld hly c10 e1 g1
    generalize w5.setCell ⟨y, 1, none⟩ (.string (vN M1)) = W6 at *
    rw [← mapcons1 (t := vN M1), ← mapcons2 (s := s)] at HR6
    have hy6 : y + 1 ≤ W6.heap.size := HR6.out.yb.lt
    refine (blk_any body HIB.out.1 base z (M1 + 1) W6 S ((s, vN M1) :: E1) vo5 vn5 _ hg (HPW.out _ HR6.out.tw.but) HR6.out.tw.now (Nat.le_trans hbs HR6.out.tw.but.size) HS.out HR6.out.rn.r1 (by omega) (by omega) (by simp only [List.length_cons]; omega)).mono ?_
    rintro e w7 ⟨x7, vo7, vn7, rfl, ht7, hx7⟩
    have HR7 := hid (HR6.out.step ht7)
    have XA7 := XA6.step hzy ht7
    have XB7 := XB6.step hzy ht7
    have Y7 := hx7.low hy6
    obtain ⟨A7, n7, rfl⟩ := Y7.form
    clear ht7 hx7 XA6 XB6
    have e10 := HR7.out.yb.cell 10 _ rfl
    have g10 := HR7.out.yb.fr 10
    have hld := HR7.out.rn.bd.lt
    have hly := HR7.out.yb.lt
    have HR8 := hid (HR7.out.setV (.slice A7 (renL body ((s, vN M1) :: E1) (M1 + 1)).1.length n7))
    have XA8 := XA7.set hyy (o := 10) (.slice A7 (renL body ((s, vN M1) :: E1) (M1 + 1)).1.length n7)
    have XB8 := XB7.set hyy (o := 10) (.slice A7 (renL body ((s, vN M1) :: E1) (M1 + 1)).1.length n7)
    have Y8 := Y7.set hyy (o := 10) (.slice A7 (renL body ((s, vN M1) :: E1) (M1 + 1)).1.length n7)
    clear XA7 XB7 Y7
    go_upto_region 23 with (fail)
    clear hld hly  e10 g10
    generalize w7.setCell ⟨y, 10, none⟩ (.slice A7 (renL body ((s, vN M1) :: E1) (M1 + 1)).1.length n7) = W8 at *
    rw [mapcons1, mapcons2] at HR8
    obtain ⟨Ap, cp, rfl⟩ := HR8.out.tw.oo.form
    obtain ⟨Aq, cq, rfl⟩ := HR8.out.tw.on.form
    have hlp : ((E1.map (·.1)).reverse ++ [s]).length = E1.length + 1 := by simp
    have hlq : ((E1.map (·.2)).reverse ++ [vN M1]).length = E1.length + 1 := by simp
    have hcp := HR8.out.tw.oo.cap_le
    have hcq := HR8.out.tw.on.cap_le
    rw [hlp] at hcp HR8 XA8 XB8 Y8
    rw [hlq] at hcq HR8 XA8 XB8 Y8
    have j0 := HR8.out.tw.bl.cell 0 _ rfl
    have j1 := HR8.out.tw.bl.cell 1 _ rfl
    have hf0 := HR8.out.tw.bl.fr 0
    have hf1 := HR8.out.tw.bl.fr 1
    have hzl := HR8.out.tw.bl.lt
    obtain ⟨n, hn⟩ : ∃ n, n = E1.length := ⟨_, rfl⟩
    rw [← hn] at HR8 XA8 XB8 Y8 hcp hcq j0 j1 ⊢
    unfold maxLen at hcp hcq
    have hb1 : n ≤ cp := by omega
    have hb2 : (n : Int) ≤ (cp : Int) := by omega
    have hb3 : (0 : Int) ≤ (n : Int) := by omega
    have hb4 : n ≤ cq := by omega
    have hb5 : (n : Int) ≤ (cq : Int) := by omega
    have hcm3 := hcp.2
    have hcm4 := hcq.2
    have HNN := hid hn
    clear hcp hcq hlp hlq hn hEo hEn
    obtain ⟨I, hI⟩ : ∃ I : Array Bool → Act → World → Prop, I = (fun (lq : Array Bool) (aq : Act) (wx : World) => ∃ (u98 u99 u100 u101 u102 u103 u104 u105 u106 u107 u108 u109 u110 u111 u112 u113 u114 u115 : Value), aq = ⟨#[.pointer (some ⟨z, 0, none⟩), .slice (some ⟨b0, off, none⟩) l.length cap, undef, undef, .slice none 0 0, u5, undef, .pointer (some ⟨d, 0, none⟩), .pointer (some ⟨y, 0, none⟩), .int .i64 (n : Int), .slice (some ⟨b0, off, none⟩) l.length cap, .int .i64 (l.length : Int), .int .i64 (q : Int), .bool true, .pointer (some ⟨b0, off + q * 12, none⟩), .agg #[.int .i64 7, .string s, .int .i64 k1, .int .i64 n1, .string s1, .slice A1 m1 p1, .int .i64 k2, .int .i64 n2, .string s2, .slice A2 m2 p2, .slice A3 body.length p3, .slice A4 els.length p4], .pointer (some ⟨d, 0, none⟩), .int .i64 7, .agg #[.int .i64 7, .string ⟨#[]⟩, .int .i64 0, .int .i64 0, .string ⟨#[]⟩, .slice none 0 0, .int .i64 0, .int .i64 0, .string ⟨#[]⟩, .slice none 0 0, .slice none 0 0, .slice none 0 0], .pointer (some ⟨d, 0, none⟩), .int .i64 7, .bool false, .bool false, .bool false, u24, u25, u26, u27, u28, u29, u30, u31, u32, u33, .bool false, .bool false, u36, u37, u38, u39, u40, u41, u42, u43, u44, u45, .bool false, .bool false, .bool false, u49, u50, u51, u52, u53, .bool false, .bool false, u56, u57, u58, u59, u60, u61, u62, u63, u64, u65, u66, u67, u68, u69, u70, .bool true, .bool true, .pointer (some ⟨z, 0, none⟩), .pointer (some ⟨d, 2, none⟩), .agg #[.int .i64 k1, .int .i64 n1, .string s1, .slice A1 m1 p1], .agg #[.int .i64 (renE E1 a).kind, .int .i64 (renE E1 a).num, .string (renE E1 a).name, .slice A5 (renE E1 a).args.length n5], .pointer (some ⟨z, 0, none⟩), .pointer (some ⟨d, 6, none⟩), .agg #[.int .i64 k2, .int .i64 n2, .string s2, .slice A2 m2 p2], .agg #[.int .i64 (renE E1 b).kind, .int .i64 (renE E1 b).num, .string (renE E1 b).name, .slice A6 (renE E1 b).args.length n6], .pointer (some ⟨y, 2, none⟩), .pointer (some ⟨y, 6, none⟩), .pointer (some ⟨z, 0, none⟩), .pointer (some ⟨z, 0, none⟩), .pointer (some ⟨z, 0, none⟩), .slice Ao n co, .int .i64 (n : Int), .pointer (some ⟨z, 0, none⟩), .pointer (some ⟨d, 1, none⟩), .string s, .string (vN M1), .pointer (some ⟨y, 1, none⟩), .pointer (some ⟨z, 0, none⟩), .pointer (some ⟨d, 10, none⟩), .slice A3 body.length p3, .slice A7 (renL body ((s, vN M1) :: E1) (M1 + 1)).1.length n7, .pointer (some ⟨y, 10, none⟩), u98, u99, u100, u101, u102, u103, u104, u105, u106, u107, u108, u109, u110, u111, u112, u113, u114, u115, u116, u117, u118, u119, u120, undef], []⟩ ∧ Hid (lq.getD 16 false = false → wx = W8.drew) ∧ Hid (lq.getD 16 false = true → lq.getD 19 false = false → wx = (W8.drew.setCell ⟨z, 0, none⟩ (.slice Ap n cp))) ∧ Hid (lq.getD 19 false = true → wx = ((W8.drew.setCell ⟨z, 0, none⟩ (.slice Ap n cp)).setCell ⟨z, 1, none⟩ (.slice Aq n cq))) ∧ Hid (lq.getD 0 false = true → u98 = .pointer (some ⟨z, 0, none⟩)) ∧ Hid (lq.getD 1 false = true → u99 = .pointer (some ⟨z, 0, none⟩)) ∧ Hid (lq.getD 2 false = true → u100 = .pointer (some ⟨z, 0, none⟩)) ∧ Hid (lq.getD 3 false = true → u101 = .pointer (some ⟨z, 0, none⟩)) ∧ Hid (lq.getD 4 false = true → u102 = .pointer (some ⟨z, 0, none⟩)) ∧ Hid (lq.getD 5 false = true → u103 = .slice Ap (n + 1) cp) ∧ Hid (lq.getD 6 false = true → u104 = .int .i64 (n : Int)) ∧ Hid (lq.getD 7 false = true → u105 = .slice Ap n cp) ∧ Hid (lq.getD 8 false = true → u106 = .pointer (some ⟨z, 0, none⟩)) ∧ Hid (lq.getD 9 false = true → u107 = .pointer (some ⟨z, 0, none⟩)) ∧ Hid (lq.getD 10 false = true → u108 = .pointer (some ⟨z, 1, none⟩)) ∧ Hid (lq.getD 11 false = true → u109 = .slice Aq (n + 1) cq) ∧ Hid (lq.getD 12 false = true → u110 = .int .i64 (n : Int)) ∧ Hid (lq.getD 13 false = true → u111 = .slice Aq n cq) ∧ Hid (lq.getD 14 false = true → u112 = .pointer (some ⟨z, 0, none⟩)) ∧ Hid (lq.getD 15 false = true → u113 = .pointer (some ⟨z, 0, none⟩)) ∧ Hid (lq.getD 17 false = true → u114 = .pointer (some ⟨z, 0, none⟩)) ∧ Hid (lq.getD 18 false = true → u115 = .pointer (some ⟨z, 1, none⟩))) := ⟨_, rfl⟩
    have HI := hid hI
    clear hI
    refine wp_region_invC (by kernel_rfl) I ?_ ?_ ?_ ?_
    ·rw [HI.out]
     exact ⟨_, _, _, _, _, _, _, _, _, _, _, _, _, _, _, _, _, _, rfl, hid (fun _ => rfl), hid (fun h => by simp at h), hid (fun h => by simp at h), hid (fun h => by simp at h), hid (fun h => by simp at h), hid (fun h => by simp at h), hid (fun h => by simp at h), hid (fun h => by simp at h), hid (fun h => by simp at h), hid (fun h => by simp at h), hid (fun h => by simp at h), hid (fun h => by simp at h), hid (fun h => by simp at h), hid (fun h => by simp at h), hid (fun h => by simp at h), hid (fun h => by simp at h), hid (fun h => by simp at h), hid (fun h => by simp at h), hid (fun h => by simp at h), hid (fun h => by simp at h), hid (fun h => by simp at h)⟩
    ·intro lq aq wx i hl hc hI0 hi hn hd
     rw [HI.out] at hI0
     obtain ⟨u98, u99, u100, u101, u102, u103, u104, u105, u106, u107, u108, u109, u110, u111, u112, u113, u114, u115, rfl, hW0, hW1, hW2, f0, f1, f2, f3, f4, f5, f6, f7, f8, f9, f10, f11, f12, f13, f14, f15, f17, f18⟩ := hI0
     have hs : ∀ j, (lq.setIfInBounds i true).getD j false = if i = j then true else lq.getD j false := fun j => getD_set (by omega)
     have hk : ∀ j, i ≠ j → (lq.setIfInBounds i true).getD j false = lq.getD j false := fun j h => by rw [hs, if_neg h]
     replace hi : i < 20 := hi
     have hcase : i = 0 ∨ i = 1 ∨ i = 2 ∨ i = 3 ∨ i = 4 ∨ i = 5 ∨ i = 6 ∨ i = 7 ∨ i = 8 ∨ i = 9 ∨ i = 10 ∨ i = 11 ∨ i = 12 ∨ i = 13 ∨ i = 14 ∨ i = 15 ∨ i = 16 ∨ i = 17 ∨ i = 18 ∨ i = 19 := by omega
     rcases hcase with rfl | rfl | rfl | rfl | rfl | rfl | rfl | rfl | rfl | rfl | rfl | rfl | rfl | rfl | rfl | rfl | rfl | rfl | rfl | rfl
     ·skip
      refine wpOp_of_list (by rfl) ?_
      go_wp2_with fail
      show I _ _ _
      rw [HI.out]
      exact ⟨_, _, _, _, _, _, _, _, _, _, _, _, _, _, _, _, _, _, rfl, kf_ hW0, kf2_ hW1, kf_ hW2, hid (fun _ => rfl), kf_ f1, kf_ f2, kf_ f3, kf_ f4, kf_ f5, kf_ f6, kf_ f7, kf_ f8, kf_ f9, kf_ f10, kf_ f11, kf_ f12, kf_ f13, kf_ f14, kf_ f15, kf_ f17, kf_ f18⟩
     ·skip
      refine wpOp_of_list (by rfl) ?_
      go_wp2_with fail
      show I _ _ _
      rw [HI.out]
      exact ⟨_, _, _, _, _, _, _, _, _, _, _, _, _, _, _, _, _, _, rfl, kf_ hW0, kf2_ hW1, kf_ hW2, kf_ f0, hid (fun _ => rfl), kf_ f2, kf_ f3, kf_ f4, kf_ f5, kf_ f6, kf_ f7, kf_ f8, kf_ f9, kf_ f10, kf_ f11, kf_ f12, kf_ f13, kf_ f14, kf_ f15, kf_ f17, kf_ f18⟩
     ·skip
      refine wpOp_of_list (by rfl) ?_
      go_wp2_with fail
      show I _ _ _
      rw [HI.out]
      exact ⟨_, _, _, _, _, _, _, _, _, _, _, _, _, _, _, _, _, _, rfl, kf_ hW0, kf2_ hW1, kf_ hW2, kf_ f0, kf_ f1, hid (fun _ => rfl), kf_ f3, kf_ f4, kf_ f5, kf_ f6, kf_ f7, kf_ f8, kf_ f9, kf_ f10, kf_ f11, kf_ f12, kf_ f13, kf_ f14, kf_ f15, kf_ f17, kf_ f18⟩
     ·skip
      have d2 : lq.getD 2 false = true := hd 2 (by decide)
      obtain rfl := f2.out d2
      refine wpOp_of_list (by rfl) ?_
      go_wp2_with fail
      show I _ _ _
      rw [HI.out]
      exact ⟨_, _, _, _, _, _, _, _, _, _, _, _, _, _, _, _, _, _, rfl, kf_ hW0, kf2_ hW1, kf_ hW2, kf_ f0, kf_ f1, hid (fun _ => rfl), hid (fun _ => rfl), kf_ f4, kf_ f5, kf_ f6, kf_ f7, kf_ f8, kf_ f9, kf_ f10, kf_ f11, kf_ f12, kf_ f13, kf_ f14, kf_ f15, kf_ f17, kf_ f18⟩
     ·skip
      have d3 : lq.getD 3 false = true := hd 3 (by decide)
      obtain rfl := f3.out d3
      refine wpOp_of_list (by rfl) ?_
      go_wp2_with fail
      show I _ _ _
      rw [HI.out]
      exact ⟨_, _, _, _, _, _, _, _, _, _, _, _, _, _, _, _, _, _, rfl, kf_ hW0, kf2_ hW1, kf_ hW2, kf_ f0, kf_ f1, kf_ f2, hid (fun _ => rfl), hid (fun _ => rfl), kf_ f5, kf_ f6, kf_ f7, kf_ f8, kf_ f9, kf_ f10, kf_ f11, kf_ f12, kf_ f13, kf_ f14, kf_ f15, kf_ f17, kf_ f18⟩
     ·skip
      have d4 : lq.getD 4 false = true := hd 4 (by decide)
      obtain rfl := f4.out d4
      have nst16 : lq.getD 16 false = false := by
       cases e : lq.getD 16 false
       ·rfl
       ·have := hc 16 e 5 (by decide); rw [hn] at this; cases this
      obtain rfl := hW0.out nst16
      refine wpOp_of_list (by rfl) ?_
      go_wp2_with fail
      show I _ _ _
      rw [HI.out]
      exact ⟨_, _, _, _, _, _, _, _, _, _, _, _, _, _, _, _, _, _, rfl, hid (fun _ => rfl), hid (fun h _ => by rw [hk 16 (by decide), nst16] at h; cases h), hid (fun h => by rw [hk 19 (by decide)] at h; have h9 := hc 19 h 16 (by decide); rw [nst16] at h9; cases h9), kf_ f0, kf_ f1, kf_ f2, kf_ f3, hid (fun _ => rfl), hid (fun _ => rfl), kf_ f6, kf_ f7, kf_ f8, kf_ f9, kf_ f10, kf_ f11, kf_ f12, kf_ f13, kf_ f14, kf_ f15, kf_ f17, kf_ f18⟩
     ·skip
      refine wpOp_of_list (by rfl) ?_
      go_wp2_with fail
      show I _ _ _
      rw [HI.out]
      exact ⟨_, _, _, _, _, _, _, _, _, _, _, _, _, _, _, _, _, _, rfl, kf_ hW0, kf2_ hW1, kf_ hW2, kf_ f0, kf_ f1, kf_ f2, kf_ f3, kf_ f4, kf_ f5, hid (fun _ => rfl), kf_ f7, kf_ f8, kf_ f9, kf_ f10, kf_ f11, kf_ f12, kf_ f13, kf_ f14, kf_ f15, kf_ f17, kf_ f18⟩
     ·skip
      have d5 : lq.getD 5 false = true := hd 5 (by decide)
      have d6 : lq.getD 6 false = true := hd 6 (by decide)
      obtain rfl := f5.out d5
      obtain rfl := f6.out d6
      refine wpOp_of_list (by rfl) ?_
      go_wp2_with fail
      show I _ _ _
      rw [HI.out]
      exact ⟨_, _, _, _, _, _, _, _, _, _, _, _, _, _, _, _, _, _, rfl, kf_ hW0, kf2_ hW1, kf_ hW2, kf_ f0, kf_ f1, kf_ f2, kf_ f3, kf_ f4, hid (fun _ => rfl), hid (fun _ => rfl), hid (fun _ => rfl), kf_ f8, kf_ f9, kf_ f10, kf_ f11, kf_ f12, kf_ f13, kf_ f14, kf_ f15, kf_ f17, kf_ f18⟩
     ·skip
      refine wpOp_of_list (by rfl) ?_
      go_wp2_with fail
      show I _ _ _
      rw [HI.out]
      exact ⟨_, _, _, _, _, _, _, _, _, _, _, _, _, _, _, _, _, _, rfl, kf_ hW0, kf2_ hW1, kf_ hW2, kf_ f0, kf_ f1, kf_ f2, kf_ f3, kf_ f4, kf_ f5, kf_ f6, kf_ f7, hid (fun _ => rfl), kf_ f9, kf_ f10, kf_ f11, kf_ f12, kf_ f13, kf_ f14, kf_ f15, kf_ f17, kf_ f18⟩
     ·skip
      have d8 : lq.getD 8 false = true := hd 8 (by decide)
      obtain rfl := f8.out d8
      refine wpOp_of_list (by rfl) ?_
      go_wp2_with fail
      show I _ _ _
      rw [HI.out]
      exact ⟨_, _, _, _, _, _, _, _, _, _, _, _, _, _, _, _, _, _, rfl, kf_ hW0, kf2_ hW1, kf_ hW2, kf_ f0, kf_ f1, kf_ f2, kf_ f3, kf_ f4, kf_ f5, kf_ f6, kf_ f7, hid (fun _ => rfl), hid (fun _ => rfl), kf_ f10, kf_ f11, kf_ f12, kf_ f13, kf_ f14, kf_ f15, kf_ f17, kf_ f18⟩
     ·skip
      have d9 : lq.getD 9 false = true := hd 9 (by decide)
      obtain rfl := f9.out d9
      refine wpOp_of_list (by rfl) ?_
      go_wp2_with fail
      show I _ _ _
      rw [HI.out]
      exact ⟨_, _, _, _, _, _, _, _, _, _, _, _, _, _, _, _, _, _, rfl, kf_ hW0, kf2_ hW1, kf_ hW2, kf_ f0, kf_ f1, kf_ f2, kf_ f3, kf_ f4, kf_ f5, kf_ f6, kf_ f7, kf_ f8, hid (fun _ => rfl), hid (fun _ => rfl), kf_ f11, kf_ f12, kf_ f13, kf_ f14, kf_ f15, kf_ f17, kf_ f18⟩
     ·skip
      have d10 : lq.getD 10 false = true := hd 10 (by decide)
      obtain rfl := f10.out d10
      have nst16 : lq.getD 16 false = false := by
       cases e : lq.getD 16 false
       ·rfl
       ·have := hc 16 e 11 (by decide); rw [hn] at this; cases this
      obtain rfl := hW0.out nst16
      refine wpOp_of_list (by rfl) ?_
      go_wp2_with fail
      show I _ _ _
      rw [HI.out]
      exact ⟨_, _, _, _, _, _, _, _, _, _, _, _, _, _, _, _, _, _, rfl, hid (fun _ => rfl), hid (fun h _ => by rw [hk 16 (by decide), nst16] at h; cases h), hid (fun h => by rw [hk 19 (by decide)] at h; have h9 := hc 19 h 16 (by decide); rw [nst16] at h9; cases h9), kf_ f0, kf_ f1, kf_ f2, kf_ f3, kf_ f4, kf_ f5, kf_ f6, kf_ f7, kf_ f8, kf_ f9, hid (fun _ => rfl), hid (fun _ => rfl), kf_ f12, kf_ f13, kf_ f14, kf_ f15, kf_ f17, kf_ f18⟩
     ·skip
      refine wpOp_of_list (by rfl) ?_
      go_wp2_with fail
      show I _ _ _
      rw [HI.out]
      exact ⟨_, _, _, _, _, _, _, _, _, _, _, _, _, _, _, _, _, _, rfl, kf_ hW0, kf2_ hW1, kf_ hW2, kf_ f0, kf_ f1, kf_ f2, kf_ f3, kf_ f4, kf_ f5, kf_ f6, kf_ f7, kf_ f8, kf_ f9, kf_ f10, kf_ f11, hid (fun _ => rfl), kf_ f13, kf_ f14, kf_ f15, kf_ f17, kf_ f18⟩
     ·skip
      have d11 : lq.getD 11 false = true := hd 11 (by decide)
      have d12 : lq.getD 12 false = true := hd 12 (by decide)
      obtain rfl := f11.out d11
      obtain rfl := f12.out d12
      refine wpOp_of_list (by rfl) ?_
      go_wp2_with fail
      show I _ _ _
      rw [HI.out]
      exact ⟨_, _, _, _, _, _, _, _, _, _, _, _, _, _, _, _, _, _, rfl, kf_ hW0, kf2_ hW1, kf_ hW2, kf_ f0, kf_ f1, kf_ f2, kf_ f3, kf_ f4, kf_ f5, kf_ f6, kf_ f7, kf_ f8, kf_ f9, kf_ f10, hid (fun _ => rfl), hid (fun _ => rfl), hid (fun _ => rfl), kf_ f14, kf_ f15, kf_ f17, kf_ f18⟩
     ·skip
      have d0 : lq.getD 0 false = true := hd 0 (by decide)
      obtain rfl := f0.out d0
      refine wpOp_of_list (by rfl) ?_
      go_wp2_with fail
      show I _ _ _
      rw [HI.out]
      exact ⟨_, _, _, _, _, _, _, _, _, _, _, _, _, _, _, _, _, _, rfl, kf_ hW0, kf2_ hW1, kf_ hW2, hid (fun _ => rfl), kf_ f1, kf_ f2, kf_ f3, kf_ f4, kf_ f5, kf_ f6, kf_ f7, kf_ f8, kf_ f9, kf_ f10, kf_ f11, kf_ f12, kf_ f13, hid (fun _ => rfl), kf_ f15, kf_ f17, kf_ f18⟩
     ·skip
      have d14 : lq.getD 14 false = true := hd 14 (by decide)
      obtain rfl := f14.out d14
      refine wpOp_of_list (by rfl) ?_
      go_wp2_with fail
      show I _ _ _
      rw [HI.out]
      exact ⟨_, _, _, _, _, _, _, _, _, _, _, _, _, _, _, _, _, _, rfl, kf_ hW0, kf2_ hW1, kf_ hW2, kf_ f0, kf_ f1, kf_ f2, kf_ f3, kf_ f4, kf_ f5, kf_ f6, kf_ f7, kf_ f8, kf_ f9, kf_ f10, kf_ f11, kf_ f12, kf_ f13, hid (fun _ => rfl), hid (fun _ => rfl), kf_ f17, kf_ f18⟩
     ·skip
      have d7 : lq.getD 7 false = true := hd 7 (by decide)
      have d15 : lq.getD 15 false = true := hd 15 (by decide)
      obtain rfl := f15.out d15
      obtain rfl := f7.out d7
      obtain rfl := hW0.out hn
      refine wpOp_of_list (by rfl) ?_
      go_wp2_with fail
      show I _ _ _
      rw [HI.out]
      exact ⟨_, _, _, _, _, _, _, _, _, _, _, _, _, _, _, _, _, _, rfl, hid (fun h' => by rw [hs, if_pos rfl] at h'; cases h'), hid (fun _ _ => rfl), hid (fun h => by rw [hk 19 (by decide)] at h; have h9 := hc 19 h 16 (by decide); rw [hn] at h9; cases h9), kf_ f0, kf_ f1, kf_ f2, kf_ f3, kf_ f4, kf_ f5, kf_ f6, hid (fun _ => rfl), kf_ f8, kf_ f9, kf_ f10, kf_ f11, kf_ f12, kf_ f13, kf_ f14, hid (fun _ => rfl), kf_ f17, kf_ f18⟩
     ·skip
      have d1 : lq.getD 1 false = true := hd 1 (by decide)
      obtain rfl := f1.out d1
      refine wpOp_of_list (by rfl) ?_
      go_wp2_with fail
      show I _ _ _
      rw [HI.out]
      exact ⟨_, _, _, _, _, _, _, _, _, _, _, _, _, _, _, _, _, _, rfl, kf_ hW0, kf2_ hW1, kf_ hW2, kf_ f0, hid (fun _ => rfl), kf_ f2, kf_ f3, kf_ f4, kf_ f5, kf_ f6, kf_ f7, kf_ f8, kf_ f9, kf_ f10, kf_ f11, kf_ f12, kf_ f13, kf_ f14, kf_ f15, hid (fun _ => rfl), kf_ f18⟩
     ·skip
      have d17 : lq.getD 17 false = true := hd 17 (by decide)
      obtain rfl := f17.out d17
      refine wpOp_of_list (by rfl) ?_
      go_wp2_with fail
      show I _ _ _
      rw [HI.out]
      exact ⟨_, _, _, _, _, _, _, _, _, _, _, _, _, _, _, _, _, _, rfl, kf_ hW0, kf2_ hW1, kf_ hW2, kf_ f0, kf_ f1, kf_ f2, kf_ f3, kf_ f4, kf_ f5, kf_ f6, kf_ f7, kf_ f8, kf_ f9, kf_ f10, kf_ f11, kf_ f12, kf_ f13, kf_ f14, kf_ f15, hid (fun _ => rfl), hid (fun _ => rfl)⟩
     ·skip
      have d13 : lq.getD 13 false = true := hd 13 (by decide)
      have d16 : lq.getD 16 false = true := hd 16 (by decide)
      have d18 : lq.getD 18 false = true := hd 18 (by decide)
      obtain rfl := f18.out d18
      obtain rfl := f13.out d13
      obtain rfl := hW1.out d16 hn
      refine wpOp_of_list (by rfl) ?_
      go_wp2_with fail
      show I _ _ _
      rw [HI.out]
      exact ⟨_, _, _, _, _, _, _, _, _, _, _, _, _, _, _, _, _, _, rfl, hid (fun h' => by rw [hk 16 (by decide), d16] at h'; cases h'), hid (fun _ h' => by rw [hs, if_pos rfl] at h'; cases h'), hid (fun _ => rfl), kf_ f0, kf_ f1, kf_ f2, kf_ f3, kf_ f4, kf_ f5, kf_ f6, kf_ f7, kf_ f8, kf_ f9, kf_ f10, kf_ f11, kf_ f12, hid (fun _ => rfl), kf_ f14, kf_ f15, kf_ f17, hid (fun _ => rfl)⟩
    ·intro lq aq wx hl hall hI0
     rw [HI.out] at hI0
     obtain ⟨u98, u99, u100, u101, u102, u103, u104, u105, u106, u107, u108, u109, u110, u111, u112, u113, u114, u115, rfl, hW0, hW1, hW2, f0, f1, f2, f3, f4, f5, f6, f7, f8, f9, f10, f11, f12, f13, f14, f15, f17, f18⟩ := hI0
     obtain rfl := hW2.out (hall 19 (by decide))
     obtain rfl := f0.out (hall 0 (by decide))
     obtain rfl := f1.out (hall 1 (by decide))
     obtain rfl := f2.out (hall 2 (by decide))
     obtain rfl := f3.out (hall 3 (by decide))
     obtain rfl := f4.out (hall 4 (by decide))
     obtain rfl := f5.out (hall 5 (by decide))
     obtain rfl := f6.out (hall 6 (by decide))
     obtain rfl := f7.out (hall 7 (by decide))
     obtain rfl := f8.out (hall 8 (by decide))
     obtain rfl := f9.out (hall 9 (by decide))
     obtain rfl := f10.out (hall 10 (by decide))
     obtain rfl := f11.out (hall 11 (by decide))
     obtain rfl := f12.out (hall 12 (by decide))
     obtain rfl := f13.out (hall 13 (by decide))
     obtain rfl := f14.out (hall 14 (by decide))
     obtain rfl := f15.out (hall 15 (by decide))
     obtain rfl := f17.out (hall 17 (by decide))
     obtain rfl := f18.out (hall 18 (by decide))
     clear hW0 hW1 hW2 f0 f1 f2 f3 f4 f5 f6 f7 f8 f9 f10 f11 f12 f13 f14 f15 f17 f18 hall HI
     have HRC := hid (HR8.out.cutAt (n := n) (n' := n + 1) (by rw [HNN.out]; simp) (by rw [HNN.out]; simp))
     have eo : (Value.slice Ap n cp).ownBlock = (Value.slice Ap (n + 1) cp).ownBlock := by cases Ap <;> rfl
     have en : (Value.slice Aq n cq).ownBlock = (Value.slice Aq (n + 1) cq).ownBlock := by cases Aq <;> rfl
     have XA8' := ((XA8.below (Below.refl _ _).drew).set hzy (y := z) (o := 0) (.slice Ap n cp)).set hzy (y := z) (o := 1) (.slice Aq n cq)
     have XA8'' := XA8'.own eo en
     have XB8' := ((XB8.below (Below.refl _ _).drew).set hzy (y := z) (o := 0) (.slice Ap n cp)).set hzy (y := z) (o := 1) (.slice Aq n cq)
     have XB8'' := XB8'.own eo en
     have Y8' := ((Y8.below (Below.refl _ _).drew).set hzy (y := z) (o := 0) (.slice Ap n cp)).set hzy (y := z) (o := 1) (.slice Aq n cq)
     have Y8'' := Y8'.own eo en
     go_upto_region 24 with (fail)
     generalize ((W8.drew.setCell ⟨z, 0, none⟩ (.slice Ap n cp)).setCell ⟨z, 1, none⟩ (.slice Aq n cq)) = W9 at *
     clear XA8 XB8 Y8 XA8' XB8' Y8' HR8 eo en
     have e0 := HRC.out.yb.cell 0 _ rfl
     have e1 := HRC.out.yb.cell 1 _ rfl
     have e2 := HRC.out.yb.cell 2 _ rfl
     have e3 := HRC.out.yb.cell 3 _ rfl
     have e4 := HRC.out.yb.cell 4 _ rfl
     have e5 := HRC.out.yb.cell 5 _ rfl
     have e6 := HRC.out.yb.cell 6 _ rfl
     have e7 := HRC.out.yb.cell 7 _ rfl
     have e8 := HRC.out.yb.cell 8 _ rfl
     have e9 := HRC.out.yb.cell 9 _ rfl
     have e10 := HRC.out.yb.cell 10 _ rfl
     have e11 := HRC.out.yb.cell 11 _ rfl
     have g0 := HRC.out.yb.fr 0
     have g1 := HRC.out.yb.fr 1
     have g2 := HRC.out.yb.fr 2
     have g3 := HRC.out.yb.fr 3
     have g4 := HRC.out.yb.fr 4
     have g5 := HRC.out.yb.fr 5
     have g6 := HRC.out.yb.fr 6
     have g7 := HRC.out.yb.fr 7
     have g8 := HRC.out.yb.fr 8
     have g9 := HRC.out.yb.fr 9
     have g10 := HRC.out.yb.fr 10
     have g11 := HRC.out.yb.fr 11
     have hld := HRC.out.rn.bd.lt
     have hly := HRC.out.yb.lt
     have TL := hid (show Tld (y + 1) (.slice Ap n cp) (.slice Aq n cq) W9 (.mk 7 (vN M1) (renE E1 a) (renE E1 b) (renL body ((s, vN M1) :: E1) (M1 + 1)).1 []) [.int .i64 7, .string (vN M1), .int .i64 (renE E1 a).kind, .int .i64 (renE E1 a).num, .string (renE E1 a).name, .slice A5 (renE E1 a).args.length n5, .int .i64 (renE E1 b).kind, .int .i64 (renE E1 b).num, .string (renE E1 b).name, .slice A6 (renE E1 b).args.length n6, .slice A7 (renL body ((s, vN M1) :: E1) (M1 + 1)).1.length n7, .slice none 0 0] from Tld.mk4 hk (by have := vN_size M1 (by omega); unfold okS; omega) XA8'' XB8'' Y8'' (StR.nil _ _ _ _))
     have bel : Below W9.heap.size W9 (W9.alloc (.cells #[.int .i64 7, .string (vN M1), .int .i64 (renE E1 a).kind, .int .i64 (renE E1 a).num, .string (renE E1 a).name, .slice A5 (renE E1 a).args.length n5, .int .i64 (renE E1 b).kind, .int .i64 (renE E1 b).num, .string (renE E1 b).name, .slice A6 (renE E1 b).args.length n6, .slice A7 (renL body ((s, vN M1) :: E1) (M1 + 1)).1.length n7, .slice none 0 0] 82)) := (Below.refl _ _).alloc (Nat.le_refl _) _
     obtain ⟨T9, nT9, rT9⟩ := TL.out.rd
     obtain ⟨T0, n10, nv0, ro0⟩ := HRC.out.og
     have hyw : y + 1 ≤ W9.heap.size := hly
     have hMW : M ≤ W9.heap.size := Nat.le_trans hMy (Nat.le_of_lt hly)
     have HOW := hid ((ro0.keep RdSt.keeps bel).sub (Sub.left T0 T9))
     have HXW := hid (rdG_one (bytes := 184) (size := 12) (rd := fun w' _ e cs => RdSt w' T9 e cs) (S := Is W9.heap.size) (g := W9.heap.size) rfl (Blk.made W9 [.int .i64 7, .string (vN M1), .int .i64 (renE E1 a).kind, .int .i64 (renE E1 a).num, .string (renE E1 a).name, .slice A5 (renE E1 a).args.length n5, .int .i64 (renE E1 b).kind, .int .i64 (renE E1 b).num, .string (renE E1 b).name, .slice A6 (renE E1 b).args.length n6, .slice A7 (renL body ((s, vN M1) :: E1) (M1 + 1)).1.length n7, .slice none 0 0] 82 (base := 0) (Nat.zero_le _)).cell (RdSt.keeps _ _ _ _ _ _ (Sub.refl _) (same_of_below bel (nT9.upto (Nat.le_refl _))) rT9) rfl (by decide))
     have HU2 := hid (show Sub T9 (Upto (W9.alloc (.cells #[.int .i64 7, .string (vN M1), .int .i64 (renE E1 a).kind, .int .i64 (renE E1 a).num, .string (renE E1 a).name, .slice A5 (renE E1 a).args.length n5, .int .i64 (renE E1 b).kind, .int .i64 (renE E1 b).num, .string (renE E1 b).name, .slice A6 (renE E1 b).args.length n6, .slice A7 (renL body ((s, vN M1) :: E1) (M1 + 1)).1.length n7, .slice none 0 0] 82)).heap.size) from (nT9.upto (Nat.le_refl _)).trans (Sub.upto bel.size))
     have HU3 := hid (show ∀ k, u5.ownBlock = some k → ¬ T9 k from fun k hk h9 => by have h1 := (nv0 k hk).2.1; have h2 := (nT9 k h9).1; omega)
     have HTW := hid (HRC.out.tw.below bel)
     have HN0 := hid (n10.up (Nat.le_trans hMW bel.size))
     have HN1 := hid (nv0.up (Nat.le_trans hMW bel.size))
     have HN9 := hid (show Nw w.heap.size (W9.alloc (.cells #[.int .i64 7, .string (vN M1), .int .i64 (renE E1 a).kind, .int .i64 (renE E1 a).num, .string (renE E1 a).name, .slice A5 (renE E1 a).args.length n5, .int .i64 (renE E1 b).kind, .int .i64 (renE E1 b).num, .string (renE E1 b).name, .slice A6 (renE E1 b).args.length n6, .slice A7 (renL body ((s, vN M1) :: E1) (M1 + 1)).1.length n7, .slice none 0 0] 82)).heap.size (.slice Ap n cp) (.slice Aq n cq) T9 from (nT9.low (by omega)).up bel.size)
     have HSZ := hid (show w.heap.size ≤ (W9.alloc (.cells #[.int .i64 7, .string (vN M1), .int .i64 (renE E1 a).kind, .int .i64 (renE E1 a).num, .string (renE E1 a).name, .slice A5 (renE E1 a).args.length n5, .int .i64 (renE E1 b).kind, .int .i64 (renE E1 b).num, .string (renE E1 b).name, .slice A6 (renE E1 b).args.length n6, .slice A7 (renL body ((s, vN M1) :: E1) (M1 + 1)).1.length n7, .slice none 0 0] 82)).heap.size from Nat.le_trans (by omega) bel.size)
     have hO1 : O1.length + 1 ≤ 67108865 := by omega
     clear nT9 rT9 n10 nv0 ro0 bel TL XA8'' XB8'' Y8''
     go_wp2_with (at_builtin; refine wpList_append_list rfl _ _ 31 rfl i0 _ Tryz.underlying31 hi hz0 hz1' hz2 rfl (by decide) RdSt.keeps HOW.out HXW.out rfl rfl (Sub.right _ _) HU2.out HU3.out oneSt ?c3 ?c4 ?c5 ?_)
     case c3 => unfold maxLen; (try simp only [List.length_singleton]); omega
     case c4 => (try simp only [List.length_singleton]); omega
     try (case c5 => first | exact HSZ.out | (have h9 := HSZ.out; rw [World.size_alloc] at h9; exact h9))
     intro v9 w9 ho9 hg9 hn9
     have HT9 := hid (HTW.out.butT (But.of_grown hg9) (fun k hk => ⟨(HN1.out k hk).1, (HN1.out k hk).2.2⟩))
     have HO9 := hid (OutG.append HTW.out HSZ.out HN0.out HN1.out HN9.out hg9 ho9 (by rw [World.size_alloc]; exact hn9))
     clear ho9 hg9 hn9 hO1 hld hly  e0 e1 e2 e3 e4 e5 e6 e7 e8 e9 e10 e11 g0 g1 g2 g3 g4 g5 g6 g7 g8 g9 g10 g11
     go_wp2_with fail
     go_roundw
     case rel => exact ⟨q + 1, by omega, by go_num, _, _, hid (by rw [HE.out]; exact HT9.out), hid (by rw [HE.out]; exact HO9.out)⟩
     case measure => simp [intOf]; omega
    ·decide
   have HE := hid (show renP (l.take (q + 1)) V m = (O1 ++ [.mk k noS exZ exZ [] []], E1, M1) by rw [htk, renP_snoc, ← hP, stepR, renS_other (by omega)])
   have k1 : (k == 1) = false := (by simpa using h1); have k2 : (k == 2) = false := (by simpa using h2); have k3 : (k == 3) = false := (by simpa using h3); have k4 : (k == 4) = false := (by simpa using h4); have k5 : (k == 5) = false := (by simpa using h5); have k6 : (k == 6) = false := (by simpa using h6); have k7 : (k == 7) = false := (by simpa using h7)
   clear h1 h2 h3 h4 h5 h6 h7
   go_upto_region 24 with (fail)
   have e0 := HR0.out.yb.cell 0 _ rfl
   have e1 := HR0.out.yb.cell 1 _ rfl
   have e2 := HR0.out.yb.cell 2 _ rfl
   have e3 := HR0.out.yb.cell 3 _ rfl
   have e4 := HR0.out.yb.cell 4 _ rfl
   have e5 := HR0.out.yb.cell 5 _ rfl
   have e6 := HR0.out.yb.cell 6 _ rfl
   have e7 := HR0.out.yb.cell 7 _ rfl
   have e8 := HR0.out.yb.cell 8 _ rfl
   have e9 := HR0.out.yb.cell 9 _ rfl
   have e10 := HR0.out.yb.cell 10 _ rfl
   have e11 := HR0.out.yb.cell 11 _ rfl
   have g0 := HR0.out.yb.fr 0
   have g1 := HR0.out.yb.fr 1
   have g2 := HR0.out.yb.fr 2
   have g3 := HR0.out.yb.fr 3
   have g4 := HR0.out.yb.fr 4
   have g5 := HR0.out.yb.fr 5
   have g6 := HR0.out.yb.fr 6
   have g7 := HR0.out.yb.fr 7
   have g8 := HR0.out.yb.fr 8
   have g9 := HR0.out.yb.fr 9
   have g10 := HR0.out.yb.fr 10
   have g11 := HR0.out.yb.fr 11
   have hld := HR0.out.rn.bd.lt
   have hly := HR0.out.yb.lt
   have TL := hid (show Tld (y + 1) vo' vn' W (.mk k noS exZ exZ [] []) [.int .i64 k, .string noS, .int .i64 0, .int .i64 0, .string noS, .slice none 0 0, .int .i64 0, .int .i64 0, .string noS, .slice none 0 0, .slice none 0 0, .slice none 0 0] from Tld.mk4 hk okS_noS (ExR.zero _ _ _ _) (ExR.zero _ _ _ _) (StR.nil _ _ _ _) (StR.nil _ _ _ _))
   have bel : Below W.heap.size W (W.alloc (.cells #[.int .i64 k, .string noS, .int .i64 0, .int .i64 0, .string noS, .slice none 0 0, .int .i64 0, .int .i64 0, .string noS, .slice none 0 0, .slice none 0 0, .slice none 0 0] 82)) := (Below.refl _ _).alloc (Nat.le_refl _) _
   obtain ⟨T9, nT9, rT9⟩ := TL.out.rd
   obtain ⟨T0, n10, nv0, ro0⟩ := HR0.out.og
   have hyw : y + 1 ≤ W.heap.size := hly
   have hMW : M ≤ W.heap.size := Nat.le_trans hMy (Nat.le_of_lt hly)
   have HOW := hid ((ro0.keep RdSt.keeps bel).sub (Sub.left T0 T9))
   have HXW := hid (rdG_one (bytes := 184) (size := 12) (rd := fun w' _ e cs => RdSt w' T9 e cs) (S := Is W.heap.size) (g := W.heap.size) rfl (Blk.made W [.int .i64 k, .string noS, .int .i64 0, .int .i64 0, .string noS, .slice none 0 0, .int .i64 0, .int .i64 0, .string noS, .slice none 0 0, .slice none 0 0, .slice none 0 0] 82 (base := 0) (Nat.zero_le _)).cell (RdSt.keeps _ _ _ _ _ _ (Sub.refl _) (same_of_below bel (nT9.upto (Nat.le_refl _))) rT9) rfl (by decide))
   have HU2 := hid (show Sub T9 (Upto (W.alloc (.cells #[.int .i64 k, .string noS, .int .i64 0, .int .i64 0, .string noS, .slice none 0 0, .int .i64 0, .int .i64 0, .string noS, .slice none 0 0, .slice none 0 0, .slice none 0 0] 82)).heap.size) from (nT9.upto (Nat.le_refl _)).trans (Sub.upto bel.size))
   have HU3 := hid (show ∀ k, u5.ownBlock = some k → ¬ T9 k from fun k hk h9 => by have h1 := (nv0 k hk).2.1; have h2 := (nT9 k h9).1; omega)
   have HTW := hid (HR0.out.tw.below bel)
   have HN0 := hid (n10.up (Nat.le_trans hMW bel.size))
   have HN1 := hid (nv0.up (Nat.le_trans hMW bel.size))
   have HN9 := hid (show Nw w.heap.size (W.alloc (.cells #[.int .i64 k, .string noS, .int .i64 0, .int .i64 0, .string noS, .slice none 0 0, .int .i64 0, .int .i64 0, .string noS, .slice none 0 0, .slice none 0 0, .slice none 0 0] 82)).heap.size vo' vn' T9 from (nT9.low (by omega)).up bel.size)
   have HSZ := hid (show w.heap.size ≤ (W.alloc (.cells #[.int .i64 k, .string noS, .int .i64 0, .int .i64 0, .string noS, .slice none 0 0, .int .i64 0, .int .i64 0, .string noS, .slice none 0 0, .slice none 0 0, .slice none 0 0] 82)).heap.size from Nat.le_trans (by omega) bel.size)
   have hO1 : O1.length + 1 ≤ 67108865 := by omega
   clear nT9 rT9 n10 nv0 ro0 bel TL 
   go_wp2_with (at_builtin; refine wpList_append_list rfl _ _ 31 rfl i0 _ Tryz.underlying31 hi hz0 hz1' hz2 rfl (by decide) RdSt.keeps HOW.out HXW.out rfl rfl (Sub.right _ _) HU2.out HU3.out oneSt ?c3 ?c4 ?c5 ?_)
   case c3 => unfold maxLen; (try simp only [List.length_singleton]); omega
   case c4 => (try simp only [List.length_singleton]); omega
   try (case c5 => first | exact HSZ.out | (have h9 := HSZ.out; rw [World.size_alloc] at h9; exact h9))
   intro v9 w9 ho9 hg9 hn9
   have HT9 := hid (HTW.out.butT (But.of_grown hg9) (fun k hk => ⟨(HN1.out k hk).1, (HN1.out k hk).2.2⟩))
   have HO9 := hid (OutG.append HTW.out HSZ.out HN0.out HN1.out HN9.out hg9 ho9 (by rw [World.size_alloc]; exact hn9))
   clear ho9 hg9 hn9 hO1 hld hly  e0 e1 e2 e3 e4 e5 e6 e7 e8 e9 e10 e11 g0 g1 g2 g3 g4 g5 g6 g7 g8 g9 g10 g11
   go_wp2_with fail
   go_roundw
   case rel => exact ⟨q + 1, by omega, by go_num, _, _, hid (by rw [HE.out]; exact HT9.out), hid (by rw [HE.out]; exact HO9.out)⟩
   case measure => simp [intOf]; omega
  ·have hql : q = l.length := by omega
   subst hql
   rw [List.take_of_length_le (Nat.le_refl _)] at HK HO
   have hRL := renP_L l V m
   have hOl := renP_len V m l
   have hlw := len_wts l
   go_wp2
   go_ret
   refine ⟨_, vo', vn', rfl, ?_, ?_⟩
   ·rw [← hRL.2]; exact HK.out
   ·rw [← hRL.1]; exact HO.out.toR (Nat.le_refl _) (by omega)
end Go.Proofs.YtnpgpcnkdocknaaGreatDoor
