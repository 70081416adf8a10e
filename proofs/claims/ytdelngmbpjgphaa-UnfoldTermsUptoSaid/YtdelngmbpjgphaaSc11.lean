/- The walk of the reference's lfree, at a list with a first one. -/
import Derived.Test.YtdelngmbpjgphaaSc10
namespace Go.Proofs.Ytdelngmbpjgphaa
open Go.RowKit
set_option linter.unusedVariables false
theorem Rnd.drew {base : Nat} {S : Blocks} {d : Nat} {cs : List Value} {a b : Ex} {VA VB : Value} {body els : List St} {v1 v2 : Value} {w : World} (h : Rnd base S d cs a b VA VB body els v1 v2 w) (hS : Sub S (Upto base)) : Rnd base S d cs a b VA VB body els v1 v2 w.drew :=
  h.but (T := Nowhere) (But.of_below (Below.refl _ _).drew) (fun k hk => hk.elim) (fun h => h) hS
set_option maxHeartbeats 8000000 in
set_option maxRecDepth 100000 in
theorem lfs_cons (k : Int) (s : Str) (a b : Ex) (body els rest : List St) (hrest : LFs rest) (hbody : LFs body) (hels : LFs els) : LFs (.mk k s a b body els :: rest) := by
  intro B w S v u hS r hu hwl hB
  obtain ⟨A, cap, rfl, hl, hcm, hby⟩ := r.form
  obtain ⟨Au, cu, rfl, hul, hum, _⟩ := hu.form
  unfold maxLen at hcm hum
  obtain ⟨b0, off, cs, rfl, hb, hcl, hcell, hrd⟩ := r.at_ (q := 0) (by simp)
  have hb : b0 < w.heap.size := hS _ hb
  simp only [List.getElem_cons_zero] at hrd
  obtain ⟨k1, n1, s1, A1, m1, p1, k2, n2, s2, A2, m2, p2, A3, p3, A4, p4, rfl, hk, hs, ra, rb, rv, rv'⟩ := hrd.cells
  have RT := Lib.hid (show RdSts w S rest _ from RdL.drop r (k := 1) (by simp))
  have e0 : w.cell? ⟨b0, off, none⟩ = some _ := hcell 0 _ rfl
  have e1 : w.cell? ⟨b0, off + 1, none⟩ = some _ := hcell 1 _ rfl; have e2 : w.cell? ⟨b0, off + 2, none⟩ = some _ := hcell 2 _ rfl; have e3 : w.cell? ⟨b0, off + 3, none⟩ = some _ := hcell 3 _ rfl; have e4 : w.cell? ⟨b0, off + 4, none⟩ = some _ := hcell 4 _ rfl; have e5 : w.cell? ⟨b0, off + 5, none⟩ = some _ := hcell 5 _ rfl; have e6 : w.cell? ⟨b0, off + 6, none⟩ = some _ := hcell 6 _ rfl; have e7 : w.cell? ⟨b0, off + 7, none⟩ = some _ := hcell 7 _ rfl; have e8 : w.cell? ⟨b0, off + 8, none⟩ = some _ := hcell 8 _ rfl; have e9 : w.cell? ⟨b0, off + 9, none⟩ = some _ := hcell 9 _ rfl; have e10 : w.cell? ⟨b0, off + 10, none⟩ = some _ := hcell 10 _ rfl; have e11 : w.cell? ⟨b0, off + 11, none⟩ = some _ := hcell 11 _ rfl
  rw [St.wts, St.wt] at hwl hB
  have hx0 : St.wts rest ≤ 1048576 := by omega
  have hx1 : a.wt ≤ 1048576 := by omega
  have hx2 : b.wt ≤ 1048576 := by omega
  have hx3 : St.wts body ≤ 1048576 := by omega
  have hx4 : St.wts els ≤ 1048576 := by omega
  have hy : B.length + 1 + (a.wt + b.wt + St.wts body + St.wts els + St.wts rest) ≤ 1073741824 := by omega
  have HOKs := Lib.hid (show okS s from hs)
  have HU := Lib.hid hu
  have HS := Lib.hid hS
  have HI0 := Lib.hid hrest
  have HI1 := Lib.hid hbody
  have HI2 := Lib.hid hels
  have hbel : Below w.heap.size w (w.alloc (.cells #[.int .i64 k, .string s, .int .i64 k1, .int .i64 n1, .string s1, .slice A1 m1 p1, .int .i64 k2, .int .i64 n2, .string s2, .slice A2 m2 p2, .slice A3 body.length p3, .slice A4 els.length p4] 112)) := (Below.refl _ _).alloc (Nat.le_refl _) _
  have HRN := Lib.hid (show ∃ d, d = w.heap.size ∧ Rnd w.heap.size S d [.int .i64 k, .string s, .int .i64 k1, .int .i64 n1, .string s1, .slice A1 m1 p1, .int .i64 k2, .int .i64 n2, .string s2, .slice A2 m2 p2, .slice A3 body.length p3, .slice A4 els.length p4] a b (exV k1 n1 s1 (.slice A1 m1 p1)) (exV k2 n2 s2 (.slice A2 m2 p2)) body els (.slice A3 body.length p3) (.slice A4 els.length p4) (w.alloc (.cells #[.int .i64 k, .string s, .int .i64 k1, .int .i64 n1, .string s1, .slice A1 m1 p1, .int .i64 k2, .int .i64 n2, .string s2, .slice A2 m2 p2, .slice A3 body.length p3, .slice A4 els.length p4] 112)) from ⟨_, rfl, Blk.made w _ 112 (Nat.le_refl _), (RdEx.toE ra).go hbel hS, (RdEx.toE rb).go hbel hS, rv.go RdSt.keeps hbel hS (Sub.refl _), rv'.go RdSt.keeps hbel hS (Sub.refl _)⟩)
  have HBL := Lib.hid hbel
  have hln : (St.mk k s a b body els :: rest).length = rest.length + 1 := rfl
  rw [hln] at hl RT
  rw [Nat.add_sub_cancel] at RT
  have hn1 : (1 : Int) ≤ ((rest.length + 1 : Nat) : Int) := by omega
  have en : (((rest.length + 1 : Nat) : Int) == 0) = false := by simp; omega
  have hBB : B.length + 1 + (St.wts body + St.wts els + St.wts rest) ≤ 1073741824 := by omega
  clear hrd hcell hcl ra rb rv rv' r hu hS hrest hbody hels hbel hby hwl hB hk hs hln hy
  go_enter Try.func56, Try.ntmps56
  go_upto_region 3 with (fail)
  go_cut [5, 6] (fun x5 x6 wx => ∃ d, x5 = .pointer (some ⟨d, 0, none⟩) ∧ Hid (RdSts wx S rest x6) ∧ Hid (Rnd w.heap.size S d [.int .i64 k, .string s, .int .i64 k1, .int .i64 n1, .string s1, .slice A1 m1 p1, .int .i64 k2, .int .i64 n2, .string s2, .slice A2 m2 p2, .slice A3 body.length p3, .slice A4 els.length p4] a b (exV k1 n1 s1 (.slice A1 m1 p1)) (exV k2 n2 s2 (.slice A2 m2 p2)) body els (.slice A3 body.length p3) (.slice A4 els.length p4) wx) ∧ Hid (Below w.heap.size w wx))
  case first =>
    by_cases hc1 : cap = 1
    · subst hc1
      go_region
      go_wp2_with fail
      go_meet
      obtain ⟨d, rfl, hr⟩ := HRN.out
      refine ⟨_, rfl, Lib.hid ?_, Lib.hid (hr.drew HS.out), Lib.hid HBL.out.drew⟩
      have hr0 : rest = [] := List.eq_nil_of_length_eq_zero (by omega)
      subst hr0
      exact RdL.nil (by simp [maxLen])
    · have hc2 : (1 : Int) < (cap : Int) := by omega
      go_region
      go_wp2_with fail
      go_meet
      obtain ⟨d, rfl, hr⟩ := HRN.out
      refine ⟨_, rfl, Lib.hid ?_, Lib.hid (hr.drew HS.out), Lib.hid HBL.out.drew⟩
      exact RT.out.keep RdSt.keeps (Sub.refl _) (same_of_below HBL.out.drew HS.out)
  case rest =>
    obtain ⟨d, rfl, RR, RN, HB0⟩ := hcut
    obtain ⟨W, hW⟩ : ∃ W, W = wc := ⟨_, rfl⟩
    subst hW
    have hzw := HB0.out.size
    have HSW := Lib.hid (HS.out.trans (Sub.upto hzw))
    have RU := Lib.hid (Fr.via HB0.out HU.out)
    have HWP := Lib.hid (fun w' h => Stay.size h : ∀ w', Stay W w' → W.heap.size ≤ w'.heap.size)
    have c0 := RN.out.bd.cell 0 _ rfl; have c1 := RN.out.bd.cell 1 _ rfl; have c2 := RN.out.bd.cell 2 _ rfl; have c3 := RN.out.bd.cell 3 _ rfl; have c4 := RN.out.bd.cell 4 _ rfl; have c5 := RN.out.bd.cell 5 _ rfl; have c6 := RN.out.bd.cell 6 _ rfl; have c7 := RN.out.bd.cell 7 _ rfl; have c8 := RN.out.bd.cell 8 _ rfl; have c9 := RN.out.bd.cell 9 _ rfl; have c10 := RN.out.bd.cell 10 _ rfl; have c11 := RN.out.bd.cell 11 _ rfl
    have hdl := RN.out.bd.lt
    have HLA := Lib.hid (show a.names.length ≤ 1073741824 by have := a.names_len; omega)
    have HLB := Lib.hid (show b.names.length ≤ 1073741824 by have := b.names_len; omega)
    clear HBL HRN RT e0 e1 e2 e3 e4 e5 e6 e7 e8 e9 e10 e11
    go_upto_region 5 with (fail)
    go_cut [8, 9] (fun x8 x9 wx => Hid (FrS wx (lnot a.names B) x8) ∧ Hid (FrS wx (lnot b.names B) x9) ∧ Hid (Below W.heap.size W wx))
    case first =>
      go_region_held3 (fun w' => Stay W w') (first | assumption | exact Stay.mk (Kept.start _) | ((refine Stay.mk ?_; (repeat (with_reducible first | refine Kept.set ?_ (by omega) _ | refine Kept.drew ?_ | refine Kept.alloc ?_ _)); first | exact Kept.refl _ | assumption)))
        (first
          | ((go_at_call_of 71 (Value.agg #[.int .i64 k1, .int .i64 n1, .string s1, .slice A1 m1 p1]); refine (ens_all a _ S _ (HSW.out.trans (Sub.upto (HWP.out _ (by assumption)))) (RN.out.ra.keep (Sub.refl _) (Same.sub (Stay.same (by assumption)) HSW.out)) hx1).mono ?_; rintro e wa1 ⟨xa, rfl, hfa, hb1⟩; have hst1 : Stay W wa1 := Stay.step hb1 (by assumption); have hk1 : Kept W wa1 := Kept.here hst1))
          | ((go_at_call_of 71 (Value.agg #[.int .i64 k2, .int .i64 n2, .string s2, .slice A2 m2 p2]); refine (ens_all b _ S _ (HSW.out.trans (Sub.upto (HWP.out _ (by assumption)))) (RN.out.rb.keep (Sub.refl _) (Same.sub (Stay.same (by assumption)) HSW.out)) hx2).mono ?_; rintro e wb1 ⟨xb, rfl, hfb, hb2⟩; have hst2 : Stay W wb1 := Stay.step hb2 (by assumption); have hk2 : Kept W wb1 := Kept.here hst2))
          | ((go_at_call_of 70 xa; refine (lnot_any a.names B _ _ _ ?_ ?_ HLA.out).mono ?_; (focus (repeat (with_reducible first | exact hfa | refine Fr.drew ?_ | refine Fr.via hb2 ?_ | refine Fr.via hb4 ?_))); (exact Fr.via (Stay.below (by assumption)) RU.out); rintro e wl1 ⟨ya, rfl, hga, hb3⟩; have hst3 : Stay W wl1 := Stay.step hb3 (by assumption); have hk3 : Kept W wl1 := Kept.here hst3))
          | ((go_at_call_of 70 xb; refine (lnot_any b.names B _ _ _ ?_ ?_ HLB.out).mono ?_; (focus (repeat (with_reducible first | exact hfb | refine Fr.drew ?_ | refine Fr.via hb1 ?_ | refine Fr.via hb3 ?_))); (exact Fr.via (Stay.below (by assumption)) RU.out); rintro e wl2 ⟨yb, rfl, hgb, hb4⟩; have hst4 : Stay W wl2 := Stay.step hb4 (by assumption); have hk4 : Kept W wl2 := Kept.here hst4)))
      all_goals (try go_wp2_with fail)
      all_goals go_meet
      all_goals (refine ⟨Lib.hid ?_, Lib.hid ?_, Lib.hid (Stay.below (by assumption))⟩)
      all_goals (focus (repeat (with_reducible first | exact hga | exact hgb | refine Fr.drew ?_ | refine Fr.via hb1 ?_ | refine Fr.via hb2 ?_ | refine Fr.via hb3 ?_ | refine Fr.via hb4 ?_)))
    case rest =>
      obtain ⟨H8, H9, HB1⟩ := hcut
      obtain ⟨W2, hW2⟩ : ∃ W2, W2 = wc := ⟨_, rfl⟩
      subst hW2
      have hz2 := HB1.out.size
      have HB := Lib.hid (HB0.out.trans (HB1.out.mono hzw))
      have HSX := Lib.hid (HSW.out.trans (Sub.upto hz2))
      have RX := Lib.hid (Fr.via HB1.out RU.out)
      have RR2 := Lib.hid (RR.out.go RdSt.keeps HB1.out HSW.out (Sub.refl _))
      have RN2 := Lib.hid (RN.out.but (T := Nowhere) (But.of_below HB1.out) (fun k hk => hk.elim) (fun h => h) HS.out)
      clear c0 c1 c2 c3 c4 c5 c6 c7 c8 c9 c10 c11 hdl RR RU RN HSW HWP HB0 HB1 hzw
      have HWP := Lib.hid (fun w' h => Stay.size h : ∀ w', Stay W2 w' → W2.heap.size ≤ w'.heap.size)
      have c0 := RN2.out.bd.cell 0 _ rfl; have c1 := RN2.out.bd.cell 1 _ rfl; have c2 := RN2.out.bd.cell 2 _ rfl; have c3 := RN2.out.bd.cell 3 _ rfl; have c4 := RN2.out.bd.cell 4 _ rfl; have c5 := RN2.out.bd.cell 5 _ rfl; have c6 := RN2.out.bd.cell 6 _ rfl; have c7 := RN2.out.bd.cell 7 _ rfl; have c8 := RN2.out.bd.cell 8 _ rfl; have c9 := RN2.out.bd.cell 9 _ rfl; have c10 := RN2.out.bd.cell 10 _ rfl; have c11 := RN2.out.bd.cell 11 _ rfl
      have hdl := RN2.out.bd.lt
      have hla := Nat.le_trans (lnot_len a.names B) a.names_len
      have hlb := Nat.le_trans (lnot_len b.names B) b.names_len
      have HMX := Lib.hid (merge_len (lnot a.names B) (lnot b.names B))
      have hmx := HMX.out
      have hfr := lfree_len rest B
      have hfr1 := lfree_len rest (B ++ [s])
      have hfb := lfree_len body B
      have hfb1 := lfree_len body (B ++ [s])
      have hfe := lfree_len els B
      have HOK1 := Lib.hid (show okS s from HOKs.out)
      have hyB : B.length + 1 + (St.wts body + St.wts els + St.wts rest) ≤ 1073741824 := hBB
      have hyS : (B ++ [s]).length ≤ B.length + 1 := by simp
      have HYr := Lib.hid (show B.length + St.wts rest ≤ 1073741824 by omega)
      have HYr1 := Lib.hid (show (B ++ [s]).length + St.wts rest ≤ 1073741824 by omega)
      have HYb := Lib.hid (show B.length + St.wts body ≤ 1073741824 by omega)
      have HYb1 := Lib.hid (show (B ++ [s]).length + St.wts body ≤ 1073741824 by omega)
      have HYe := Lib.hid (show B.length + St.wts els ≤ 1073741824 by omega)
      by_cases h1 : k = 1
      · subst h1
        have HX := Lib.hid (show lfree (.mk 1 s a b body els :: rest) B = merge (lnot a.names B) (lfree rest (B ++ [s])) by rw [lfree, oneF_let (.inl rfl), bindsOf_let (.inl rfl)])
        have HL1 := Lib.hid (show (lnot a.names B).length + (lfree rest (B ++ [s])).length ≤ 1073741824 by omega)
        have HLS := Lib.hid (show B.length + 1 ≤ 1073741824 by omega)
        have HPW := Lib.hid (Nat.le_refl W2.heap.size)
        go_wp2_with fail
        go_region_held3 (fun w' => Stay W2 w') (first | assumption | exact Stay.mk (Kept.start _) | ((refine Stay.mk ?_; (repeat (with_reducible first | refine Kept.set ?_ (by omega) _ | refine Kept.drew ?_ | refine Kept.alloc ?_ _)); first | exact Kept.refl _ | assumption)))
          (first
            | ((refine step_append_0 (by rfl) (.tmp 35) (.tmp 36) (by rfl) _ (by rfl) (by rfl) (m := B) W2.heap.size ?_ (HWP.out _ (by assumption)) ?_; (exact Fr.via (Stay.below (by assumption)) RX.out); intro v1 wz p9 q9 ho1 hbz; obtain ⟨A3', n3', rfl⟩ := ho1.form; have hst31 : Stay W2 wz := Stay.step hbz (by assumption); have hk31 : Kept W2 wz := Kept.here hst31))
            | ((refine step_append_x (by rfl) (.tmp 37) (.tmp 40) (by rfl) (by rfl) (by rfl) (v := Value.slice A3' B.length n3') (l := B) W2.heap.size p9 q9 s ?_ ?_ HLS.out ?_; (focus (repeat (with_reducible first | exact ho1 | refine AppM.drew ?_ | refine AppM.alloc ?_ | refine AppM.via hbz ?_))); (focus ((repeat (with_reducible first | refine frS_new _ HOK1.out ?_ | refine Fr.drew ?_ | refine Fr.alloc ?_ | refine Fr.via hbz ?_)); (first | rfl | exact World.size_alloc _ _ | (simp; done)))); intro A4' n4' wf hf2 hbp hbt; have hst32 : Stay W2 wf := Stay.of ((Stay.below (by assumption)).trans hbp); have hk32 : Kept W2 wf := Kept.here hst32))
            | ((go_at_call_of 56 u6; refine (HI0.out (B ++ [s]) _ S _ _ (HSX.out.trans (Sub.upto (HWP.out _ (by assumption)))) (RR2.out.keep RdSt.keeps (Sub.refl _) (Same.sub (Stay.same (by assumption)) HSX.out)) ?_ hx0 HYr1.out).mono ?_; (focus (repeat (with_reducible first | exact hf2 | refine Fr.drew ?_ | refine Fr.alloc ?_ | refine Fr.via hbz ?_))); rintro e wl ⟨xl, rfl, hfl, hbl⟩; have hst33 : Stay W2 wl := Stay.step hbl (by assumption); have hk33 : Kept W2 wl := Kept.here hst33))
            | ((go_at_call_of 72 u8; refine (merge_any (lnot a.names B) (lfree rest (B ++ [s])) _ _ _ ?_ ?_ HL1.out).mono ?_; (exact Fr.via (Stay.below (by assumption)) H8.out); (focus (repeat (with_reducible first | exact hfl | refine Fr.drew ?_ | refine Fr.alloc ?_ | refine Fr.via hbl ?_))); rintro e wm ⟨xr, rfl, hfm, hbm⟩; have hst34 : Stay W2 wm := Stay.step hbm (by assumption); have hk34 : Kept W2 wm := Kept.here hst34)))
        all_goals (
          go_wp2
          go_ret
          exact ⟨xr, rfl, by rw [HX.out]; exact hfm, HB.out.trans (hst34.below.mono HB.out.size)⟩)
      by_cases h2 : k = 2
      · subst h2
        have HX := Lib.hid (show lfree (.mk 2 s a b body els :: rest) B = merge (lnot a.names B) (lfree rest (B ++ [s])) by rw [lfree, oneF_let (.inr rfl), bindsOf_let (.inr rfl)])
        have HL1 := Lib.hid (show (lnot a.names B).length + (lfree rest (B ++ [s])).length ≤ 1073741824 by omega)
        have HLS := Lib.hid (show B.length + 1 ≤ 1073741824 by omega)
        have HPW := Lib.hid (Nat.le_refl W2.heap.size)
        go_wp2_with fail
        go_region_held3 (fun w' => Stay W2 w') (first | assumption | exact Stay.mk (Kept.start _) | ((refine Stay.mk ?_; (repeat (with_reducible first | refine Kept.set ?_ (by omega) _ | refine Kept.drew ?_ | refine Kept.alloc ?_ _)); first | exact Kept.refl _ | assumption)))
          (first
            | ((refine step_append_0 (by rfl) (.tmp 35) (.tmp 36) (by rfl) _ (by rfl) (by rfl) (m := B) W2.heap.size ?_ (HWP.out _ (by assumption)) ?_; (exact Fr.via (Stay.below (by assumption)) RX.out); intro v1 wz p9 q9 ho1 hbz; obtain ⟨A3', n3', rfl⟩ := ho1.form; have hst31 : Stay W2 wz := Stay.step hbz (by assumption); have hk31 : Kept W2 wz := Kept.here hst31))
            | ((refine step_append_x (by rfl) (.tmp 37) (.tmp 40) (by rfl) (by rfl) (by rfl) (v := Value.slice A3' B.length n3') (l := B) W2.heap.size p9 q9 s ?_ ?_ HLS.out ?_; (focus (repeat (with_reducible first | exact ho1 | refine AppM.drew ?_ | refine AppM.alloc ?_ | refine AppM.via hbz ?_))); (focus ((repeat (with_reducible first | refine frS_new _ HOK1.out ?_ | refine Fr.drew ?_ | refine Fr.alloc ?_ | refine Fr.via hbz ?_)); (first | rfl | exact World.size_alloc _ _ | (simp; done)))); intro A4' n4' wf hf2 hbp hbt; have hst32 : Stay W2 wf := Stay.of ((Stay.below (by assumption)).trans hbp); have hk32 : Kept W2 wf := Kept.here hst32))
            | ((go_at_call_of 56 u6; refine (HI0.out (B ++ [s]) _ S _ _ (HSX.out.trans (Sub.upto (HWP.out _ (by assumption)))) (RR2.out.keep RdSt.keeps (Sub.refl _) (Same.sub (Stay.same (by assumption)) HSX.out)) ?_ hx0 HYr1.out).mono ?_; (focus (repeat (with_reducible first | exact hf2 | refine Fr.drew ?_ | refine Fr.alloc ?_ | refine Fr.via hbz ?_))); rintro e wl ⟨xl, rfl, hfl, hbl⟩; have hst33 : Stay W2 wl := Stay.step hbl (by assumption); have hk33 : Kept W2 wl := Kept.here hst33))
            | ((go_at_call_of 72 u8; refine (merge_any (lnot a.names B) (lfree rest (B ++ [s])) _ _ _ ?_ ?_ HL1.out).mono ?_; (exact Fr.via (Stay.below (by assumption)) H8.out); (focus (repeat (with_reducible first | exact hfl | refine Fr.drew ?_ | refine Fr.alloc ?_ | refine Fr.via hbl ?_))); rintro e wm ⟨xr, rfl, hfm, hbm⟩; have hst34 : Stay W2 wm := Stay.step hbm (by assumption); have hk34 : Kept W2 wm := Kept.here hst34)))
        all_goals (
          go_wp2
          go_ret
          exact ⟨xr, rfl, by rw [HX.out]; exact hfm, HB.out.trans (hst34.below.mono HB.out.size)⟩)
      by_cases h3 : k = 3
      · subst h3
        have HX := Lib.hid (show lfree (.mk 3 s a b body els :: rest) B = merge (merge (lnot a.names B) (lnot b.names B)) (lfree rest B) by rw [lfree, oneF_store, bindsOf_no (by omega), List.append_nil])
        have HL1 := Lib.hid (show (lnot a.names B).length + (lnot b.names B).length ≤ 1073741824 by omega)
        have HL9 := Lib.hid (show (merge (lnot a.names B) (lnot b.names B)).length + (lfree rest B).length ≤ 1073741824 by omega)
        go_wp2_with fail
        refine (merge_any _ _ _ _ _ H8.out H9.out HL1.out).mono ?_
        rintro e w7 ⟨x7, rfl, hf7, hb7⟩
        have FQ := Lib.hid hf7
        have HQ := Lib.hid (HB.out.trans (hb7.mono HB.out.size))
        have hq2 := hb7
        clear hf7 hb7
        go_wp2_with fail
        refine (HI0.out B _ S _ _ (HSX.out.trans (Sub.upto hq2.size)) (RR2.out.go RdSt.keeps hq2 HSX.out (Sub.refl _)) (Fr.via hq2 RX.out) hx0 (by omega)).mono ?_
        rintro e w8 ⟨x8, rfl, hf8, hb8⟩
        have F8 := Lib.hid hf8
        have FX := Lib.hid (Fr.via hb8 FQ.out)
        have HB8 := Lib.hid (HQ.out.trans (hb8.mono HQ.out.size))
        clear hf8 hb8 hq2
        go_wp2_with fail
        refine (merge_any _ _ _ _ _ FX.out F8.out HL9.out).mono ?_
        rintro e w9 ⟨x9, rfl, hf9, hb9⟩
        go_wp2
        go_ret
        exact ⟨_, rfl, by rw [HX.out]; exact hf9, HB8.out.trans (hb9.mono HB8.out.size)⟩
      by_cases h4 : k = 4
      · subst h4
        have HX := Lib.hid (show lfree (.mk 4 s a b body els :: rest) B = merge (lfree body B) (lfree rest B) by rw [lfree, oneF_async (.inl rfl), bindsOf_no (by omega), List.append_nil])
        have HL9 := Lib.hid (show (lfree body B).length + (lfree rest B).length ≤ 1073741824 by omega)
        go_wp2_with fail
        refine (HI1.out B _ S _ _ HSX.out RN2.out.r1 RX.out hx3 (by omega)).mono ?_
        rintro e w7 ⟨x7, rfl, hf7, hb7⟩
        have FQ := Lib.hid hf7
        have HQ := Lib.hid (HB.out.trans (hb7.mono HB.out.size))
        have hq2 := hb7
        clear hf7 hb7
        go_wp2_with fail
        refine (HI0.out B _ S _ _ (HSX.out.trans (Sub.upto hq2.size)) (RR2.out.go RdSt.keeps hq2 HSX.out (Sub.refl _)) (Fr.via hq2 RX.out) hx0 (by omega)).mono ?_
        rintro e w8 ⟨x8, rfl, hf8, hb8⟩
        have F8 := Lib.hid hf8
        have FX := Lib.hid (Fr.via hb8 FQ.out)
        have HB8 := Lib.hid (HQ.out.trans (hb8.mono HQ.out.size))
        clear hf8 hb8 hq2
        go_wp2_with fail
        refine (merge_any _ _ _ _ _ FX.out F8.out HL9.out).mono ?_
        rintro e w9 ⟨x9, rfl, hf9, hb9⟩
        go_wp2
        go_ret
        exact ⟨_, rfl, by rw [HX.out]; exact hf9, HB8.out.trans (hb9.mono HB8.out.size)⟩
      by_cases h5 : k = 5
      · subst h5
        have HX := Lib.hid (show lfree (.mk 5 s a b body els :: rest) B = merge (lfree body B) (lfree rest B) by rw [lfree, oneF_async (.inr rfl), bindsOf_no (by omega), List.append_nil])
        have HL9 := Lib.hid (show (lfree body B).length + (lfree rest B).length ≤ 1073741824 by omega)
        go_wp2_with fail
        refine (HI1.out B _ S _ _ HSX.out RN2.out.r1 RX.out hx3 (by omega)).mono ?_
        rintro e w7 ⟨x7, rfl, hf7, hb7⟩
        have FQ := Lib.hid hf7
        have HQ := Lib.hid (HB.out.trans (hb7.mono HB.out.size))
        have hq2 := hb7
        clear hf7 hb7
        go_wp2_with fail
        refine (HI0.out B _ S _ _ (HSX.out.trans (Sub.upto hq2.size)) (RR2.out.go RdSt.keeps hq2 HSX.out (Sub.refl _)) (Fr.via hq2 RX.out) hx0 (by omega)).mono ?_
        rintro e w8 ⟨x8, rfl, hf8, hb8⟩
        have F8 := Lib.hid hf8
        have FX := Lib.hid (Fr.via hb8 FQ.out)
        have HB8 := Lib.hid (HQ.out.trans (hb8.mono HQ.out.size))
        clear hf8 hb8 hq2
        go_wp2_with fail
        refine (merge_any _ _ _ _ _ FX.out F8.out HL9.out).mono ?_
        rintro e w9 ⟨x9, rfl, hf9, hb9⟩
        go_wp2
        go_ret
        exact ⟨_, rfl, by rw [HX.out]; exact hf9, HB8.out.trans (hb9.mono HB8.out.size)⟩
      by_cases h6 : k = 6
      · subst h6
        have HX := Lib.hid (show lfree (.mk 6 s a b body els :: rest) B = merge (merge (lnot a.names B) (merge (lfree body B) (lfree els B))) (lfree rest B) by rw [lfree, oneF_if, bindsOf_no (by omega), List.append_nil])
        have hm1 := merge_len (lfree body B) (lfree els B)
        have hm2 := merge_len (lnot a.names B) (merge (lfree body B) (lfree els B))
        have HL1 := Lib.hid (show (lfree body B).length + (lfree els B).length ≤ 1073741824 by omega)
        have HL2 := Lib.hid (show (lnot a.names B).length + (merge (lfree body B) (lfree els B)).length ≤ 1073741824 by omega)
        have HL9 := Lib.hid (show (merge (lnot a.names B) (merge (lfree body B) (lfree els B))).length + (lfree rest B).length ≤ 1073741824 by omega)
        go_wp2_with fail
        go_region_held3 (fun w' => Stay W2 w') (first | assumption | exact Stay.mk (Kept.start _) | ((refine Stay.mk ?_; (repeat (with_reducible first | refine Kept.set ?_ (by omega) _ | refine Kept.drew ?_ | refine Kept.alloc ?_ _)); first | exact Kept.refl _ | assumption)))
          (first
            | ((go_at_call_of 56 (Value.slice A3 body.length p3); refine (HI1.out (B) _ S _ _ (HSX.out.trans (Sub.upto (HWP.out _ (by assumption)))) (RN2.out.r1.keep RdSt.keeps (Sub.refl _) (Same.sub (Stay.same (by assumption)) HSX.out)) ?_ hx3 HYb.out).mono ?_; (exact Fr.via (Stay.below (by assumption)) RX.out); rintro e wa1 ⟨xa, rfl, hfa, hb1⟩; have hst11 : Stay W2 wa1 := Stay.step hb1 (by assumption); have hk11 : Kept W2 wa1 := Kept.here hst11))
            | ((go_at_call_of 56 (Value.slice A4 els.length p4); refine (HI2.out (B) _ S _ _ (HSX.out.trans (Sub.upto (HWP.out _ (by assumption)))) (RN2.out.r2.keep RdSt.keeps (Sub.refl _) (Same.sub (Stay.same (by assumption)) HSX.out)) ?_ hx4 HYe.out).mono ?_; (exact Fr.via (Stay.below (by assumption)) RX.out); rintro e wb1 ⟨xb, rfl, hfb', hb2⟩; have hst12 : Stay W2 wb1 := Stay.step hb2 (by assumption); have hk12 : Kept W2 wb1 := Kept.here hst12))
            | ((go_at_call_of 72 xa; refine (merge_any (lfree body B) (lfree els B) _ _ _ ?_ ?_ HL1.out).mono ?_; (focus (repeat (with_reducible first | exact hfa | refine Fr.drew ?_ | refine Fr.alloc ?_ | refine Fr.via hb2 ?_))); (focus (repeat (with_reducible first | exact hfb' | refine Fr.drew ?_ | refine Fr.alloc ?_ | refine Fr.via hb1 ?_))); rintro e wc3 ⟨xc, rfl, hfc, hb3⟩; have hst13 : Stay W2 wc3 := Stay.step hb3 (by assumption); have hk13 : Kept W2 wc3 := Kept.here hst13))
            | ((go_at_call_of 72 u8; refine (merge_any (lnot a.names B) (merge (lfree body B) (lfree els B)) _ _ _ ?_ ?_ HL2.out).mono ?_; (exact Fr.via (Stay.below (by assumption)) H8.out); (focus (repeat (with_reducible first | exact hfc | refine Fr.drew ?_ | refine Fr.alloc ?_ | refine Fr.via hb3 ?_))); rintro e wd4 ⟨xd, rfl, hfd, hb4⟩; have hst14 : Stay W2 wd4 := Stay.step hb4 (by assumption); have hk14 : Kept W2 wd4 := Kept.here hst14)))
        rename_i hhh
        clear hhh
        have hb7 := hst14.below
        have hf7 := hfd
        clear hst11 hst12 hst13 hst14 hk11 hk12 hk13 hk14 hfa hfb' hfc hfd hb1 hb2 hb3 hb4
        have FQ := Lib.hid hf7
        have HQ := Lib.hid (HB.out.trans (hb7.mono HB.out.size))
        have hq2 := hb7
        clear hf7 hb7
        go_wp2_with fail
        refine (HI0.out B _ S _ _ (HSX.out.trans (Sub.upto hq2.size)) (RR2.out.go RdSt.keeps hq2 HSX.out (Sub.refl _)) (Fr.via hq2 RX.out) hx0 (by omega)).mono ?_
        rintro e w8 ⟨x8, rfl, hf8, hb8⟩
        have F8 := Lib.hid hf8
        have FX := Lib.hid (Fr.via hb8 FQ.out)
        have HB8 := Lib.hid (HQ.out.trans (hb8.mono HQ.out.size))
        clear hf8 hb8 hq2
        go_wp2_with fail
        refine (merge_any _ _ _ _ _ FX.out F8.out HL9.out).mono ?_
        rintro e w9 ⟨x9, rfl, hf9, hb9⟩
        go_wp2
        go_ret
        exact ⟨_, rfl, by rw [HX.out]; exact hf9, HB8.out.trans (hb9.mono HB8.out.size)⟩
      by_cases h7 : k = 7
      · subst h7
        have HX := Lib.hid (show lfree (.mk 7 s a b body els :: rest) B = merge (merge (merge (lnot a.names B) (lnot b.names B)) (lfree body (B ++ [s]))) (lfree rest B) by rw [lfree, oneF_for, bindsOf_no (by omega), List.append_nil])
        have hm2 := merge_len (merge (lnot a.names B) (lnot b.names B)) (lfree body (B ++ [s]))
        have HL1 := Lib.hid (show (lnot a.names B).length + (lnot b.names B).length ≤ 1073741824 by omega)
        have HL2 := Lib.hid (show (merge (lnot a.names B) (lnot b.names B)).length + (lfree body (B ++ [s])).length ≤ 1073741824 by omega)
        have HL9 := Lib.hid (show (merge (merge (lnot a.names B) (lnot b.names B)) (lfree body (B ++ [s]))).length + (lfree rest B).length ≤ 1073741824 by omega)
        have HLS := Lib.hid (show B.length + 1 ≤ 1073741824 by omega)
        have HPW := Lib.hid (Nat.le_refl W2.heap.size)
        go_wp2_with fail
        go_region_held3 (fun w' => Stay W2 w') (first | assumption | exact Stay.mk (Kept.start _) | ((refine Stay.mk ?_; (repeat (with_reducible first | refine Kept.set ?_ (by omega) _ | refine Kept.drew ?_ | refine Kept.alloc ?_ _)); first | exact Kept.refl _ | assumption)))
          (first
            | ((refine step_append_02 (by rfl) (.tmp 76) (.tmp 77) (by rfl) _ (by rfl) (by rfl) (m := B) (lm := merge (lnot a.names B) (lnot b.names B)) (xm := xm) W2.heap.size ?_ ?_ (HWP.out _ (by assumption)) ?_; (focus (repeat (with_reducible first | exact hm | refine Fr.drew ?_ | refine Fr.alloc ?_ | refine Fr.via hbm ?_))); (exact Fr.via (Stay.below (by assumption)) RX.out); intro v1 wz p9 q9 hmR ho1 hbz; obtain ⟨A3', n3', rfl⟩ := ho1.form; have hst31 : Stay W2 wz := Stay.step hbz (by assumption); have hk31 : Kept W2 wz := Kept.here hst31))
            | ((refine step_append_0 (by rfl) (.tmp 76) (.tmp 77) (by rfl) _ (by rfl) (by rfl) (m := B) W2.heap.size ?_ (HWP.out _ (by assumption)) ?_; (exact Fr.via (Stay.below (by assumption)) RX.out); intro v1 wz p9 q9 ho1 hbz; obtain ⟨A3', n3', rfl⟩ := ho1.form; have hst31 : Stay W2 wz := Stay.step hbz (by assumption); have hk31 : Kept W2 wz := Kept.here hst31))
            | ((refine step_append_x2 (by rfl) (.tmp 78) (.tmp 81) (by rfl) (by rfl) (by rfl) (v := Value.slice A3' B.length n3') (l := B) (lm := merge (lnot a.names B) (lnot b.names B)) (xm := xm) W2.heap.size p9 q9 s ?_ ?_ ?_ HLS.out ?_; (focus (repeat (with_reducible first | exact hmR | refine FrR.drew ?_ | refine FrR.alloc ?_ | refine FrR.via hbz ?_ | refine FrR.via hbm ?_))); (focus (repeat (with_reducible first | exact ho1 | refine AppM.drew ?_ | refine AppM.alloc ?_ | refine AppM.via hbz ?_ | refine AppM.via hbm ?_))); (focus ((repeat (with_reducible first | refine frS_new _ HOK1.out ?_ | refine Fr.drew ?_ | refine Fr.alloc ?_ | refine Fr.via hbz ?_ | refine Fr.via hbm ?_)); (first | rfl | exact World.size_alloc _ _ | (simp; done)))); intro A4' n4' wf hfm hf2 hbp; have hst32 : Stay W2 wf := Stay.of ((Stay.below (by assumption)).trans hbp); have hk32 : Kept W2 wf := Kept.here hst32))
            | ((refine step_append_x (by rfl) (.tmp 78) (.tmp 81) (by rfl) (by rfl) (by rfl) (v := Value.slice A3' B.length n3') (l := B) W2.heap.size p9 q9 s ?_ ?_ HLS.out ?_; (focus (repeat (with_reducible first | exact ho1 | refine AppM.drew ?_ | refine AppM.alloc ?_ | refine AppM.via hbz ?_ | refine AppM.via hbm ?_))); (focus ((repeat (with_reducible first | refine frS_new _ HOK1.out ?_ | refine Fr.drew ?_ | refine Fr.alloc ?_ | refine Fr.via hbz ?_ | refine Fr.via hbm ?_)); (first | rfl | exact World.size_alloc _ _ | (simp; done)))); intro A4' n4' wf hf2 hbp hbt; have hst32 : Stay W2 wf := Stay.of ((Stay.below (by assumption)).trans hbp); have hk32 : Kept W2 wf := Kept.here hst32))
            | ((go_at_call_of 72 u8; refine (merge_own W2.heap.size p9 q9 (lnot a.names B) (lnot b.names B) _ _ _ (B := B) (V := Value.slice A3' B.length n3') ?_ ?_ ?_ HL1.out).mono ?_; (focus (repeat (with_reducible first | exact ho1 | refine AppM.drew ?_ | refine AppM.alloc ?_ | refine AppM.via hbz ?_))); (exact Fr.via (Stay.below (by assumption)) H8.out); (exact Fr.via (Stay.below (by assumption)) H9.out); rintro e wm ⟨xm, q9, rfl, hmR, ho1, hbm⟩; have hst35 : Stay W2 wm := Stay.step hbm (by assumption); have hk35 : Kept W2 wm := Kept.here hst35))
            | ((go_at_call_of 72 u8; refine (merge_any (lnot a.names B) (lnot b.names B) _ _ _ ?_ ?_ HL1.out).mono ?_; (exact Fr.via (Stay.below (by assumption)) H8.out); (exact Fr.via (Stay.below (by assumption)) H9.out); rintro e wm ⟨xm, rfl, hm, hbm⟩; have hst35 : Stay W2 wm := Stay.step hbm (by assumption); have hk35 : Kept W2 wm := Kept.here hst35))
            | ((go_at_call_of 56 (Value.slice A3 body.length p3); refine (HI1.out (B ++ [s]) _ S _ _ (HSX.out.trans (Sub.upto (HWP.out _ (by assumption)))) (RN2.out.r1.keep RdSt.keeps (Sub.refl _) (Same.sub (Stay.same (by assumption)) HSX.out)) ?_ hx3 HYb1.out).mono ?_; (focus (repeat (with_reducible first | exact hf2 | refine Fr.drew ?_ | refine Fr.alloc ?_ | refine Fr.via hbm ?_))); rintro e wl ⟨xl, rfl, hfl, hbl⟩; have hst33 : Stay W2 wl := Stay.step hbl (by assumption); have hk33 : Kept W2 wl := Kept.here hst33))
            | ((go_at_call_of 72 xm; refine (merge_any (merge (lnot a.names B) (lnot b.names B)) (lfree body (B ++ [s])) _ _ _ ?_ ?_ HL2.out).mono ?_; (focus (repeat (with_reducible first | exact hm | exact hfm | refine Fr.drew ?_ | refine Fr.alloc ?_ | refine Fr.via hbl ?_))); (focus (repeat (with_reducible first | exact hfl | refine Fr.drew ?_ | refine Fr.alloc ?_ | refine Fr.via hbm ?_))); rintro e wd4 ⟨xd, rfl, hfd, hb4⟩; have hst14 : Stay W2 wd4 := Stay.step hb4 (by assumption); have hk14 : Kept W2 wd4 := Kept.here hst14)))
        all_goals (
          rename_i hhh
          clear hhh
          have hb7 := hst14.below
          have hf7 := hfd
          clear hst14 hst31 hst32 hst33 hst35 hk14 hk31 hk32 hk33 hk35 hfl hfd hbz hbp hbl hb4 hbm hf2 ho1
          try clear hmR
          try clear hfm
          try clear hm
          try clear hbt
          have FQ := Lib.hid hf7
          have HQ := Lib.hid (HB.out.trans (hb7.mono HB.out.size))
          have hq2 := hb7
          clear hf7 hb7
          go_wp2_with fail
          refine (HI0.out B _ S _ _ (HSX.out.trans (Sub.upto hq2.size)) (RR2.out.go RdSt.keeps hq2 HSX.out (Sub.refl _)) (Fr.via hq2 RX.out) hx0 (by omega)).mono ?_
          rintro e w8 ⟨x8, rfl, hf8, hb8⟩
          have F8 := Lib.hid hf8
          have FX := Lib.hid (Fr.via hb8 FQ.out)
          have HB8 := Lib.hid (HQ.out.trans (hb8.mono HQ.out.size))
          clear hf8 hb8 hq2
          go_wp2_with fail
          refine (merge_any _ _ _ _ _ FX.out F8.out HL9.out).mono ?_
          rintro e w9 ⟨x9, rfl, hf9, hb9⟩
          go_wp2
          go_ret
          exact ⟨_, rfl, by rw [HX.out]; exact hf9, HB8.out.trans (hb9.mono HB8.out.size)⟩)
      have HX := Lib.hid (show lfree (.mk k s a b body els :: rest) B = merge [] (lfree rest B) by rw [lfree, oneF_other (by omega), bindsOf_no (by omega), List.append_nil])
      have HL9 := Lib.hid (show (([] : List Str)).length + (lfree rest B).length ≤ 1073741824 by simp; omega)
      have g1 : (k == 1) = false := (by simpa using h1); have g2 : (k == 2) = false := (by simpa using h2); have g3 : (k == 3) = false := (by simpa using h3); have g4 : (k == 4) = false := (by simpa using h4); have g5 : (k == 5) = false := (by simpa using h5); have g6 : (k == 6) = false := (by simpa using h6); have g7 : (k == 7) = false := (by simpa using h7)
      clear h1 h2 h3 h4 h5 h6 h7
      have FQ := Lib.hid (show FrS W2 [] (.slice none 0 0) from Fr.nil (by simp [maxLen]))
      have HQ := HB
      have hq2 := Below.refl W2.heap.size W2
      go_wp2_with fail
      refine (HI0.out B _ S _ _ (HSX.out.trans (Sub.upto hq2.size)) (RR2.out.go RdSt.keeps hq2 HSX.out (Sub.refl _)) (Fr.via hq2 RX.out) hx0 (by omega)).mono ?_
      rintro e w8 ⟨x8, rfl, hf8, hb8⟩
      have F8 := Lib.hid hf8
      have FX := Lib.hid (Fr.via hb8 FQ.out)
      have HB8 := Lib.hid (HQ.out.trans (hb8.mono HQ.out.size))
      clear hf8 hb8 hq2
      go_wp2_with fail
      refine (merge_any _ _ _ _ _ FX.out F8.out HL9.out).mono ?_
      rintro e w9 ⟨x9, rfl, hf9, hb9⟩
      go_wp2
      go_ret
      exact ⟨_, rfl, by rw [HX.out]; exact hf9, HB8.out.trans (hb9.mono HB8.out.size)⟩
end Go.Proofs.Ytdelngmbpjgphaa
