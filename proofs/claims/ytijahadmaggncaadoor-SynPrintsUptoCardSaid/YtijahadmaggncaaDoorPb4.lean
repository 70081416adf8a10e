/- The walk of the printer's expr. -/
import Derived.Test.YtijahadmaggncaaDoorPb3
import Derived.Test.YtijahadmaggncaaDoorRdEW
namespace Go.Proofs.YtijahadmaggncaaDoor
open Go.RowKit
set_option linter.unusedVariables false
/-- the tables lie below the base -/
structure FmtB (base : Nat) (w : World) : Prop where
  fmt : FmtT w
  g1 : 5 < base
  g2 : 1 < base
theorem FmtB.go {base p : Nat} {w w' : World} (h : FmtB base w) (g : PrGo base p w w') : FmtB base w' := ⟨h.fmt.below g.be h.g1 h.g2, h.g1, h.g2⟩
theorem FmtB.next {base : Nat} {w w' : World} (h : FmtB base w) (g : Below base w w') : FmtB base w' := ⟨h.fmt.below g h.g1 h.g2, h.g1, h.g2⟩
/-- all is not well -/
theorem pr_bad {base p : Nat} {w : World} {acc : List UInt8} {bad : Bool} (h : PrAt base p w acc bad) :
    w.cell? ⟨p, 2, none⟩ = some (.bool bad) ∧ w.frozen? ⟨p, 2, none⟩ = false ∧ PrAt base p (w.setCell ⟨p, 2, none⟩ (.bool true)) acc true ∧ PrGo base p w (w.setCell ⟨p, 2, none⟩ (.bool true)) := by
  obtain ⟨v, a, ha, h⟩ := h
  exact ⟨h.c2, h.fr 2, ⟨v, a, ha, h.set2 _⟩, (Below.refl _ _).setCell (p := ⟨p, 2, none⟩) h.ge _, (Lib.OthersKept.refl _ _ w).setCell ⟨p, 2, none⟩ rfl _⟩
def PxE (t : Ex) : Prop := ∀ (inner : Bool) (base p : Nat) (w : World) (S : Blocks) (V : Value) (acc : List UInt8) (bad : Bool), Sub S (Upto base) → base ≤ w.heap.size → PrAt base p w acc bad → RdE w S t V → FmtB base w → t.wt ≤ 1048576 → acc.length + 64 * t.wt ≤ 140737488355328 →
  Calls Tryd.prog 65 #[.pointer (some ⟨p, 0, none⟩), V, .bool inner] w fun e w' => (∃ x, e = .returned x) ∧ PrAt base p w' (putL acc (tkE false t inner).1) (bad || !(tkE false t inner).2) ∧ PrGo base p w w' ∧ tsz (tkE false t inner).1 ≤ 64 * t.wt
set_option maxHeartbeats 2000000 in
set_option maxRecDepth 100000 in
theorem px_none (t : Ex) (ht : t.pair = none) : PxE t := by
  intro inner base p w S V acc bad hS hb h r hF hwt hl
  obtain ⟨k, n, s, args, v, rfl, rfl, hk, hn, hs, hargs⟩ := id r
  obtain ⟨A, cap, rfl, hcl, hcm, _⟩ := hargs.form
  unfold maxLen at hcm
  have ht1 := tkE_none (neg := false) ht inner
  have hp := Ex.pair_none ht
  have hw1 := Ex.wt_pos' (Ex.mk k n s args)
  simp only [Ex.kind, Ex.name, Ex.args] at hp hw1
  replace ht1 : tkE false (Ex.mk k n s args) inner = if k = 1 then (if 0 ≤ n then ([itoaS n], true) else ([], false)) else if k = 2 then ([s], knameB s) else ([], false) := ht1
  generalize htt : tkE false (Ex.mk k n s args) inner = tt at ht1
  generalize (Ex.mk k n s args).wt = wt at *
  have HT := Lib.hid ht1
  have hbl : Below w.heap.size w (w.alloc (.cells #[.int .i64 k, .int .i64 n, .string s, .slice A args.length cap] 74)) := (Below.refl _ _).alloc (Nat.le_refl _) _
  have HX := Lib.hid (BoxIs.made w #[.int .i64 k, .int .i64 n, .string s, .slice A args.length cap] 74)
  have H := Lib.hid (h.below hbl)
  have G := Lib.hid (PrGo.of_below (p := p) hbl hb)
  have HF := Lib.hid (hF.go G.out)
  have HB := Lib.hid (Nat.le_trans hb hbl.size)
  generalize args.length = m at *
  have hdp : w.heap.size ≠ p := by have := h.lt; omega
  unfold exV
  clear h hF hbl ht1 r hargs htt hS hb
  go_enter_defers Tryd.func65, Tryd.ntmps65
  go_upto_region 2 with (fail)
  generalize (w.alloc (.cells #[.int .i64 k, .int .i64 n, .string s, .slice A m cap] 74)) = W at *
  generalize w.heap.size = d at *
  have c0 := HX.out.cell 0
  have c1 := HX.out.cell 1
  have c2 := HX.out.cell 2
  have c3 := HX.out.cell 3
  by_cases h1 : k = 1
  · subst h1
    by_cases h0 : 0 ≤ n
    · have HT1 := Lib.hid (show tt = ([itoaS n], true) by rw [HT.out, if_pos rfl, if_pos h0])
      go_wp2_with (go_at_call 108; refine (itoa_n n hn.1 hn.2 _ HF.out.fmt.pow).mono ?_)
      rintro e w1 rfl hb1
      have H1 := Lib.hid (H.out.below hb1)
      have G1 := Lib.hid (G.out.trans (PrGo.of_below hb1 HB.out))
      have HB1 := Lib.hid (Nat.le_trans HB.out hb1.size)
      clear hb1 c0 c1 c2 c3
      have hi := itoaS_size n hn.1 hn.2
      go_wp2_with (go_at_call 63; refine (put_new [itoaS n] H1.out HB1.out (by rw [tsz_one]; omega)).mono ?_)
      rintro e w2 ⟨⟨x, rfl⟩, h2, g2⟩
      have H2 := Lib.hid h2
      have G2 := Lib.hid (G1.out.trans g2)
      clear h2 g2
      go_wp2
      exact ⟨_, results_none rfl _ _ _, ⟨_, rfl⟩, by rw [HT1.out, Bool.not_true, Bool.or_false]; exact H2.out, G2.out, by rw [HT1.out, tsz_one]; omega⟩
    · have HT1 := Lib.hid (show tt = ([], false) by rw [HT.out, if_pos rfl, if_neg h0])
      obtain ⟨b0, b1, b2, b3⟩ := pr_bad H.out
      have B2 := Lib.hid b2
      have B3 := Lib.hid (G.out.trans b3)
      clear b2 b3
      go_wp2
      exact ⟨_, results_none rfl _ _ _, ⟨_, rfl⟩, by rw [HT1.out, Bool.not_false, Bool.or_true]; exact B2.out, B3.out, by rw [HT1.out]; exact Nat.zero_le _⟩
  · by_cases h2 : k = 2
    · subst h2
      have HT1 := Lib.hid (show tt = ([s], knameB s) by rw [HT.out, if_neg (by decide), if_pos rfl])
      clear h1
      go_wp2_with (go_at_call 64; refine (pname_any s H.out (by omega) HB.out (by omega)).mono ?_)
      rintro e w2 x rfl h2' g2'
      have H2 := Lib.hid h2'
      have G2 := Lib.hid (G.out.trans g2')
      clear h2' g2'
      go_wp2
      exact ⟨_, results_none rfl _ _ _, ⟨_, rfl⟩, by rw [HT1.out]; exact H2.out, G2.out, by rw [HT1.out, tsz_one]; omega⟩
    · have HT1 := Lib.hid (show tt = ([], false) by rw [HT.out, if_neg h1, if_neg h2])
      have e1 : (k == 1) = false := by simpa using h1
      have e2 : (k == 2) = false := by simpa using h2
      obtain ⟨b0, b1, b2, b3⟩ := pr_bad H.out
      have B2 := Lib.hid b2
      have B3 := Lib.hid (G.out.trans b3)
      clear b2 b3
      by_cases h3 : k < 3
      · go_wp2
        exact ⟨_, results_none rfl _ _ _, ⟨_, rfl⟩, by rw [HT1.out, Bool.not_false, Bool.or_true]; exact B2.out, B3.out, by rw [HT1.out]; exact Nat.zero_le _⟩
      · by_cases h9 : 9 < k
        · go_wp2
          exact ⟨_, results_none rfl _ _ _, ⟨_, rfl⟩, by rw [HT1.out, Bool.not_false, Bool.or_true]; exact B2.out, B3.out, by rw [HT1.out]; exact Nat.zero_le _⟩
        · have hm : m ≠ 2 := by omega
          have e3 : ((m : Int) == 2) = false := by simp; omega
          go_wp2
          exact ⟨_, results_none rfl _ _ _, ⟨_, rfl⟩, by rw [HT1.out, Bool.not_false, Bool.or_true]; exact B2.out, B3.out, by rw [HT1.out]; exact Nat.zero_le _⟩
set_option maxHeartbeats 2000000 in
set_option maxRecDepth 100000 in
theorem px_two (t a b : Ex) (ht : t.pair = some (a, b)) (iha : PxE a) (ihb : PxE b) : PxE t := by
  intro inner base p w S V acc bad hS hb h r hF hwt hl
  have hw2 := Ex.pair_wt ht
  obtain ⟨k, n, s, args, v, rfl, rfl, hk, hn, hs, hargs⟩ := id r
  obtain ⟨hk3, hargs2⟩ := Ex.pair_some ht
  simp only [Ex.kind, Ex.args] at hk3 hargs2
  subst hargs2
  obtain ⟨A, cap, rfl, hcl, hcm, _⟩ := hargs.form
  obtain ⟨b0, off, k0, n0, s0, v0, rfl, hsb, x0, x1', x2, x3, ra⟩ := RdExs.arg hargs (q := 0) (by simp)
  obtain ⟨b0', off', k1, n1, s1, v1, hA, hsb', x4, x5, x6, x7, rb⟩ := RdExs.arg hargs (q := 1) (by simp)
  injection hA with hA
  injection hA with e1 e2
  subst e1 e2
  simp only [List.getElem_cons_zero, List.getElem_cons_succ] at ra rb
  rw [Nat.zero_mul, Nat.add_zero] at x0 x1' x2 x3
  rw [Nat.one_mul] at x4 x5 x6 x7
  obtain ⟨A0, m0, p0, rfl⟩ := ra.slice
  obtain ⟨A1, m1, p1, rfl⟩ := rb.slice
  have ht1 := tkE_pair (neg := false) ht inner
  simp only [Ex.kind] at ht1
  unfold maxLen at hcm
  generalize htt : tkE false (Ex.mk k n s [a, b]) inner = tt at ht1
  generalize (Ex.mk k n s [a, b]).wt = wt at *
  have HT := Lib.hid ht1
  simp only [List.length_cons, List.length_nil, Nat.reduceAdd] at hcl hcm
  have hbl : Below w.heap.size w (w.alloc (.cells #[.int .i64 k, .int .i64 n, .string s, .slice (some ⟨b0, off, none⟩) 2 cap] 74)) := (Below.refl _ _).alloc (Nat.le_refl _) _
  have HX := Lib.hid (BoxIs.made w #[.int .i64 k, .int .i64 n, .string s, .slice (some ⟨b0, off, none⟩) 2 cap] 74)
  have H := Lib.hid (h.below hbl)
  have G := Lib.hid (PrGo.of_below (p := p) hbl hb)
  have HF := Lib.hid (hF.go G.out)
  have HBW := Lib.hid (Nat.le_trans hb hbl.size)
  have RA := Lib.hid (ra.go G.out.be hS)
  have RB := Lib.hid (rb.go G.out.be hS)
  have HS := Lib.hid hS
  have IHa := Lib.hid iha
  have IHb := Lib.hid ihb
  have HWA := Lib.hid (show a.wt ≤ 1048576 by omega)
  have HWB := Lib.hid (show b.wt ≤ 1048576 by omega)
  have hb0 : b0 < base := hS _ hsb
  have HL := Lib.hid (show acc.length + 64 + 64 * a.wt + 64 * b.wt ≤ 140737488355328 by omega)
  have HW2 := Lib.hid (show 64 + 64 * a.wt + 64 * b.wt ≤ 64 * wt by omega)
  have hdp : w.heap.size ≠ p := by have := h.lt; omega
  unfold exV
  have x0 := (hbl.cell (p := ⟨b0, off, none⟩) (Nat.lt_of_lt_of_le hb0 hb)).trans x0
  have x1' := (hbl.cell (p := ⟨b0, off + 1, none⟩) (Nat.lt_of_lt_of_le hb0 hb)).trans x1'
  have x2 := (hbl.cell (p := ⟨b0, off + 2, none⟩) (Nat.lt_of_lt_of_le hb0 hb)).trans x2
  have x3 := (hbl.cell (p := ⟨b0, off + 3, none⟩) (Nat.lt_of_lt_of_le hb0 hb)).trans x3
  have x4 := (hbl.cell (p := ⟨b0, off + 4, none⟩) (Nat.lt_of_lt_of_le hb0 hb)).trans x4
  have x5 := (hbl.cell (p := ⟨b0, off + 4 + 1, none⟩) (Nat.lt_of_lt_of_le hb0 hb)).trans x5
  have x6 := (hbl.cell (p := ⟨b0, off + 4 + 2, none⟩) (Nat.lt_of_lt_of_le hb0 hb)).trans x6
  have x7 := (hbl.cell (p := ⟨b0, off + 4 + 3, none⟩) (Nat.lt_of_lt_of_le hb0 hb)).trans x7
  have e1 : (k == 1) = false := by simp; omega
  have e2 : (k == 2) = false := by simp; omega
  clear h hF hbl ht1 r hargs htt hS hb ra rb iha ihb hwt hw2 hl hk hn hs hsb' hb0
  cases inner
  · have HL0 := Lib.hid (show acc.length + 64 * a.wt + 32 + 64 * b.wt ≤ 140737488355328 by have := HL.out; omega)
    have HLA := Lib.hid (show acc.length + 64 * a.wt ≤ 140737488355328 by have := HL.out; omega)
    have HT1 := Lib.hid (show tt = ((tkE false a true).1 ++ [sgn k] ++ (tkE false b true).1, (tkE false a true).2 && (tkE false b true).2) by rw [HT.out]; rfl)
    go_enter_defers Tryd.func65, Tryd.ntmps65
    go_upto_region 2 with (fail)
    generalize (w.alloc (.cells #[.int .i64 k, .int .i64 n, .string s, .slice (some ⟨b0, off, none⟩) 2 cap] 74)) = W at *
    generalize w.heap.size = d at *
    have c0 := HX.out.cell 0
    have c3 := HX.out.cell 3
    have HP := H
    go_wp2_with (go_at_call_of 65 (Value.agg #[.int .i64 k0, .int .i64 n0, .string s0, .slice A0 m0 p0]); refine (IHa.out true base p _ S _ _ _ HS.out HBW.out HP.out RA.out HF.out HWA.out HLA.out).mono ?_)
    rintro e w1 x1 rfl h1 g1 l1
    have BX1 := HX.out.go g1 hdp (by decide)
    have k0' := BX1.cell 0
    have k3' := BX1.cell 3
    have HX1 := Lib.hid BX1
    have HF1 := Lib.hid (HF.out.go g1)
    have RB1 := Lib.hid (RB.out.go g1.be HS.out)
    have HH1 := Lib.hid h1
    have G1 := Lib.hid (G.out.trans g1)
    have HB1 := Lib.hid (Nat.le_trans HBW.out g1.size)
    have hb1 : b0 < base := HS.out _ hsb
    have y4 := (g1.be.cell (p := ⟨b0, off + 4, none⟩) hb1).trans x4
    have y5 := (g1.be.cell (p := ⟨b0, off + 4 + 1, none⟩) hb1).trans x5
    have y6 := (g1.be.cell (p := ⟨b0, off + 4 + 2, none⟩) hb1).trans x6
    have y7 := (g1.be.cell (p := ⟨b0, off + 4 + 3, none⟩) hb1).trans x7
    have LA := Lib.hid l1
    have HLA2 := Lib.hid (show (putL acc (tkE false a true).1).length ≤ acc.length + 64 * a.wt from Nat.le_trans (putL_len _ _) (by omega))
    clear h1 g1 l1 c0 c3 x0 x1' x2 x3 x4 x5 x6 x7 BX1 HX HF RA RB HP G HBW
    go_wp2_with (go_at_call 109; refine (sign_any k hk3.1 hk3.2 _ HF1.out.fmt).mono ?_)
    rintro e w2 ⟨rfl, hb2⟩
    have HH2 := Lib.hid (HH1.out.below hb2)
    have HG2 := Lib.hid (PrGo.of_below (p := p) hb2 HB1.out)
    have HB2 := Lib.hid (Nat.le_trans HB1.out hb2.size)
    clear hb2
    go_wp2_with (go_at_call 63; refine (put_new [sgn k] HH2.out HB2.out (by rw [tsz_one]; have := sgn_size k; have := HLA2.out; have := HL0.out; omega)).mono ?_)
    rintro e w3 ⟨⟨x3, rfl⟩, h3, g3⟩
    have G23 := Lib.hid (HG2.out.trans g3)
    have BX3 := HX1.out.go G23.out hdp (by decide)
    have k3 := BX3.cell 3
    have HF3 := Lib.hid (HF1.out.go G23.out)
    have RB3 := Lib.hid (RB1.out.go G23.out.be HS.out)
    have G3 := Lib.hid (G1.out.trans G23.out)
    have HB3 := Lib.hid (Nat.le_trans HB1.out G23.out.size)
    have z4 := (G23.out.be.cell (p := ⟨b0, off + 4, none⟩) hb1).trans y4
    have z5 := (G23.out.be.cell (p := ⟨b0, off + 4 + 1, none⟩) hb1).trans y5
    have z6 := (G23.out.be.cell (p := ⟨b0, off + 4 + 2, none⟩) hb1).trans y6
    have z7 := (G23.out.be.cell (p := ⟨b0, off + 4 + 3, none⟩) hb1).trans y7
    have HH3 := Lib.hid h3
    have HLB := Lib.hid (show (putL (putL acc (tkE false a true).1) [sgn k]).length + 64 * b.wt ≤ 140737488355328 by have h7 := putL_len [sgn k] (putL acc (tkE false a true).1); rw [tsz_one] at h7; have := sgn_size k; have := HLA2.out; have := HL0.out; omega)
    clear h3 g3 k0' k3' y4 y5 y6 y7 BX3 HX1 HF1 RB1 HH1 HH2 G1 HB1 HB2 HG2 G23
    go_wp2_with (go_at_call_of 65 (Value.agg #[.int .i64 k1, .int .i64 n1, .string s1, .slice A1 m1 p1]); refine (IHb.out true base p _ S _ _ _ HS.out HB3.out HH3.out RB3.out HF3.out HWB.out HLB.out).mono ?_)
    rintro e w4 ⟨⟨x4', rfl⟩, h4, g4, l4⟩
    have HH4 := Lib.hid h4
    have G4 := Lib.hid (G3.out.trans g4)
    have LB := Lib.hid l4
    clear h4 g4 l4 k3 z4 z5 z6 z7
    go_wp2
    refine ⟨_, results_none rfl _ _ _, ⟨_, rfl⟩, ?_, G4.out, ?_⟩
    · rw [HT1.out, putL_app, putL_app]
      have hb4 := HH4.out
      rwa [Bool.or_assoc, ← Bool.not_and] at hb4
    · rw [HT1.out, tsz_app, tsz_app, tsz_one]
      have := sgn_size k; have := LA.out; have := LB.out; have := HW2.out
      omega
  · have HL0 := Lib.hid (show (putL acc [bs [40]]).length + 64 * a.wt + 32 + 64 * b.wt ≤ 140737488355328 by have := HL.out; have h7 := putL_len [bs [40]] acc; rw [tsz_one] at h7; have h8 : (bs [40]).size = 1 := rfl; omega)
    have HLA := Lib.hid (show (putL acc [bs [40]]).length + 64 * a.wt ≤ 140737488355328 by have := HL0.out; omega)
    have HT1 := Lib.hid (show tt = ([bs [40]] ++ ((tkE false a true).1 ++ [sgn k] ++ (tkE false b true).1) ++ [bs [41]], (tkE false a true).2 && (tkE false b true).2) by rw [HT.out]; rfl)
    go_enter_defers Tryd.func65, Tryd.ntmps65
    go_upto_region 2 with (fail)
    generalize (w.alloc (.cells #[.int .i64 k, .int .i64 n, .string s, .slice (some ⟨b0, off, none⟩) 2 cap] 74)) = W at *
    generalize w.heap.size = d at *
    have c0 := HX.out.cell 0
    have c3 := HX.out.cell 3
    go_wp2_with (go_at_call 63; refine (put_new [bs [40]] H.out HBW.out (by rw [tsz_one]; have := HL.out; have h8 : (bs [40]).size = 1 := rfl; omega)).mono ?_)
    rintro e w0 x0' rfl h0 g0
    have G0 := Lib.hid (G.out.trans g0)
    have hb0 : b0 < base := HS.out _ hsb
    have BX0 := HX.out.go g0 hdp (by decide)
    have hz0 := g0.size
    have HB0 := Nat.le_trans HBW.out hz0
    have hD : Below w0.heap.size w0 (w0.alloc (.cells #[.string (bs [41])] 9)) := (Below.refl _ _).alloc (Nat.le_refl _) _
    have hDp : w0.heap.size ≠ p := by have := h0.lt; omega
    have DX := Lib.hid (BoxIs.made w0 ([bs [41]].map Value.string).toArray 9)
    have gD := PrGo.of_below (p := p) hD HB0
    have hzW := HX.out.lt
    have HXn := Lib.hid (BX0.below hD)
    have HPn := Lib.hid (h0.below hD)
    have Gn := Lib.hid (G0.out.trans gD)
    have HFn := Lib.hid ((HF.out.go g0).go gD)
    have RAn := Lib.hid ((RA.out.go g0.be HS.out).go gD.be HS.out)
    have RBn := Lib.hid ((RB.out.go g0.be HS.out).go gD.be HS.out)
    have HBn := Lib.hid (Nat.le_trans HB0 hD.size)
    have q0 := (gD.be.cell (p := ⟨b0, off, none⟩) hb0).trans ((g0.be.cell (p := ⟨b0, off, none⟩) hb0).trans x0)
    have q1 := (gD.be.cell (p := ⟨b0, off + 1, none⟩) hb0).trans ((g0.be.cell (p := ⟨b0, off + 1, none⟩) hb0).trans x1')
    have q2 := (gD.be.cell (p := ⟨b0, off + 2, none⟩) hb0).trans ((g0.be.cell (p := ⟨b0, off + 2, none⟩) hb0).trans x2)
    have q3 := (gD.be.cell (p := ⟨b0, off + 3, none⟩) hb0).trans ((g0.be.cell (p := ⟨b0, off + 3, none⟩) hb0).trans x3)
    have q4 := (gD.be.cell (p := ⟨b0, off + 4, none⟩) hb0).trans ((g0.be.cell (p := ⟨b0, off + 4, none⟩) hb0).trans x4)
    have q5 := (gD.be.cell (p := ⟨b0, off + 4 + 1, none⟩) hb0).trans ((g0.be.cell (p := ⟨b0, off + 4 + 1, none⟩) hb0).trans x5)
    have q6 := (gD.be.cell (p := ⟨b0, off + 4 + 2, none⟩) hb0).trans ((g0.be.cell (p := ⟨b0, off + 4 + 2, none⟩) hb0).trans x6)
    have q7 := (gD.be.cell (p := ⟨b0, off + 4 + 3, none⟩) hb0).trans ((g0.be.cell (p := ⟨b0, off + 4 + 3, none⟩) hb0).trans x7)
    clear h0 g0 gD hD BX0 HX HF RA RB H G G0 HBW hz0 HB0 c0 c3 x0 x1' x2 x3 x4 x5 x6 x7
    go_upto_region 10 with (fail)
    have DX := DX
    generalize hW2 : (w0.alloc (.cells #[.string ⟨#[41]⟩] 9)) = W2
    have hW2' : (w0.alloc (.cells ([bs [41]].map Value.string).toArray 9)) = W2 := hW2
    rw [hW2'] at DX
    replace HXn : Hid (BoxIs W2 d _ _) := hW2' ▸ HXn
    replace HPn : Hid (PrAt base p W2 _ _) := hW2' ▸ HPn
    replace Gn : Hid (PrGo base p w W2) := hW2' ▸ Gn
    replace HFn : Hid (FmtB base W2) := hW2' ▸ HFn
    replace RAn : Hid (RdE W2 S a _) := hW2' ▸ RAn
    replace RBn : Hid (RdE W2 S b _) := hW2' ▸ RBn
    replace HBn : Hid (base ≤ W2.heap.size) := hW2' ▸ HBn
    replace q0 : W2.cell? ⟨b0, off, none⟩ = some _ := hW2' ▸ q0
    replace q1 : W2.cell? ⟨b0, off + 1, none⟩ = some _ := hW2' ▸ q1
    replace q2 : W2.cell? ⟨b0, off + 2, none⟩ = some _ := hW2' ▸ q2
    replace q3 : W2.cell? ⟨b0, off + 3, none⟩ = some _ := hW2' ▸ q3
    replace q4 : W2.cell? ⟨b0, off + 4, none⟩ = some _ := hW2' ▸ q4
    replace q5 : W2.cell? ⟨b0, off + 4 + 1, none⟩ = some _ := hW2' ▸ q5
    replace q6 : W2.cell? ⟨b0, off + 4 + 2, none⟩ = some _ := hW2' ▸ q6
    replace q7 : W2.cell? ⟨b0, off + 4 + 3, none⟩ = some _ := hW2' ▸ q7
    clear hW2' hW2
    generalize w0.heap.size = D at *
    have c0 := HXn.out.cell 0
    have c3 := HXn.out.cell 3
    go_wp2_with (go_at_call_of 65 (Value.agg #[.int .i64 k0, .int .i64 n0, .string s0, .slice A0 m0 p0]); refine (IHa.out true base p _ S _ _ _ HS.out HBn.out HPn.out RAn.out HFn.out HWA.out HLA.out).mono ?_)
    rintro e w1 ⟨⟨x1, rfl⟩, h1, g1, l1⟩
    have BX1 := HXn.out.go g1 hdp (by decide)
    have k0' := BX1.cell 0
    have k3' := BX1.cell 3
    have HX1 := Lib.hid BX1
    have HF1 := Lib.hid (HFn.out.go g1)
    have RB1 := Lib.hid (RBn.out.go g1.be HS.out)
    have HH1 := Lib.hid h1
    have G1 := Lib.hid (Gn.out.trans g1)
    have HB1 := Lib.hid (Nat.le_trans HBn.out g1.size)
    have hb1 : b0 < base := HS.out _ hsb
    have y4 := (g1.be.cell (p := ⟨b0, off + 4, none⟩) hb1).trans q4
    have y5 := (g1.be.cell (p := ⟨b0, off + 4 + 1, none⟩) hb1).trans q5
    have y6 := (g1.be.cell (p := ⟨b0, off + 4 + 2, none⟩) hb1).trans q6
    have y7 := (g1.be.cell (p := ⟨b0, off + 4 + 3, none⟩) hb1).trans q7
    have LA := Lib.hid l1
    have HLA2 := Lib.hid (show (putL (putL acc [bs [40]]) (tkE false a true).1).length ≤ (putL acc [bs [40]]).length + 64 * a.wt from Nat.le_trans (putL_len _ _) (by omega))
    have DX1 := Lib.hid (DX.out.go g1 hDp (by decide))
    clear h1 g1 l1 DX c0 c3 q0 q1 q2 q3 q4 q5 q6 q7 BX1 HXn HFn RAn RBn HPn Gn HBn
    go_wp2_with (go_at_call 109; refine (sign_any k hk3.1 hk3.2 _ HF1.out.fmt).mono ?_)
    rintro e w2 ⟨rfl, hb2⟩
    have HH2 := Lib.hid (HH1.out.below hb2)
    have HG2 := Lib.hid (PrGo.of_below (p := p) hb2 HB1.out)
    have HB2 := Lib.hid (Nat.le_trans HB1.out hb2.size)
    clear hb2
    go_wp2_with (go_at_call 63; refine (put_new [sgn k] HH2.out HB2.out (by rw [tsz_one]; have := sgn_size k; have := HLA2.out; have := HL0.out; omega)).mono ?_)
    rintro e w3 ⟨⟨x3, rfl⟩, h3, g3⟩
    have G23 := Lib.hid (HG2.out.trans g3)
    have BX3 := HX1.out.go G23.out hdp (by decide)
    have k3 := BX3.cell 3
    have HF3 := Lib.hid (HF1.out.go G23.out)
    have RB3 := Lib.hid (RB1.out.go G23.out.be HS.out)
    have G3 := Lib.hid (G1.out.trans G23.out)
    have HB3 := Lib.hid (Nat.le_trans HB1.out G23.out.size)
    have z4 := (G23.out.be.cell (p := ⟨b0, off + 4, none⟩) hb1).trans y4
    have z5 := (G23.out.be.cell (p := ⟨b0, off + 4 + 1, none⟩) hb1).trans y5
    have z6 := (G23.out.be.cell (p := ⟨b0, off + 4 + 2, none⟩) hb1).trans y6
    have z7 := (G23.out.be.cell (p := ⟨b0, off + 4 + 3, none⟩) hb1).trans y7
    have HH3 := Lib.hid h3
    have HLS := Lib.hid (show (putL (putL (putL acc [bs [40]]) (tkE false a true).1) [sgn k]).length + 64 * b.wt + 8 ≤ 140737488355328 by have h7 := putL_len [sgn k] (putL (putL acc [bs [40]]) (tkE false a true).1); rw [tsz_one] at h7; have := sgn_size k; have := HLA2.out; have := HL0.out; omega)
    have HLB := Lib.hid (show (putL (putL (putL acc [bs [40]]) (tkE false a true).1) [sgn k]).length + 64 * b.wt ≤ 140737488355328 by have h7 := putL_len [sgn k] (putL (putL acc [bs [40]]) (tkE false a true).1); rw [tsz_one] at h7; have := sgn_size k; have := HLA2.out; have := HL0.out; omega)
    have DX3 := Lib.hid (DX1.out.go G23.out hDp (by decide))
    clear h3 g3 DX1 k0' k3' y4 y5 y6 y7 BX3 HX1 HF1 RB1 HH1 HH2 G1 HB1 HB2 HG2 G23
    go_wp2_with (go_at_call_of 65 (Value.agg #[.int .i64 k1, .int .i64 n1, .string s1, .slice A1 m1 p1]); refine (IHb.out true base p _ S _ _ _ HS.out HB3.out HH3.out RB3.out HF3.out HWB.out HLB.out).mono ?_)
    rintro e w4 ⟨⟨x4', rfl⟩, h4, g4, l4⟩
    have HH4 := Lib.hid h4
    have G4 := Lib.hid (G3.out.trans g4)
    have LB := Lib.hid l4
    have DX4 := Lib.hid (DX3.out.go g4 hDp (by decide))
    have HB4 := Lib.hid (Nat.le_trans HB3.out g4.size)
    clear h4 g4 DX3 l4 k3 z4 z5 z6 z7
    go_wp2
    refine leaves_cons (f := 63) (args := #[.pointer (some ⟨p, 0, none⟩), .slice (some ⟨D, 0, none⟩) 1 1]) (by simp) (by simp [go_sem]) ?_
    have hl4 := putL_len (tkE false b true).1 (putL (putL (putL acc [bs [40]]) (tkE false a true).1) [sgn k])
    refine (put_d .returning [bs [41]] HH4.out DX4.out hDp HB4.out (by rw [tsz_one]; have h8 : (bs [41]).size = 1 := rfl; have := LB.out; have := HLB.out; have := HLS.out; omega)).mono ?_
    rintro e u' w5 ⟨rfl, ⟨x5, rfl⟩, h5, g5⟩
    refine ⟨_, results_none rfl _ _ _, ⟨_, rfl⟩, ?_, G4.out.trans g5, ?_⟩
    · rw [HT1.out, putL_app, putL_app, putL_app, putL_app]
      rwa [Bool.or_assoc, ← Bool.not_and] at h5
    · rw [HT1.out, tsz_app, tsz_app, tsz_app, tsz_app, tsz_one, tsz_one, tsz_one]
      have := sgn_size k; have := LA.out; have := LB.out; have := HW2.out
      have h7 : (bs [40]).size = 1 := rfl
      have h8 : (bs [41]).size = 1 := rfl
      omega
theorem px_all (t : Ex) : PxE t := Ex.indP px_none px_two t
end Go.Proofs.YtijahadmaggncaaDoor
