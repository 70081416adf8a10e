/- Texts merged: Pb4, KpSpec2. -/
import Derived.Test.YtnpgpcnkdocknaaGreatDoorGPb3
import Derived.Test.YtnpgpcnkdocknaaGreatDoorGPq2
namespace Go.Proofs.YtnpgpcnkdocknaaGreatDoor
open Go.RowKit
set_option linter.unusedVariables false
structure FmtB (base : Nat) (w : World) : Prop where
 fmt : FmtT w
 g1 : 0 < base
 g2 : 4 < base
theorem FmtB.go {base p : Nat} {w w' : World} (h : FmtB base w) (g : PrGo base p w w') : FmtB base w' := ⟨h.fmt.below g.be h.g1 h.g2, h.g1, h.g2⟩
theorem FmtB.next {base : Nat} {w w' : World} (h : FmtB base w) (g : Below base w w') : FmtB base w' := ⟨h.fmt.below g h.g1 h.g2, h.g1, h.g2⟩
theorem pr_bad {base p : Nat} {w : World} {acc : List UInt8} {bad : Bool} (h : PrAt base p w acc bad) :
    w.cell? ⟨p, 2, none⟩ = some (.bool bad) ∧ w.frozen? ⟨p, 2, none⟩ = false ∧ PrAt base p (w.setCell ⟨p, 2, none⟩ (.bool true)) acc true ∧ PrGo base p w (w.setCell ⟨p, 2, none⟩ (.bool true)) := by
 obtain ⟨v, a, ha, h⟩ := h
 exact ⟨h.c2, h.fr 2, ⟨v, a, ha, h.set2 _⟩, (Below.refl _ _).setCell (p := ⟨p, 2, none⟩) h.ge _, (Lib.OthersKept.refl _ _ w).setCell ⟨p, 2, none⟩ rfl _⟩
def PxE (t : Ex) : Prop := ∀ (inner : Bool) (base p : Nat) (w : World) (S : Blocks) (V : Value) (acc : List UInt8) (bad : Bool), Sub S (Upto base) → base ≤ w.heap.size → PrAt base p w acc bad → RdE w S t V → FmtB base w → t.wt ≤ 67108864 → acc.length + 64 * t.wt ≤ 140737488355328 →
 Calls Tryz.prog 77 #[.pointer (some ⟨p, 0, none⟩), V, .bool inner] w fun e w' => (∃ x, e = .returned x) ∧ PrAt base p w' (putL acc (tkE false t inner).1) (bad || !(tkE false t inner).2) ∧ PrGo base p w w' ∧ tsz (tkE false t inner).1 ≤ 64 * t.wt
set_option maxHeartbeats 2000000 in
set_option maxRecDepth 100000 in
theorem px_none (t : Ex) (ht : t.pair = none) : PxE t := by
 intro inner base p w S V acc bad hS hb h r hF hwt hl
 obtain ⟨k, n, s, args, v, rfl, rfl, hk, hn, hs, hargs⟩ := id r
 obtain ⟨A, cap, rfl, hcl, hcm, _⟩ := hargs.form
 unfold maxLen at hcm
 have ht1 := tkE_none (neg := false) ht inner
 have hp := Ex.pair_none ht
 have hw1 := Ex.wt_pos' (Ex.mk k n s args)
 simp only [Ex.kind, Ex.name, Ex.args] at hp hw1
 replace ht1 : tkE false (Ex.mk k n s args) inner = if k = 1 then (if 0 ≤ n then ([itoaS n], true) else ([], false)) else if k = 2 then ([s], knameB s) else ([], false) := ht1
 generalize htt : tkE false (Ex.mk k n s args) inner = tt at ht1
 generalize (Ex.mk k n s args).wt = wt at *
 have HT := hid ht1
 have hbl : Below w.heap.size w (w.alloc (.cells #[.int .i64 k, .int .i64 n, .string s, .slice A args.length cap] 80)) := (Below.refl _ _).alloc (Nat.le_refl _) _
 have HX := hid (BoxIs.made w #[.int .i64 k, .int .i64 n, .string s, .slice A args.length cap] 80)
 have H := hid (h.below hbl)
 have G := hid (PrGo.of_below (p := p) hbl hb)
 have HF := hid (hF.go G.out)
 have HB := hid (Nat.le_trans hb hbl.size)
 generalize args.length = m at *
 have hdp : w.heap.size ≠ p := by have := h.lt; omega
 unfold exV
 clear h hF hbl ht1 r hargs htt hS hb
 go_enter_defers Tryz.func77, Tryz.ntmps77
 go_upto_region 2 with (fail)
 generalize (w.alloc (.cells #[.int .i64 k, .int .i64 n, .string s, .slice A m cap] 80)) = W at *
 generalize w.heap.size = d at *
 have c0 := HX.out.cell 0
 have c1 := HX.out.cell 1
 have c2 := HX.out.cell 2
 have c3 := HX.out.cell 3
 by_cases h1 : k = 1
 ·subst h1
  by_cases h0 : 0 ≤ n
  ·have HT1 := hid (show tt = ([itoaS n], true) by rw [HT.out, if_pos rfl, if_pos h0])
   go_wp2_with (go_at_call 33; refine (itoa_n n hn.1 hn.2 _ HF.out.fmt.pow).mono ?_)
   rintro e w1 rfl hb1
   have H1 := hid (H.out.below hb1)
   have G1 := hid (G.out.trans (PrGo.of_below hb1 HB.out))
   have HB1 := hid (Nat.le_trans HB.out hb1.size)
   clear hb1 c0 c1 c2 c3
   have hi := itoaS_size n hn.1 hn.2
   go_wp2_with (go_at_call 75; refine (put_new [itoaS n] H1.out HB1.out (by rw [tsz_one]; omega)).mono ?_)
   rintro e w2 ⟨⟨x, rfl⟩, h2, g2⟩
   have H2 := hid h2
   have G2 := hid (G1.out.trans g2)
   clear h2 g2
   go_wp2
   exact ⟨_, results_none rfl _ _ _, ⟨_, rfl⟩, by rw [HT1.out, Bool.not_true, Bool.or_false]; exact H2.out, G2.out, by rw [HT1.out, tsz_one]; omega⟩
  ·have HT1 := hid (show tt = ([], false) by rw [HT.out, if_pos rfl, if_neg h0])
   obtain ⟨b0, b1, b2, b3⟩ := pr_bad H.out
   have B2 := hid b2
   have B3 := hid (G.out.trans b3)
   clear b2 b3
   go_wp2
   exact ⟨_, results_none rfl _ _ _, ⟨_, rfl⟩, by rw [HT1.out, Bool.not_false, Bool.or_true]; exact B2.out, B3.out, by rw [HT1.out]; exact Nat.zero_le _⟩
 ·by_cases h2 : k = 2
  ·subst h2
   have HT1 := hid (show tt = ([s], knameB s) by rw [HT.out, if_neg (by decide), if_pos rfl])
   clear h1
   go_wp2_with (go_at_call 76; refine (pname_any s H.out (by omega) HB.out (by omega)).mono ?_)
   rintro e w2 x rfl h2' g2'
   have H2 := hid h2'
   have G2 := hid (G.out.trans g2')
   clear h2' g2'
   go_wp2
   exact ⟨_, results_none rfl _ _ _, ⟨_, rfl⟩, by rw [HT1.out]; exact H2.out, G2.out, by rw [HT1.out, tsz_one]; omega⟩
  ·have HT1 := hid (show tt = ([], false) by rw [HT.out, if_neg h1, if_neg h2])
   have e1 : (k == 1) = false := by simpa using h1
   have e2 : (k == 2) = false := by simpa using h2
   obtain ⟨b0, b1, b2, b3⟩ := pr_bad H.out
   have B2 := hid b2
   have B3 := hid (G.out.trans b3)
   clear b2 b3
   by_cases h3 : k < 3
   ·go_wp2
    exact ⟨_, results_none rfl _ _ _, ⟨_, rfl⟩, by rw [HT1.out, Bool.not_false, Bool.or_true]; exact B2.out, B3.out, by rw [HT1.out]; exact Nat.zero_le _⟩
   ·by_cases h9 : 9 < k
    ·go_wp2
     exact ⟨_, results_none rfl _ _ _, ⟨_, rfl⟩, by rw [HT1.out, Bool.not_false, Bool.or_true]; exact B2.out, B3.out, by rw [HT1.out]; exact Nat.zero_le _⟩
    ·have hm : m ≠ 2 := by omega
     have e3 : ((m : Int) == 2) = false := by simp; omega
     go_wp2
     exact ⟨_, results_none rfl _ _ _, ⟨_, rfl⟩, by rw [HT1.out, Bool.not_false, Bool.or_true]; exact B2.out, B3.out, by rw [HT1.out]; exact Nat.zero_le _⟩
set_option maxHeartbeats 2000000 in
set_option maxRecDepth 100000 in
theorem px_two (t a b : Ex) (ht : t.pair = some (a, b)) (iha : PxE a) (ihb : PxE b) : PxE t := by
 intro inner base p w S V acc bad hS hb h r hF hwt hl
 have hw2 := Ex.pair_wt ht
 obtain ⟨k, n, s, args, v, rfl, rfl, hk, hn, hs, hargs⟩ := id r
 obtain ⟨hk3, hargs2⟩ := Ex.pair_some ht
 simp only [Ex.kind, Ex.args] at hk3 hargs2
 subst hargs2
 obtain ⟨A, cap, rfl, hcl, hcm, _⟩ := hargs.form
 obtain ⟨b0, off, k0, n0, s0, v0, rfl, hsb, x0, x1', x2, x3, ra⟩ := RdExs.arg hargs (q := 0) (by simp)
 obtain ⟨b0', off', k1, n1, s1, v1, hA, hsb', x4, x5, x6, x7, rb⟩ := RdExs.arg hargs (q := 1) (by simp)
 injection hA with hA
 injection hA with e1 e2
 subst e1 e2
 simp only [List.getElem_cons_zero, List.getElem_cons_succ] at ra rb
 rw [Nat.zero_mul, Nat.add_zero] at x0 x1' x2 x3
 rw [Nat.one_mul] at x4 x5 x6 x7
 obtain ⟨A0, m0, p0, rfl⟩ := ra.slice
 obtain ⟨A1, m1, p1, rfl⟩ := rb.slice
 have ht1 := tkE_pair (neg := false) ht inner
 simp only [Ex.kind] at ht1
 unfold maxLen at hcm
 generalize htt : tkE false (Ex.mk k n s [a, b]) inner = tt at ht1
 generalize (Ex.mk k n s [a, b]).wt = wt at *
 have HT := hid ht1
 simp only [List.length_cons, List.length_nil, Nat.reduceAdd] at hcl hcm
 have hbl : Below w.heap.size w (w.alloc (.cells #[.int .i64 k, .int .i64 n, .string s, .slice (some ⟨b0, off, none⟩) 2 cap] 80)) := (Below.refl _ _).alloc (Nat.le_refl _) _
 have HX := hid (BoxIs.made w #[.int .i64 k, .int .i64 n, .string s, .slice (some ⟨b0, off, none⟩) 2 cap] 80)
 have H := hid (h.below hbl)
 have G := hid (PrGo.of_below (p := p) hbl hb)
 have HF := hid (hF.go G.out)
 have HBW := hid (Nat.le_trans hb hbl.size)
 have RA := hid (ra.go G.out.be hS)
 have RB := hid (rb.go G.out.be hS)
 have HS := hid hS
 have IHa := hid iha
 have IHb := hid ihb
 have HWA := hid (show a.wt ≤ 67108864 by omega)
 have HWB := hid (show b.wt ≤ 67108864 by omega)
 have hb0 : b0 < base := hS _ hsb
 have HL := hid (show acc.length + 64 + 64 * a.wt + 64 * b.wt ≤ 140737488355328 by omega)
 have HW2 := hid (show 64 + 64 * a.wt + 64 * b.wt ≤ 64 * wt by omega)
 have hdp : w.heap.size ≠ p := by have := h.lt; omega
 unfold exV
 have x0 := (hbl.cell (p := ⟨b0, off, none⟩) (Nat.lt_of_lt_of_le hb0 hb)).trans x0
 have x1' := (hbl.cell (p := ⟨b0, off + 1, none⟩) (Nat.lt_of_lt_of_le hb0 hb)).trans x1'
 have x2 := (hbl.cell (p := ⟨b0, off + 2, none⟩) (Nat.lt_of_lt_of_le hb0 hb)).trans x2
 have x3 := (hbl.cell (p := ⟨b0, off + 3, none⟩) (Nat.lt_of_lt_of_le hb0 hb)).trans x3
 have x4 := (hbl.cell (p := ⟨b0, off + 4, none⟩) (Nat.lt_of_lt_of_le hb0 hb)).trans x4
 have x5 := (hbl.cell (p := ⟨b0, off + 4 + 1, none⟩) (Nat.lt_of_lt_of_le hb0 hb)).trans x5
 have x6 := (hbl.cell (p := ⟨b0, off + 4 + 2, none⟩) (Nat.lt_of_lt_of_le hb0 hb)).trans x6
 have x7 := (hbl.cell (p := ⟨b0, off + 4 + 3, none⟩) (Nat.lt_of_lt_of_le hb0 hb)).trans x7
 have e1 : (k == 1) = false := by simp; omega
 have e2 : (k == 2) = false := by simp; omega
 clear h hF hbl ht1 r hargs htt hS hb ra rb iha ihb hwt hw2 hl hk hn hs hsb' hb0
 cases inner
 ·have HL0 := hid (show acc.length + 64 * a.wt + 32 + 64 * b.wt ≤ 140737488355328 by have := HL.out; omega)
  have HLA := hid (show acc.length + 64 * a.wt ≤ 140737488355328 by have := HL.out; omega)
  have HT1 := hid (show tt = ((tkE false a true).1 ++ [sgn k] ++ (tkE false b true).1, (tkE false a true).2 && (tkE false b true).2) by rw [HT.out]; rfl)
  go_enter_defers Tryz.func77, Tryz.ntmps77
  go_upto_region 2 with (fail)
  generalize (w.alloc (.cells #[.int .i64 k, .int .i64 n, .string s, .slice (some ⟨b0, off, none⟩) 2 cap] 80)) = W at *
  generalize w.heap.size = d at *
  have c0 := HX.out.cell 0
  have c3 := HX.out.cell 3
  have HP := H
  go_wp2_with (go_at_call_of 77 (Value.agg #[.int .i64 k0, .int .i64 n0, .string s0, .slice A0 m0 p0]); refine (IHa.out true base p _ S _ _ _ HS.out HBW.out HP.out RA.out HF.out HWA.out HLA.out).mono ?_)
  rintro e w1 x1 rfl h1 g1 l1
  have BX1 := HX.out.go g1 hdp (by decide)
  have k0' := BX1.cell 0
  have k3' := BX1.cell 3
  have HX1 := hid BX1
  have HF1 := hid (HF.out.go g1)
  have RB1 := hid (RB.out.go g1.be HS.out)
  have HH1 := hid h1
  have G1 := hid (G.out.trans g1)
  have HB1 := hid (Nat.le_trans HBW.out g1.size)
  have hb1 : b0 < base := HS.out _ hsb
  have y4 := (g1.be.cell (p := ⟨b0, off + 4, none⟩) hb1).trans x4
  have y5 := (g1.be.cell (p := ⟨b0, off + 4 + 1, none⟩) hb1).trans x5
  have y6 := (g1.be.cell (p := ⟨b0, off + 4 + 2, none⟩) hb1).trans x6
  have y7 := (g1.be.cell (p := ⟨b0, off + 4 + 3, none⟩) hb1).trans x7
  have LA := hid l1
  have HLA2 := hid (show (putL acc (tkE false a true).1).length ≤ acc.length + 64 * a.wt from Nat.le_trans (putL_len _ _) (by omega))
  clear h1 g1 l1 c0 c3 x0 x1' x2 x3 x4 x5 x6 x7 BX1 HX HF RA RB HP G HBW
  go_wp2_with (go_at_call 98; refine (sign_any k hk3.1 hk3.2 _ HF1.out.fmt).mono ?_)
  rintro e w2 ⟨rfl, hb2⟩
  have HH2 := hid (HH1.out.below hb2)
  have HG2 := hid (PrGo.of_below (p := p) hb2 HB1.out)
  have HB2 := hid (Nat.le_trans HB1.out hb2.size)
  clear hb2
  go_wp2_with (go_at_call 75; refine (put_new [sgn k] HH2.out HB2.out (by rw [tsz_one]; have := sgn_size k; have := HLA2.out; have := HL0.out; omega)).mono ?_)
  rintro e w3 ⟨⟨x3, rfl⟩, h3, g3⟩
  have G23 := hid (HG2.out.trans g3)
  have BX3 := HX1.out.go G23.out hdp (by decide)
  have k3 := BX3.cell 3
  have HF3 := hid (HF1.out.go G23.out)
  have RB3 := hid (RB1.out.go G23.out.be HS.out)
  have G3 := hid (G1.out.trans G23.out)
  have HB3 := hid (Nat.le_trans HB1.out G23.out.size)
  have z4 := (G23.out.be.cell (p := ⟨b0, off + 4, none⟩) hb1).trans y4
  have z5 := (G23.out.be.cell (p := ⟨b0, off + 4 + 1, none⟩) hb1).trans y5
  have z6 := (G23.out.be.cell (p := ⟨b0, off + 4 + 2, none⟩) hb1).trans y6
  have z7 := (G23.out.be.cell (p := ⟨b0, off + 4 + 3, none⟩) hb1).trans y7
  have HH3 := hid h3
  have HLB := hid (show (putL (putL acc (tkE false a true).1) [sgn k]).length + 64 * b.wt ≤ 140737488355328 by have h7 := putL_len [sgn k] (putL acc (tkE false a true).1); rw [tsz_one] at h7; have := sgn_size k; have := HLA2.out; have := HL0.out; omega)
  clear h3 g3 k0' k3' y4 y5 y6 y7 BX3 HX1 HF1 RB1 HH1 HH2 G1 HB1 HB2 HG2 G23
  go_wp2_with (go_at_call_of 77 (Value.agg #[.int .i64 k1, .int .i64 n1, .string s1, .slice A1 m1 p1]); refine (IHb.out true base p _ S _ _ _ HS.out HB3.out HH3.out RB3.out HF3.out HWB.out HLB.out).mono ?_)
  rintro e w4 ⟨⟨x4', rfl⟩, h4, g4, l4⟩
  have HH4 := hid h4
  have G4 := hid (G3.out.trans g4)
  have LB := hid l4
  clear h4 g4 l4 k3 z4 z5 z6 z7
  go_wp2
  refine ⟨_, results_none rfl _ _ _, ⟨_, rfl⟩, ?_, G4.out, ?_⟩
  ·rw [HT1.out, putL_app, putL_app]
   have hb4 := HH4.out
   rwa [Bool.or_assoc, ← Bool.not_and] at hb4
  ·rw [HT1.out, tsz_app, tsz_app, tsz_one]
   have := sgn_size k; have := LA.out; have := LB.out; have := HW2.out
   omega
 ·have HL0 := hid (show (putL acc [bs [40]]).length + 64 * a.wt + 32 + 64 * b.wt ≤ 140737488355328 by have := HL.out; have h7 := putL_len [bs [40]] acc; rw [tsz_one] at h7; have h8 : (bs [40]).size = 1 := rfl; omega)
  have HLA := hid (show (putL acc [bs [40]]).length + 64 * a.wt ≤ 140737488355328 by have := HL0.out; omega)
  have HT1 := hid (show tt = ([bs [40]] ++ ((tkE false a true).1 ++ [sgn k] ++ (tkE false b true).1) ++ [bs [41]], (tkE false a true).2 && (tkE false b true).2) by rw [HT.out]; rfl)
  go_enter_defers Tryz.func77, Tryz.ntmps77
  go_upto_region 2 with (fail)
  generalize (w.alloc (.cells #[.int .i64 k, .int .i64 n, .string s, .slice (some ⟨b0, off, none⟩) 2 cap] 80)) = W at *
  generalize w.heap.size = d at *
  have c0 := HX.out.cell 0
  have c3 := HX.out.cell 3
  go_wp2_with (go_at_call 75; refine (put_new [bs [40]] H.out HBW.out (by rw [tsz_one]; have := HL.out; have h8 : (bs [40]).size = 1 := rfl; omega)).mono ?_)
  rintro e w0 x0' rfl h0 g0
  have G0 := hid (G.out.trans g0)
  have hb0 : b0 < base := HS.out _ hsb
  have BX0 := HX.out.go g0 hdp (by decide)
  have hz0 := g0.size
  have HB0 := Nat.le_trans HBW.out hz0
  have hD : Below w0.heap.size w0 (w0.alloc (.cells #[.string (bs [41])] 9)) := (Below.refl _ _).alloc (Nat.le_refl _) _
  have hDp : w0.heap.size ≠ p := by have := h0.lt; omega
  have DX := hid (BoxIs.made w0 ([bs [41]].map Value.string).toArray 9)
  have gD := PrGo.of_below (p := p) hD HB0
  have hzW := HX.out.lt
  have HXn := hid (BX0.below hD)
  have HPn := hid (h0.below hD)
  have Gn := hid (G0.out.trans gD)
  have HFn := hid ((HF.out.go g0).go gD)
  have RAn := hid ((RA.out.go g0.be HS.out).go gD.be HS.out)
  have RBn := hid ((RB.out.go g0.be HS.out).go gD.be HS.out)
  have HBn := hid (Nat.le_trans HB0 hD.size)
  have q0 := (gD.be.cell (p := ⟨b0, off, none⟩) hb0).trans ((g0.be.cell (p := ⟨b0, off, none⟩) hb0).trans x0)
  have q1 := (gD.be.cell (p := ⟨b0, off + 1, none⟩) hb0).trans ((g0.be.cell (p := ⟨b0, off + 1, none⟩) hb0).trans x1')
  have q2 := (gD.be.cell (p := ⟨b0, off + 2, none⟩) hb0).trans ((g0.be.cell (p := ⟨b0, off + 2, none⟩) hb0).trans x2)
  have q3 := (gD.be.cell (p := ⟨b0, off + 3, none⟩) hb0).trans ((g0.be.cell (p := ⟨b0, off + 3, none⟩) hb0).trans x3)
  have q4 := (gD.be.cell (p := ⟨b0, off + 4, none⟩) hb0).trans ((g0.be.cell (p := ⟨b0, off + 4, none⟩) hb0).trans x4)
  have q5 := (gD.be.cell (p := ⟨b0, off + 4 + 1, none⟩) hb0).trans ((g0.be.cell (p := ⟨b0, off + 4 + 1, none⟩) hb0).trans x5)
  have q6 := (gD.be.cell (p := ⟨b0, off + 4 + 2, none⟩) hb0).trans ((g0.be.cell (p := ⟨b0, off + 4 + 2, none⟩) hb0).trans x6)
  have q7 := (gD.be.cell (p := ⟨b0, off + 4 + 3, none⟩) hb0).trans ((g0.be.cell (p := ⟨b0, off + 4 + 3, none⟩) hb0).trans x7)
  clear h0 g0 gD hD BX0 HX HF RA RB H G G0 HBW hz0 HB0 c0 c3 x0 x1' x2 x3 x4 x5 x6 x7
  go_upto_region 10 with (fail)
  have DX := DX
  generalize hW2 : (w0.alloc (.cells #[.string ⟨#[41]⟩] 9)) = W2
  have hW2' : (w0.alloc (.cells ([bs [41]].map Value.string).toArray 9)) = W2 := hW2
  rw [hW2'] at DX
  replace HXn : Hid (BoxIs W2 d _ _) := hW2' ▸ HXn
  replace HPn : Hid (PrAt base p W2 _ _) := hW2' ▸ HPn
  replace Gn : Hid (PrGo base p w W2) := hW2' ▸ Gn
  replace HFn : Hid (FmtB base W2) := hW2' ▸ HFn
  replace RAn : Hid (RdE W2 S a _) := hW2' ▸ RAn
  replace RBn : Hid (RdE W2 S b _) := hW2' ▸ RBn
  replace HBn : Hid (base ≤ W2.heap.size) := hW2' ▸ HBn
  replace q0 : W2.cell? ⟨b0, off, none⟩ = some _ := hW2' ▸ q0
  replace q1 : W2.cell? ⟨b0, off + 1, none⟩ = some _ := hW2' ▸ q1
  replace q2 : W2.cell? ⟨b0, off + 2, none⟩ = some _ := hW2' ▸ q2
  replace q3 : W2.cell? ⟨b0, off + 3, none⟩ = some _ := hW2' ▸ q3
  replace q4 : W2.cell? ⟨b0, off + 4, none⟩ = some _ := hW2' ▸ q4
  replace q5 : W2.cell? ⟨b0, off + 4 + 1, none⟩ = some _ := hW2' ▸ q5
  replace q6 : W2.cell? ⟨b0, off + 4 + 2, none⟩ = some _ := hW2' ▸ q6
  replace q7 : W2.cell? ⟨b0, off + 4 + 3, none⟩ = some _ := hW2' ▸ q7
  clear hW2' hW2
  generalize w0.heap.size = D at *
  have c0 := HXn.out.cell 0
  have c3 := HXn.out.cell 3
  go_wp2_with (go_at_call_of 77 (Value.agg #[.int .i64 k0, .int .i64 n0, .string s0, .slice A0 m0 p0]); refine (IHa.out true base p _ S _ _ _ HS.out HBn.out HPn.out RAn.out HFn.out HWA.out HLA.out).mono ?_)
  rintro e w1 ⟨⟨x1, rfl⟩, h1, g1, l1⟩
  have BX1 := HXn.out.go g1 hdp (by decide)
  have k0' := BX1.cell 0
  have k3' := BX1.cell 3
  have HX1 := hid BX1
  have HF1 := hid (HFn.out.go g1)
  have RB1 := hid (RBn.out.go g1.be HS.out)
  have HH1 := hid h1
  have G1 := hid (Gn.out.trans g1)
  have HB1 := hid (Nat.le_trans HBn.out g1.size)
  have hb1 : b0 < base := HS.out _ hsb
  have y4 := (g1.be.cell (p := ⟨b0, off + 4, none⟩) hb1).trans q4
  have y5 := (g1.be.cell (p := ⟨b0, off + 4 + 1, none⟩) hb1).trans q5
  have y6 := (g1.be.cell (p := ⟨b0, off + 4 + 2, none⟩) hb1).trans q6
  have y7 := (g1.be.cell (p := ⟨b0, off + 4 + 3, none⟩) hb1).trans q7
  have LA := hid l1
  have HLA2 := hid (show (putL (putL acc [bs [40]]) (tkE false a true).1).length ≤ (putL acc [bs [40]]).length + 64 * a.wt from Nat.le_trans (putL_len _ _) (by omega))
  have DX1 := hid (DX.out.go g1 hDp (by decide))
  clear h1 g1 l1 DX c0 c3 q0 q1 q2 q3 q4 q5 q6 q7 BX1 HXn HFn RAn RBn HPn Gn HBn
  go_wp2_with (go_at_call 98; refine (sign_any k hk3.1 hk3.2 _ HF1.out.fmt).mono ?_)
  rintro e w2 ⟨rfl, hb2⟩
  have HH2 := hid (HH1.out.below hb2)
  have HG2 := hid (PrGo.of_below (p := p) hb2 HB1.out)
  have HB2 := hid (Nat.le_trans HB1.out hb2.size)
  clear hb2
  go_wp2_with (go_at_call 75; refine (put_new [sgn k] HH2.out HB2.out (by rw [tsz_one]; have := sgn_size k; have := HLA2.out; have := HL0.out; omega)).mono ?_)
  rintro e w3 ⟨⟨x3, rfl⟩, h3, g3⟩
  have G23 := hid (HG2.out.trans g3)
  have BX3 := HX1.out.go G23.out hdp (by decide)
  have k3 := BX3.cell 3
  have HF3 := hid (HF1.out.go G23.out)
  have RB3 := hid (RB1.out.go G23.out.be HS.out)
  have G3 := hid (G1.out.trans G23.out)
  have HB3 := hid (Nat.le_trans HB1.out G23.out.size)
  have z4 := (G23.out.be.cell (p := ⟨b0, off + 4, none⟩) hb1).trans y4
  have z5 := (G23.out.be.cell (p := ⟨b0, off + 4 + 1, none⟩) hb1).trans y5
  have z6 := (G23.out.be.cell (p := ⟨b0, off + 4 + 2, none⟩) hb1).trans y6
  have z7 := (G23.out.be.cell (p := ⟨b0, off + 4 + 3, none⟩) hb1).trans y7
  have HH3 := hid h3
  have HLS := hid (show (putL (putL (putL acc [bs [40]]) (tkE false a true).1) [sgn k]).length + 64 * b.wt + 8 ≤ 140737488355328 by have h7 := putL_len [sgn k] (putL (putL acc [bs [40]]) (tkE false a true).1); rw [tsz_one] at h7; have := sgn_size k; have := HLA2.out; have := HL0.out; omega)
  have HLB := hid (show (putL (putL (putL acc [bs [40]]) (tkE false a true).1) [sgn k]).length + 64 * b.wt ≤ 140737488355328 by have h7 := putL_len [sgn k] (putL (putL acc [bs [40]]) (tkE false a true).1); rw [tsz_one] at h7; have := sgn_size k; have := HLA2.out; have := HL0.out; omega)
  have DX3 := hid (DX1.out.go G23.out hDp (by decide))
  clear h3 g3 DX1 k0' k3' y4 y5 y6 y7 BX3 HX1 HF1 RB1 HH1 HH2 G1 HB1 HB2 HG2 G23
  go_wp2_with (go_at_call_of 77 (Value.agg #[.int .i64 k1, .int .i64 n1, .string s1, .slice A1 m1 p1]); refine (IHb.out true base p _ S _ _ _ HS.out HB3.out HH3.out RB3.out HF3.out HWB.out HLB.out).mono ?_)
  rintro e w4 ⟨⟨x4', rfl⟩, h4, g4, l4⟩
  have HH4 := hid h4
  have G4 := hid (G3.out.trans g4)
  have LB := hid l4
  have DX4 := hid (DX3.out.go g4 hDp (by decide))
  have HB4 := hid (Nat.le_trans HB3.out g4.size)
  clear h4 g4 DX3 l4 k3 z4 z5 z6 z7
  go_wp2
  refine leaves_cons (f := 75) (args := #[.pointer (some ⟨p, 0, none⟩), .slice (some ⟨D, 0, none⟩) 1 1]) (by simp) (by simp [go_sem]) ?_
  have hl4 := putL_len (tkE false b true).1 (putL (putL (putL acc [bs [40]]) (tkE false a true).1) [sgn k])
  refine (put_d .returning [bs [41]] HH4.out DX4.out hDp HB4.out (by rw [tsz_one]; have h8 : (bs [41]).size = 1 := rfl; have := LB.out; have := HLB.out; have := HLS.out; omega)).mono ?_
  rintro e u' w5 ⟨rfl, ⟨x5, rfl⟩, h5, g5⟩
  refine ⟨_, results_none rfl _ _ _, ⟨_, rfl⟩, ?_, G4.out.trans g5, ?_⟩
  ·rw [HT1.out, putL_app, putL_app, putL_app, putL_app]
   rwa [Bool.or_assoc, ← Bool.not_and] at h5
  ·rw [HT1.out, tsz_app, tsz_app, tsz_app, tsz_app, tsz_one, tsz_one, tsz_one]
   have := sgn_size k; have := LA.out; have := LB.out; have := HW2.out
   have h7 : (bs [40]).size = 1 := rfl
   have h8 : (bs [41]).size = 1 := rfl
   omega
theorem px_all (t : Ex) : PxE t := Ex.indP px_none px_two t
abbrev T1 (l : List Str) : Tks := (l, true)
def tcat (A B : Tks) : Tks := (A.1 ++ B.1, A.2 && B.2)
def seqT (l : List Tks) : Tks := l.foldl tcat (T1 [])
def tname (s : Str) : Tks := ([s], knameB s)
def tblk (L : Tks) : Tks := tcat (tcat (T1 [bs [123]]) L) (T1 [bs [125]])
def partsK (neg : Bool) (k : Int) (s : Str) (a b : Ex) (B E : Tks) (e : Bool) : List Tks :=
 if k = 1 then [T1 [bs [108, 101, 116]], tname s, T1 [bs [61]], tkE neg a false, T1 [bs [59]]]
 else if k = 2 then [T1 [bs [108, 111, 97, 100]], tname s, T1 [bs [61]], T1 [bs [91]], tkE neg a false, T1 [bs [93]], T1 [bs [59]]]
 else if k = 3 then [T1 [bs [115, 116, 111, 114, 101]], T1 [bs [91]], tkE neg a false, T1 [bs [93]], T1 [bs [61]], tkE neg b false, T1 [bs [59]]]
 else if k = 4 then [T1 [bs [97, 115, 121, 110, 99]], tblk B]
 else if k = 5 then [T1 [bs [102, 105, 110, 105, 115, 104]], tblk B]
 else if k = 6 then (if e then [T1 [bs [105, 102]], tkE neg a false, tblk B, T1 [bs [101, 108, 115, 101]], tblk E] else [T1 [bs [105, 102]], tkE neg a false, tblk B])
 else if k = 7 then [T1 [bs [102, 111, 114]], tname s, T1 [bs [61]], tkE neg a false, T1 [bs [116, 111]], tkE neg b false, tblk B]
 else [([], false)]
mutual
def tkS (neg : Bool) : St → Tks
 | .mk k s a b body els => seqT (partsK neg k s a b (tkL neg body) (tkL neg els) (!els.isEmpty))
def tkL (neg : Bool) : List St → Tks
 | [] => T1 []
 | s :: r => tcat (tkS neg s) (tkL neg r)
end
theorem tcat_assoc (A B C : Tks) : tcat (tcat A B) C = tcat A (tcat B C) := by simp [tcat, Bool.and_assoc]
theorem tcat_nil (A : Tks) : tcat A (T1 []) = A := by simp [tcat]
theorem nil_tcat (A : Tks) : tcat (T1 []) A = A := by simp [tcat]
theorem seqT_snoc (l : List Tks) (x : Tks) : seqT (l ++ [x]) = tcat (seqT l) x := by unfold seqT; rw [List.foldl_append]; rfl
theorem seqT_take (l : List Tks) {q : Nat} (hq : q < l.length) : seqT (l.take (q + 1)) = tcat (seqT (l.take q)) l[q] := by
 rw [List.take_succ_eq_append_getElem hq, seqT_snoc]
theorem tkL_snoc (neg : Bool) (l : List St) (s : St) : tkL neg (l ++ [s]) = tcat (tkL neg l) (tkS neg s) := by
 induction l with
 | nil => show tkL neg [s] = _; simp only [tkL, tcat_nil, nil_tcat]
 | cons t l ih =>
  show tkL neg (t :: (l ++ [s])) = _
  rw [tkL, ih, tkL, tcat_assoc]
theorem tkL_take (neg : Bool) (l : List St) {q : Nat} (hq : q < l.length) : tkL neg (l.take (q + 1)) = tcat (tkL neg (l.take q)) (tkS neg l[q]) := by
 rw [List.take_succ_eq_append_getElem hq, tkL_snoc]
theorem St.indL {P : List St → Prop} (h : ∀ l, (∀ k s a b body els, St.mk k s a b body els ∈ l → P body ∧ P els) → P l) (l : List St) : P l := by
 have key : ∀ (m : Nat) (l : List St), SizeOf.sizeOf l ≤ m → P l := by
  intro m
  induction m with
  | zero => intro l hl; cases l <;> simp at hl
  | succ m ih =>
   intro l hl
   refine h l fun k s a b body els hm => ?_
   have := List.sizeOf_lt_of_mem hm
   have h2 : SizeOf.sizeOf (St.mk k s a b body els) = 1 + SizeOf.sizeOf k + SizeOf.sizeOf s + SizeOf.sizeOf a + SizeOf.sizeOf b + SizeOf.sizeOf body + SizeOf.sizeOf els := by simp
   exact ⟨ih _ (by omega), ih _ (by omega)⟩
 exact key _ l (Nat.le_refl _)
def TR (A B : Tks) : Prop := A.2 = B.2 ∧ (B.2 = true → A.1 = B.1)
theorem TR.refl (A : Tks) : TR A A := ⟨rfl, fun _ => rfl⟩
theorem TR.cat {A B C D : Tks} (h : TR A B) (k : TR C D) : TR (tcat A C) (tcat B D) := by
 refine ⟨by simp only [tcat, h.1, k.1], fun ho => ?_⟩
 simp only [tcat, Bool.and_eq_true] at ho ⊢
 rw [h.2 ho.1, k.2 ho.2]
theorem TR.blk {A B : Tks} (h : TR A B) : TR (tblk A) (tblk B) := ((TR.refl _).cat h).cat (TR.refl _)
inductive All2 (R : Tks → Tks → Prop) : List Tks → List Tks → Prop
 | nil : All2 R [] []
 | cons {x y : Tks} {l m : List Tks} : R x y → All2 R l m → All2 R (x :: l) (y :: m)
theorem TR.seq {l m : List Tks} (hh : All2 TR l m) : ∀ (x y : Tks), TR x y → TR (l.foldl tcat x) (m.foldl tcat y) := by
 induction hh with
 | nil => exact fun x y h => h
 | cons h1 h2 ih => exact fun x y h => ih _ _ (h.cat h1)
theorem tkE_TR (a : Ex) (inner : Bool) : TR (tkE true a inner) (tkE false a inner) := tkE_neg a inner
theorem partsK_TR (k : Int) (s : Str) (a b : Ex) {B E B' E' : Tks} (e : Bool) (hB : TR B B') (hE : TR E E') : All2 TR (partsK true k s a b B E e) (partsK false k s a b B' E' e) := by
 unfold partsK
 have ha := tkE_TR a false
 have hb := tkE_TR b false
 repeat' split
 all_goals (repeat' (first | exact .nil | refine .cons ?_ ?_ | exact TR.refl _ | exact ha | exact hb | exact hB.blk | exact hE.blk))
theorem tkL_TR (l : List St) : TR (tkL true l) (tkL false l) := by
 refine St.indL (P := fun l => TR (tkL true l) (tkL false l)) ?_ l
 intro l h
 induction l with
 | nil => exact TR.refl _
 | cons s r ih =>
  rw [tkL, tkL]
  refine TR.cat ?_ (ih fun k s a b body els hm => h k s a b body els (List.mem_cons_of_mem _ hm))
  obtain ⟨k, s, a, b, body, els⟩ := s
  have hh := h k s a b body els (by simp)
  rw [tkS, tkS]
  exact TR.seq (partsK_TR k s a b _ hh.1 hh.2) _ _ (TR.refl _)
def NeT (A : Tks) : Prop := A.2 = true → ∀ x ∈ A.1, x.size ≠ 0
theorem NeT.cat {A B : Tks} (h : NeT A) (k : NeT B) : NeT (tcat A B) := fun ho x hx => by
 simp only [tcat, Bool.and_eq_true] at ho hx
 rcases List.mem_append.1 hx with hx | hx
 ·exact h ho.1 x hx
 ·exact k ho.2 x hx
theorem NeT.lit {l : List Str} (h : ∀ x ∈ l, x.size ≠ 0) : NeT (T1 l) := fun _ => h
theorem knameB_ne {s : Str} (h : knameB s = true) : s.size ≠ 0 := by
 intro h0
 have h1 : s.data.size = 0 := h0
 have h2 : s.data = #[] := Array.eq_empty_of_size_eq_zero h1
 unfold knameB nameL at h
 simp [h2] at h
theorem NeT.nm (s : Str) : NeT (tname s) := fun ho x hx => by
 simp only [tname, List.mem_singleton] at ho hx
 subst hx
 exact knameB_ne ho
theorem itoaS_ne (n : Int) : (itoaS n).size ≠ 0 := by
 have e : (itoaS n).size = (Lib.itoa n).length := by unfold itoaS; simp [ByteArray.size]
 rw [e]
 unfold Lib.itoa
 split
 ·simp
 ·rw [Lib.decDigits_length]
  unfold Lib.nDigits
  split <;> omega
theorem sgn_ne {k : Int} (h0 : 3 ≤ k) (h1 : k ≤ 9) : (sgn k).size ≠ 0 := by
 unfold sgn
 have hlt : (k - 3).toNat < 7 := by omega
 obtain ⟨q, hq⟩ : ∃ q, q = (k - 3).toNat := ⟨_, rfl⟩
 rw [← hq] at hlt ⊢
 match q, hlt with
 | 0, _ => decide
 | 1, _ => decide
 | 2, _ => decide
 | 3, _ => decide
 | 4, _ => decide
 | 5, _ => decide
 | 6, _ => decide
 | n + 7, h => omega
theorem tkE_ne (neg : Bool) (t : Ex) : ∀ inner, NeT (tkE neg t inner) := by
 induction t using Ex.indP with
 | one t h =>
  intro inner
  rw [tkE_none h]
  split
  ·split
   ·exact NeT.lit (fun x hx => by simp at hx; subst hx; exact itoaS_ne _)
   ·exact fun ho => by cases ho
  ·split
   ·exact NeT.nm _
   ·exact fun ho => by cases ho
 | two t a b h iha ihb =>
  intro inner
  rw [tkE_pair h]
  have hk := (Ex.pair_some h).1
  unfold pairT
  intro ho x hx
  simp only [Bool.and_eq_true] at ho
  have h1 := iha true ho.1
  have h2 := ihb true ho.2
  simp only at hx
  have hs := sgn_ne hk.1 hk.2
  split at hx
  ·simp only [List.mem_append, List.mem_singleton] at hx
   rcases hx with (rfl | (hx | rfl) | hx) | rfl
   ·decide
   ·exact h1 x hx
   ·exact hs
   ·exact h2 x hx
   ·decide
  ·simp only [List.mem_append, List.mem_singleton] at hx
   rcases hx with (hx | rfl) | hx
   ·exact h1 x hx
   ·exact hs
   ·exact h2 x hx
theorem NeT.blk {A : Tks} (h : NeT A) : NeT (tblk A) := ((NeT.lit (by decide)).cat h).cat (NeT.lit (by decide))
theorem NeT.seq : ∀ (l : List Tks) (x : Tks), NeT x → (∀ y ∈ l, NeT y) → NeT (l.foldl tcat x)
 | [], x, h, _ => h
 | y :: l, x, h, k => NeT.seq l _ (h.cat (k y (by simp))) (fun z hz => k z (by simp [hz]))
theorem partsK_ne (neg : Bool) (k : Int) (s : Str) (a b : Ex) {B E : Tks} (e : Bool) (hB : NeT B) (hE : NeT E) : ∀ y ∈ partsK neg k s a b B E e, NeT y := by
 unfold partsK
 have ha := tkE_ne neg a false
 have hb := tkE_ne neg b false
 have hBB := hB.blk
 have hEE := hE.blk
 have hn := NeT.nm s
 have hl : ∀ l : List Str, (l.all fun x => x.size != 0) = true → NeT (T1 l) := fun l h => NeT.lit (fun x hx => by have := List.all_eq_true.1 h x hx; simpa using this)
 repeat' split
 all_goals (repeat' (first | exact fun y hy => absurd hy List.not_mem_nil | refine List.forall_mem_cons.2 ⟨?_, ?_⟩ | exact ha | exact hb | exact hBB | exact hEE | exact hn | exact hl _ (by decide) | exact fun ho => by cases ho))
theorem tkL_ne (neg : Bool) (l : List St) : NeT (tkL neg l) := by
 refine St.indL (P := fun l => NeT (tkL neg l)) ?_ l
 intro l h
 induction l with
 | nil => exact NeT.lit (by simp)
 | cons s r ih =>
  rw [tkL]
  refine NeT.cat ?_ (ih fun k s a b body els hm => h k s a b body els (List.mem_cons_of_mem _ hm))
  obtain ⟨k, s, a, b, body, els⟩ := s
  have hh := h k s a b body els (by simp)
  rw [tkS]
  exact NeT.seq _ _ (NeT.lit (by simp)) (partsK_ne neg k s a b _ hh.1 hh.2)
end Go.Proofs.YtnpgpcnkdocknaaGreatDoor
