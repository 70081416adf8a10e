/- Texts merged: Rn10, Rn11. -/
import Derived.Test.YtnpgpcnkdocknaaGreatDoorGAppZ
import Derived.Test.YtnpgpcnkdocknaaGreatDoorGRn3
import Derived.Test.YtnpgpcnkdocknaaGreatDoorGPq2
import Derived.Test.YtnpgpcnkdocknaaGreatDoorGPq4
import Derived.BigQuiet
import Derived.BigRegion
import Derived.Test.YtnpgpcnkdocknaaGreatDoorGEtW
namespace Go.Proofs.YtnpgpcnkdocknaaGreatDoor
open Go.RowKit
set_option linter.unusedVariables false
def encP (p : Str × Str) : List Value := [.string p.1, .string p.2]
def okP (p : Str × Str) : Prop := okS p.1 ∧ okS p.2
abbrev RdNm := RdL (Flat encP okP) 2 32
theorem clean_of {V : Env} {t : Ex} (h : t.two = none) (hn : t.kind ≠ 2 ∨ look V t.name = t.name) : clean t = renE V t := by
 rw [clean_none h, renE_none h]
 rcases hn with hn | hn
 ·rw [if_neg hn, if_neg hn]
 ·rw [hn]
theorem set4_blk' {base b : Nat} {w : World} {u0 u1 u2 u3 : Value} (h : Blk base w b [u0, u1, u2, u3]) (v0 v1 v2 v3 : Value) : Blk base (set4 w b v0 v1 v2 v3) b [v0, v1, v2, v3] :=
 (((h.set (i := 0) (by simp) v0).set (i := 1) (by simp) v1).set (i := 2) (by simp) v2).set (i := 3) (by simp) v3
theorem ret_ex' {fn : Func} {R : Ending → World → Prop} {a : Act} {w : World} {T G base : Nat} {k c : Int} {s : Str} {v : Value} (hr : fn.results = #[.cell T 80]) (ht : a.tmps.getD T undef = .pointer (some ⟨G, 0, none⟩)) (hd : a.defers = [])
    (B : Blk base w G [.int .i64 k, .int .i64 c, .string s, v]) (h : R (.returned (.agg #[.int .i64 k, .int .i64 c, .string s, v])) w) : bodyPost Tryz.prog fn R .ret a w := by
 have r0 := B.cell 0 _ rfl; have r1 := B.cell 1 _ rfl; have r2 := B.cell 2 _ rfl; have r3 := B.cell 3 _ rfl
 rw [Array.getD_eq_getD_getElem?] at ht
 exact bodyPost_ret (v := .agg #[.int .i64 k, .int .i64 c, .string s, v]) (by simp [results, hr, ht, go_sem, r0, r1, r2, r3]) hd h
def LXs (V : Env) (t : Ex) : Prop := ∀ (w : World) (S Sn : Blocks) (U names : Value), Sub S (Upto w.heap.size) → RdE w S t U → Sub Sn (Upto w.heap.size) → RdNm w Sn V names →
 Calls Tryz.prog 34 #[U, names] w fun e w' => ∃ U', e = .returned U' ∧ RdE w' (Plus S w.heap.size w'.heap.size) (renE V t) U' ∧ Below w.heap.size w w'
set_option maxHeartbeats 2000000 in
set_option maxRecDepth 100000 in
theorem lx_two (V : Env) (t a b : Ex) (ht : t.two = some (a, b)) (iha : LXs V a) (ihb : LXs V b) : LXs V t := by
 intro w S Sn U names hS r hSn rn
 obtain ⟨k, c, s, args, v, rfl, rfl, hk, hc, hs, hargs⟩ := id r
 obtain ⟨hkk, r', hr'⟩ := Ex.two_kind ht
 simp only [Ex.kind, Ex.args] at hkk hr'
 subst hr'
 obtain ⟨A, cap, rfl, hcl, hcm, _⟩ := hargs.form
 obtain ⟨An, cn, rfl, -⟩ := rn.form
 obtain ⟨b0, off, k0, c0, s0, v0, rfl, hsb, x0, x1, x2, x3, ra⟩ := RdExs.arg hargs (q := 0) (by simp)
 obtain ⟨b0', off', k1, c1, s1, v1, hA, hsb', y0, y1, y2, y3, rb⟩ := RdExs.arg hargs (q := 1) (by simp)
 injection hA with hA
 injection hA with e1 e2
 subst e1 e2
 simp only [List.getElem_cons_zero, List.getElem_cons_succ] at ra rb
 rw [Nat.zero_mul, Nat.add_zero] at x0 x1 x2 x3
 rw [Nat.one_mul] at y0 y1 y2 y3
 have hl2 : 2 ≤ (a :: b :: r').length := by simp
 have HRG := hid r
 clear r
 obtain ⟨n, hn⟩ : ∃ n, n = (a :: b :: r').length := ⟨_, rfl⟩
 rw [← hn] at hcl hl2 HRG ⊢
 clear hn hargs
 have bl2 : Below w.heap.size w (w.alloc (.cells #[.int .i64 k, .int .i64 c, .string s, .slice (some ⟨b0, off, none⟩) n cap] 80)) := (Below.refl _ _).alloc (Nat.le_refl _) _
 have bel : Below w.heap.size w (((w.alloc (.cells #[.int .i64 k, .int .i64 c, .string s, .slice (some ⟨b0, off, none⟩) n cap] 80))).alloc (.cells #[.int .i64 0, .int .i64 0, .string ⟨#[]⟩, .slice none 0 0] 80)) := bl2.alloc (by simp) _
 have HW := hid (renE_two (V := V) ht)
 have HT := hid ht
 have HK := hid hk
 have BX := (Blk.made w [.int .i64 k, .int .i64 c, .string s, .slice (some ⟨b0, off, none⟩) n cap] 80 (base := 0) (Nat.zero_le _)).below (w' := (((w.alloc (.cells #[.int .i64 k, .int .i64 c, .string s, .slice (some ⟨b0, off, none⟩) n cap] 80))).alloc (.cells #[.int .i64 0, .int .i64 0, .string ⟨#[]⟩, .slice none 0 0] 80))) ((Below.refl _ _).alloc (Nat.le_refl _) _)
 have BR := Blk.made (w.alloc (.cells #[.int .i64 k, .int .i64 c, .string s, .slice (some ⟨b0, off, none⟩) n cap] 80)) [.int .i64 0, .int .i64 0, .string noS, .slice none 0 0] 80 (base := 0) (Nat.zero_le _)
 simp only [World.size_alloc] at BX BR
 have BEL := hid bel
 have HS := hid hS
 have HSN := hid hSn
 have RN := hid rn
 have RA := hid (HRG.out.go bel hS)
 have WRa := hid ra
 have WRb := hid rb
 have IHa := hid iha
 have IHb := hid ihb
 have hb0 : b0 < w.heap.size := hS _ hsb
 have HX := hid (And.intro x0 (And.intro x1 (And.intro x2 x3)))
 have HY := hid (And.intro y0 (And.intro y1 (And.intro y2 y3)))
 obtain ⟨A1, m1, n1, rfl⟩ := ra.slice
 obtain ⟨A2, m2, n2, rfl⟩ := rb.slice
 unfold maxLen at hcm
 unfold exV
 have HBX := hid BX
 have HBR := hid BR
 clear HRG bl2 bel hk hc hs hS ra rb iha ihb ht x0 x1 x2 x3 y0 y1 y2 y3 BX BR rn hSn
 go_enter Tryz.func34, Tryz.ntmps34
 go_wp2_with fail
 refine (two_yes _ a b HT.out _ S _ RA.out).mono ?_
 rintro e W ⟨rfl, bb1⟩
 have HBX1 := hid (HBX.out.below bb1)
 have HBR1 := hid (HBR.out.below bb1)
 have BL := hid (BEL.out.trans (bb1.mono BEL.out.size))
 have hsz := BL.out.size
 obtain ⟨g, hg⟩ : ∃ g, g = w.heap.size := ⟨_, rfl⟩
 rw [← hg] at HBX1 HBR1 hb0 ⊢
 have hgW := HBR1.out.lt
 have hgw : w.heap.size ≤ g + 1 := by omega
 have hgw2 : g ≤ w.heap.size := by omega
 have hg0 : g < W.heap.size := by omega
 have hbW : b0 < W.heap.size := by omega
 have hbw : b0 < w.heap.size := by omega
 have hn00 : 0 < n := by omega
 have hn0 : (0 : Int) < (n : Int) := by omega
 have hn1 : (1 : Int) < (n : Int) := by omega
 have hn2 : 1 < n := by omega
 clear hg bb1 RA HBX HBR BEL
 have HSW := hid (HS.out.trans (Sub.upto hsz))
 have HSNW := hid (HSN.out.trans (Sub.upto hsz))
 have RNW := hid (RN.out.go Flat.keeps BL.out HSN.out (Sub.refl _))
 have Wa := hid (WRa.out.go BL.out HS.out)
 have Wb := hid (WRb.out.go BL.out HS.out)
 have q0 := HBX1.out.cell 0 _ rfl; have q1 := HBX1.out.cell 1 _ rfl; have q2 := HBX1.out.cell 2 _ rfl; have q3 := HBX1.out.cell 3 _ rfl
 have f0 := (BL.out.cell (p := ⟨b0, off, none⟩) hbw).trans HX.out.1
 have f1 := (BL.out.cell (p := ⟨b0, off + 1, none⟩) hbw).trans HX.out.2.1
 have f2 := (BL.out.cell (p := ⟨b0, off + 2, none⟩) hbw).trans HX.out.2.2.1
 have f3 := (BL.out.cell (p := ⟨b0, off + 3, none⟩) hbw).trans HX.out.2.2.2
 have g0 := (BL.out.cell (p := ⟨b0, off + 4, none⟩) hbw).trans HY.out.1
 have g1 := (BL.out.cell (p := ⟨b0, off + 4 + 1, none⟩) hbw).trans HY.out.2.1
 have g2 := (BL.out.cell (p := ⟨b0, off + 4 + 2, none⟩) hbw).trans HY.out.2.2.1
 have g3 := (BL.out.cell (p := ⟨b0, off + 4 + 3, none⟩) hbw).trans HY.out.2.2.2
 have HNR := hid (show ¬ S (g + 1) from fun h => by have := HS.out _ h; unfold Upto at this; omega)
 go_upto_region 2 with (fail)
 refine wp_region_pre 15 (S := (fun w' => Stay W w')) (by kernel_rfl) (by kernel_rfl) (Stay.mk (Kept.start _)) (fun hHeld => ?_)
 simp only [List.take_succ_cons, List.take_zero]
 refine tkA 0 9 ?_
 refine tkA 1 10 ?_
 refine tkA 2 11 ?_
 refine tkA 3 12 ?_
 refine tkA 4 13 ?_
 refine tkA 5 14 ?_
 refine tkA 6 15 ?_
 refine tkA 8 17 ?_
 refine tkA 9 18 ?_
 refine tkA 10 19 ?_
 refine tkA 11 20 ?_
 refine tkA 12 21 ?_
 (try simp only [Act.put, List.setIfInBounds_toArray, List.set_cons_zero, List.set_cons_succ])
 refine wpAnyH_ready (rs := [7]) (by kernel_rfl) (by simp) ?_
 refine AllReadyH.cons rfl (fun K hK => ?_) AllReadyH.nil
 go_simp
 refine (IHa.out W.drew S Sn _ _ HSW.out (Wa.out.go (Stay.below hHeld) HSW.out) HSNW.out (RNW.out.go Flat.keeps (Stay.below hHeld) HSNW.out (Sub.refl _))).mono ?_
 rintro e wa ⟨U1, rfl, hu1, hb1⟩
 have hst1 : Stay W wa := Stay.step hb1 hHeld
 have hp1 : FrP W.heap.size S wa (renE V a) U1 := FrP.of hu1 (Nat.le_refl _) (HSW.out.trans (Sub.upto (Stay.size hst1)))
 obtain ⟨A3, n3, rfl⟩ := hp1.form
 refine hK.out _ _ ?_ (fun hHeld => ?_)
 ·exact hst1
 clear hK K
 (try simp only [Act.put, List.setIfInBounds_toArray, List.set_cons_zero, List.set_cons_succ])
 refine wpAnyH_ready (rs := [13]) (by kernel_rfl) (by simp) ?_
 refine AllReadyH.cons rfl (fun K hK => ?_) AllReadyH.nil
 go_simp
 refine (IHb.out _ S Sn _ _ (HSW.out.trans (Sub.upto (Stay.size hst1))) (Wb.out.go (Stay.below hst1) HSW.out) (HSNW.out.trans (Sub.upto (Stay.size hst1))) (RNW.out.go Flat.keeps (Stay.below hst1) HSNW.out (Sub.refl _))).mono ?_
 rintro e wb ⟨U2, rfl, hu2, hb2⟩
 have hst2 : Stay W wb := Stay.step hb2 hst1
 have hp2 : FrP W.heap.size S wb (renE V b) U2 := FrP.of hu2 (Stay.size hst1) (HSW.out.trans (Sub.upto (Stay.size hst2)))
 obtain ⟨A4, n4, rfl⟩ := hp2.form
 refine hK.out _ _ ?_ (fun hHeld => ?_)
 ·exact hst2
 clear hK K
 (try simp only [Act.put, List.setIfInBounds_toArray, List.set_cons_zero, List.set_cons_succ])
 have hp3 := FrP.mk2 HK.out (Stay.size hst2) rfl (FrP.via hb2 hp1) hp2
 have hst3 := Stay.mk (Kept.alloc (Kept.here hst2) (.cells #[.int .i64 (renE V a).kind, .int .i64 (renE V a).num, .string (renE V a).name, .slice A3 (renE V a).args.length n3, .int .i64 (renE V b).kind, .int .i64 (renE V b).num, .string (renE V b).name, .slice A4 (renE V b).args.length n4] 80))
 refine wpAnyH_ready (rs := [14]) (by kernel_rfl) (by simp) ?_
 refine AllReadyH.cons rfl (fun K hK => ?_) AllReadyH.nil
 go_simp
 skip
 refine hK.out _ _ ?_ (fun hHeld => ?_)
 ·exact hst3
 clear hK K
 (try simp only [Act.put, List.setIfInBounds_toArray, List.set_cons_zero, List.set_cons_succ])
 refine wpAnyH_done (by kernel_rfl) ?_ _
 unfold QPre
 simp only [List.drop_succ_cons, List.drop_zero]
 have HP3 := hid hp3
 have H3 := hid hst3
 clear hp1 hp2 hp3 hst1 hst2 hst3 hHeld hu1 hu2 hb1 hb2 q0 q1 q2 q3 f0 f1 f2 f3 g0 g1 g2 g3
 generalize (wb.alloc (.cells #[.int .i64 (renE V a).kind, .int .i64 (renE V a).num, .string (renE V a).name, .slice A3 (renE V a).args.length n3, .int .i64 (renE V b).kind, .int .i64 (renE V b).num, .string (renE V b).name, .slice A4 (renE V b).args.length n4] 80)) = W5 at *
 have HR5 := hid (HBR1.out.below (Stay.below H3.out))
 have r0 := HR5.out.cell 0 _ rfl; have r1 := HR5.out.cell 1 _ rfl; have r2 := HR5.out.cell 2 _ rfl; have r3 := HR5.out.cell 3 _ rfl
 have t0 := HR5.out.fr 0; have t1 := HR5.out.fr 1; have t2 := HR5.out.fr 2; have t3 := HR5.out.fr 3
 go_wp2
 show bodyPost _ _ _ _ _ (set4 W5 (g + 1) _ _ _ _)
 refine ret_ex' Tryz.results34 rfl rfl (set4_blk' HR5.out _ _ _ _) ⟨_, rfl, ?_, ?_⟩
 ·rw [HW.out]
  exact (HP3.out.set HNR.out (by omega)).rd (by omega)
 ·exact set4_below (BL.out.trans ((Stay.below H3.out).mono hsz)) hgw
set_option maxHeartbeats 2000000 in
set_option maxRecDepth 100000 in
theorem lx_one (V : Env) (t : Ex) (ht : t.two = none) : LXs V t := by
 intro w S Sn U names hS r hSn rn
 obtain ⟨k, c, s, args, v, rfl, rfl, hk, hc, hs, hargs⟩ := id r
 obtain ⟨A, cap, rfl, hcl, hcm, _⟩ := hargs.form
 obtain ⟨An, cn, rfl, hnl, hnm, hnb⟩ := rn.form
 have bl2 : Below w.heap.size w (w.alloc (.cells #[.int .i64 k, .int .i64 c, .string s, .slice A args.length cap] 80)) := (Below.refl _ _).alloc (Nat.le_refl _) _
 have bel : Below w.heap.size w (((w.alloc (.cells #[.int .i64 k, .int .i64 c, .string s, .slice A args.length cap] 80))).alloc (.cells #[.int .i64 0, .int .i64 0, .string ⟨#[]⟩, .slice none 0 0] 80)) := bl2.alloc (by simp) _
 have HT := hid ht
 have HK := hid (And.intro hk (And.intro hc hs))
 have BX := (Blk.made w [.int .i64 k, .int .i64 c, .string s, .slice A args.length cap] 80 (base := 0) (Nat.zero_le _)).below (w' := (((w.alloc (.cells #[.int .i64 k, .int .i64 c, .string s, .slice A args.length cap] 80))).alloc (.cells #[.int .i64 0, .int .i64 0, .string ⟨#[]⟩, .slice none 0 0] 80))) ((Below.refl _ _).alloc (Nat.le_refl _) _)
 have BR := Blk.made (w.alloc (.cells #[.int .i64 k, .int .i64 c, .string s, .slice A args.length cap] 80)) [.int .i64 0, .int .i64 0, .string noS, .slice none 0 0] 80 (base := 0) (Nat.zero_le _)
 simp only [World.size_alloc] at BX BR
 have BEL := hid bel
 have HS := hid hS
 have HSN := hid hSn
 have RN := hid rn
 have R0 := hid r
 have RA := hid (r.go bel hS)
 have HWN := hid (renE_none (V := V) ht)
 unfold maxLen at hcm hnm
 unfold exV
 have HBX := hid BX
 have HBR := hid BR
 clear hargs r bl2 bel hk hc hs hS ht BX BR rn hSn
 go_enter Tryz.func34, Tryz.ntmps34
 go_wp2_with fail
 refine (two_no _ HT.out _ S _ RA.out).mono ?_
 rintro e W ⟨rfl, bb1⟩
 have HBX1 := hid (HBX.out.below bb1)
 have HBR1 := hid (HBR.out.below bb1)
 have BL := hid (BEL.out.trans (bb1.mono BEL.out.size))
 have hsz := BL.out.size
 obtain ⟨g, hg⟩ : ∃ g, g = w.heap.size := ⟨_, rfl⟩
 rw [← hg] at HBX1 HBR1 ⊢
 have hgW := HBR1.out.lt
 have hgw : w.heap.size ≤ g + 1 := by omega
 have hg0 : g < W.heap.size := by omega
 clear hg bb1 RA HBX HBR BEL
 have RNW := hid (RN.out.go Flat.keeps BL.out HSN.out (Sub.refl _))
 by_cases h2 : k = 2
 ·subst h2
  have q0 := HBX1.out.cell 0 _ rfl
  have hnn : (0 : Int) ≤ (V.length : Int) := by omega
  have hnl2 : V.length ≤ 4398046511104 := by omega
  go_wp2_with fail
  go_loopw [30] (fun t30 wr => ∃ q : Nat, q ≤ V.length ∧ t30 = .int .i64 q ∧ Hid (∀ j (h : j < V.length), j < q → V[j].1 ≠ s) ∧ Hid (Below W.heap.size W wr)) (fun t30 _ => V.length - (intOf t30).toNat)
  case atStart => exact ⟨0, by omega, rfl, hid (fun j h hj => by omega), hid (Below.refl _ _)⟩
  case round =>
   obtain ⟨q, hq, rfl, HN, HB⟩ := hrel
   have HX2 := hid (HBX1.out.below HB.out)
   have x0 := HX2.out.cell 0 _ rfl
   have x2 := HX2.out.cell 2 _ rfl
   have hxl := HX2.out.lt
   have hRW := HB.out.size
   by_cases hlt : q < V.length
   ·obtain ⟨b, off, cs, rfl, hb, hcs, hcc, hcr⟩ := (RNW.out.go Flat.keeps HB.out (HSN.out.trans (Sub.upto hsz)) (Sub.refl _)).at_ hlt
    obtain ⟨rfl, ho1, ho2⟩ := hcr
    have n0 := hcc 0 _ rfl
    have n1 := hcc 1 _ rfl
    rw [Nat.add_zero] at n0
    rw [← Nat.add_assoc] at n1
    have hbr : b < wr.heap.size := by have := HSN.out _ hb; unfold Upto at this; omega
    have hqi : (q : Int) < (V.length : Int) := by omega
    by_cases he : V[q].1 = s
    ·have es : (V[q].1.toList == s.toList) = true := str_eq he
     have HL := hid (show look V s = V[q].2 from look_hit hlt (fun j hj => HN.out j (by omega) hj) he)
     have HO := hid ho2
     obtain ⟨p, hp⟩ : ∃ p, p = V[q] := ⟨_, rfl⟩
     rw [← hp] at es HL HO n0 n1
     clear hp he ho1 ho2 hcc HN
     have HR2 := hid (HBR1.out.below HB.out)
     have hgl := HR2.out.lt
     have r0 := HR2.out.cell 0 _ rfl; have r1 := HR2.out.cell 1 _ rfl; have r2 := HR2.out.cell 2 _ rfl; have r3 := HR2.out.cell 3 _ rfl
     have t0 := HR2.out.fr 0; have t1 := HR2.out.fr 1; have t2 := HR2.out.fr 2; have t3 := HR2.out.fr 3
     go_wp2
     show bodyPost _ _ _ _ _ ((set4 wr (g + 1) _ _ _ _).alloc _)
     refine ret_ex' Tryz.results34 rfl rfl ((set4_blk' HR2.out _ _ _ _).below ((Below.refl _ _).alloc (Nat.le_refl _) _)) ⟨_, rfl, ?_, ?_⟩
     ·rw [show renE V (.mk 2 c s args) = nameE (look V s) by rw [HWN.out]; rfl, HL.out]
      exact RdE.leaf _ _ (by decide) (by decide) HO.out
     ·exact (set4_below (BL.out.trans (HB.out.mono hsz)) hgw).alloc (by rw [set4_size]; omega) _
    ·have es : (V[q].1.toList == s.toList) = false := str_ne he
     have HN2 := hid (show ∀ j (h : j < V.length), j < q + 1 → V[j].1 ≠ s from fun j h hj => by
      rcases Nat.lt_or_ge j q with h' | h'
      ·exact HN.out j h h'
      ·obtain rfl : j = q := by omega
       exact he)
     obtain ⟨p, hp⟩ : ∃ p, p = V[q] := ⟨_, rfl⟩
     rw [← hp] at es n0 n1
     clear hp he ho1 ho2 hcc HN
     go_wp2
     go_roundw
     case rel => exact ⟨q + 1, by omega, by go_num, HN2, hid (HB.out.alloc hRW _)⟩
     case measure => simp [intOf]; omega
   ·have HL := hid (show look V s = s from look_miss (fun p hp => by
      obtain ⟨j, hj, rfl⟩ := List.getElem_of_mem hp
      exact HN.out j hj (by omega)))
    have x0 := HX2.out.cell 0 _ rfl; have x1 := HX2.out.cell 1 _ rfl; have x2 := HX2.out.cell 2 _ rfl; have x3 := HX2.out.cell 3 _ rfl
    go_wp2_with fail
    refine (ecl_all _ wr S _ (HS.out.trans (Sub.upto (Nat.le_trans hsz hRW))) (R0.out.go (BL.out.trans (HB.out.mono hsz)) HS.out)).mono ?_
    rintro e w2 ⟨U2, rfl, hu2, hb2⟩
    obtain ⟨A5, c5, rfl⟩ := hu2.form
    have HU := hid hu2
    have HB2 := hid (HB.out.trans (hb2.mono hRW))
    have hw2 := hb2.size
    clear hu2 hb2 x0 x1 x2 x3
    have HR2 := hid (HBR1.out.below HB2.out)
    have hgl := HR2.out.lt
    have r0 := HR2.out.cell 0 _ rfl; have r1 := HR2.out.cell 1 _ rfl; have r2 := HR2.out.cell 2 _ rfl; have r3 := HR2.out.cell 3 _ rfl
    have t0 := HR2.out.fr 0; have t1 := HR2.out.fr 1; have t2 := HR2.out.fr 2; have t3 := HR2.out.fr 3
    go_wp2
    show bodyPost _ _ _ _ _ (set4 w2 (g + 1) _ _ _ _)
    refine ret_ex' Tryz.results34 rfl rfl (set4_blk' HR2.out _ _ _ _) ⟨_, rfl, ?_, ?_⟩
    ·rw [← clean_of HT.out (.inr HL.out)]
     exact HU.out.keep (Sub.plus_mono (Nat.le_trans hsz hRW) (Nat.le_of_eq (set4_size _ _ _ _ _ _).symm)) (set4_same (fun h => h.elim (fun h => by have := HS.out _ h; unfold Upto at this; omega) (fun h => by omega)))
    ·exact set4_below (BL.out.trans (HB2.out.mono hsz)) hgw
 ·have h2b : (k == 2) = false := by simpa using h2
  have HC := hid (clean_of (V := V) HT.out (.inl h2))
  clear h2
  have x0 := HBX1.out.cell 0 _ rfl; have x1 := HBX1.out.cell 1 _ rfl; have x2 := HBX1.out.cell 2 _ rfl; have x3 := HBX1.out.cell 3 _ rfl
  go_wp2_with fail
  refine (ecl_all _ W S _ (HS.out.trans (Sub.upto hsz)) (R0.out.go BL.out HS.out)).mono ?_
  rintro e w2 ⟨U2, rfl, hu2, hb2⟩
  obtain ⟨A5, c5, rfl⟩ := hu2.form
  have HU := hid hu2
  have HB2 := hid hb2
  have hw2 := hb2.size
  clear hu2 hb2 x0 x1 x2 x3
  have HR2 := hid (HBR1.out.below HB2.out)
  have hgl := HR2.out.lt
  have r0 := HR2.out.cell 0 _ rfl; have r1 := HR2.out.cell 1 _ rfl; have r2 := HR2.out.cell 2 _ rfl; have r3 := HR2.out.cell 3 _ rfl
  have t0 := HR2.out.fr 0; have t1 := HR2.out.fr 1; have t2 := HR2.out.fr 2; have t3 := HR2.out.fr 3
  go_wp2
  show bodyPost _ _ _ _ _ (set4 w2 (g + 1) _ _ _ _)
  refine ret_ex' Tryz.results34 rfl rfl (set4_blk' HR2.out _ _ _ _) ⟨_, rfl, ?_, ?_⟩
  ·rw [← HC.out]
   exact HU.out.keep (Sub.plus_mono hsz (Nat.le_of_eq (set4_size _ _ _ _ _ _).symm)) (set4_same (fun h => h.elim (fun h => by have := HS.out _ h; unfold Upto at this; omega) (fun h => by omega)))
  ·exact set4_below (BL.out.trans (HB2.out.mono hsz)) hgw
theorem lx_all (V : Env) (t : Ex) : LXs V t := Ex.ind (lx_one V) (lx_two V) t
def FrQ (n : Nat) (S : Blocks) (w : World) (l : List St) (x : Value) : Prop := ∃ T, Sub T (Plus S n w.heap.size) ∧ Sub T (Upto w.heap.size) ∧ RdSts w T l x
section
variable {n y : Nat} {S : Blocks} {w w' : World} {t : Ex} {V x : Value} {l : List St}
theorem FrP.set1 (h : FrP n S w t V) (hR : ¬ S y) (hn : y < n) {o : Nat} (u : Value) : FrP n S (w.setCell ⟨y, o, none⟩ u) t V := by
 obtain ⟨T, h1, h2, r⟩ := h
 refine ⟨T, by rw [size_setCell]; exact h1, by rw [size_setCell]; exact h2, r.keep (Sub.refl _) (same_setCell (fun hp => (h1 _ hp).elim hR (fun h => by have h := h.1; simp at h; omega)) u)⟩
theorem FrQ.set1 (h : FrQ n S w l x) (hR : ¬ S y) (hn : y < n) {o : Nat} (u : Value) : FrQ n S (w.setCell ⟨y, o, none⟩ u) l x := by
 obtain ⟨T, h1, h2, r⟩ := h
 refine ⟨T, by rw [size_setCell]; exact h1, by rw [size_setCell]; exact h2, r.keep RdSt.keeps (Sub.refl _) (same_setCell (fun hp => (h1 _ hp).elim hR (fun h => by have h := h.1; simp at h; omega)) u)⟩
theorem FrQ.via (hb : Below w.heap.size w w') (h : FrQ n S w l x) : FrQ n S w' l x := by
 obtain ⟨T, h1, h2, r⟩ := h
 exact ⟨T, h1.trans (Sub.plus_mono (Nat.le_refl _) hb.size), h2.trans (Sub.upto hb.size), r.go RdSt.keeps hb h2 (Sub.refl _)⟩
theorem FrQ.of {m : Nat} (h : RdSts w (Plus S m w.heap.size) l x) (hn : n ≤ m) (hS : Sub S (Upto w.heap.size)) : FrQ n S w l x := ⟨_, Sub.plus_mono hn (Nat.le_refl _), Sub.plus_upto hS, h⟩
theorem FrQ.form (h : FrQ n S w l x) : ∃ A cap, x = .slice A l.length cap := by
 obtain ⟨T, _, _, r⟩ := h
 obtain ⟨A, cap, e, _⟩ := r.form
 exact ⟨A, cap, e⟩
theorem FrQ.nil (n : Nat) (S : Blocks) (w : World) : FrQ n S w [] (.slice none 0 0) := ⟨Nowhere, Sub.nowhere _, Sub.nowhere _, RdL.nil (by simp [maxLen])⟩
theorem FrP.zero (n : Nat) (S : Blocks) (w : World) : FrP n S w exZ (.agg #[.int .i64 0, .int .i64 0, .string noS, .slice none 0 0]) := ⟨Nowhere, Sub.nowhere _, Sub.nowhere _, RdE.leaf _ _ (by decide) (by decide) (by decide)⟩
theorem FrP.setA (h : FrP n S w t V) (hR : ¬ S y) (hn : y < n) (o : Nat) (u0 u1 u2 u3 : Value) : FrP n S ((((w.setCell ⟨y, o, none⟩ u0).setCell ⟨y, o + 1, none⟩ u1).setCell ⟨y, o + 2, none⟩ u2).setCell ⟨y, o + 3, none⟩ u3) t V := (((h.set1 hR hn u0).set1 hR hn u1).set1 hR hn u2).set1 hR hn u3
end
theorem tld_cells {n : Nat} {S : Blocks} {w : World} {k : Int} {s : Str} {a b : Ex} {body els : List St} {a0 a1 b0 b1 : Int} {a2 b2 : Str} {a3 b3 v1 v2 : Value} (hk : inI k) (hs : okS s)
    (ha : FrP n S w a (.agg #[.int .i64 a0, .int .i64 a1, .string a2, a3])) (hb : FrP n S w b (.agg #[.int .i64 b0, .int .i64 b1, .string b2, b3])) (h1 : FrQ n S w body v1) (h2 : FrQ n S w els v2) :
    ∃ T, Sub T (Plus S n w.heap.size) ∧ Sub T (Upto w.heap.size) ∧ RdSt w T (.mk k s a b body els) [.int .i64 k, .string s, .int .i64 a0, .int .i64 a1, .string a2, a3, .int .i64 b0, .int .i64 b1, .string b2, b3, v1, v2] := by
 obtain ⟨T1, n1, m1, r1⟩ := ha
 obtain ⟨T2, n2, m2, r2⟩ := hb
 obtain ⟨T3, n3, m3, r3⟩ := h1
 obtain ⟨T4, n4, m4, r4⟩ := h2
 refine ⟨Both (Both T1 T2) (Both T3 T4), Sub.both (Sub.both n1 n2) (Sub.both n3 n4), Sub.both (Sub.both m1 m2) (Sub.both m3 m4), ?_⟩
 exact RdSt.shut hk hs ((r1.keep (fun k hk => .inl (.inl hk)) (Same.refl _ _)).toX) ((r2.keep (fun k hk => .inl (.inr hk)) (Same.refl _ _)).toX) (r3.sub RdSt.keeps (fun k hk => .inr (.inl hk))) (r4.sub RdSt.keeps (fun k hk => .inr (.inr hk)))
def NmR2 (M : Nat) (v8 : Value) (w : World) (V : Env) (x : Value) : Prop := ∃ T, (∀ k, T k → k < M ∧ v8.ownBlock ≠ some k) ∧ RdNm w T V x
structure LB (n0 d y : Nat) (S : Blocks) (w : World) (a b : Ex) (VA VB : Value) (body els : List St) (v1 v2 : Value) (cs : List Value) (O : List St) (v8 : Value) (E : Env) (nm : Value) (W : World) (ys : List Value) : Prop where
 n0e : n0 = w.heap.size
 be : Below n0 w W
 ow : OwnL RdSt 12 82 W n0 (Plus S n0 d) O v8
 hv : ∀ k, v8.ownBlock = some k → n0 ≤ k ∧ k < d
 nr : NmR2 d v8 W E nm
 rn : Rnd n0 S d cs a b VA VB body els v1 v2 W
 yb : Blk n0 W y ys
 dy : d < y
 sS : Sub S (Upto n0)
section
variable {n0 d y : Nat} {S : Blocks} {w : World} {a b : Ex} {VA VB : Value} {body els : List St} {v1 v2 : Value} {cs : List Value} {O : List St} {v8 : Value} {E : Env} {nm : Value} {W W2 : World} {ys : List Value}
theorem NmR2.keep {M : Nat} (h : NmR2 M v8 W E nm) (hs : Same (fun k => k < M ∧ v8.ownBlock ≠ some k) W W2) : NmR2 M v8 W2 E nm := by
 obtain ⟨T, hT, r⟩ := h
 exact ⟨T, hT, r.keep Flat.keeps (Sub.refl _) (hs.sub hT)⟩
theorem LB.below (h : LB n0 d y S w a b VA VB body els v1 v2 cs O v8 E nm W ys) (hb : Below W.heap.size W W2) : LB n0 d y S w a b VA VB body els v1 v2 cs O v8 E nm W2 ys := by
 have h1 := h.rn.bd.lt
 have h0 := h.rn.bd.ge
 refine ⟨h.n0e, h.be.trans (hb.mono (by omega)), h.ow.keep RdSt.keeps hb, h.hv, h.nr.keep (same_of_below hb (fun k hk => by unfold Upto; omega)), h.rn.but (T := Nowhere) (But.of_below hb) (fun _ h => h.elim) (fun h => h) h.sS, h.yb.below hb, h.dy, h.sS⟩
theorem LB.set (h : LB n0 d y S w a b VA VB body els v1 v2 cs O v8 E nm W ys) {i : Nat} (hi : i < ys.length) (u : Value) : LB n0 d y S w a b VA VB body els v1 v2 cs O v8 E nm (W.setCell ⟨y, i, none⟩ u) (ys.set i u) := by
 have h2 := h.dy
 have h0 := h.rn.bd.ge
 have hset := (But.refl (Is y) W).setCell (p := ⟨y, i, none⟩) rfl u
 have hyS : ∀ k, Is y k → k = y := fun k hk => hk
 refine ⟨h.n0e, h.be.setCell (p := ⟨y, i, none⟩) (by show n0 ≤ y; omega) u, h.ow.butG RdSt.keeps hset (fun k hk e => by have := (h.hv k hk).2; have := hyS k e; omega) (fun k hk e => hk.elim (fun hk => by have := hyS k e; have := h.sS k hk; unfold Upto at this; omega) (fun hk => by have := hyS k e; omega)), h.hv, h.nr.keep (same_setCell (p := ⟨y, i, none⟩) (fun hk => by have := hk.1; simp at this; omega) u), h.rn.but hset (fun k hk => by have := hyS k hk; omega) (fun e => by have := hyS _ e; omega) h.sS, h.yb.set hi u, h.dy, h.sS⟩
end
section
variable {n0 d y : Nat} {S : Blocks} {w : World} {a b : Ex} {VA VB : Value} {body els : List St} {v1 v2 : Value} {cs : List Value} {O : List St} {v8 : Value} {E : Env} {nm : Value} {W W2 : World} {y0 y1 y2 y3 y4 y5 y6 y7 y8 y9 y10 y11 : Value}
theorem LB.setA (h : LB n0 d y S w a b VA VB body els v1 v2 cs O v8 E nm W [y0, y1, y2, y3, y4, y5, y6, y7, y8, y9, y10, y11]) (u0 u1 u2 u3 : Value) : LB n0 d y S w a b VA VB body els v1 v2 cs O v8 E nm ((((W.setCell ⟨y, 2, none⟩ u0).setCell ⟨y, 3, none⟩ u1).setCell ⟨y, 4, none⟩ u2).setCell ⟨y, 5, none⟩ u3) [y0, y1, u0, u1, u2, u3, y6, y7, y8, y9, y10, y11] :=
 (((h.set (i := 2) (by simp) u0).set (i := 3) (by simp) u1).set (i := 4) (by simp) u2).set (i := 5) (by simp) u3
theorem LB.setB (h : LB n0 d y S w a b VA VB body els v1 v2 cs O v8 E nm W [y0, y1, y2, y3, y4, y5, y6, y7, y8, y9, y10, y11]) (u0 u1 u2 u3 : Value) : LB n0 d y S w a b VA VB body els v1 v2 cs O v8 E nm ((((W.setCell ⟨y, 6, none⟩ u0).setCell ⟨y, 7, none⟩ u1).setCell ⟨y, 8, none⟩ u2).setCell ⟨y, 9, none⟩ u3) [y0, y1, y2, y3, y4, y5, u0, u1, u2, u3, y10, y11] :=
 (((h.set (i := 6) (by simp) u0).set (i := 7) (by simp) u1).set (i := 8) (by simp) u2).set (i := 9) (by simp) u3
theorem LB.setN (h : LB n0 d y S w a b VA VB body els v1 v2 cs O v8 E nm W [y0, y1, y2, y3, y4, y5, y6, y7, y8, y9, y10, y11]) (u : Value) : LB n0 d y S w a b VA VB body els v1 v2 cs O v8 E nm (W.setCell ⟨y, 1, none⟩ u) [y0, u, y2, y3, y4, y5, y6, y7, y8, y9, y10, y11] := h.set (i := 1) (by simp) u
theorem LB.setV (h : LB n0 d y S w a b VA VB body els v1 v2 cs O v8 E nm W [y0, y1, y2, y3, y4, y5, y6, y7, y8, y9, y10, y11]) (u : Value) : LB n0 d y S w a b VA VB body els v1 v2 cs O v8 E nm (W.setCell ⟨y, 10, none⟩ u) [y0, y1, y2, y3, y4, y5, y6, y7, y8, y9, u, y11] := h.set (i := 10) (by simp) u
theorem LB.setW (h : LB n0 d y S w a b VA VB body els v1 v2 cs O v8 E nm W [y0, y1, y2, y3, y4, y5, y6, y7, y8, y9, y10, y11]) (u : Value) : LB n0 d y S w a b VA VB body els v1 v2 cs O v8 E nm (W.setCell ⟨y, 11, none⟩ u) [y0, y1, y2, y3, y4, y5, y6, y7, y8, y9, y10, u] := h.set (i := 11) (by simp) u
end
theorem LB.done {n0 d y : Nat} {S : Blocks} {w : World} {a b : Ex} {VA VB : Value} {body els : List St} {v1 v2 : Value} {cs : List Value} {O : List St} {v8 v9 : Value} {E E2 : Env} {nm nm2 : Value} {W w9 : World} {ys : List Value} {st : St} {T9 : Blocks}
    (h : LB n0 d y S w a b VA VB body els v1 v2 cs O v8 E nm W ys) (hg : W.grownBy w9 v8.ownBlock) (hlt : W.heap.size ≤ w9.heap.size) (hw : v9.ownBlock = v8.ownBlock ∨ v9.ownBlock = some W.heap.size) (ho : OwnL RdSt 12 82 w9 n0 (Both (Plus S n0 d) T9) (O ++ [st]) v9) (h9 : Sub T9 (Plus S n0 W.heap.size))
    (hn : NmR2 W.heap.size v8 W E2 nm2) : OwnL RdSt 12 82 w9 n0 (Plus S n0 w9.heap.size) (O ++ [st]) v9 ∧ NmR2 w9.heap.size v9 w9 E2 nm2 ∧ Below n0 w w9 := by
 have h1 := h.rn.bd.lt
 have h0 := h.rn.bd.ge
 have hb := But.of_grown hg
 refine ⟨ho.sub (Sub.both (Sub.plus_mono (Nat.le_refl _) (by omega)) (h9.trans (Sub.plus_mono (Nat.le_refl _) hlt))), ?_, h.be.trans ((hb.below (B := n0) (by omega) (fun k hk => (h.hv k hk).1)))⟩
 obtain ⟨T, hT, r⟩ := hn
 refine ⟨T, fun k hk => ⟨Nat.lt_of_lt_of_le (hT k hk).1 hlt, fun e => ?_⟩, r.keep Flat.keeps (Sub.refl _) (hb.same (fun k hk => (hT k hk).1) (fun k hk e => (hT k hk).2 e))⟩
 rcases hw with e' | e'
 ·exact (hT k hk).2 (by rw [← e']; exact e)
 ·rw [e'] at e; injection e with e; have := (hT k hk).1; omega
end Go.Proofs.YtnpgpcnkdocknaaGreatDoor
