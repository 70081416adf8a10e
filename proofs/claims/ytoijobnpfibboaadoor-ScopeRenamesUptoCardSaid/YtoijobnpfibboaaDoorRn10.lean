/- The walk of the reference's lexpr. -/
import Derived.Test.YtoijobnpfibboaaDoorRnSpec
import Derived.Test.YtoijobnpfibboaaDoorEtC
import Derived.Test.YtoijobnpfibboaaDoorStrB
import Derived.Test.YtoijobnpfibboaaDoorRegPre
import Derived.Test.YtoijobnpfibboaaDoorAppZ
import Derived.BigQuiet
import Derived.BigRegion
namespace Go.Proofs.YtoijobnpfibboaaDoor
open Go.RowKit
set_option linter.unusedVariables false
def encP (p : Str × Str) : List Value := [.string p.1, .string p.2]
def okP (p : Str × Str) : Prop := okS p.1 ∧ okS p.2
abbrev RdNm := RdL (Flat encP okP) 2 32
theorem clean_of {V : Env} {t : Ex} (h : t.two = none) (hn : t.kind ≠ 2 ∨ look V t.name = t.name) : clean t = renE V t := by
  rw [clean_none h, renE_none h]
  rcases hn with hn | hn
  · rw [if_neg hn, if_neg hn]
  · rw [hn]
theorem set4_blk' {base b : Nat} {w : World} {u0 u1 u2 u3 : Value} (h : Blk base w b [u0, u1, u2, u3]) (v0 v1 v2 v3 : Value) : Blk base (set4 w b v0 v1 v2 v3) b [v0, v1, v2, v3] :=
  (((h.set (i := 0) (by simp) v0).set (i := 1) (by simp) v1).set (i := 2) (by simp) v2).set (i := 3) (by simp) v3
theorem ret_ex' {fn : Func} {R : Ending → World → Prop} {a : Act} {w : World} {T G base : Nat} {k c : Int} {s : Str} {v : Value} (hr : fn.results = #[.cell T 29]) (ht : a.tmps.getD T undef = .pointer (some ⟨G, 0, none⟩)) (hd : a.defers = [])
    (B : Blk base w G [.int .i64 k, .int .i64 c, .string s, v]) (h : R (.returned (.agg #[.int .i64 k, .int .i64 c, .string s, v])) w) : bodyPost Tryd.prog fn R .ret a w := by
  have r0 := B.cell 0 _ rfl; have r1 := B.cell 1 _ rfl; have r2 := B.cell 2 _ rfl; have r3 := B.cell 3 _ rfl
  rw [Array.getD_eq_getD_getElem?] at ht
  exact bodyPost_ret (v := .agg #[.int .i64 k, .int .i64 c, .string s, v]) (by simp [results, hr, ht, go_sem, r0, r1, r2, r3]) hd h
def LXs (V : Env) (t : Ex) : Prop := ∀ (w : World) (S Sn : Blocks) (U names : Value), Sub S (Upto w.heap.size) → RdE w S t U → Sub Sn (Upto w.heap.size) → RdNm w Sn V names →
  Calls Tryd.prog 15 #[U, names] w fun e w' => ∃ U', e = .returned U' ∧ RdE w' (Plus S w.heap.size w'.heap.size) (renE V t) U' ∧ Below w.heap.size w w'
set_option maxHeartbeats 2000000 in
set_option maxRecDepth 100000 in
theorem lx_two (V : Env) (t a b : Ex) (ht : t.two = some (a, b)) (iha : LXs V a) (ihb : LXs V b) : LXs V t := by
  intro w S Sn U names hS r hSn rn
  obtain ⟨k, c, s, args, v, rfl, rfl, hk, hc, hs, hargs⟩ := id r
  obtain ⟨hkk, r', hr'⟩ := Ex.two_kind ht
  simp only [Ex.kind, Ex.args] at hkk hr'
  subst hr'
  obtain ⟨A, cap, rfl, hcl, hcm, _⟩ := hargs.form
  obtain ⟨An, cn, rfl, -⟩ := rn.form
  obtain ⟨b0, off, k0, c0, s0, v0, rfl, hsb, x0, x1, x2, x3, ra⟩ := RdExs.arg hargs (q := 0) (by simp)
  obtain ⟨b0', off', k1, c1, s1, v1, hA, hsb', y0, y1, y2, y3, rb⟩ := RdExs.arg hargs (q := 1) (by simp)
  injection hA with hA
  injection hA with e1 e2
  subst e1 e2
  simp only [List.getElem_cons_zero, List.getElem_cons_succ] at ra rb
  rw [Nat.zero_mul, Nat.add_zero] at x0 x1 x2 x3
  rw [Nat.one_mul] at y0 y1 y2 y3
  have hl2 : 2 ≤ (a :: b :: r').length := by simp
  have HRG := Lib.hid r
  clear r
  obtain ⟨n, hn⟩ : ∃ n, n = (a :: b :: r').length := ⟨_, rfl⟩
  rw [← hn] at hcl hl2 HRG ⊢
  clear hn hargs
  have bl2 : Below w.heap.size w (w.alloc (.cells #[.int .i64 k, .int .i64 c, .string s, .slice (some ⟨b0, off, none⟩) n cap] 29)) := (Below.refl _ _).alloc (Nat.le_refl _) _
  have bel : Below w.heap.size w (((w.alloc (.cells #[.int .i64 k, .int .i64 c, .string s, .slice (some ⟨b0, off, none⟩) n cap] 29))).alloc (.cells #[.int .i64 0, .int .i64 0, .string ⟨#[]⟩, .slice none 0 0] 29)) := bl2.alloc (by simp) _
  have HW := Lib.hid (renE_two (V := V) ht)
  have HT := Lib.hid ht
  have HK := Lib.hid hk
  have BX := (Blk.made w [.int .i64 k, .int .i64 c, .string s, .slice (some ⟨b0, off, none⟩) n cap] 29 (base := 0) (Nat.zero_le _)).below (w' := (((w.alloc (.cells #[.int .i64 k, .int .i64 c, .string s, .slice (some ⟨b0, off, none⟩) n cap] 29))).alloc (.cells #[.int .i64 0, .int .i64 0, .string ⟨#[]⟩, .slice none 0 0] 29))) ((Below.refl _ _).alloc (Nat.le_refl _) _)
  have BR := Blk.made (w.alloc (.cells #[.int .i64 k, .int .i64 c, .string s, .slice (some ⟨b0, off, none⟩) n cap] 29)) [.int .i64 0, .int .i64 0, .string noS, .slice none 0 0] 29 (base := 0) (Nat.zero_le _)
  simp only [World.size_alloc] at BX BR
  have BEL := Lib.hid bel
  have HS := Lib.hid hS
  have HSN := Lib.hid hSn
  have RN := Lib.hid rn
  have RA := Lib.hid (HRG.out.go bel hS)
  have WRa := Lib.hid ra
  have WRb := Lib.hid rb
  have IHa := Lib.hid iha
  have IHb := Lib.hid ihb
  have hb0 : b0 < w.heap.size := hS _ hsb
  have HX := Lib.hid (And.intro x0 (And.intro x1 (And.intro x2 x3)))
  have HY := Lib.hid (And.intro y0 (And.intro y1 (And.intro y2 y3)))
  obtain ⟨A1, m1, n1, rfl⟩ := ra.slice
  obtain ⟨A2, m2, n2, rfl⟩ := rb.slice
  unfold maxLen at hcm
  unfold exV
  have HBX := Lib.hid BX
  have HBR := Lib.hid BR
  clear HRG bl2 bel hk hc hs hS ra rb iha ihb ht x0 x1 x2 x3 y0 y1 y2 y3 BX BR rn hSn
  go_enter Tryd.func15, Tryd.ntmps15
  go_wp2_with fail
  refine (two_yes _ a b HT.out _ S _ RA.out).mono ?_
  rintro e W ⟨rfl, bb1⟩
  have HBX1 := Lib.hid (HBX.out.below bb1)
  have HBR1 := Lib.hid (HBR.out.below bb1)
  have BL := Lib.hid (BEL.out.trans (bb1.mono BEL.out.size))
  have hsz := BL.out.size
  obtain ⟨g, hg⟩ : ∃ g, g = w.heap.size := ⟨_, rfl⟩
  rw [← hg] at HBX1 HBR1 hb0 ⊢
  have hgW := HBR1.out.lt
  have hgw : w.heap.size ≤ g + 1 := by omega
  have hgw2 : g ≤ w.heap.size := by omega
  have hg0 : g < W.heap.size := by omega
  have hbW : b0 < W.heap.size := by omega
  have hbw : b0 < w.heap.size := by omega
  have hn00 : 0 < n := by omega
  have hn0 : (0 : Int) < (n : Int) := by omega
  have hn1 : (1 : Int) < (n : Int) := by omega
  have hn2 : 1 < n := by omega
  clear hg bb1 RA HBX HBR BEL
  have HSW := Lib.hid (HS.out.trans (Sub.upto hsz))
  have HSNW := Lib.hid (HSN.out.trans (Sub.upto hsz))
  have RNW := Lib.hid (RN.out.go Flat.keeps BL.out HSN.out (Sub.refl _))
  have Wa := Lib.hid (WRa.out.go BL.out HS.out)
  have Wb := Lib.hid (WRb.out.go BL.out HS.out)
  have q0 := HBX1.out.cell 0 _ rfl; have q1 := HBX1.out.cell 1 _ rfl; have q2 := HBX1.out.cell 2 _ rfl; have q3 := HBX1.out.cell 3 _ rfl
  have f0 := (BL.out.cell (p := ⟨b0, off, none⟩) hbw).trans HX.out.1
  have f1 := (BL.out.cell (p := ⟨b0, off + 1, none⟩) hbw).trans HX.out.2.1
  have f2 := (BL.out.cell (p := ⟨b0, off + 2, none⟩) hbw).trans HX.out.2.2.1
  have f3 := (BL.out.cell (p := ⟨b0, off + 3, none⟩) hbw).trans HX.out.2.2.2
  have g0 := (BL.out.cell (p := ⟨b0, off + 4, none⟩) hbw).trans HY.out.1
  have g1 := (BL.out.cell (p := ⟨b0, off + 4 + 1, none⟩) hbw).trans HY.out.2.1
  have g2 := (BL.out.cell (p := ⟨b0, off + 4 + 2, none⟩) hbw).trans HY.out.2.2.1
  have g3 := (BL.out.cell (p := ⟨b0, off + 4 + 3, none⟩) hbw).trans HY.out.2.2.2
  have HNR := Lib.hid (show ¬ S (g + 1) from fun h => by have := HS.out _ h; unfold Upto at this; omega)
  go_upto_region 2 with (fail)
  refine wp_region_pre 15 (S := (fun w' => Stay W w')) (by kernel_rfl) (by kernel_rfl) (Stay.mk (Kept.start _)) (fun hHeld => ?_)
  simp only [List.take_succ_cons, List.take_zero]
  refine wpAnyH_take_at (i := 0) (v := ?_) (some 9) rfl rfl (by kernel_rfl) (by kernel_rfl) (by kernel_rfl) (fun _ _ _ h => h) (Or.inl ⟨by rfl, ?_⟩) (by assumption) ?_
  rotate_left
  · (intro w hSw; (try dsimp only at hSw); go_simp; (try with_reducible rfl))
  (try simp only [Act.put, List.setIfInBounds_toArray, List.set_cons_zero, List.set_cons_succ])
  refine wpAnyH_take_at (i := 1) (v := ?_) (some 10) rfl rfl (by kernel_rfl) (by kernel_rfl) (by kernel_rfl) (fun _ _ _ h => h) (Or.inl ⟨by rfl, ?_⟩) (by assumption) ?_
  rotate_left
  · (intro w hSw; (try dsimp only at hSw); go_simp; (try with_reducible rfl))
  (try simp only [Act.put, List.setIfInBounds_toArray, List.set_cons_zero, List.set_cons_succ])
  refine wpAnyH_take_at (i := 2) (v := ?_) (some 11) rfl rfl (by kernel_rfl) (by kernel_rfl) (by kernel_rfl) (fun _ _ _ h => h) (Or.inl ⟨by rfl, ?_⟩) (by assumption) ?_
  rotate_left
  · (intro w hSw; (try dsimp only at hSw); go_simp; (try with_reducible rfl))
  (try simp only [Act.put, List.setIfInBounds_toArray, List.set_cons_zero, List.set_cons_succ])
  refine wpAnyH_take_at (i := 3) (v := ?_) (some 12) rfl rfl (by kernel_rfl) (by kernel_rfl) (by kernel_rfl) (fun _ _ _ h => h) (Or.inl ⟨by rfl, ?_⟩) (by assumption) ?_
  rotate_left
  · (intro w hSw; (try dsimp only at hSw); go_simp; (try with_reducible rfl))
  (try simp only [Act.put, List.setIfInBounds_toArray, List.set_cons_zero, List.set_cons_succ])
  refine wpAnyH_take_at (i := 4) (v := ?_) (some 13) rfl rfl (by kernel_rfl) (by kernel_rfl) (by kernel_rfl) (fun _ _ _ h => h) (Or.inl ⟨by rfl, ?_⟩) (by assumption) ?_
  rotate_left
  · (intro w hSw; (try dsimp only at hSw); go_simp; (try with_reducible rfl))
  (try simp only [Act.put, List.setIfInBounds_toArray, List.set_cons_zero, List.set_cons_succ])
  refine wpAnyH_take_at (i := 5) (v := ?_) (some 14) rfl rfl (by kernel_rfl) (by kernel_rfl) (by kernel_rfl) (fun _ _ _ h => h) (Or.inl ⟨by rfl, ?_⟩) (by assumption) ?_
  rotate_left
  · (intro w hSw; (try dsimp only at hSw); go_simp; (try with_reducible rfl))
  (try simp only [Act.put, List.setIfInBounds_toArray, List.set_cons_zero, List.set_cons_succ])
  refine wpAnyH_take_at (i := 6) (v := ?_) (some 15) rfl rfl (by kernel_rfl) (by kernel_rfl) (by kernel_rfl) (fun _ _ _ h => h) (Or.inl ⟨by rfl, ?_⟩) (by assumption) ?_
  rotate_left
  · (intro w hSw; (try dsimp only at hSw); go_simp; (try with_reducible rfl))
  (try simp only [Act.put, List.setIfInBounds_toArray, List.set_cons_zero, List.set_cons_succ])
  refine wpAnyH_take_at (i := 8) (v := ?_) (some 17) rfl rfl (by kernel_rfl) (by kernel_rfl) (by kernel_rfl) (fun _ _ _ h => h) (Or.inl ⟨by rfl, ?_⟩) (by assumption) ?_
  rotate_left
  · (intro w hSw; (try dsimp only at hSw); go_simp; (try with_reducible rfl))
  (try simp only [Act.put, List.setIfInBounds_toArray, List.set_cons_zero, List.set_cons_succ])
  refine wpAnyH_take_at (i := 9) (v := ?_) (some 18) rfl rfl (by kernel_rfl) (by kernel_rfl) (by kernel_rfl) (fun _ _ _ h => h) (Or.inl ⟨by rfl, ?_⟩) (by assumption) ?_
  rotate_left
  · (intro w hSw; (try dsimp only at hSw); go_simp; (try with_reducible rfl))
  (try simp only [Act.put, List.setIfInBounds_toArray, List.set_cons_zero, List.set_cons_succ])
  refine wpAnyH_take_at (i := 10) (v := ?_) (some 19) rfl rfl (by kernel_rfl) (by kernel_rfl) (by kernel_rfl) (fun _ _ _ h => h) (Or.inl ⟨by rfl, ?_⟩) (by assumption) ?_
  rotate_left
  · (intro w hSw; (try dsimp only at hSw); go_simp; (try with_reducible rfl))
  (try simp only [Act.put, List.setIfInBounds_toArray, List.set_cons_zero, List.set_cons_succ])
  refine wpAnyH_take_at (i := 11) (v := ?_) (some 20) rfl rfl (by kernel_rfl) (by kernel_rfl) (by kernel_rfl) (fun _ _ _ h => h) (Or.inl ⟨by rfl, ?_⟩) (by assumption) ?_
  rotate_left
  · (intro w hSw; (try dsimp only at hSw); go_simp; (try with_reducible rfl))
  (try simp only [Act.put, List.setIfInBounds_toArray, List.set_cons_zero, List.set_cons_succ])
  refine wpAnyH_take_at (i := 12) (v := ?_) (some 21) rfl rfl (by kernel_rfl) (by kernel_rfl) (by kernel_rfl) (fun _ _ _ h => h) (Or.inl ⟨by rfl, ?_⟩) (by assumption) ?_
  rotate_left
  · (intro w hSw; (try dsimp only at hSw); go_simp; (try with_reducible rfl))
  (try simp only [Act.put, List.setIfInBounds_toArray, List.set_cons_zero, List.set_cons_succ])
  refine wpAnyH_ready (rs := [7]) (by kernel_rfl) (by simp) ?_
  refine AllReadyH.cons rfl (fun K hK => ?_) AllReadyH.nil
  go_simp
  refine (IHa.out W.drew S Sn _ _ HSW.out (Wa.out.go (Stay.below hHeld) HSW.out) HSNW.out (RNW.out.go Flat.keeps (Stay.below hHeld) HSNW.out (Sub.refl _))).mono ?_
  rintro e wa ⟨U1, rfl, hu1, hb1⟩
  have hst1 : Stay W wa := Stay.step hb1 hHeld
  have hp1 : FrP W.heap.size S wa (renE V a) U1 := FrP.of hu1 (Nat.le_refl _) (HSW.out.trans (Sub.upto (Stay.size hst1)))
  obtain ⟨A3, n3, rfl⟩ := hp1.form
  refine hK.out _ _ ?_ (fun hHeld => ?_)
  · exact hst1
  clear hK K
  (try simp only [Act.put, List.setIfInBounds_toArray, List.set_cons_zero, List.set_cons_succ])
  refine wpAnyH_ready (rs := [13]) (by kernel_rfl) (by simp) ?_
  refine AllReadyH.cons rfl (fun K hK => ?_) AllReadyH.nil
  go_simp
  refine (IHb.out _ S Sn _ _ (HSW.out.trans (Sub.upto (Stay.size hst1))) (Wb.out.go (Stay.below hst1) HSW.out) (HSNW.out.trans (Sub.upto (Stay.size hst1))) (RNW.out.go Flat.keeps (Stay.below hst1) HSNW.out (Sub.refl _))).mono ?_
  rintro e wb ⟨U2, rfl, hu2, hb2⟩
  have hst2 : Stay W wb := Stay.step hb2 hst1
  have hp2 : FrP W.heap.size S wb (renE V b) U2 := FrP.of hu2 (Stay.size hst1) (HSW.out.trans (Sub.upto (Stay.size hst2)))
  obtain ⟨A4, n4, rfl⟩ := hp2.form
  refine hK.out _ _ ?_ (fun hHeld => ?_)
  · exact hst2
  clear hK K
  (try simp only [Act.put, List.setIfInBounds_toArray, List.set_cons_zero, List.set_cons_succ])
  have hp3 := FrP.mk2 HK.out (Stay.size hst2) rfl (FrP.via hb2 hp1) hp2
  have hst3 := Stay.mk (Kept.alloc (Kept.here hst2) (.cells #[.int .i64 (renE V a).kind, .int .i64 (renE V a).num, .string (renE V a).name, .slice A3 (renE V a).args.length n3, .int .i64 (renE V b).kind, .int .i64 (renE V b).num, .string (renE V b).name, .slice A4 (renE V b).args.length n4] 29))
  refine wpAnyH_ready (rs := [14]) (by kernel_rfl) (by simp) ?_
  refine AllReadyH.cons rfl (fun K hK => ?_) AllReadyH.nil
  go_simp
  skip
  refine hK.out _ _ ?_ (fun hHeld => ?_)
  · exact hst3
  clear hK K
  (try simp only [Act.put, List.setIfInBounds_toArray, List.set_cons_zero, List.set_cons_succ])
  refine wpAnyH_done (by kernel_rfl) ?_ _
  unfold QPre
  simp only [List.drop_succ_cons, List.drop_zero]
  have HP3 := Lib.hid hp3
  have H3 := Lib.hid hst3
  clear hp1 hp2 hp3 hst1 hst2 hst3 hHeld hu1 hu2 hb1 hb2 q0 q1 q2 q3 f0 f1 f2 f3 g0 g1 g2 g3
  generalize (wb.alloc (.cells #[.int .i64 (renE V a).kind, .int .i64 (renE V a).num, .string (renE V a).name, .slice A3 (renE V a).args.length n3, .int .i64 (renE V b).kind, .int .i64 (renE V b).num, .string (renE V b).name, .slice A4 (renE V b).args.length n4] 29)) = W5 at *
  have HR5 := Lib.hid (HBR1.out.below (Stay.below H3.out))
  have r0 := HR5.out.cell 0 _ rfl; have r1 := HR5.out.cell 1 _ rfl; have r2 := HR5.out.cell 2 _ rfl; have r3 := HR5.out.cell 3 _ rfl
  have t0 := HR5.out.fr 0; have t1 := HR5.out.fr 1; have t2 := HR5.out.fr 2; have t3 := HR5.out.fr 3
  go_wp2
  show bodyPost _ _ _ _ _ (set4 W5 (g + 1) _ _ _ _)
  refine ret_ex' Tryd.results15 rfl rfl (set4_blk' HR5.out _ _ _ _) ⟨_, rfl, ?_, ?_⟩
  · rw [HW.out]
    exact (HP3.out.set HNR.out (by omega)).rd (by omega)
  · exact set4_below (BL.out.trans ((Stay.below H3.out).mono hsz)) hgw
set_option maxHeartbeats 2000000 in
set_option maxRecDepth 100000 in
theorem lx_one (V : Env) (t : Ex) (ht : t.two = none) : LXs V t := by
  intro w S Sn U names hS r hSn rn
  obtain ⟨k, c, s, args, v, rfl, rfl, hk, hc, hs, hargs⟩ := id r
  obtain ⟨A, cap, rfl, hcl, hcm, _⟩ := hargs.form
  obtain ⟨An, cn, rfl, hnl, hnm, hnb⟩ := rn.form
  have bl2 : Below w.heap.size w (w.alloc (.cells #[.int .i64 k, .int .i64 c, .string s, .slice A args.length cap] 29)) := (Below.refl _ _).alloc (Nat.le_refl _) _
  have bel : Below w.heap.size w (((w.alloc (.cells #[.int .i64 k, .int .i64 c, .string s, .slice A args.length cap] 29))).alloc (.cells #[.int .i64 0, .int .i64 0, .string ⟨#[]⟩, .slice none 0 0] 29)) := bl2.alloc (by simp) _
  have HT := Lib.hid ht
  have HK := Lib.hid (And.intro hk (And.intro hc hs))
  have BX := (Blk.made w [.int .i64 k, .int .i64 c, .string s, .slice A args.length cap] 29 (base := 0) (Nat.zero_le _)).below (w' := (((w.alloc (.cells #[.int .i64 k, .int .i64 c, .string s, .slice A args.length cap] 29))).alloc (.cells #[.int .i64 0, .int .i64 0, .string ⟨#[]⟩, .slice none 0 0] 29))) ((Below.refl _ _).alloc (Nat.le_refl _) _)
  have BR := Blk.made (w.alloc (.cells #[.int .i64 k, .int .i64 c, .string s, .slice A args.length cap] 29)) [.int .i64 0, .int .i64 0, .string noS, .slice none 0 0] 29 (base := 0) (Nat.zero_le _)
  simp only [World.size_alloc] at BX BR
  have BEL := Lib.hid bel
  have HS := Lib.hid hS
  have HSN := Lib.hid hSn
  have RN := Lib.hid rn
  have R0 := Lib.hid r
  have RA := Lib.hid (r.go bel hS)
  have HWN := Lib.hid (renE_none (V := V) ht)
  unfold maxLen at hcm hnm
  unfold exV
  have HBX := Lib.hid BX
  have HBR := Lib.hid BR
  clear hargs r bl2 bel hk hc hs hS ht BX BR rn hSn
  go_enter Tryd.func15, Tryd.ntmps15
  go_wp2_with fail
  refine (two_no _ HT.out _ S _ RA.out).mono ?_
  rintro e W ⟨rfl, bb1⟩
  have HBX1 := Lib.hid (HBX.out.below bb1)
  have HBR1 := Lib.hid (HBR.out.below bb1)
  have BL := Lib.hid (BEL.out.trans (bb1.mono BEL.out.size))
  have hsz := BL.out.size
  obtain ⟨g, hg⟩ : ∃ g, g = w.heap.size := ⟨_, rfl⟩
  rw [← hg] at HBX1 HBR1 ⊢
  have hgW := HBR1.out.lt
  have hgw : w.heap.size ≤ g + 1 := by omega
  have hg0 : g < W.heap.size := by omega
  clear hg bb1 RA HBX HBR BEL
  have RNW := Lib.hid (RN.out.go Flat.keeps BL.out HSN.out (Sub.refl _))
  by_cases h2 : k = 2
  · subst h2
    have q0 := HBX1.out.cell 0 _ rfl
    have hnn : (0 : Int) ≤ (V.length : Int) := by omega
    have hnl2 : V.length ≤ 4398046511104 := by omega
    go_wp2_with fail
    go_loopw [30] (fun t30 wr => ∃ q : Nat, q ≤ V.length ∧ t30 = .int .i64 q ∧ Hid (∀ j (h : j < V.length), j < q → V[j].1 ≠ s) ∧ Hid (Below W.heap.size W wr)) (fun t30 _ => V.length - (intOf t30).toNat)
    case atStart => exact ⟨0, by omega, rfl, Lib.hid (fun j h hj => by omega), Lib.hid (Below.refl _ _)⟩
    case round =>
      obtain ⟨q, hq, rfl, HN, HB⟩ := hrel
      have HX2 := Lib.hid (HBX1.out.below HB.out)
      have x0 := HX2.out.cell 0 _ rfl
      have x2 := HX2.out.cell 2 _ rfl
      have hxl := HX2.out.lt
      have hRW := HB.out.size
      by_cases hlt : q < V.length
      · obtain ⟨b, off, cs, rfl, hb, hcs, hcc, hcr⟩ := (RNW.out.go Flat.keeps HB.out (HSN.out.trans (Sub.upto hsz)) (Sub.refl _)).at_ hlt
        obtain ⟨rfl, ho1, ho2⟩ := hcr
        have n0 := hcc 0 _ rfl
        have n1 := hcc 1 _ rfl
        rw [Nat.add_zero] at n0
        rw [← Nat.add_assoc] at n1
        have hbr : b < wr.heap.size := by have := HSN.out _ hb; unfold Upto at this; omega
        have hqi : (q : Int) < (V.length : Int) := by omega
        by_cases he : V[q].1 = s
        · have es : (V[q].1.toList == s.toList) = true := str_eq he
          have HL := Lib.hid (show look V s = V[q].2 from look_hit hlt (fun j hj => HN.out j (by omega) hj) he)
          have HO := Lib.hid ho2
          obtain ⟨p, hp⟩ : ∃ p, p = V[q] := ⟨_, rfl⟩
          rw [← hp] at es HL HO n0 n1
          clear hp he ho1 ho2 hcc HN
          have HR2 := Lib.hid (HBR1.out.below HB.out)
          have hgl := HR2.out.lt
          have r0 := HR2.out.cell 0 _ rfl; have r1 := HR2.out.cell 1 _ rfl; have r2 := HR2.out.cell 2 _ rfl; have r3 := HR2.out.cell 3 _ rfl
          have t0 := HR2.out.fr 0; have t1 := HR2.out.fr 1; have t2 := HR2.out.fr 2; have t3 := HR2.out.fr 3
          go_wp2
          show bodyPost _ _ _ _ _ ((set4 wr (g + 1) _ _ _ _).alloc _)
          refine ret_ex' Tryd.results15 rfl rfl ((set4_blk' HR2.out _ _ _ _).below ((Below.refl _ _).alloc (Nat.le_refl _) _)) ⟨_, rfl, ?_, ?_⟩
          · rw [show renE V (.mk 2 c s args) = nameE (look V s) by rw [HWN.out]; rfl, HL.out]
            exact RdE.leaf _ _ (by decide) (by decide) HO.out
          · exact (set4_below (BL.out.trans (HB.out.mono hsz)) hgw).alloc (by rw [set4_size]; omega) _
        · have es : (V[q].1.toList == s.toList) = false := str_ne he
          have HN2 := Lib.hid (show ∀ j (h : j < V.length), j < q + 1 → V[j].1 ≠ s from fun j h hj => by
            rcases Nat.lt_or_ge j q with h' | h'
            · exact HN.out j h h'
            · obtain rfl : j = q := by omega
              exact he)
          obtain ⟨p, hp⟩ : ∃ p, p = V[q] := ⟨_, rfl⟩
          rw [← hp] at es n0 n1
          clear hp he ho1 ho2 hcc HN
          go_wp2
          go_roundw
          case rel => exact ⟨q + 1, by omega, by go_num, HN2, Lib.hid (HB.out.alloc hRW _)⟩
          case measure => simp [intOf]; omega
      · have HL := Lib.hid (show look V s = s from look_miss (fun p hp => by
          obtain ⟨j, hj, rfl⟩ := List.getElem_of_mem hp
          exact HN.out j hj (by omega)))
        have x0 := HX2.out.cell 0 _ rfl; have x1 := HX2.out.cell 1 _ rfl; have x2 := HX2.out.cell 2 _ rfl; have x3 := HX2.out.cell 3 _ rfl
        go_wp2_with fail
        refine (ecl_all _ wr S _ (HS.out.trans (Sub.upto (Nat.le_trans hsz hRW))) (R0.out.go (BL.out.trans (HB.out.mono hsz)) HS.out)).mono ?_
        rintro e w2 ⟨U2, rfl, hu2, hb2⟩
        obtain ⟨A5, c5, rfl⟩ := hu2.form
        have HU := Lib.hid hu2
        have HB2 := Lib.hid (HB.out.trans (hb2.mono hRW))
        have hw2 := hb2.size
        clear hu2 hb2 x0 x1 x2 x3
        have HR2 := Lib.hid (HBR1.out.below HB2.out)
        have hgl := HR2.out.lt
        have r0 := HR2.out.cell 0 _ rfl; have r1 := HR2.out.cell 1 _ rfl; have r2 := HR2.out.cell 2 _ rfl; have r3 := HR2.out.cell 3 _ rfl
        have t0 := HR2.out.fr 0; have t1 := HR2.out.fr 1; have t2 := HR2.out.fr 2; have t3 := HR2.out.fr 3
        go_wp2
        show bodyPost _ _ _ _ _ (set4 w2 (g + 1) _ _ _ _)
        refine ret_ex' Tryd.results15 rfl rfl (set4_blk' HR2.out _ _ _ _) ⟨_, rfl, ?_, ?_⟩
        · rw [← clean_of HT.out (.inr HL.out)]
          exact HU.out.keep (Sub.plus_mono (Nat.le_trans hsz hRW) (Nat.le_of_eq (set4_size _ _ _ _ _ _).symm)) (set4_same (fun h => h.elim (fun h => by have := HS.out _ h; unfold Upto at this; omega) (fun h => by omega)))
        · exact set4_below (BL.out.trans (HB2.out.mono hsz)) hgw
  · have h2b : (k == 2) = false := by simpa using h2
    have HC := Lib.hid (clean_of (V := V) HT.out (.inl h2))
    clear h2
    have x0 := HBX1.out.cell 0 _ rfl; have x1 := HBX1.out.cell 1 _ rfl; have x2 := HBX1.out.cell 2 _ rfl; have x3 := HBX1.out.cell 3 _ rfl
    go_wp2_with fail
    refine (ecl_all _ W S _ (HS.out.trans (Sub.upto hsz)) (R0.out.go BL.out HS.out)).mono ?_
    rintro e w2 ⟨U2, rfl, hu2, hb2⟩
    obtain ⟨A5, c5, rfl⟩ := hu2.form
    have HU := Lib.hid hu2
    have HB2 := Lib.hid hb2
    have hw2 := hb2.size
    clear hu2 hb2 x0 x1 x2 x3
    have HR2 := Lib.hid (HBR1.out.below HB2.out)
    have hgl := HR2.out.lt
    have r0 := HR2.out.cell 0 _ rfl; have r1 := HR2.out.cell 1 _ rfl; have r2 := HR2.out.cell 2 _ rfl; have r3 := HR2.out.cell 3 _ rfl
    have t0 := HR2.out.fr 0; have t1 := HR2.out.fr 1; have t2 := HR2.out.fr 2; have t3 := HR2.out.fr 3
    go_wp2
    show bodyPost _ _ _ _ _ (set4 w2 (g + 1) _ _ _ _)
    refine ret_ex' Tryd.results15 rfl rfl (set4_blk' HR2.out _ _ _ _) ⟨_, rfl, ?_, ?_⟩
    · rw [← HC.out]
      exact HU.out.keep (Sub.plus_mono hsz (Nat.le_of_eq (set4_size _ _ _ _ _ _).symm)) (set4_same (fun h => h.elim (fun h => by have := HS.out _ h; unfold Upto at this; omega) (fun h => by omega)))
    · exact set4_below (BL.out.trans (HB2.out.mono hsz)) hgw
theorem lx_all (V : Env) (t : Ex) : LXs V t := Ex.ind (lx_one V) (lx_two V) t
end Go.Proofs.YtoijobnpfibboaaDoor
