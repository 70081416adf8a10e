/- The walk of the renamer's expr. -/
import Derived.Test.YtoijobnpfibboaaDoorRn2
import Derived.Test.YtoijobnpfibboaaDoorEtC
namespace Go.Proofs.YtoijobnpfibboaaDoor
open Go.RowKit Go.Shelf
set_option linter.unusedVariables false
theorem RmAt.below {base z m : Nat} {w w' : World} {V : Env} {vo vn : Value} (h : RmAt base z w V m vo vn) (hb : Below w.heap.size w w') : RmAt base z w' V m vo vn :=
  ⟨h.bl.below hb, Nat.lt_of_lt_of_le h.zl hb.size, h.oo.keep Flat.keeps hb, h.on.keep Flat.keeps hb, h.no, h.nn, h.di, fun k hk => .inl hk, fun k hk => .inl hk, But.refl _ _⟩
theorem set4_blk {base b : Nat} {w : World} {u0 u1 u2 u3 : Value} (h : Blk base w b [u0, u1, u2, u3]) (v0 v1 v2 v3 : Value) : Blk base (set4 w b v0 v1 v2 v3) b [v0, v1, v2, v3] :=
  (((h.set (i := 0) (by simp) v0).set (i := 1) (by simp) v1).set (i := 2) (by simp) v2).set (i := 3) (by simp) v3
theorem ret_ex {fn : Func} {R : Ending → World → Prop} {a : Act} {w : World} {T G base : Nat} {k c : Int} {s : Str} {v : Value} (hr : fn.results = #[.cell T 29]) (ht : a.tmps.getD T undef = .pointer (some ⟨G, 0, none⟩)) (hd : a.defers = [])
    (B : Blk base w G [.int .i64 k, .int .i64 c, .string s, v]) (h : R (.returned (.agg #[.int .i64 k, .int .i64 c, .string s, v])) w) : bodyPost Tryd.prog fn R .ret a w := by
  have r0 := B.cell 0 _ rfl; have r1 := B.cell 1 _ rfl; have r2 := B.cell 2 _ rfl; have r3 := B.cell 3 _ rfl
  rw [Array.getD_eq_getD_getElem?] at ht
  exact bodyPost_ret (v := .agg #[.int .i64 k, .int .i64 c, .string s, v]) (by simp [results, hr, ht, go_sem, r0, r1, r2, r3]) hd h
def RXs (V : Env) (t : Ex) : Prop := ∀ (base z m : Nat) (w : World) (S : Blocks) (U vo vn : Value), RmAt base z w V m vo vn → base ≤ w.heap.size → V.length ≤ 1073741000 → Sub S (Upto w.heap.size) → RdE w S t U →
  Calls Tryd.prog 11 #[.pointer (some ⟨z, 0, none⟩), U] w fun e w' => ∃ U', e = .returned U' ∧ RdE w' (Plus Nowhere w.heap.size w'.heap.size) (renE V t) U' ∧ Below w.heap.size w w'
set_option maxHeartbeats 2000000 in
set_option maxRecDepth 100000 in
theorem rx_two (V : Env) (t a b : Ex) (ht : t.two = some (a, b)) (iha : RXs V a) (ihb : RXs V b) : RXs V t := by
  intro base z m w S U vo vn hm hbw hVl hS r
  obtain ⟨k, c, s, args, v, rfl, rfl, hk, hc, hs, hargs⟩ := id r
  obtain ⟨hkk, r', hr'⟩ := Ex.two_kind ht
  simp only [Ex.kind, Ex.args] at hkk hr'
  subst hr'
  obtain ⟨A, cap, rfl, hcl, hcm, _⟩ := hargs.form
  obtain ⟨b0, off, k0, c0, s0, v0, rfl, hsb, x0, x1, x2, x3, ra⟩ := RdExs.arg hargs (q := 0) (by simp)
  obtain ⟨b0', off', k1, c1, s1, v1, hA, hsb', y0, y1, y2, y3, rb⟩ := RdExs.arg hargs (q := 1) (by simp)
  injection hA with hA
  injection hA with e1 e2
  subst e1 e2
  simp only [List.getElem_cons_zero, List.getElem_cons_succ] at ra rb
  rw [Nat.zero_mul, Nat.add_zero] at x0 x1 x2 x3
  rw [Nat.one_mul] at y0 y1 y2 y3
  have hl2 : 2 ≤ (a :: b :: r').length := by simp
  have HRG := Lib.hid r
  clear r
  obtain ⟨n, hn⟩ : ∃ n, n = (a :: b :: r').length := ⟨_, rfl⟩
  rw [← hn] at hcl hl2 ⊢
  clear hn hargs
  have bl1 : Below w.heap.size w (w.alloc (.cells #[.pointer (some ⟨z, 0, none⟩)] 38)) := (Below.refl _ _).alloc (Nat.le_refl _) _
  have bl2 : Below w.heap.size w (((w.alloc (.cells #[.pointer (some ⟨z, 0, none⟩)] 38))).alloc (.cells #[.int .i64 k, .int .i64 c, .string s, .slice (some ⟨b0, off, none⟩) n cap] 29)) := bl1.alloc (by simp) _
  have bel : Below w.heap.size w (((((w.alloc (.cells #[.pointer (some ⟨z, 0, none⟩)] 38))).alloc (.cells #[.int .i64 k, .int .i64 c, .string s, .slice (some ⟨b0, off, none⟩) n cap] 29))).alloc (.cells #[.int .i64 0, .int .i64 0, .string noS, .slice none 0 0] 29)) := bl2.alloc (by simp; omega) _
  have HW := Lib.hid (renE_two (V := V) ht)
  have HK := Lib.hid hk
  have BP := (Blk.made w [.pointer (some ⟨z, 0, none⟩)] 38 (base := 0) (Nat.zero_le _)).below (w' := (((((w.alloc (.cells #[.pointer (some ⟨z, 0, none⟩)] 38))).alloc (.cells #[.int .i64 k, .int .i64 c, .string s, .slice (some ⟨b0, off, none⟩) n cap] 29))).alloc (.cells #[.int .i64 0, .int .i64 0, .string noS, .slice none 0 0] 29))) (((Below.refl _ _).alloc (Nat.le_refl _) _).alloc (by simp) _)
  have BX := (Blk.made (w.alloc (.cells #[.pointer (some ⟨z, 0, none⟩)] 38)) [.int .i64 k, .int .i64 c, .string s, .slice (some ⟨b0, off, none⟩) n cap] 29 (base := 0) (Nat.zero_le _)).below (w' := (((((w.alloc (.cells #[.pointer (some ⟨z, 0, none⟩)] 38))).alloc (.cells #[.int .i64 k, .int .i64 c, .string s, .slice (some ⟨b0, off, none⟩) n cap] 29))).alloc (.cells #[.int .i64 0, .int .i64 0, .string noS, .slice none 0 0] 29))) ((Below.refl _ _).alloc (Nat.le_refl _) _)
  have BR := Blk.made (((w.alloc (.cells #[.pointer (some ⟨z, 0, none⟩)] 38))).alloc (.cells #[.int .i64 k, .int .i64 c, .string s, .slice (some ⟨b0, off, none⟩) n cap] 29)) [.int .i64 0, .int .i64 0, .string noS, .slice none 0 0] 29 (base := 0) (Nat.zero_le _)
  simp only [World.size_alloc] at BX BR
  have BEL := Lib.hid bel
  have HS := Lib.hid hS
  have WRa := Lib.hid (ra.go bel hS)
  have WRb := Lib.hid (rb.go bel hS)
  have IHa := Lib.hid iha
  have IHb := Lib.hid ihb
  have RM := Lib.hid (hm.below bel)
  have hb0 : b0 < w.heap.size := hS _ hsb
  have f0 := (bel.cell (p := ⟨b0, off, none⟩) hb0).trans x0
  have f1 := (bel.cell (p := ⟨b0, off + 1, none⟩) hb0).trans x1; have f2 := (bel.cell (p := ⟨b0, off + 2, none⟩) hb0).trans x2; have f3 := (bel.cell (p := ⟨b0, off + 3, none⟩) hb0).trans x3
  have g0 := (bel.cell (p := ⟨b0, off + 4, none⟩) hb0).trans y0
  have g1 := (bel.cell (p := ⟨b0, off + 4 + 1, none⟩) hb0).trans y1; have g2 := (bel.cell (p := ⟨b0, off + 4 + 2, none⟩) hb0).trans y2; have g3 := (bel.cell (p := ⟨b0, off + 4 + 3, none⟩) hb0).trans y3
  obtain ⟨A1, m1, n1, rfl⟩ := ra.slice
  obtain ⟨A2, m2, n2, rfl⟩ := rb.slice
  unfold maxLen at hcm
  unfold exV
  have HBP := Lib.hid BP
  have HBX := Lib.hid BX
  have HBR := Lib.hid BR
  clear HRG bl1 bl2 bel hk hc hs hS ra rb iha ihb ht hm x0 x1 x2 x3 y0 y1 y2 y3 BP BX BR
  go_enter Tryd.func11, Tryd.ntmps11
  go_upto_region 1 with (fail)
  generalize (((((w.alloc (.cells #[.pointer (some ⟨z, 0, none⟩)] 38))).alloc (.cells #[.int .i64 k, .int .i64 c, .string s, .slice (some ⟨b0, off, none⟩) n cap] 29))).alloc (.cells #[.int .i64 0, .int .i64 0, .string noS, .slice none 0 0] 29)) = W at *
  have hsz := BEL.out.size
  obtain ⟨g, hg⟩ : ∃ g, g = w.heap.size := ⟨_, rfl⟩
  rw [← hg] at HBP HBX HBR hb0 ⊢
  have hgW := HBR.out.lt
  have p0 := HBP.out.cell 0 _ rfl
  have q0 := HBX.out.cell 0 _ rfl; have q1 := HBX.out.cell 1 _ rfl; have q2 := HBX.out.cell 2 _ rfl; have q3 := HBX.out.cell 3 _ rfl
  have hn0 : (0 : Int) < (n : Int) := by omega
  have hn00 : 0 < n := by omega
  have hn1 : (1 : Int) < (n : Int) := by omega
  have hn2 : 1 < n := by omega
  have hn3 : (2 : Int) ≤ (n : Int) := by omega
  have hbW : b0 < W.heap.size := by omega
  have hg1 : g + 1 < W.heap.size := by omega
  have hg0 : g < W.heap.size := by omega
  have hgw : w.heap.size ≤ g + 1 + 1 := by omega
  clear hg
  go_upto_region 2 with (fail)
  have HSW := Lib.hid (HS.out.trans (Sub.upto hsz))
  have HNR := Lib.hid (show ¬ Nowhere (g + 1 + 1) from fun h => h)
  have HBW := Lib.hid (Nat.le_trans hbw hsz)
  have HVL := Lib.hid hVl
  clear hbw hVl
  refine wp_region_pre 15 (S := (fun w' => Stay W w')) (by kernel_rfl) (by kernel_rfl) (Stay.mk (Kept.start _)) (fun hHeld => ?_)
  simp only [List.take_succ_cons, List.take_zero]
  refine wpAnyH_take_at (i := 0) (v := ?_) (some 21) rfl rfl (by kernel_rfl) (by kernel_rfl) (by kernel_rfl) (fun _ _ _ h => h) (Or.inl ⟨by rfl, ?_⟩) (by assumption) ?_
  rotate_left
  · (intro w hSw; (try dsimp only at hSw); go_simp; (try with_reducible rfl))
  (try simp only [Act.put, List.setIfInBounds_toArray, List.set_cons_zero, List.set_cons_succ])
  refine wpAnyH_take_at (i := 1) (v := ?_) (some 22) rfl rfl (by kernel_rfl) (by kernel_rfl) (by kernel_rfl) (fun _ _ _ h => h) (Or.inl ⟨by rfl, ?_⟩) (by assumption) ?_
  rotate_left
  · (intro w hSw; (try dsimp only at hSw); go_simp; (try with_reducible rfl))
  (try simp only [Act.put, List.setIfInBounds_toArray, List.set_cons_zero, List.set_cons_succ])
  refine wpAnyH_take_at (i := 2) (v := ?_) (some 23) rfl rfl (by kernel_rfl) (by kernel_rfl) (by kernel_rfl) (fun _ _ _ h => h) (Or.inl ⟨by rfl, ?_⟩) (by assumption) ?_
  rotate_left
  · (intro w hSw; (try dsimp only at hSw); go_simp; (try with_reducible rfl))
  (try simp only [Act.put, List.setIfInBounds_toArray, List.set_cons_zero, List.set_cons_succ])
  refine wpAnyH_take_at (i := 3) (v := ?_) (some 24) rfl rfl (by kernel_rfl) (by kernel_rfl) (by kernel_rfl) (fun _ _ _ h => h) (Or.inl ⟨by rfl, ?_⟩) (by assumption) ?_
  rotate_left
  · (intro w hSw; (try dsimp only at hSw); go_simp; (try with_reducible rfl))
  (try simp only [Act.put, List.setIfInBounds_toArray, List.set_cons_zero, List.set_cons_succ])
  refine wpAnyH_take_at (i := 4) (v := ?_) (some 25) rfl rfl (by kernel_rfl) (by kernel_rfl) (by kernel_rfl) (fun _ _ _ h => h) (Or.inl ⟨by rfl, ?_⟩) (by assumption) ?_
  rotate_left
  · (intro w hSw; (try dsimp only at hSw); go_simp; (try with_reducible rfl))
  (try simp only [Act.put, List.setIfInBounds_toArray, List.set_cons_zero, List.set_cons_succ])
  refine wpAnyH_take_at (i := 5) (v := ?_) (some 26) rfl rfl (by kernel_rfl) (by kernel_rfl) (by kernel_rfl) (fun _ _ _ h => h) (Or.inl ⟨by rfl, ?_⟩) (by assumption) ?_
  rotate_left
  · (intro w hSw; (try dsimp only at hSw); go_simp; (try with_reducible rfl))
  (try simp only [Act.put, List.setIfInBounds_toArray, List.set_cons_zero, List.set_cons_succ])
  refine wpAnyH_take_at (i := 6) (v := ?_) (some 27) rfl rfl (by kernel_rfl) (by kernel_rfl) (by kernel_rfl) (fun _ _ _ h => h) (Or.inl ⟨by rfl, ?_⟩) (by assumption) ?_
  rotate_left
  · (intro w hSw; (try dsimp only at hSw); go_simp; (try with_reducible rfl))
  (try simp only [Act.put, List.setIfInBounds_toArray, List.set_cons_zero, List.set_cons_succ])
  refine wpAnyH_take_at (i := 8) (v := ?_) (some 29) rfl rfl (by kernel_rfl) (by kernel_rfl) (by kernel_rfl) (fun _ _ _ h => h) (Or.inl ⟨by rfl, ?_⟩) (by assumption) ?_
  rotate_left
  · (intro w hSw; (try dsimp only at hSw); go_simp; (try with_reducible rfl))
  (try simp only [Act.put, List.setIfInBounds_toArray, List.set_cons_zero, List.set_cons_succ])
  refine wpAnyH_take_at (i := 9) (v := ?_) (some 30) rfl rfl (by kernel_rfl) (by kernel_rfl) (by kernel_rfl) (fun _ _ _ h => h) (Or.inl ⟨by rfl, ?_⟩) (by assumption) ?_
  rotate_left
  · (intro w hSw; (try dsimp only at hSw); go_simp; (try with_reducible rfl))
  (try simp only [Act.put, List.setIfInBounds_toArray, List.set_cons_zero, List.set_cons_succ])
  refine wpAnyH_take_at (i := 10) (v := ?_) (some 31) rfl rfl (by kernel_rfl) (by kernel_rfl) (by kernel_rfl) (fun _ _ _ h => h) (Or.inl ⟨by rfl, ?_⟩) (by assumption) ?_
  rotate_left
  · (intro w hSw; (try dsimp only at hSw); go_simp; (try with_reducible rfl))
  (try simp only [Act.put, List.setIfInBounds_toArray, List.set_cons_zero, List.set_cons_succ])
  refine wpAnyH_take_at (i := 11) (v := ?_) (some 32) rfl rfl (by kernel_rfl) (by kernel_rfl) (by kernel_rfl) (fun _ _ _ h => h) (Or.inl ⟨by rfl, ?_⟩) (by assumption) ?_
  rotate_left
  · (intro w hSw; (try dsimp only at hSw); go_simp; (try with_reducible rfl))
  (try simp only [Act.put, List.setIfInBounds_toArray, List.set_cons_zero, List.set_cons_succ])
  refine wpAnyH_take_at (i := 12) (v := ?_) (some 33) rfl rfl (by kernel_rfl) (by kernel_rfl) (by kernel_rfl) (fun _ _ _ h => h) (Or.inl ⟨by rfl, ?_⟩) (by assumption) ?_
  rotate_left
  · (intro w hSw; (try dsimp only at hSw); go_simp; (try with_reducible rfl))
  (try simp only [Act.put, List.setIfInBounds_toArray, List.set_cons_zero, List.set_cons_succ])
  refine wpAnyH_ready (rs := [7]) (by kernel_rfl) (by simp) ?_
  refine AllReadyH.cons rfl (fun K hK => ?_) AllReadyH.nil
  go_simp
  refine (IHa.out base z m _ S _ vo vn (RM.out.below (Stay.below hHeld)) HBW.out HVL.out HSW.out (WRa.out.go (Stay.below hHeld) HSW.out)).mono ?_
  rintro e wa ⟨U1, rfl, hu1, hb1⟩
  have hst1 : Stay W wa := Stay.step hb1 hHeld
  have hp1 : FrP W.heap.size Nowhere wa (renE V a) U1 := FrP.of hu1 (Nat.le_refl _) (Sub.nowhere _)
  obtain ⟨A3, n3, rfl⟩ := hp1.form
  refine hK.out _ _ ?_ (fun hHeld => ?_)
  · exact hst1
  clear hK K
  (try simp only [Act.put, List.setIfInBounds_toArray, List.set_cons_zero, List.set_cons_succ])
  refine wpAnyH_ready (rs := [13]) (by kernel_rfl) (by simp) ?_
  refine AllReadyH.cons rfl (fun K hK => ?_) AllReadyH.nil
  go_simp
  refine (IHb.out base z m _ S _ vo vn (RM.out.below (Stay.below hst1)) (Nat.le_trans HBW.out (Stay.size hst1)) HVL.out (HSW.out.trans (Sub.upto (Stay.size hst1))) (WRb.out.go (Stay.below hst1) HSW.out)).mono ?_
  rintro e wb ⟨U2, rfl, hu2, hb2⟩
  have hst2 : Stay W wb := Stay.step hb2 hst1
  have hp2 : FrP W.heap.size Nowhere wb (renE V b) U2 := FrP.of hu2 (Stay.size hst1) (Sub.nowhere _)
  obtain ⟨A4, n4, rfl⟩ := hp2.form
  refine hK.out _ _ ?_ (fun hHeld => ?_)
  · exact hst2
  clear hK K
  (try simp only [Act.put, List.setIfInBounds_toArray, List.set_cons_zero, List.set_cons_succ])
  have hp3 := FrP.mk2 HK.out (Stay.size hst2) rfl (FrP.via hb2 hp1) hp2
  have hst3 := Stay.mk (Kept.alloc (Kept.here hst2) (.cells #[.int .i64 (renE V a).kind, .int .i64 (renE V a).num, .string (renE V a).name, .slice A3 (renE V a).args.length n3, .int .i64 (renE V b).kind, .int .i64 (renE V b).num, .string (renE V b).name, .slice A4 (renE V b).args.length n4] 29))
  refine wpAnyH_ready (rs := [14]) (by kernel_rfl) (by simp) ?_
  refine AllReadyH.cons rfl (fun K hK => ?_) AllReadyH.nil
  go_simp
  skip
  refine hK.out _ _ ?_ (fun hHeld => ?_)
  · exact hst3
  clear hK K
  (try simp only [Act.put, List.setIfInBounds_toArray, List.set_cons_zero, List.set_cons_succ])
  refine wpAnyH_done (by kernel_rfl) ?_ _
  unfold QPre
  simp only [List.drop_succ_cons, List.drop_zero]
  have HP3 := Lib.hid hp3
  have H3 := Lib.hid hst3
  clear hp1 hp2 hp3 hst1 hst2 hst3 hHeld hu1 hu2 hb1 hb2 p0 q0 q1 q2 q3 f0 f1 f2 f3 g0 g1 g2 g3
  generalize (wb.alloc (.cells #[.int .i64 (renE V a).kind, .int .i64 (renE V a).num, .string (renE V a).name, .slice A3 (renE V a).args.length n3, .int .i64 (renE V b).kind, .int .i64 (renE V b).num, .string (renE V b).name, .slice A4 (renE V b).args.length n4] 29)) = W5 at *
  have HR5 := Lib.hid (HBR.out.below (Stay.below H3.out))
  have r0 := HR5.out.cell 0 _ rfl; have r1 := HR5.out.cell 1 _ rfl; have r2 := HR5.out.cell 2 _ rfl; have r3 := HR5.out.cell 3 _ rfl
  have t0 := HR5.out.fr 0; have t1 := HR5.out.fr 1; have t2 := HR5.out.fr 2; have t3 := HR5.out.fr 3
  go_wp2
  show bodyPost _ _ _ _ _ (set4 W5 (g + 1 + 1) _ _ _ _)
  refine ret_ex Tryd.results11 rfl rfl (set4_blk HR5.out _ _ _ _) ⟨_, rfl, ?_, ?_⟩
  · rw [HW.out]
    exact (HP3.out.set HNR.out (by omega)).rd (by omega)
  · exact set4_below (BEL.out.trans ((Stay.below H3.out).mono hsz)) hgw
set_option maxHeartbeats 2000000 in
set_option maxRecDepth 100000 in
theorem rx_leaf (V : Env) (t : Ex) (ht : t.two = none) (h2 : t.kind ≠ 2) : RXs V t := by
  intro base z m w S U vo vn hm hbw hVl hS r
  obtain ⟨k, c, s, args, v, rfl, rfl, hk, hc, hs, hargs⟩ := id r
  obtain ⟨A, cap, rfl, hcl, hcm, _⟩ := hargs.form
  have bl1 : Below w.heap.size w (w.alloc (.cells #[.pointer (some ⟨z, 0, none⟩)] 38)) := (Below.refl _ _).alloc (Nat.le_refl _) _
  have bl2 : Below w.heap.size w (((w.alloc (.cells #[.pointer (some ⟨z, 0, none⟩)] 38))).alloc (.cells #[.int .i64 k, .int .i64 c, .string s, .slice A args.length cap] 29)) := bl1.alloc (by simp) _
  have bel : Below w.heap.size w (((((w.alloc (.cells #[.pointer (some ⟨z, 0, none⟩)] 38))).alloc (.cells #[.int .i64 k, .int .i64 c, .string s, .slice A args.length cap] 29))).alloc (.cells #[.int .i64 0, .int .i64 0, .string noS, .slice none 0 0] 29)) := bl2.alloc (by simp; omega) _
  have HW := Lib.hid (renE_none (V := V) ht)
  have HK := Lib.hid (And.intro hk (And.intro hc hs))
  have BP := (Blk.made w [.pointer (some ⟨z, 0, none⟩)] 38 (base := 0) (Nat.zero_le _)).below (w' := (((((w.alloc (.cells #[.pointer (some ⟨z, 0, none⟩)] 38))).alloc (.cells #[.int .i64 k, .int .i64 c, .string s, .slice A args.length cap] 29))).alloc (.cells #[.int .i64 0, .int .i64 0, .string noS, .slice none 0 0] 29))) (((Below.refl _ _).alloc (Nat.le_refl _) _).alloc (by simp) _)
  have BX := (Blk.made (w.alloc (.cells #[.pointer (some ⟨z, 0, none⟩)] 38)) [.int .i64 k, .int .i64 c, .string s, .slice A args.length cap] 29 (base := 0) (Nat.zero_le _)).below (w' := (((((w.alloc (.cells #[.pointer (some ⟨z, 0, none⟩)] 38))).alloc (.cells #[.int .i64 k, .int .i64 c, .string s, .slice A args.length cap] 29))).alloc (.cells #[.int .i64 0, .int .i64 0, .string noS, .slice none 0 0] 29))) ((Below.refl _ _).alloc (Nat.le_refl _) _)
  have BR := Blk.made (((w.alloc (.cells #[.pointer (some ⟨z, 0, none⟩)] 38))).alloc (.cells #[.int .i64 k, .int .i64 c, .string s, .slice A args.length cap] 29)) [.int .i64 0, .int .i64 0, .string noS, .slice none 0 0] 29 (base := 0) (Nat.zero_le _)
  simp only [World.size_alloc] at BX BR
  have BEL := Lib.hid bel
  have RM := Lib.hid (hm.below bel)
  have HNO := Lib.hid (Ex.two_none ht)
  unfold maxLen at hcm
  unfold exV
  have HBP := Lib.hid BP
  have HBX := Lib.hid BX
  have HBR := Lib.hid BR
  simp only [Ex.kind] at h2
  have h2b : (k == 2) = false := by simpa using h2
  clear hargs r bl1 bl2 bel hk hc hs hS ht hm BP BX BR h2
  go_enter Tryd.func11, Tryd.ntmps11
  go_upto_region 1 with (fail)
  generalize (((((w.alloc (.cells #[.pointer (some ⟨z, 0, none⟩)] 38))).alloc (.cells #[.int .i64 k, .int .i64 c, .string s, .slice A args.length cap] 29))).alloc (.cells #[.int .i64 0, .int .i64 0, .string noS, .slice none 0 0] 29)) = W at *
  have hsz := BEL.out.size
  obtain ⟨g, hg⟩ : ∃ g, g = w.heap.size := ⟨_, rfl⟩
  rw [← hg] at HBP HBX HBR ⊢
  have hgw : w.heap.size ≤ g + 1 + 1 := by omega
  clear hg
  have hgW := HBR.out.lt
  have q0 := HBX.out.cell 0 _ rfl; have q1 := HBX.out.cell 1 _ rfl; have q2 := HBX.out.cell 2 _ rfl; have q3 := HBX.out.cell 3 _ rfl
  have r0 := HBR.out.cell 0 _ rfl; have r1 := HBR.out.cell 1 _ rfl; have r2 := HBR.out.cell 2 _ rfl; have r3 := HBR.out.cell 3 _ rfl
  have t0 := HBR.out.fr 0; have t1 := HBR.out.fr 1; have t2 := HBR.out.fr 2; have t3 := HBR.out.fr 3
  have hg1 : g + 1 < W.heap.size := by omega
  have hno := HNO.out
  simp only [Ex.kind, Ex.args] at hno
  by_cases h1 : k = 1
  · subst h1
    clear hno h2b
    have HX := Lib.hid (show renE V (.mk 1 c s args) = numE c by rw [HW.out]; rfl)
    go_wp2
    show bodyPost _ _ _ _ _ (set4 W (g + 1 + 1) _ _ _ _)
    refine ret_ex Tryd.results11 rfl rfl (set4_blk HBR.out _ _ _ _) ⟨_, rfl, ?_, ?_⟩
    · rw [HX.out]; exact RdE.leaf _ _ (by decide) HK.out.2.1 (by decide)
    · exact set4_below BEL.out hgw
  · have h1b : (k == 1) = false := by simpa using h1
    have h2c : k ≠ 2 := by simpa using h2b
    have HX := Lib.hid (show renE V (.mk k c s args) = numE 0 by rw [HW.out]; simp [Ex.kind, h1, h2c])
    clear h1 h2c
    have h3 : k < 3 ∨ (3 ≤ k ∧ 9 < k) ∨ (3 ≤ k ∧ k ≤ 9 ∧ (args.length : Int) < 2) := by omega
    clear hno
    rcases h3 with h | ⟨h, h'⟩ | ⟨h, h', h''⟩
    all_goals (
      go_wp2
      show bodyPost _ _ _ _ _ (set4 W (g + 1 + 1) _ _ _ _)
      refine ret_ex Tryd.results11 rfl rfl (set4_blk HBR.out _ _ _ _) ⟨_, rfl, ?_, ?_⟩
      · rw [HX.out]; exact RdE.leaf _ _ (by decide) (by decide) (by decide)
      · exact set4_below BEL.out hgw)
end Go.Proofs.YtoijobnpfibboaaDoor
