/- The walk of access. -/
import Derived.Test.YtfldajplclahfaaBg2
namespace Go.Proofs.Ytfldajplclahfaa
open Go.RowKit
set_option linter.unusedVariables false
theorem zeroSh (w : World) : (zeroValue 112).run Try.prog w = .ok (.agg #[.int .i64 0, .int .i64 0]) w := by kernel_rfl
section
variable {base n : Nat} {w w' : World} {F : Fd} {vf : Value} {k K : Nat} {rt : Nat → Nat} {bd : List Bool} {sh : Sh}
theorem FinAt.look (f : FinAt base n w F vf k K rt bd sh) {c : Int} (hc : inI c) (hb : Below w.heap.size w w') :
    (Instr.lookup 48 (.map (some F.gm)) (.int .i64 c) true).run Try.prog w' = .ok (.tuple #[.agg #[.int .i64 ((sh.cells c).getD (0, 0)).1, .int .i64 ((sh.cells c).getD (0, 0)).2], .bool (sh.cells c).isSome]) w' := by
  obtain ⟨nm, h1, h2⟩ := f.map
  rw [(h2.below hb).look Try.underlying3 Try.underlying48 (zeroSh _) hc]
  unfold encC
  cases h : sh.cells c <;> rfl
theorem FinAt.ent_at (f : FinAt base n w F vf k K rt bd sh) (c : Int) : Ent K (sh.at c).1 ∧ Ent K (sh.at c).2 := by
  unfold Sh.at
  cases h : sh.cells c with
  | none => exact ⟨.inl rfl, .inl rfl⟩
  | some x => exact f.ent c x h
theorem Ent.inI {K n : Nat} {x : Int} (h : Ent K x) (hK : K ≤ n) (hn : n ≤ 1048576) : inI x := by
  rcases h with h | ⟨m, h, e⟩
  · subst h; unfold Go.Proofs.Ytfldajplclahfaa.inI; omega
  · subst e; unfold Go.Proofs.Ytfldajplclahfaa.inI; omega
end
theorem accS_eq (W : Nat → Bool) (n : Nat) (a : Acc) (s : Sh) (x y : Int) (hx : s.at a.cell = (x, y)) :
    accS W n a s = putS a.cell (if a.write then ((n : Int), y) else if wiB W y then (x, y) else (x, (n : Int))) (if wiB W x || (a.write && wiB W y) then repS n a.cell s else s) := by
  unfold accS newC hitB
  rw [hx]
set_option maxHeartbeats 2000000 in
set_option maxRecDepth 100000 in
theorem access_any {base n : Nat} {w : World} {F : Fd} {vf : Value} {k : Nat} {rt : Nat → Nat} {bd : List Bool} {sh : Sh} (f : FinAt base n w F vf k k rt bd sh) (c lb : Int) (wb : Bool) (hc : inI c) (hk : k < n) :
    Calls Try.prog 51 #[.pointer (some ⟨F.d, 0, none⟩), .agg #[.int .i64 c, .bool wb, .int .i64 lb]] w fun e w' => e = .returned (.tuple #[]) ∧ ∃ vf' : Value, FinAt base n w' F vf' (k + 1) (k + 1) rt bd (accS (bdB rt bd) k ⟨c, wb, lb⟩ sh) ∧ But (FT F vf) w w' ∧ NewOr vf vf' w.heap.size := by
  have bel : Below w.heap.size w (w.alloc (.cells #[.int .i64 c, .bool wb, .int .i64 lb] 23)) := (Below.refl _ _).alloc (Nat.le_refl _) _
  have HLT := Lib.hid f.lt
  have HENT := Lib.hid (f.ent_at c)
  have HFL := Lib.hid f.fl
  have FH := Lib.hid (f.below bel)
  have BX := Lib.hid (Blk.made w [.int .i64 c, .bool wb, .int .i64 lb] 23 (base := 0) (Nat.zero_le _))
  have B0 := Lib.hid (show But (FT F vf) w (w.alloc (.cells #[.int .i64 c, .bool wb, .int .i64 lb] 23)) from But.of_below bel)
  have hsz : w.heap.size < ((w.alloc (.cells #[.int .i64 c, .bool wb, .int .i64 lb] 23))).heap.size := BX.out.lt
  have hn := f.nb
  have HOV := Lib.hid (show ∀ g, vf.ownBlock = some g → g < w.heap.size from fun g hg => (f.found.lt g hg).2)
  clear f bel
  go_enter Try.func51, Try.ntmps51
  go_upto_region 1 with (fail)
  obtain ⟨X, hX⟩ : ∃ X, X = w.heap.size := ⟨_, rfl⟩
  rw [← hX] at BX hsz ⊢
  have HX1 := Nat.le_of_eq hX
  have HX2 := Nat.le_of_eq hX.symm
  clear hX
  generalize (w.alloc (.cells #[.int .i64 c, .bool wb, .int .i64 lb] 23)) = W at *
  have hlk := fun w' (h : Stay W w') => FH.out.look hc h.below
  have d2 := FH.out.blk.cell 2 _ rfl
  have dl := FH.out.blk.lt
  have x0 := BX.out.cell 0 _ rfl; have x1 := BX.out.cell 1 _ rfl; have x2 := BX.out.cell 2 _ rfl
  obtain ⟨zx, hzx⟩ : ∃ z, z = (sh.cells c).getD (0, 0) := ⟨_, rfl⟩
  rw [← hzx] at hlk
  have HZX := Lib.hid hzx
  obtain ⟨fl, hfl⟩ : ∃ z, z = (sh.cells c).isSome := ⟨_, rfl⟩
  rw [← hfl] at hlk
  have HFLG := Lib.hid hfl
  obtain ⟨zx1, zx2⟩ := zx
  clear hzx hfl
  dsimp only at hlk
  refine wp_region_pre 12 (S := (fun w' => Stay W w')) (by kernel_rfl) (by kernel_rfl) (Stay.mk (Kept.start _)) (fun hHeld => ?_)
  simp only [List.take_succ_cons, List.take_zero]
  refine wpAnyH_take_at (i := 0) (v := ?_) (some 7) rfl rfl (by kernel_rfl) (by kernel_rfl) (by kernel_rfl) (fun _ _ _ h => h) (Or.inl ⟨by rfl, ?_⟩) (by assumption) ?_
  rotate_left
  · (intro w hSw; (try dsimp only at hSw); go_simp; (try with_reducible rfl))
  (try simp only [Act.put, List.setIfInBounds_toArray, List.set_cons_zero, List.set_cons_succ])
  refine wpAnyH_take_at (i := 1) (v := ?_) (some 8) rfl rfl (by kernel_rfl) (by kernel_rfl) (by kernel_rfl) (fun _ _ _ h => h) (Or.inl ⟨by rfl, ?_⟩) (by assumption) ?_
  rotate_left
  · (intro w hSw; (try dsimp only at hSw); go_simp; (try with_reducible rfl))
  (try simp only [Act.put, List.setIfInBounds_toArray, List.set_cons_zero, List.set_cons_succ])
  refine wpAnyH_take_at (i := 2) (v := ?_) (some 9) rfl rfl (by kernel_rfl) (by kernel_rfl) (by kernel_rfl) (fun _ _ _ h => h) (Or.inl ⟨by rfl, ?_⟩) (by assumption) ?_
  rotate_left
  · (intro w hSw; (try dsimp only at hSw); go_simp; (try with_reducible rfl))
  (try simp only [Act.put, List.setIfInBounds_toArray, List.set_cons_zero, List.set_cons_succ])
  refine wpAnyH_take_at (i := 3) (v := ?_) (some 10) rfl rfl (by kernel_rfl) (by kernel_rfl) (by kernel_rfl) (fun _ _ _ h => h) (Or.inl ⟨by rfl, ?_⟩) (by assumption) ?_
  rotate_left
  · (intro w hSw; (try dsimp only at hSw); go_simp; (try with_reducible rfl))
  (try simp only [Act.put, List.setIfInBounds_toArray, List.set_cons_zero, List.set_cons_succ])
  refine wpAnyH_take_at (i := 4) (v := ?_) (some 11) rfl rfl (by kernel_rfl) (by kernel_rfl) (by kernel_rfl) (fun _ _ _ h => h) (Or.inl ⟨by rfl, ?_⟩) (by assumption) ?_
  rotate_left
  · (intro w hSw; (try dsimp only at hSw); go_simp; (try with_reducible rfl))
  (try simp only [Act.put, List.setIfInBounds_toArray, List.set_cons_zero, List.set_cons_succ])
  refine wpAnyH_take_at (i := 5) (v := ?_) (some 12) rfl rfl (by kernel_rfl) (by kernel_rfl) (by kernel_rfl) (fun _ _ _ h => h) (Or.inl ⟨by rfl, ?_⟩) (by assumption) ?_
  rotate_left
  · (intro w hSw; (try dsimp only at hSw); go_simp; (try with_reducible rfl))
  (try simp only [Act.put, List.setIfInBounds_toArray, List.set_cons_zero, List.set_cons_succ])
  refine wpAnyH_take_at (i := 6) (v := .tuple #[.agg #[.int .i64 zx1, .int .i64 zx2], .bool fl]) (some 13) rfl rfl (by kernel_rfl) (by kernel_rfl) (by kernel_rfl) (fun _ _ _ h => h) (Or.inl ⟨by rfl, ?_⟩) (by assumption) ?_
  · (intro w hSw; (try dsimp only at hSw); have hlk2 := hlk w hSw; clear hlk; go_simp; (try with_reducible rfl))
  (try simp only [Act.put, List.setIfInBounds_toArray, List.set_cons_zero, List.set_cons_succ])
  clear hlk
  refine wpAnyH_take_at (i := 7) (v := ?_) (some 6) rfl rfl (by kernel_rfl) (by kernel_rfl) (by kernel_rfl) (fun _ _ _ h => h) (Or.inl ⟨by rfl, ?_⟩) (by assumption) ?_
  rotate_left
  · (intro w hSw; (try dsimp only at hSw); go_simp; (try with_reducible rfl))
  (try simp only [Act.put, List.setIfInBounds_toArray, List.set_cons_zero, List.set_cons_succ])
  refine wpAnyH_take_at (i := 8) (v := ?_) (some 14) rfl rfl (by kernel_rfl) (by kernel_rfl) (by kernel_rfl) (fun _ _ _ h => h) (Or.inl ⟨by rfl, ?_⟩) (by assumption) ?_
  rotate_left
  · (intro w hSw; (try dsimp only at hSw); go_simp; (try with_reducible rfl))
  (try simp only [Act.put, List.setIfInBounds_toArray, List.set_cons_zero, List.set_cons_succ])
  refine wpAnyH_take_at (i := 9) (v := ?_) (some 15) rfl rfl (by kernel_rfl) (by kernel_rfl) (by kernel_rfl) (fun _ _ _ h => h) (Or.inl ⟨by rfl, ?_⟩) (by assumption) ?_
  rotate_left
  · (intro w hSw; (try dsimp only at hSw); go_simp; (try with_reducible rfl))
  (try simp only [Act.put, List.setIfInBounds_toArray, List.set_cons_zero, List.set_cons_succ])
  refine wpAnyH_ready (rs := [10]) (by kernel_rfl) (by simp) ?_
  refine AllReadyH.cons rfl (fun K hK => ?_) AllReadyH.nil
  go_simp
  skip
  refine hK.out _ _ ?_ (fun hHeld => ?_)
  · exact Stay.of ((Below.refl _ _).drew.alloc (Nat.le_refl _) _)
  clear hK K
  (try simp only [Act.put, List.setIfInBounds_toArray, List.set_cons_zero, List.set_cons_succ])
  refine wpAnyH_ready (rs := [11]) (by kernel_rfl) (by simp) ?_
  refine AllReadyH.cons rfl (fun K hK => ?_) AllReadyH.nil
  go_simp
  skip
  refine hK.out _ _ ?_ (fun hHeld => ?_)
  · exact Stay.of (((Below.refl _ _).alloc (Nat.le_refl _) _).drew)
  clear hK K
  (try simp only [Act.put, List.setIfInBounds_toArray, List.set_cons_zero, List.set_cons_succ])
  refine wpAnyH_done (by kernel_rfl) ?_ _
  unfold QPre
  simp only [List.drop_succ_cons, List.drop_zero]
  have hB1 : Below W.heap.size W (W.alloc (.cells #[.int .i64 zx1, .int .i64 zx2] 112)).drew := ((Below.refl _ _).alloc (Nat.le_refl _) _).drew
  have FH2 := Lib.hid (FH.out.below hB1)
  have BX2 := Lib.hid (BX.out.below hB1)
  have BW2 := Lib.hid (B0.out.trans (But.of_below (T := FT F vf) hB1))
  obtain ⟨Y, hY⟩ : ∃ Y, Y = W.heap.size := ⟨_, rfl⟩
  have BY := Lib.hid (show Blk 0 (W.alloc (.cells #[.int .i64 zx1, .int .i64 zx2] 112)).drew Y [.int .i64 zx1, .int .i64 zx2] by rw [hY]; exact (Blk.made W [.int .i64 zx1, .int .i64 zx2] 112 (Nat.zero_le _)).drew)
  rw [← hY]
  have HYX := Lib.hid (show X < Y by omega)
  have HYF := Lib.hid (show ∀ g, FT F vf g → g < X by
    intro g hg
    rcases hg with hg | hg
    · have := (HLT.out g hg).1; omega
    · have := HOV.out g hg; omega)
  clear hY d2 dl x0 x1 x2 hsz FH BX B0 HLT HOV hB1 hHeld
  generalize (W.alloc (.cells #[.int .i64 zx1, .int .i64 zx2] 112)).drew = W2 at *
  go_upto_if 17 with (fail)
  have y0 := BY.out.cell 0 _ rfl
  have y1 := BY.out.cell 1 _ rfl
  have hYl := BY.out.lt
  have g0 := BY.out.fr 0
  have g1 := BY.out.fr 1
  go_cut [5] (fun x5 wx => Hid (Blk 0 wx Y [.int .i64 (sh.at c).1, .int .i64 (sh.at c).2]) ∧ Hid (Blk 0 wx X [.int .i64 c, .bool wb, .int .i64 lb]) ∧ Hid (FinAt base n wx F vf k k rt bd sh) ∧ Hid (But (FT F vf) w wx))
  case first =>
    cases hfl : fl
    · have HN := Lib.hid (show sh.at c = (-1, -1) by
        have h := HFLG.out
        rw [hfl] at h
        unfold Sh.at
        cases hcc : sh.cells c with
        | none => rfl
        | some x => rw [hcc] at h; cases h)
      clear hfl
      have HB := Lib.hid (show But (Is Y) W2 ((W2.setCell ⟨Y, 0, none⟩ (.int .i64 (-1))).setCell ⟨Y, 1, none⟩ (.int .i64 (-1))) from ((But.refl _ _).setCell (T := Is Y) (p := ⟨Y, 0, none⟩) (show Is Y Y from rfl) _).setCell (p := ⟨Y, 1, none⟩) (show Is Y Y from rfl) _)
      have HB2 := Lib.hid (show But (FT F vf) w ((W2.setCell ⟨Y, 0, none⟩ (.int .i64 (-1))).setCell ⟨Y, 1, none⟩ (.int .i64 (-1))) from (BW2.out.setNew (p := ⟨Y, 0, none⟩) (.inr (by have := HYX.out; dsimp only; omega)) _).setNew (p := ⟨Y, 1, none⟩) (.inr (by have := HYX.out; dsimp only; omega)) _)
      go_wp2
      go_meet
      refine ⟨Lib.hid ?_, Lib.hid (BX2.out.but HB.out (fun e => by have h : X = Y := e; have := HYX.out; omega)), Lib.hid (FH2.out.but HB.out (fun g hg e => by have h : g = Y := e; have := HYF.out g hg; have := HYX.out; omega)), HB2⟩
      rw [HN.out]
      exact (BY.out.set (i := 0) (by simp) (.int .i64 (-1))).set (i := 1) (by simp) (.int .i64 (-1))
    · have HN := Lib.hid (show sh.at c = (zx1, zx2) by
        have h := HFLG.out
        have h2 := HZX.out
        rw [hfl] at h
        unfold Sh.at
        cases hcc : sh.cells c with
        | none => rw [hcc] at h; cases h
        | some x => rw [hcc] at h2; exact h2.symm)
      clear hfl
      go_wp2
      go_meet
      exact ⟨Lib.hid (by rw [HN.out]; exact BY.out), BX2, FH2, BW2⟩
  case rest =>
    obtain ⟨BY3, BX3, F3, BW3⟩ := hcut
    clear y0 y1 hYl g0 g1 BY BX2 FH2 BW2 HFLG HZX
    obtain ⟨x, hx⟩ : ∃ x, x = (sh.at c).1 := ⟨_, rfl⟩
    obtain ⟨y, hy⟩ : ∃ x, x = (sh.at c).2 := ⟨_, rfl⟩
    have HXY := Lib.hid (show sh.at c = (x, y) by rw [hx, hy])
    have HEX := Lib.hid (show Ent k x ∧ Ent k y by rw [hx, hy]; exact HENT.out)
    rw [← hx, ← hy] at BY3
    clear hx hy HENT
    have hYl := BY3.out.lt
    have y0 := BY3.out.cell 0 _ rfl; have y1 := BY3.out.cell 1 _ rfl
    have x0 := BX3.out.cell 0 _ rfl; have x1 := BX3.out.cell 1 _ rfl; have x2 := BX3.out.cell 2 _ rfl
    have W1 := fun wx (h : FinAt base n wx F vf k k rt bd sh) => with_any h x (HEX.out.1.more (by omega))
    have W2' := fun wx (h : FinAt base n wx F vf k k rt bd sh) => with_any h y (HEX.out.2.more (by omega))
    have HWB := Lib.hid (show accS (bdB rt bd) k ⟨c, wb, lb⟩ sh = putS c (if wb then ((k : Int), y) else if wiB (bdB rt bd) y then (x, y) else (x, (k : Int))) (if wiB (bdB rt bd) x || (wb && wiB (bdB rt bd) y) then repS k c sh else sh) from accS_eq _ _ ⟨c, wb, lb⟩ _ _ _ HXY.out)
    obtain ⟨bx, hbx⟩ : ∃ b, b = wiB (bdB rt bd) x := ⟨_, rfl⟩
    obtain ⟨by', hby⟩ : ∃ b, b = wiB (bdB rt bd) y := ⟨_, rfl⟩
    rw [← hbx] at W1 HWB
    rw [← hby] at W2' HWB
    have HBY := Lib.hid hby
    clear hbx hby HXY
    have HYX1 := Lib.hid (show ¬ FT F vf X from fun h => by have := HYF.out X h; omega)
    have HYX2 := Lib.hid (show ¬ FT F vf Y from fun h => by have := HYF.out Y h; have := HYX.out; omega)
    have HGU := Lib.hid (show ∀ (a b : World), But (Is F.gu) a b → But (FT F vf) a b from fun a b h => h.sub (fun g hg => by rw [show g = F.gu from hg]; exact .inl F.mem.2.2.1))
    go_upto_region 4 with (fail)
    go_cut [32] (fun x32 wx => x32 = .bool (bx || (wb && by')) ∧ Hid (Blk 0 wx Y [.int .i64 x, .int .i64 y]) ∧ Hid (Blk 0 wx X [.int .i64 c, .bool wb, .int .i64 lb]) ∧ Hid (FinAt base n wx F vf k k rt bd sh) ∧ Hid (But (FT F vf) w wx))
    case first =>
      go_wp2_with fail
      refine (W1 _ F3.out).mono ?_
      rintro e w3 ⟨rfl, f3, b3⟩
      have F3' := Lib.hid f3
      have BY3' := Lib.hid (BY3.out.but (HGU.out _ _ b3) HYX2.out)
      have BX3' := Lib.hid (BX3.out.but (HGU.out _ _ b3) HYX1.out)
      have BW3' := Lib.hid (BW3.out.trans (HGU.out _ _ b3))
      clear f3 b3 F3 BY3 BX3 BW3 W1 y0 y1 x0 x1 x2 hYl
      cases bx with
      | true =>
        go_wp2
        go_meet
        exact ⟨rfl, BY3', BX3', F3', BW3'⟩
      | false =>
        have y0 := BY3'.out.cell 0 _ rfl; have y1 := BY3'.out.cell 1 _ rfl
        have x0 := BX3'.out.cell 0 _ rfl; have x1 := BX3'.out.cell 1 _ rfl; have x2 := BX3'.out.cell 2 _ rfl
        cases wb with
        | false =>
          go_wp2
          go_meet
          exact ⟨rfl, BY3', BX3', F3', BW3'⟩
        | true =>
          go_wp2_with fail
          refine (W2' _ F3'.out).mono ?_
          rintro e w4 ⟨rfl, f4, b4⟩
          have F4 := Lib.hid f4
          have BY4 := Lib.hid (BY3'.out.but (HGU.out _ _ b4) HYX2.out)
          have BX4 := Lib.hid (BX3'.out.but (HGU.out _ _ b4) HYX1.out)
          have BW4 := Lib.hid (BW3'.out.trans (HGU.out _ _ b4))
          clear f4 b4 F3' BY3' BX3' BW3' W2' y0 y1 x0 x1 x2
          go_wp2
          go_meet
          exact ⟨by first | rfl | simp, BY4, BX4, F4, BW4⟩
    case rest =>
      clear F3 BY3 BX3 BW3 W1 y0 y1 x0 x1 x2 hYl
      obtain ⟨rfl, BY3, BX3, F3, BW3⟩ := hcut
      obtain ⟨hit, hhit⟩ : ∃ b, b = (bx || (wb && by')) := ⟨_, rfl⟩
      rw [← hhit] at HWB ⊢
      clear hhit
      go_upto_if 32 with (fail)
      go_cut [] (fun wx => ∃ vf2 : Value, Hid (Blk 0 wx Y [.int .i64 x, .int .i64 y]) ∧ Hid (Blk 0 wx X [.int .i64 c, .bool wb, .int .i64 lb]) ∧ Hid (FinAt base n wx F vf2 k (k + 1) rt bd (if hit then repS k c sh else sh)) ∧ Hid (But (FT F vf) w wx) ∧ Hid (NewOr vf vf2 w.heap.size) ∧ Hid (∀ g, vf2.ownBlock = some g → g ≠ X ∧ g ≠ Y))
      case first =>
        have F3' := Lib.hid (F3.out.more (K' := k + 1) (by omega) hk)
        have HV0 := Lib.hid (show ∀ g, vf.ownBlock = some g → g ≠ X ∧ g ≠ Y from fun g hg => by have := HYF.out g (.inr hg); have := HYX.out; omega)
        cases hit with
        | false =>
          go_wp2
          go_meet
          exact ⟨vf, BY3, BX3, F3', BW3, Lib.hid (NewOr.refl _ _), HV0⟩
        | true =>
          have x0 := BX3.out.cell 0 _ rfl; have x1 := BX3.out.cell 1 _ rfl; have x2 := BX3.out.cell 2 _ rfl
          have hYs := BY3.out.lt
          go_wp2_with fail
          refine (report_any F3'.out c hc (by have := HFL.out; omega) (by omega)).mono ?_
          rintro e w4 ⟨rfl, vf2, f4, b4, n4⟩
          have F4 := Lib.hid f4
          have BY4 := Lib.hid (BY3.out.but b4 HYX2.out)
          have BX4 := Lib.hid (BX3.out.but b4 HYX1.out)
          have BW4 := Lib.hid (BW3.out.trans b4)
          have HV := Lib.hid (show ∀ g, vf2.ownBlock = some g → g ≠ X ∧ g ≠ Y from fun g hg => by
            rcases n4 g hg with e | e
            · exact HV0.out g e
            · have := HYX.out; omega)
          have HN := Lib.hid (show NewOr vf vf2 w.heap.size from fun g hg => by
            rcases n4 g hg with e | e
            · exact .inl e
            · exact .inr (by have := HYX.out; omega))
          clear f4 b4 n4 x0 x1 x2 BY3 BX3 F3 BW3 F3'
          go_wp2
          go_meet
          exact ⟨vf2, BY4, BX4, F4, BW4, HN, HV⟩
      case rest =>
        clear BY3 BX3 F3 BW3
        obtain ⟨vf2, BY3, BX3, F3, BW3, HN, HV⟩ := hcut
        obtain ⟨s2, hs2⟩ : ∃ s, s = (if hit then repS k c sh else sh) := ⟨_, rfl⟩
        rw [← hs2] at F3 HWB
        obtain ⟨v, hv⟩ : ∃ v, v = (if wb then ((k : Int), y) else if by' then (x, y) else (x, (k : Int))) := ⟨_, rfl⟩
        rw [← hv] at HWB
        have HVV := Lib.hid hv
        have HEV := Lib.hid (show Ent (k + 1) v.1 ∧ Ent (k + 1) v.2 by
          rw [hv]
          have ek : Ent (k + 1) (k : Int) := .inr ⟨k, by omega, rfl⟩
          have ex := HEX.out.1.more (Nat.le_succ k)
          have ey := HEX.out.2.more (Nat.le_succ k)
          split
          · exact ⟨ek, ey⟩
          · split
            · exact ⟨ex, ey⟩
            · exact ⟨ex, ek⟩)
        obtain ⟨v1, v2⟩ := v
        clear hs2 hv W2'
        have W2' := fun wx (h : FinAt base n wx F vf2 k (k + 1) rt bd s2) => with_any h y (HEX.out.2.more (by omega))
        rw [← HBY.out] at W2'
        have d3 := F3.out.blk.cell 3 _ rfl
        have hYs := BY3.out.lt
        have y0 := BY3.out.cell 0 _ rfl; have y1 := BY3.out.cell 1 _ rfl
        have g0 := BY3.out.fr 0; have g1 := BY3.out.fr 1
        have x0 := BX3.out.cell 0 _ rfl; have x1 := BX3.out.cell 1 _ rfl; have x2 := BX3.out.cell 2 _ rfl
        go_upto_if 38 with (fail)
        go_cut [] (fun wx => Hid (Blk 0 wx Y [.int .i64 v1, .int .i64 v2]) ∧ Hid (Blk 0 wx X [.int .i64 c, .bool wb, .int .i64 lb]) ∧ Hid (FinAt base n wx F vf2 k (k + 1) rt bd s2) ∧ Hid (But (FT F vf) w wx))
        case first =>
          have HNY := Lib.hid (show ∀ g, FT F vf2 g → g ≠ Y by
            intro g hg
            rcases hg with hg | hg
            · have := HYF.out g (.inl hg); have := HYX.out; omega
            · exact (HV.out g hg).2)
          have HXY2 := Lib.hid (show X ≠ Y by have := HYX.out; omega)
          have HYW := Lib.hid (show w.heap.size ≤ Y by have := HYX.out; omega)
          cases wb with
          | true =>
            have HB := Lib.hid (show But (Is Y) wc (wc.setCell ⟨Y, 0, none⟩ (.int .i64 (k : Int))) from (But.refl _ _).setCell (T := Is Y) (p := ⟨Y, 0, none⟩) (show Is Y Y from rfl) _)
            have HR := Lib.hid (show Blk 0 (wc.setCell ⟨Y, 0, none⟩ (.int .i64 (k : Int))) Y [.int .i64 v1, .int .i64 v2] by
              have h := HVV.out
              simp only [if_true, Prod.mk.injEq] at h
              rw [h.1, h.2]
              exact BY3.out.set (i := 0) (by simp) _)
            go_wp2
            go_meet
            exact ⟨HR, Lib.hid (BX3.out.but HB.out (fun e => HXY2.out e)), Lib.hid (F3.out.but HB.out (fun g hg e => HNY.out g hg e)), Lib.hid (BW3.out.setNew (p := ⟨Y, 0, none⟩) (.inr HYW.out) _)⟩
          | false =>
            go_wp2_with fail
            refine (W2' _ F3.out).mono ?_
            rintro e w4 ⟨rfl, f4, b4⟩
            have HUY := Lib.hid (show ¬ (Is F.gu) Y from fun e => HNY.out F.gu (.inl F.mem.2.2.1) (show F.gu = Y from e.symm))
            have HUX := Lib.hid (show ¬ (Is F.gu) X from fun e => HYX1.out (show FT F vf X from by rw [show X = F.gu from e]; exact .inl F.mem.2.2.1))
            have F4 := Lib.hid f4
            have BY4 := Lib.hid (BY3.out.but b4 HUY.out)
            have BX4 := Lib.hid (BX3.out.but b4 HUX.out)
            have BW4 := Lib.hid (BW3.out.trans (HGU.out _ _ b4))
            clear f4 b4 F3 BY3 BX3 BW3 W2' y0 y1 g0 g1 x0 x1 x2 d3 hYs
            cases by' with
            | true =>
              have HR := Lib.hid (show Blk 0 w4 Y [.int .i64 v1, .int .i64 v2] by
                have h := HVV.out
                simp only [Bool.false_eq_true, if_false, if_true, Prod.mk.injEq] at h
                rw [h.1, h.2]
                exact BY4.out)
              go_wp2
              go_meet
              exact ⟨HR, BX4, F4, BW4⟩
            | false =>
              have d3 := F4.out.blk.cell 3 _ rfl
              have y0 := BY4.out.cell 0 _ rfl; have y1 := BY4.out.cell 1 _ rfl
              have g0 := BY4.out.fr 0; have g1 := BY4.out.fr 1
              have HB := Lib.hid (show But (Is Y) w4 (w4.setCell ⟨Y, 1, none⟩ (.int .i64 (k : Int))) from (But.refl _ _).setCell (T := Is Y) (p := ⟨Y, 1, none⟩) (show Is Y Y from rfl) _)
              have HR := Lib.hid (show Blk 0 (w4.setCell ⟨Y, 1, none⟩ (.int .i64 (k : Int))) Y [.int .i64 v1, .int .i64 v2] by
                have h := HVV.out
                simp only [Bool.false_eq_true, if_false, Prod.mk.injEq] at h
                rw [h.1, h.2]
                exact BY4.out.set (i := 1) (by simp) _)
              go_wp2
              go_meet
              exact ⟨HR, Lib.hid (BX4.out.but HB.out (fun e => HXY2.out e)), Lib.hid (F4.out.but HB.out (fun g hg e => HNY.out g hg e)), Lib.hid (BW4.out.setNew (p := ⟨Y, 1, none⟩) (.inr HYW.out) _)⟩
        case rest =>
          clear F3 BY3 BX3 BW3 W2' y0 y1 g0 g1 x0 x1 x2 d3 hYs
          obtain ⟨BY3, BX3, F3, BW3⟩ := hcut
          have d2 := F3.out.blk.cell 2 _ rfl
          have dl := F3.out.blk.lt
          have hYs := BY3.out.lt
          have hXs := BX3.out.lt
          have y0 := BY3.out.cell 0 _ rfl; have y1 := BY3.out.cell 1 _ rfl
          have x0 := BX3.out.cell 0 _ rfl; have x1 := BX3.out.cell 1 _ rfl; have x2 := BX3.out.cell 2 _ rfl
          go_upto_region 10 with (fail)
          refine wp_region_pre 7 (S := (fun w' => Stay wc w')) (by kernel_rfl) (by kernel_rfl) (Stay.mk (Kept.start _)) (fun hHeld => ?_)
          simp only [List.take_succ_cons, List.take_zero]
          refine wpAnyH_take_at (i := 0) (v := ?_) (some 54) rfl rfl (by kernel_rfl) (by kernel_rfl) (by kernel_rfl) (fun _ _ _ h => h) (Or.inl ⟨by rfl, ?_⟩) (by assumption) ?_
          rotate_left
          · (intro w hSw; (try dsimp only at hSw); go_simp; (try with_reducible rfl))
          (try simp only [Act.put, List.setIfInBounds_toArray, List.set_cons_zero, List.set_cons_succ])
          refine wpAnyH_take_at (i := 1) (v := ?_) (some 55) rfl rfl (by kernel_rfl) (by kernel_rfl) (by kernel_rfl) (fun _ _ _ h => h) (Or.inl ⟨by rfl, ?_⟩) (by assumption) ?_
          rotate_left
          · (intro w hSw; (try dsimp only at hSw); go_simp; (try with_reducible rfl))
          (try simp only [Act.put, List.setIfInBounds_toArray, List.set_cons_zero, List.set_cons_succ])
          refine wpAnyH_take_at (i := 2) (v := ?_) (some 56) rfl rfl (by kernel_rfl) (by kernel_rfl) (by kernel_rfl) (fun _ _ _ h => h) (Or.inl ⟨by rfl, ?_⟩) (by assumption) ?_
          rotate_left
          · (intro w hSw; (try dsimp only at hSw); go_simp; (try with_reducible rfl))
          (try simp only [Act.put, List.setIfInBounds_toArray, List.set_cons_zero, List.set_cons_succ])
          refine wpAnyH_take_at (i := 3) (v := ?_) (some 57) rfl rfl (by kernel_rfl) (by kernel_rfl) (by kernel_rfl) (fun _ _ _ h => h) (Or.inl ⟨by rfl, ?_⟩) (by assumption) ?_
          rotate_left
          · (intro w hSw; (try dsimp only at hSw); go_simp; (try with_reducible rfl))
          (try simp only [Act.put, List.setIfInBounds_toArray, List.set_cons_zero, List.set_cons_succ])
          refine wpAnyH_take_at (i := 4) (v := ?_) (some 58) rfl rfl (by kernel_rfl) (by kernel_rfl) (by kernel_rfl) (fun _ _ _ h => h) (Or.inl ⟨by rfl, ?_⟩) (by assumption) ?_
          rotate_left
          · (intro w hSw; (try dsimp only at hSw); go_simp; (try with_reducible rfl))
          (try simp only [Act.put, List.setIfInBounds_toArray, List.set_cons_zero, List.set_cons_succ])
          refine wpAnyH_take_at (i := 5) (v := ?_) (some 59) rfl rfl (by kernel_rfl) (by kernel_rfl) (by kernel_rfl) (fun _ _ _ h => h) (Or.inl ⟨by rfl, ?_⟩) (by assumption) ?_
          rotate_left
          · (intro w hSw; (try dsimp only at hSw); go_simp; (try with_reducible rfl))
          (try simp only [Act.put, List.setIfInBounds_toArray, List.set_cons_zero, List.set_cons_succ])
          refine wpAnyH_take_at (i := 6) (v := ?_) (some 60) rfl rfl (by kernel_rfl) (by kernel_rfl) (by kernel_rfl) (fun _ _ _ h => h) (Or.inl ⟨by rfl, ?_⟩) (by assumption) ?_
          rotate_left
          · (intro w hSw; (try dsimp only at hSw); go_simp; (try with_reducible rfl))
          (try simp only [Act.put, List.setIfInBounds_toArray, List.set_cons_zero, List.set_cons_succ])
          refine wpAnyH_done (by kernel_rfl) ?_ _
          unfold QPre
          simp only [List.drop_succ_cons, List.drop_zero]
          obtain ⟨nm, hnm, hom⟩ := F3.out.map
          have hnm2 : nm < maxLen := by unfold maxLen; omega
          have HOM := Lib.hid (hom.below (Below.refl _ _).drew)
          go_wp2_with (at_mapUpdate; refine wpList_putO rfl _ _ _ 48 rfl 112 c (.agg #[.int .i64 v1, .int .i64 v2]) Try.underlying3 Try.underlying48 rfl HOM.out rfl rfl hc hnm2 ?_)
          intro w6 ho6 hg6
          have HPD := Lib.hid (F3.out.below (Below.refl _ _).drew)
          obtain ⟨h1, h2⟩ := HPD.out.put (x := (v1, v2)) (by omega) ho6 hg6 HEV.out.1 HEV.out.2
          have HF := Lib.hid h1
          have HB6 := Lib.hid h2
          have hdm : F.d ≠ F.gm := F3.out.dis.2.2.2.2.1
          have d3 := (But.of_grown hg6).cell (p := ⟨F.d, 3, none⟩) (fun e => hdm (Option.some.inj e).symm) (HPD.out.blk.cell 3 _ rfl)
          have g3 := grown_frozen hg6 (HPD.out.blk.fr 3) HPD.out.blk.lt (fun e => hdm (Option.some.inj e).symm)
          have hkw : IntKind.i64.wrap ((k : Int) + 1) = (k : Int) + 1 := IntWalk.i64_in _ (by omega)
          have HBB := Lib.hid (show But (FT F vf) w (w6.setCell ⟨F.d, 3, none⟩ (.int .i64 ((k + 1 : Nat) : Int))) from
            FT.trans (BW3.out.drewN 1) HN.out HB6.out)
          clear h1 h2 ho6 hg6 HOM hom F3 BY3 BX3 BW3 y0 y1 x0 x1 x2 d2 dl hHeld
          rw [Int.natCast_add] at HF HBB
          go_wp2
          go_end0
          refine ⟨rfl, vf2, ?_, HBB.out, HN.out⟩
          rw [HWB.out]
          exact HF.out
end Go.Proofs.Ytfldajplclahfaa
