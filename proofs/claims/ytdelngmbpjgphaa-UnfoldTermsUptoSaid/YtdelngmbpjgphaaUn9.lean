/- The builder's contract; what is left behind a statement; the walks of one and of the closures. -/
import Derived.Test.YtdelngmbpjgphaaGUn2
import Derived.Test.YtdelngmbpjgphaaRegPre
namespace Go.Proofs.Ytdelngmbpjgphaa
open Go.RowKit
set_option linter.unusedVariables false
/-- what the builder comes to: a term that lies in new blocks alone -/
def OutU (d F n : Nat) (w : World) : Option (Tm × US) → Ending → World → Prop
  | some x, e, w' => (∃ V, e = .returned V ∧ FrT (Upto w.heap.size) w' x.1 V) ∧ BdAt w' d F x.2 ∧ n ≤ x.2.st ∧ But (Is d) w w'
  | none, e, w' => e = .panicked spentU ∧ But (Is d) w w'
theorem OutU.later {d F n n' : Nat} {w w1 w' : World} {r : Option (Tm × US)} {e : Ending} (h : OutU d F n' w1 r e w') (hb : But (Is d) w w1) (hn : n ≤ n') : OutU d F n w r e w' := by
  cases r with
  | none => exact ⟨h.1, hb.trans h.2⟩
  | some x =>
    obtain ⟨⟨V, h1, h2⟩, h3, h4, h5⟩ := h
    exact ⟨⟨V, h1, h2.fewer (Sub.upto hb.size)⟩, h3, Nat.le_trans hn h4, hb.trans h5⟩
theorem BdAt.but {T : Blocks} {w w' : World} {d F : Nat} {m : US} (h : BdAt w d F m) (hb : But T w w') (hT : ¬ T d) : BdAt w' d F m := ⟨h.1.but hb hT, h.2⟩
/-- the function value tv does what k says, in every later world -/
def ThenOk (F d n : Nat) (w : World) (tv : Value) (k : UK) : Prop := ∃ K caps, tv = .func (.func K) #[] caps ∧ (∀ args w, (callFunc K args).run Try.prog w = .ok (.enter K args) w) ∧
  ∀ (w' : World) (m : US), But (Is d) w w' → BdAt w' d F m → n ≤ m.st → ∀ r, k m = r → Calls Try.prog K caps w' (OutU d F m.st w' r)
theorem ThenOk.but {F d n n' : Nat} {w w1 : World} {tv : Value} {k : UK} (h : ThenOk F d n w tv k) (hb : But (Is d) w w1) (hn : n ≤ n') : ThenOk F d n' w1 tv k := by
  obtain ⟨K, caps, h1, h2, h3⟩ := h
  exact ⟨K, caps, h1, h2, fun w' m a b c r e => h3 w' m (hb.trans a) b (Nat.le_trans hn c) r e⟩
theorem ThenOk.below {F d n n' : Nat} {w w1 : World} {tv : Value} {k : UK} (h : ThenOk F d n w tv k) (hb : Below w.heap.size w w1) (hn : n ≤ n') : ThenOk F d n' w1 tv k := h.but (But.of_below hb) hn
theorem thenNothing (F d n : Nat) (w : World) : ThenOk F d n w (.func (.func 27) #[] #[]) (fun m => some (zeroT, m)) := by
  refine ⟨_, _, rfl, fun args w => by kernel_rfl, fun w' m hb ha hn r hr => ?_⟩
  subst hr
  refine (nothing_any (Upto w'.heap.size) w').mono ?_
  rintro e w2 ⟨⟨V, rfl, hf⟩, hbl⟩
  exact ⟨⟨V, rfl, hf⟩, ha.below hbl, Nat.le_refl _, But.of_below hbl⟩
/-- a list of cells stored one by one into a box of a term -/
theorem set5_but {T : Blocks} {w0 w : World} {b : Nat} (h : But T w0 w) (hb : T b ∨ w0.heap.size ≤ b) (v0 v1 v2 v3 v4 : Value) :
    But T w0 (((((w.setCell ⟨b, 0, none⟩ v0).setCell ⟨b, 1, none⟩ v1).setCell ⟨b, 2, none⟩ v2).setCell ⟨b, 3, none⟩ v3).setCell ⟨b, 4, none⟩ v4) :=
  ((((h.setNew (p := ⟨b, 0, none⟩) hb v0).setNew (p := ⟨b, 1, none⟩) hb v1).setNew (p := ⟨b, 2, none⟩) hb v2).setNew (p := ⟨b, 3, none⟩) hb v3).setNew (p := ⟨b, 4, none⟩) hb v4
theorem set5_blk {base b : Nat} {w : World} {u0 u1 u2 u3 u4 : Value} (h : Blk base w b [u0, u1, u2, u3, u4]) (v0 v1 v2 v3 v4 : Value) :
    Blk base (((((w.setCell ⟨b, 0, none⟩ v0).setCell ⟨b, 1, none⟩ v1).setCell ⟨b, 2, none⟩ v2).setCell ⟨b, 3, none⟩ v3).setCell ⟨b, 4, none⟩ v4) b [v0, v1, v2, v3, v4] :=
  ((((h.set (i := 0) (by simp) v0).set (i := 1) (by simp) v1).set (i := 2) (by simp) v2).set (i := 3) (by simp) v3).set (i := 4) (by simp) v4
theorem on_any (A : Option Addr) (n c : Nat) (a0 a1 a2 a3 : Value) (w : World) :
    Calls Try.prog 39 #[.slice A n c, a0, a1, a2, a3] w fun e w' => e = .returned (.func (.func 40) #[] #[a0, a1, .pointer (some ⟨w.heap.size, 0, none⟩), a2, a3]) ∧ w' = w.alloc (.cells #[.slice A n c] 106) := by
  go_enter Try.func39, Try.ntmps39
  go_wp2
  go_ret
  exact ⟨rfl, rfl⟩
abbrev Same3 (a b c : Nat) (w1 w' : World) : Prop := ∀ p : Addr, (p.block = a ∨ p.block = b ∨ p.block = c) → w'.cell? p = w1.cell? p
section
variable {a b c d : Nat} {w w' w2 : World}
theorem Same3.refl (a b c : Nat) (w : World) : Same3 a b c w w := fun _ _ => rfl
theorem Same3.drew (h : Same3 a b c w w') : Same3 a b c w w'.drew := h
theorem Same3.trans {w3 : World} (h : Same3 a b c w w2) (k : Same3 a b c w2 w3) : Same3 a b c w w3 := fun p hp => (k p hp).trans (h p hp)
theorem Same3.of_but {T : Blocks} (hb : But T w w') (ha : a < w.heap.size) (hbb : b < w.heap.size) (hc : c < w.heap.size) (na : ¬ T a) (nb : ¬ T b) (nc : ¬ T c) : Same3 a b c w w' := fun p hp => by
  rcases hp with hp | hp | hp
  · exact World.cell?_of_block (hb.block _ (by rw [hp]; exact ha) (by rw [hp]; exact na))
  · exact World.cell?_of_block (hb.block _ (by rw [hp]; exact hbb) (by rw [hp]; exact nb))
  · exact World.cell?_of_block (hb.block _ (by rw [hp]; exact hc) (by rw [hp]; exact nc))
theorem Same3.set {o : Nat} (h : Same3 a b c w w') (na : a ≠ d) (nb : b ≠ d) (nc : c ≠ d) (u : Value) : Same3 a b c w (w'.setCell ⟨d, o, none⟩ u) := fun p hp => (World.cell?_setCell_other w' ⟨d, o, none⟩ p u (fun e => by
  rcases hp with hp | hp | hp
  · exact na (by rw [← hp, ← e])
  · exact nb (by rw [← hp, ← e])
  · exact nc (by rw [← hp, ← e]))).trans (h p hp)
end
theorem pairU_one (a : Acc) (x : Option (Tm × US)) : oneK a x = x.map fun y => (twoT 2 (oneT a) y.1, y.2) := rfl
/-- a term in the result's box is handed back -/
theorem ret_term {fn : Func} {R : Ending → World → Prop} {a : Act} {w : World} {T G base : Nat} {k c lb : Int} {wr : Bool} {v : Value} (hr : fn.results = #[.cell T 26]) (ht : a.tmps.getD T undef = .pointer (some ⟨G, 0, none⟩)) (hd : a.defers = [])
    (B : Blk base w G [.int .i64 k, .int .i64 c, .bool wr, .int .i64 lb, v]) (h : R (.returned (tmV k c wr lb v)) w) : bodyPost Try.prog fn R .ret a w := by
  have r0 := B.cell 0 _ rfl; have r1 := B.cell 1 _ rfl; have r2 := B.cell 2 _ rfl; have r3 := B.cell 3 _ rfl; have r4 := B.cell 4 _ rfl
  rw [Array.getD_eq_getD_getElem?] at ht
  exact bodyPost_ret (v := tmV k c wr lb v) (by simp [results, hr, ht, go_sem, r0, r1, r2, r3, r4]) hd h
set_option maxHeartbeats 400000 in
/-- one access, and what is left -/
theorem one_any {F d n : Nat} {w : World} {tv : Value} {k : UK} {m : US} (c : Int) (wr : Bool) (lab : Int) (hc : inI c) (hlab : inI lab) (ht : ThenOk F d n w tv k) (hn : n ≤ m.st) (ha : BdAt w d F m) (r : Option (Tm × US)) (hr : k m = r) :
    Calls Try.prog 45 #[.pointer (some ⟨d, 0, none⟩), vI c, .bool wr, vI lab, tv] w (OutU d F m.st w (oneK ⟨c, wr, lab⟩ r)) := by
  obtain ⟨K, caps, rfl, hK, hT⟩ := ht
  have hd := HtAt.lt ha.1
  have bl1 : Below w.heap.size w (w.alloc (.cells #[.int .i64 0, .int .i64 0, .bool false, .int .i64 0, .slice none 0 0] 26)) := (Below.refl _ _).alloc (Nat.le_refl _) _
  have bl2 : Below w.heap.size w (((w.alloc (.cells #[.int .i64 0, .int .i64 0, .bool false, .int .i64 0, .slice none 0 0] 26))).alloc (.cells #[.int .i64 1, .int .i64 c, .bool wr, .int .i64 lab, .slice none 0 0] 26)) := bl1.alloc (by simp) _
  have BA := (Blk.made w [.int .i64 0, .int .i64 0, .bool false, .int .i64 0, .slice none 0 0] 26 (base := w.heap.size) (Nat.le_refl _)).below (w' := (((w.alloc (.cells #[.int .i64 0, .int .i64 0, .bool false, .int .i64 0, .slice none 0 0] 26))).alloc (.cells #[.int .i64 1, .int .i64 c, .bool wr, .int .i64 lab, .slice none 0 0] 26))) ((Below.refl _ _).alloc (Nat.le_refl _) _)
  have BB := Blk.made (w.alloc (.cells #[.int .i64 0, .int .i64 0, .bool false, .int .i64 0, .slice none 0 0] 26)) [.int .i64 1, .int .i64 c, .bool wr, .int .i64 lab, .slice none 0 0] 26 (base := w.heap.size) bl1.size
  rw [World.size_alloc] at BB
  have HA := Lib.hid (ha.below bl2)
  have HBL := Lib.hid bl2
  have HBA := Lib.hid BA
  have HBB := Lib.hid BB
  have HT := Lib.hid hT
  clear ha hT bl1 bl2 BA BB
  go_enter Try.func45, Try.ntmps45
  go_upto_region 2 with (fail)
  generalize (((w.alloc (.cells #[.int .i64 0, .int .i64 0, .bool false, .int .i64 0, .slice none 0 0] 26))).alloc (.cells #[.int .i64 1, .int .i64 c, .bool wr, .int .i64 lab, .slice none 0 0] 26)) = W at *
  obtain ⟨g, hg⟩ : ∃ g, g = w.heap.size := ⟨_, rfl⟩
  rw [← hg] at HBA HBB
  rw [← hg]
  have hne : g + 1 ≠ g := by omega
  have hgd : g ≠ d := by omega
  have hgd1 : ¬ Is d (g + 1) := fun e => by have e : g + 1 = d := e; omega
  have hgd0 : ¬ Is d g := fun e => hgd e
  have HG := Lib.hid hg
  have HDW := Lib.hid hd
  clear hg hd
  have c0 := HBB.out.cell 0 _ rfl; have c1 := HBB.out.cell 1 _ rfl; have c2 := HBB.out.cell 2 _ rfl; have c3 := HBB.out.cell 3 _ rfl; have c4 := HBB.out.cell 4 _ rfl
  have hs0 : Same3 (g + 1) (g + 1) (g + 1) W W := Same3.refl _ _ _ _
  have hgW : g + 1 < W.heap.size := HBB.out.lt
  have HBW := Lib.hid (show But (Is d) w W from But.of_below HBL.out)
  refine wp_region_pre 3 (S := (fun w' => Same3 (g + 1) (g + 1) (g + 1) W w')) (by kernel_rfl) (by kernel_rfl) (Same3.drew (Same3.refl _ _ _ _)) (fun hHeld => ?_)
  simp only [List.take_succ_cons, List.take_zero]
  refine wpAnyH_take_at (i := 0) (v := ?_) (some 17) rfl rfl (by kernel_rfl) (by kernel_rfl) (by kernel_rfl) (fun _ _ _ h => h) (Or.inl ⟨by rfl, ?_⟩) (by assumption) ?_
  rotate_left
  · (intro w hSw; (try dsimp only at hSw); go_simp; (try with_reducible rfl))
  (try simp only [Act.put, List.setIfInBounds_toArray, List.set_cons_zero, List.set_cons_succ])
  refine wpAnyH_take_at (i := 1) (v := ?_) (some 18) rfl rfl (by kernel_rfl) (by kernel_rfl) (by kernel_rfl) (fun _ _ _ h => h) (Or.inl ⟨by rfl, ?_⟩) (by assumption) ?_
  rotate_left
  · (intro w hSw; (try dsimp only at hSw); go_simp; (try with_reducible rfl))
  (try simp only [Act.put, List.setIfInBounds_toArray, List.set_cons_zero, List.set_cons_succ])
  cases hr2 : r with
  | none =>
    refine wpAnyH_ready (rs := [2]) (by kernel_rfl) (by simp) ?_
    refine AllReadyH.cons rfl (fun K hK => ?_) AllReadyH.nil
    go_simp
    refine (HT.out W.drew m HBW.out.drew ⟨HA.out.1.but (T := Nowhere) ((But.refl _ _).drew) (fun h => h), HA.out.2⟩ hn r hr).mono ?_
    rw [hr2]
    rintro e w4 ⟨rfl, hb4⟩
    exact ⟨rfl, rfl, HBW.out.drew.trans hb4⟩
  | some x =>
    obtain ⟨t, m1⟩ := x
    refine wpAnyH_ready (rs := [2]) (by kernel_rfl) (by simp) ?_
    refine AllReadyH.cons rfl (fun K hK => ?_) AllReadyH.nil
    go_simp
    refine (HT.out W.drew m HBW.out.drew ⟨HA.out.1.but (T := Nowhere) ((But.refl _ _).drew) (fun h => h), HA.out.2⟩ hn r hr).mono ?_
    rw [hr2]
    rintro e w4 ⟨⟨V, rfl, hf⟩, ha4, hn4, hbt⟩
    obtain ⟨k', c', wr', lb', A', n', cap', rfl⟩ := hf.form
    refine hK.out _ _ ?_ (fun hHeld => ?_)
    · exact Same3.of_but (T := Is d) ((But.refl (Is d) W).drew.trans hbt) hgW hgW hgW hgd1 hgd1 hgd1
    clear hK K
    (try simp only [Act.put, List.setIfInBounds_toArray, List.set_cons_zero, List.set_cons_succ])
    refine wpAnyH_done (by kernel_rfl) ?_ _
    unfold QPre
    simp only [List.drop_succ_cons, List.drop_zero]
    clear c0 c1 c2 c3 c4
    have HBT := Lib.hid ((But.refl (Is d) W).drew.trans hbt)
    have hz4 : W.heap.size ≤ w4.heap.size := HBT.out.size
    have HF4 := Lib.hid (show FrT (Upto W.heap.size) w4 t (tmV k' c' wr' lb' (.slice A' n' cap')) from hf)
    have HBA4 := Lib.hid (HBA.out.but HBT.out hgd0)
    have HA4 := Lib.hid ha4
    clear hf ha4 hbt hs0 hHeld
    go_wp2_with fail
    refine (two_any 2 ⟨by decide, by decide⟩ (oneT ⟨c, wr, lab⟩) t _ _ (Upto W.heap.size) w4 (fun k hk => Nat.lt_of_lt_of_le hk hz4) (FrT.leaf ⟨by decide, by decide⟩ hc hlab) HF4.out).mono ?_
    rintro e w5 ⟨⟨V5, rfl, hf5⟩, hb5⟩
    obtain ⟨k5, c5, wr5, lb5, A5, n5, cap5, rfl⟩ := hf5.form
    have HBA5 := Lib.hid (HBA4.out.below hb5)
    have HF5 := Lib.hid hf5
    have HA5 := Lib.hid (HA4.out.below hb5)
    have HB5 := Lib.hid ((HBW.out.trans HBT.out).trans (But.of_below hb5))
    have c0 := HBA5.out.cell 0 _ rfl; have c1 := HBA5.out.cell 1 _ rfl; have c2 := HBA5.out.cell 2 _ rfl; have c3 := HBA5.out.cell 3 _ rfl; have c4 := HBA5.out.cell 4 _ rfl
    have f0 := HBA5.out.fr 0; have f1 := HBA5.out.fr 1; have f2 := HBA5.out.fr 2; have f3 := HBA5.out.fr 3; have f4 := HBA5.out.fr 4
    clear hf5 hb5
    go_wp2
    clear c0 c1 c2 c3 c4 f0 f1 f2 f3 f4
    have hgw : g = w.heap.size := HG.out
    have BF := set5_blk HBA5.out (.int .i64 k5) (.int .i64 c5) (.bool wr5) (.int .i64 lb5) (.slice A5 n5 cap5)
    have bg : But (Is g) w5 (((((w5.setCell ⟨g, 0, none⟩ (.int .i64 k5)).setCell ⟨g, 1, none⟩ (.int .i64 c5)).setCell ⟨g, 2, none⟩ (.bool wr5)).setCell ⟨g, 3, none⟩ (.int .i64 lb5)).setCell ⟨g, 4, none⟩ (.slice A5 n5 cap5)) := set5_but (But.refl _ _) (.inl (show Is g g from rfl)) _ _ _ _ _
    have bw : But (Is d) w (((((w5.setCell ⟨g, 0, none⟩ (.int .i64 k5)).setCell ⟨g, 1, none⟩ (.int .i64 c5)).setCell ⟨g, 2, none⟩ (.bool wr5)).setCell ⟨g, 3, none⟩ (.int .i64 lb5)).setCell ⟨g, 4, none⟩ (.slice A5 n5 cap5)) := set5_but HB5.out (.inr (by omega)) _ _ _ _ _
    have hf6 : FrT (Upto w.heap.size) (((((w5.setCell ⟨g, 0, none⟩ (.int .i64 k5)).setCell ⟨g, 1, none⟩ (.int .i64 c5)).setCell ⟨g, 2, none⟩ (.bool wr5)).setCell ⟨g, 3, none⟩ (.int .i64 lb5)).setCell ⟨g, 4, none⟩ (.slice A5 n5 cap5)) (twoT 2 (oneT ⟨c, wr, lab⟩) t) (tmV k5 c5 wr5 lb5 (.slice A5 n5 cap5)) :=
      (HF5.out.but (bg.sub (fun k hk => by have e : k = g := hk; subst e; exact Nat.lt_of_succ_lt hgW))).fewer (Sub.upto HBL.out.size)
    have ha6 : BdAt (((((w5.setCell ⟨g, 0, none⟩ (.int .i64 k5)).setCell ⟨g, 1, none⟩ (.int .i64 c5)).setCell ⟨g, 2, none⟩ (.bool wr5)).setCell ⟨g, 3, none⟩ (.int .i64 lb5)).setCell ⟨g, 4, none⟩ (.slice A5 n5 cap5)) d F m1 := HA5.out.but bg (fun e => hgd e.symm)
    generalize (((((w5.setCell ⟨g, 0, none⟩ (.int .i64 k5)).setCell ⟨g, 1, none⟩ (.int .i64 c5)).setCell ⟨g, 2, none⟩ (.bool wr5)).setCell ⟨g, 3, none⟩ (.int .i64 lb5)).setCell ⟨g, 4, none⟩ (.slice A5 n5 cap5)) = WF at *
    have c0 := BF.cell 0 _ rfl; have c1 := BF.cell 1 _ rfl; have c2 := BF.cell 2 _ rfl; have c3 := BF.cell 3 _ rfl; have c4 := BF.cell 4 _ rfl
    refine bodyPost_ret (v := tmV k5 c5 wr5 lb5 (.slice A5 n5 cap5)) (by simp [results, Try.f45, go_sem, c0, c1, c2, c3, c4]) rfl ?_
    rw [hr2]
    exact ⟨⟨_, rfl, hf6⟩, ha6, hn4, bw⟩
end Go.Proofs.Ytdelngmbpjgphaa
