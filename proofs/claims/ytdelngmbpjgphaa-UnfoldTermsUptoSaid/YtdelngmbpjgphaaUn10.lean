/- What is left behind a statement, as a function value. -/
import Derived.Test.YtdelngmbpjgphaaUn9
namespace Go.Proofs.Ytdelngmbpjgphaa
open Go.RowKit
set_option linter.unusedVariables false
def PBu (F : Nat) (l : List St) : Prop := ∀ (base : Nat) (w : World) (d : Nat) (m : US) (env : List Bd) (lab : Nat) (S : Blocks) (v ve tv : Value) (k : UK), BdAt w d F m → base ≤ d → Sub S (Upto base) → RdSts w S l v → FrX (Is d) w env ve → env.length ≤ m.st → ThenOk F d m.st w tv k → lab + labelsL l ≤ 1048576 → St.wts l ≤ 1048576 →
  ∀ r, blU F l env lab k m = r → Calls Try.prog 26 #[.pointer (some ⟨d, 0, none⟩), v, ve, vI (lab : Int), tv] w (OutU d F m.st w r)
abbrev Same5 (a b c e g : Nat) (w1 w' : World) : Prop := ∀ p : Addr, (p.block = a ∨ p.block = b ∨ p.block = c ∨ p.block = e ∨ p.block = g) → w'.cell? p = w1.cell? p
theorem Same5.drew {a b c e g : Nat} (w : World) : Same5 a b c e g w w.drew := fun _ _ => rfl
set_option maxHeartbeats 2000000 in
theorem onThen {F base d n : Nat} {w : World} {S : Blocks} {s : St} {rest : List St} {A : Option Addr} {cap : Nat} {env : List Bd} {Ae : Option Addr} {ce : Nat} {lab : Nat} {tv : Value} {k : UK} {gb gl ge gz gt : Nat} (hrest : PBu F rest) (hbd : base ≤ d) (hS : Sub S (Upto base)) (hbw : base ≤ w.heap.size)
    (cb : w.cell? ⟨gb, 0, none⟩ = some (.pointer (some ⟨d, 0, none⟩))) (cl : w.cell? ⟨gl, 0, none⟩ = some (.slice A (rest.length + 1) cap)) (cv : w.cell? ⟨ge, 0, none⟩ = some (.slice Ae env.length ce)) (cz : w.cell? ⟨gz, 0, none⟩ = some (vI (lab : Int))) (ct : w.cell? ⟨gt, 0, none⟩ = some tv)
    (nb : ¬ Is d gb) (nl : ¬ Is d gl) (ne : ¬ Is d ge) (nz : ¬ Is d gz) (nt : ¬ Is d gt) (r : RdSts w S (s :: rest) (.slice A (rest.length + 1) cap)) (hfx : FrX (Is d) w env (.slice Ae env.length ce)) (hel : env.length ≤ n) (hlab : lab + labelsL rest ≤ 1048576) (hwl : St.wts rest ≤ 1048576) (ht : ThenOk F d n w tv k) :
    ThenOk F d n w (.func (.func 40) #[] #[.pointer (some ⟨gb, 0, none⟩), .pointer (some ⟨gl, 0, none⟩), .pointer (some ⟨ge, 0, none⟩), .pointer (some ⟨gz, 0, none⟩), .pointer (some ⟨gt, 0, none⟩)]) (fun m => blU F rest env lab k m) := by
  refine ⟨_, _, rfl, fun args w => by kernel_rfl, fun w' m hb ha hn x hx => ?_⟩
  have ht' := ht.but hb hn
  obtain ⟨K, caps, rfl, _⟩ := ht
  replace cb := hb.cell nb cb
  replace cl := hb.cell nl cl
  replace cv := hb.cell ne cv
  replace cz := hb.cell nz cz
  replace ct := hb.cell nt ct
  have hsame : Same S w w' := hb.same (hS.trans (Sub.upto hbw)) (fun q hq e => by have e : q = d := e; have := hS q hq; unfold Upto at this; omega)
  replace r := r.keep RdSt.keeps (Sub.refl _) hsame
  replace hfx := hfx.step hb (X' := Is d) (Sub.plus _ _ _)
  replace hbw : base ≤ w'.heap.size := Nat.le_trans hbw hb.size
  replace hel : env.length ≤ m.st := Nat.le_trans hel hn
  obtain ⟨b0, off, cs, rfl, hb0, _⟩ := r.at_ (q := 0) (by simp)
  obtain ⟨_, _, e, hcl, hcm, _⟩ := r.form
  injection e with e1 e2 e3
  subst e3
  clear e1 e2
  have RT := Lib.hid (show RdSts w' S rest _ from RdL.drop r (k := 1) (by simp))
  simp only [List.length_cons] at hcl
  unfold maxLen at hcm
  rw [Nat.add_sub_cancel] at RT
  have hdw := HtAt.lt ha.1
  have bl1 : Below w'.heap.size w' (w'.alloc (.cells #[.int .i64 0, .int .i64 0, .bool false, .int .i64 0, .slice none 0 0] 26)) := (Below.refl _ _).alloc (Nat.le_refl _) _
  have HBA := Lib.hid (Blk.made w' [.int .i64 0, .int .i64 0, .bool false, .int .i64 0, .slice none 0 0] 26 (base := w'.heap.size) (Nat.le_refl _))
  have HBL := Lib.hid bl1
  have HS := Lib.hid hS
  have HREST := Lib.hid hrest
  have kb : ((w'.alloc (.cells #[.int .i64 0, .int .i64 0, .bool false, .int .i64 0, .slice none 0 0] 26))).cell? ⟨gb, 0, none⟩ = _ := (bl1.cell (World.block_lt_of_cell? w' _ cb)).trans cb
  have kl : ((w'.alloc (.cells #[.int .i64 0, .int .i64 0, .bool false, .int .i64 0, .slice none 0 0] 26))).cell? ⟨gl, 0, none⟩ = _ := (bl1.cell (World.block_lt_of_cell? w' _ cl)).trans cl
  have kv : ((w'.alloc (.cells #[.int .i64 0, .int .i64 0, .bool false, .int .i64 0, .slice none 0 0] 26))).cell? ⟨ge, 0, none⟩ = _ := (bl1.cell (World.block_lt_of_cell? w' _ cv)).trans cv
  have kz : ((w'.alloc (.cells #[.int .i64 0, .int .i64 0, .bool false, .int .i64 0, .slice none 0 0] 26))).cell? ⟨gz, 0, none⟩ = _ := (bl1.cell (World.block_lt_of_cell? w' _ cz)).trans cz
  have kt : ((w'.alloc (.cells #[.int .i64 0, .int .i64 0, .bool false, .int .i64 0, .slice none 0 0] 26))).cell? ⟨gt, 0, none⟩ = _ := (bl1.cell (World.block_lt_of_cell? w' _ ct)).trans ct
  have HA := Lib.hid (ha.below bl1)
  have HFX := Lib.hid (hfx.below bl1)
  have HTH := Lib.hid (ht'.below bl1 (Nat.le_refl _))
  have hbw0 : b0 < w'.heap.size := Nat.lt_of_lt_of_le (hS _ hb0) hbw
  have HR := Lib.hid (show ∀ U, RdSts w' S rest U → RdSts ((w'.alloc (.cells #[.int .i64 0, .int .i64 0, .bool false, .int .i64 0, .slice none 0 0] 26))).drew S rest U from fun U h => h.keep RdSt.keeps (Sub.refl _) (same_of_below (B := w'.heap.size) bl1.drew (hS.trans (Sub.upto hbw))))
  have hn1 : (1 : Int) ≤ (rest.length : Int) + 1 := by omega
  clear cb cl cv cz ct ha hfx ht' bl1 r hS hrest hsame hb hb0
  go_enter Try.func40, Try.ntmps40
  go_upto_region 1 with (fail)
  generalize (w'.alloc (.cells #[.int .i64 0, .int .i64 0, .bool false, .int .i64 0, .slice none 0 0] 26)) = W at *
  have HBW := Lib.hid (show But (Is d) w' W from But.of_below HBL.out)
  have hgd : ¬ Is d w'.heap.size := fun e => by have e : w'.heap.size = d := e; omega
  have hgW : w'.heap.size < W.heap.size := HBA.out.lt
  have hgw : w'.heap.size ≤ w'.heap.size := Nat.le_refl _
  have HAD := Lib.hid (show BdAt W.drew d F m from HA.out.but (T := Nowhere) (But.refl _ _).drew (fun h => h))
  have HTD := Lib.hid (HTH.out.but (But.refl (Is d) W).drew (Nat.le_refl _))
  by_cases hc1 : cap = 1
  · subst hc1
    refine wp_region_pre 6 (S := (fun w' => Same5 gb gl ge gz gt W w')) (by kernel_rfl) (by kernel_rfl) (Same5.drew W) (fun hHeld => ?_)
    simp only [List.take_succ_cons, List.take_zero]
    refine wpAnyH_take_at (i := 0) (v := ?_) (some 6) rfl rfl (by kernel_rfl) (by kernel_rfl) (by kernel_rfl) (fun _ _ _ h => h) (Or.inl ⟨by rfl, ?_⟩) (by assumption) ?_
    rotate_left
    · (intro w hSw; (try dsimp only at hSw); go_simp; (try with_reducible rfl))
    (try simp only [Act.put, List.setIfInBounds_toArray, List.set_cons_zero, List.set_cons_succ])
    refine wpAnyH_take_at (i := 1) (v := ?_) (some 7) rfl rfl (by kernel_rfl) (by kernel_rfl) (by kernel_rfl) (fun _ _ _ h => h) (Or.inl ⟨by rfl, ?_⟩) (by assumption) ?_
    rotate_left
    · (intro w hSw; (try dsimp only at hSw); go_simp; (try with_reducible rfl))
    (try simp only [Act.put, List.setIfInBounds_toArray, List.set_cons_zero, List.set_cons_succ])
    refine wpAnyH_take_at (i := 2) (v := ?_) (some 8) rfl rfl (by kernel_rfl) (by kernel_rfl) (by kernel_rfl) (fun _ _ _ h => h) (Or.inl ⟨by rfl, ?_⟩) (by assumption) ?_
    rotate_left
    · (intro w hSw; (try dsimp only at hSw); go_simp; (try with_reducible rfl))
    (try simp only [Act.put, List.setIfInBounds_toArray, List.set_cons_zero, List.set_cons_succ])
    refine wpAnyH_take_at (i := 3) (v := ?_) (some 9) rfl rfl (by kernel_rfl) (by kernel_rfl) (by kernel_rfl) (fun _ _ _ h => h) (Or.inl ⟨by rfl, ?_⟩) (by assumption) ?_
    rotate_left
    · (intro w hSw; (try dsimp only at hSw); go_simp; (try with_reducible rfl))
    (try simp only [Act.put, List.setIfInBounds_toArray, List.set_cons_zero, List.set_cons_succ])
    refine wpAnyH_take_at (i := 4) (v := ?_) (some 10) rfl rfl (by kernel_rfl) (by kernel_rfl) (by kernel_rfl) (fun _ _ _ h => h) (Or.inl ⟨by rfl, ?_⟩) (by assumption) ?_
    rotate_left
    · (intro w hSw; (try dsimp only at hSw); go_simp; (try with_reducible rfl))
    (try simp only [Act.put, List.setIfInBounds_toArray, List.set_cons_zero, List.set_cons_succ])
    refine wpAnyH_take_at (i := 5) (v := ?_) (some 11) rfl rfl (by kernel_rfl) (by kernel_rfl) (by kernel_rfl) (fun _ _ _ h => h) (Or.inl ⟨by rfl, ?_⟩) (by assumption) ?_
    rotate_left
    · (intro w hSw; (try dsimp only at hSw); go_simp; (try with_reducible rfl))
    (try simp only [Act.put, List.setIfInBounds_toArray, List.set_cons_zero, List.set_cons_succ])
    refine wpAnyH_done (by kernel_rfl) ?_ _
    unfold QPre
    simp only [List.drop_succ_cons, List.drop_zero]
    have RT2 := Lib.hid (HR.out _ (by rw [show rest = [] from List.eq_nil_of_length_eq_zero (by omega)]; exact RdL.nil (A := some ⟨b0, off, none⟩) (cap := 0) (by simp [maxLen]) : RdSts w' S rest (.slice (some ⟨b0, off, none⟩) 0 0)))
    go_wp2_with fail
    refine (HREST.out base W.drew d m env lab S _ _ _ k HAD.out hbd HS.out RT2.out HFX.out hel HTD.out hlab hwl x hx).mono ?_
    rintro e w4 ho
    cases x with
    | none =>
      obtain ⟨rfl, hb4⟩ := ho
      exact ⟨rfl, rfl, HBW.out.trans ((But.refl (Is d) W).drew.trans hb4)⟩
    | some x =>
      obtain ⟨t, m1⟩ := x
      obtain ⟨⟨V, rfl, hf⟩, ha4, hn4, hb4⟩ := ho
      obtain ⟨k5, c5, wr5, lb5, A5, n5, cap5, rfl⟩ := hf.form
      have hb5 := (But.refl (Is d) W).drew.trans hb4
      have HBA5 := Lib.hid (HBA.out.but hb5 hgd)
      have HF5 := Lib.hid (show FrT (Upto W.heap.size) w4 t (tmV k5 c5 wr5 lb5 (.slice A5 n5 cap5)) from hf.fewer (Sub.upto ((But.refl (Is d) W).drew).size))
      have HA5 := Lib.hid ha4
      have HB5 := Lib.hid (HBW.out.trans hb5)
      clear hf ha4 hb4 hb5
      (try clear c0 c1 c2 c3 c4 c5 c6 c7 c8 c9 c10 c11)
      have r0 := HBA5.out.cell 0 _ rfl; have r1 := HBA5.out.cell 1 _ rfl; have r2 := HBA5.out.cell 2 _ rfl; have r3 := HBA5.out.cell 3 _ rfl; have r4 := HBA5.out.cell 4 _ rfl
      have f0 := HBA5.out.fr 0; have f1 := HBA5.out.fr 1; have f2 := HBA5.out.fr 2; have f3 := HBA5.out.fr 3; have f4 := HBA5.out.fr 4
      go_wp2
      clear r0 r1 r2 r3 r4 f0 f1 f2 f3 f4
      have BF := set5_blk HBA5.out (.int .i64 k5) (.int .i64 c5) (.bool wr5) (.int .i64 lb5) (.slice A5 n5 cap5)
      have bg : But (Is (w'.heap.size)) w4 (((((w4.setCell ⟨w'.heap.size, 0, none⟩ (.int .i64 k5)).setCell ⟨w'.heap.size, 1, none⟩ (.int .i64 c5)).setCell ⟨w'.heap.size, 2, none⟩ (.bool wr5)).setCell ⟨w'.heap.size, 3, none⟩ (.int .i64 lb5)).setCell ⟨w'.heap.size, 4, none⟩ (.slice A5 n5 cap5)) := set5_but (But.refl _ _) (.inl (show Is (w'.heap.size) (w'.heap.size) from rfl)) _ _ _ _ _
      have bw := set5_but HB5.out (b := w'.heap.size) (.inr hgw) (.int .i64 k5) (.int .i64 c5) (.bool wr5) (.int .i64 lb5) (.slice A5 n5 cap5)
      have hf6 := (HF5.out.but (bg.sub (fun k hk => by have e : k = w'.heap.size := hk; subst e; exact hgW))).fewer (Sub.upto HBW.out.size)
      have ha6 := HA5.out.but bg (fun e => hgd e.symm)
      generalize (((((w4.setCell ⟨w'.heap.size, 0, none⟩ (.int .i64 k5)).setCell ⟨w'.heap.size, 1, none⟩ (.int .i64 c5)).setCell ⟨w'.heap.size, 2, none⟩ (.bool wr5)).setCell ⟨w'.heap.size, 3, none⟩ (.int .i64 lb5)).setCell ⟨w'.heap.size, 4, none⟩ (.slice A5 n5 cap5)) = WF at *
      refine ret_term Try.results40 rfl rfl BF ?_
      exact ⟨⟨_, rfl, hf6⟩, ha6, (by first | exact hn4 | exact Nat.le_trans (Nat.le_succ _) hn4), bw⟩
  · have hc2 : (1 : Int) < (cap : Int) := by omega
    have hc3 : (rest.length : Int) + 1 ≤ (cap : Int) := by omega
    refine wp_region_pre 6 (S := (fun w' => Same5 gb gl ge gz gt W w')) (by kernel_rfl) (by kernel_rfl) (Same5.drew W) (fun hHeld => ?_)
    simp only [List.take_succ_cons, List.take_zero]
    refine wpAnyH_take_at (i := 0) (v := ?_) (some 6) rfl rfl (by kernel_rfl) (by kernel_rfl) (by kernel_rfl) (fun _ _ _ h => h) (Or.inl ⟨by rfl, ?_⟩) (by assumption) ?_
    rotate_left
    · (intro w hSw; (try dsimp only at hSw); go_simp; (try with_reducible rfl))
    (try simp only [Act.put, List.setIfInBounds_toArray, List.set_cons_zero, List.set_cons_succ])
    refine wpAnyH_take_at (i := 1) (v := ?_) (some 7) rfl rfl (by kernel_rfl) (by kernel_rfl) (by kernel_rfl) (fun _ _ _ h => h) (Or.inl ⟨by rfl, ?_⟩) (by assumption) ?_
    rotate_left
    · (intro w hSw; (try dsimp only at hSw); go_simp; (try with_reducible rfl))
    (try simp only [Act.put, List.setIfInBounds_toArray, List.set_cons_zero, List.set_cons_succ])
    refine wpAnyH_take_at (i := 2) (v := ?_) (some 8) rfl rfl (by kernel_rfl) (by kernel_rfl) (by kernel_rfl) (fun _ _ _ h => h) (Or.inl ⟨by rfl, ?_⟩) (by assumption) ?_
    rotate_left
    · (intro w hSw; (try dsimp only at hSw); go_simp; (try with_reducible rfl))
    (try simp only [Act.put, List.setIfInBounds_toArray, List.set_cons_zero, List.set_cons_succ])
    refine wpAnyH_take_at (i := 3) (v := ?_) (some 9) rfl rfl (by kernel_rfl) (by kernel_rfl) (by kernel_rfl) (fun _ _ _ h => h) (Or.inl ⟨by rfl, ?_⟩) (by assumption) ?_
    rotate_left
    · (intro w hSw; (try dsimp only at hSw); go_simp; (try with_reducible rfl))
    (try simp only [Act.put, List.setIfInBounds_toArray, List.set_cons_zero, List.set_cons_succ])
    refine wpAnyH_take_at (i := 4) (v := ?_) (some 10) rfl rfl (by kernel_rfl) (by kernel_rfl) (by kernel_rfl) (fun _ _ _ h => h) (Or.inl ⟨by rfl, ?_⟩) (by assumption) ?_
    rotate_left
    · (intro w hSw; (try dsimp only at hSw); go_simp; (try with_reducible rfl))
    (try simp only [Act.put, List.setIfInBounds_toArray, List.set_cons_zero, List.set_cons_succ])
    refine wpAnyH_take_at (i := 5) (v := ?_) (some 11) rfl rfl (by kernel_rfl) (by kernel_rfl) (by kernel_rfl) (fun _ _ _ h => h) (Or.inl ⟨by rfl, ?_⟩) (by assumption) ?_
    rotate_left
    · (intro w hSw; (try dsimp only at hSw); go_simp; (try with_reducible rfl))
    (try simp only [Act.put, List.setIfInBounds_toArray, List.set_cons_zero, List.set_cons_succ])
    refine wpAnyH_done (by kernel_rfl) ?_ _
    unfold QPre
    simp only [List.drop_succ_cons, List.drop_zero]
    have RT2 := Lib.hid (HR.out _ (show RdSts w' S rest (.slice (some ⟨b0, off + 12, none⟩) rest.length (cap - 1)) from RT.out))
    go_wp2_with fail
    refine (HREST.out base W.drew d m env lab S _ _ _ k HAD.out hbd HS.out RT2.out HFX.out hel HTD.out hlab hwl x hx).mono ?_
    rintro e w4 ho
    cases x with
    | none =>
      obtain ⟨rfl, hb4⟩ := ho
      exact ⟨rfl, rfl, HBW.out.trans ((But.refl (Is d) W).drew.trans hb4)⟩
    | some x =>
      obtain ⟨t, m1⟩ := x
      obtain ⟨⟨V, rfl, hf⟩, ha4, hn4, hb4⟩ := ho
      obtain ⟨k5, c5, wr5, lb5, A5, n5, cap5, rfl⟩ := hf.form
      have hb5 := (But.refl (Is d) W).drew.trans hb4
      have HBA5 := Lib.hid (HBA.out.but hb5 hgd)
      have HF5 := Lib.hid (show FrT (Upto W.heap.size) w4 t (tmV k5 c5 wr5 lb5 (.slice A5 n5 cap5)) from hf.fewer (Sub.upto ((But.refl (Is d) W).drew).size))
      have HA5 := Lib.hid ha4
      have HB5 := Lib.hid (HBW.out.trans hb5)
      clear hf ha4 hb4 hb5
      (try clear c0 c1 c2 c3 c4 c5 c6 c7 c8 c9 c10 c11)
      have r0 := HBA5.out.cell 0 _ rfl; have r1 := HBA5.out.cell 1 _ rfl; have r2 := HBA5.out.cell 2 _ rfl; have r3 := HBA5.out.cell 3 _ rfl; have r4 := HBA5.out.cell 4 _ rfl
      have f0 := HBA5.out.fr 0; have f1 := HBA5.out.fr 1; have f2 := HBA5.out.fr 2; have f3 := HBA5.out.fr 3; have f4 := HBA5.out.fr 4
      go_wp2
      clear r0 r1 r2 r3 r4 f0 f1 f2 f3 f4
      have BF := set5_blk HBA5.out (.int .i64 k5) (.int .i64 c5) (.bool wr5) (.int .i64 lb5) (.slice A5 n5 cap5)
      have bg : But (Is (w'.heap.size)) w4 (((((w4.setCell ⟨w'.heap.size, 0, none⟩ (.int .i64 k5)).setCell ⟨w'.heap.size, 1, none⟩ (.int .i64 c5)).setCell ⟨w'.heap.size, 2, none⟩ (.bool wr5)).setCell ⟨w'.heap.size, 3, none⟩ (.int .i64 lb5)).setCell ⟨w'.heap.size, 4, none⟩ (.slice A5 n5 cap5)) := set5_but (But.refl _ _) (.inl (show Is (w'.heap.size) (w'.heap.size) from rfl)) _ _ _ _ _
      have bw := set5_but HB5.out (b := w'.heap.size) (.inr hgw) (.int .i64 k5) (.int .i64 c5) (.bool wr5) (.int .i64 lb5) (.slice A5 n5 cap5)
      have hf6 := (HF5.out.but (bg.sub (fun k hk => by have e : k = w'.heap.size := hk; subst e; exact hgW))).fewer (Sub.upto HBW.out.size)
      have ha6 := HA5.out.but bg (fun e => hgd e.symm)
      generalize (((((w4.setCell ⟨w'.heap.size, 0, none⟩ (.int .i64 k5)).setCell ⟨w'.heap.size, 1, none⟩ (.int .i64 c5)).setCell ⟨w'.heap.size, 2, none⟩ (.bool wr5)).setCell ⟨w'.heap.size, 3, none⟩ (.int .i64 lb5)).setCell ⟨w'.heap.size, 4, none⟩ (.slice A5 n5 cap5)) = WF at *
      refine ret_term Try.results40 rfl rfl BF ?_
      exact ⟨⟨_, rfl, hf6⟩, ha6, (by first | exact hn4 | exact Nat.le_trans (Nat.le_succ _) hn4), bw⟩
end Go.Proofs.Ytdelngmbpjgphaa
