/- The walk of the builder's block at nothing; for all lists. -/
import Derived.Test.YtdelngmbpjgphaaUn12
import Derived.Test.YtdelngmbpjgphaaUn13
namespace Go.Proofs.Ytdelngmbpjgphaa
open Go.RowKit
set_option linter.unusedVariables false
set_option maxHeartbeats 4000000 in
set_option maxRecDepth 100000 in
theorem pbu_nil (F : Nat) : PBu F [] := by
  intro base w d m env lab S v ve tv kk hat hbd hS r hfx hel hth hlab hwl res hres
  rw [blU_nil] at hres
  obtain ⟨A, cap, rfl, _⟩ := r.form
  have hth0 := hth
  obtain ⟨KK, caps, rfl, hKK, -⟩ := hth
  have hdw := HtAt.lt hat.1
  have hbw : base ≤ w.heap.size := by omega
  have bel : Below w.heap.size w (((((((w.alloc (.cells #[.pointer (some ⟨d, 0, none⟩)] 79))).alloc (.cells #[.slice A 0 cap] 36))).alloc (.cells #[.func (.func KK) #[] caps] 107))).alloc (.cells #[.int .i64 0, .int .i64 0, .bool false, .int .i64 0, .slice none 0 0] 26)) := ((((Below.refl _ _).alloc (Nat.le_refl _) _).alloc (by simp) _).alloc (by simp; omega) _).alloc (by simp; omega) _
  have BT := Lib.hid (show Blk base (((((((w.alloc (.cells #[.pointer (some ⟨d, 0, none⟩)] 79))).alloc (.cells #[.slice A 0 cap] 36))).alloc (.cells #[.func (.func KK) #[] caps] 107))).alloc (.cells #[.int .i64 0, .int .i64 0, .bool false, .int .i64 0, .slice none 0 0] 26)) (w.heap.size + 2) [.func (.func KK) #[] caps] from by
    have h := (Blk.made (((w.alloc (.cells #[.pointer (some ⟨d, 0, none⟩)] 79))).alloc (.cells #[.slice A 0 cap] 36)) [.func (.func KK) #[] caps] 107 (base := base) (by simp; omega)).al' (.cells #[.int .i64 0, .int .i64 0, .bool false, .int .i64 0, .slice none 0 0] 26)
    rw [show ((((w.alloc (.cells #[.pointer (some ⟨d, 0, none⟩)] 79))).alloc (.cells #[.slice A 0 cap] 36))).heap.size = w.heap.size + 2 from by simp] at h; exact h)
  have BL := Lib.hid (show Blk base (((((((w.alloc (.cells #[.pointer (some ⟨d, 0, none⟩)] 79))).alloc (.cells #[.slice A 0 cap] 36))).alloc (.cells #[.func (.func KK) #[] caps] 107))).alloc (.cells #[.int .i64 0, .int .i64 0, .bool false, .int .i64 0, .slice none 0 0] 26)) (w.heap.size + 1) [.slice A 0 cap] from by
    have h := ((Blk.made (w.alloc (.cells #[.pointer (some ⟨d, 0, none⟩)] 79)) [.slice A 0 cap] 36 (base := base) (by simp; omega)).al' (.cells #[.func (.func KK) #[] caps] 107)).al' (.cells #[.int .i64 0, .int .i64 0, .bool false, .int .i64 0, .slice none 0 0] 26)
    rw [show ((w.alloc (.cells #[.pointer (some ⟨d, 0, none⟩)] 79))).heap.size = w.heap.size + 1 from by simp] at h; exact h)
  have HBA := Lib.hid (show Blk base (((((((w.alloc (.cells #[.pointer (some ⟨d, 0, none⟩)] 79))).alloc (.cells #[.slice A 0 cap] 36))).alloc (.cells #[.func (.func KK) #[] caps] 107))).alloc (.cells #[.int .i64 0, .int .i64 0, .bool false, .int .i64 0, .slice none 0 0] 26)) (w.heap.size + 3) [.int .i64 0, .int .i64 0, .bool false, .int .i64 0, .slice none 0 0] from by
    have h := Blk.made (((((w.alloc (.cells #[.pointer (some ⟨d, 0, none⟩)] 79))).alloc (.cells #[.slice A 0 cap] 36))).alloc (.cells #[.func (.func KK) #[] caps] 107)) [.int .i64 0, .int .i64 0, .bool false, .int .i64 0, .slice none 0 0] 26 (base := base) (by simp; omega)
    rw [show ((((((w.alloc (.cells #[.pointer (some ⟨d, 0, none⟩)] 79))).alloc (.cells #[.slice A 0 cap] 36))).alloc (.cells #[.func (.func KK) #[] caps] 107))).heap.size = w.heap.size + 3 from by simp] at h; exact h)
  have HTH := Lib.hid (hth0.below bel (Nat.le_refl _))
  have HA := Lib.hid (hat.below bel)
  have HBW := Lib.hid (show But (Is d) w (((((((w.alloc (.cells #[.pointer (some ⟨d, 0, none⟩)] 79))).alloc (.cells #[.slice A 0 cap] 36))).alloc (.cells #[.func (.func KK) #[] caps] 107))).alloc (.cells #[.int .i64 0, .int .i64 0, .bool false, .int .i64 0, .slice none 0 0] 26)) from But.of_below bel)
  clear hat hbd hfx hth0 r bel
  rw [List.length_nil]
  go_enter Try.func26, Try.ntmps26
  go_upto_region 1 with (fail)
  generalize (((((((w.alloc (.cells #[.pointer (some ⟨d, 0, none⟩)] 79))).alloc (.cells #[.slice A 0 cap] 36))).alloc (.cells #[.func (.func KK) #[] caps] 107))).alloc (.cells #[.int .i64 0, .int .i64 0, .bool false, .int .i64 0, .slice none 0 0] 26)) = W at *
  obtain ⟨g, hg⟩ : ∃ g, g = w.heap.size := ⟨_, rfl⟩
  rw [← hg] at BT BL HBA ⊢
  have hgd : ¬ Is d (g + 1 + 1 + 1) := fun e => by have e : g + 1 + 1 + 1 = d := e; omega
  have hgW : g + 1 + 1 + 1 < W.heap.size := HBA.out.lt
  have hgw : w.heap.size ≤ g + 1 + 1 + 1 := by omega
  clear hg
  have kl : W.cell? ⟨g + 1, 0, none⟩ = _ := BL.out.cell 0 _ rfl
  have kt : W.cell? ⟨g + 1 + 1, 0, none⟩ = _ := BT.out.cell 0 _ rfl
  go_upto_region 2 with (fail)
  go_wp2_with fail
  refine (HTH.out.run W m (But.refl _ _) HA.out (Nat.le_refl _) res hres).mono ?_
  clear kl kt
  rintro e w4 ho
  cases res with
  | none =>
    obtain ⟨rfl, hb4⟩ := ho
    exact ⟨rfl, rfl, HBW.out.trans ((But.refl (Is d) W).trans hb4)⟩
  | some x =>
    obtain ⟨t, m1⟩ := x
    obtain ⟨⟨V, rfl, hf⟩, ha4, hn4, hb4⟩ := ho
    obtain ⟨k5, c5, wr5, lb5, A5, n5, cap5, rfl⟩ := hf.form
    have hb5 := (But.refl (Is d) W).trans hb4
    have HBA5 := Lib.hid (HBA.out.but hb5 hgd)
    have HF5 := Lib.hid (show FrT (Upto W.heap.size) w4 t (tmV k5 c5 wr5 lb5 (.slice A5 n5 cap5)) from hf.fewer (Sub.upto ((But.refl (Is d) W)).size))
    have HA5 := Lib.hid ha4
    have HB5 := Lib.hid (HBW.out.trans hb5)
    clear hf ha4 hb4 hb5
    (try clear c0 c1 c2 c3 c4 c5 c6 c7 c8 c9 c10 c11)
    have r0 := HBA5.out.cell 0 _ rfl; have r1 := HBA5.out.cell 1 _ rfl; have r2 := HBA5.out.cell 2 _ rfl; have r3 := HBA5.out.cell 3 _ rfl; have r4 := HBA5.out.cell 4 _ rfl
    have f0 := HBA5.out.fr 0; have f1 := HBA5.out.fr 1; have f2 := HBA5.out.fr 2; have f3 := HBA5.out.fr 3; have f4 := HBA5.out.fr 4
    go_wp2
    clear r0 r1 r2 r3 r4 f0 f1 f2 f3 f4
    have BF := set5_blk HBA5.out (.int .i64 k5) (.int .i64 c5) (.bool wr5) (.int .i64 lb5) (.slice A5 n5 cap5)
    have bg : But (Is (g + 1 + 1 + 1)) w4 (((((w4.setCell ⟨g + 1 + 1 + 1, 0, none⟩ (.int .i64 k5)).setCell ⟨g + 1 + 1 + 1, 1, none⟩ (.int .i64 c5)).setCell ⟨g + 1 + 1 + 1, 2, none⟩ (.bool wr5)).setCell ⟨g + 1 + 1 + 1, 3, none⟩ (.int .i64 lb5)).setCell ⟨g + 1 + 1 + 1, 4, none⟩ (.slice A5 n5 cap5)) := set5_but (But.refl _ _) (.inl (show Is (g + 1 + 1 + 1) (g + 1 + 1 + 1) from rfl)) _ _ _ _ _
    have bw := set5_but HB5.out (b := g + 1 + 1 + 1) (.inr hgw) (.int .i64 k5) (.int .i64 c5) (.bool wr5) (.int .i64 lb5) (.slice A5 n5 cap5)
    have hf6 := (HF5.out.but (bg.sub (fun k hk => by have e : k = g + 1 + 1 + 1 := hk; subst e; exact hgW))).fewer (Sub.upto HBW.out.size)
    have ha6 := HA5.out.but bg (fun e => hgd e.symm)
    generalize (((((w4.setCell ⟨g + 1 + 1 + 1, 0, none⟩ (.int .i64 k5)).setCell ⟨g + 1 + 1 + 1, 1, none⟩ (.int .i64 c5)).setCell ⟨g + 1 + 1 + 1, 2, none⟩ (.bool wr5)).setCell ⟨g + 1 + 1 + 1, 3, none⟩ (.int .i64 lb5)).setCell ⟨g + 1 + 1 + 1, 4, none⟩ (.slice A5 n5 cap5)) = WF at *
    refine ret_term Try.results26 rfl rfl BF ?_
    exact ⟨⟨_, rfl, hf6⟩, ha6, (by first | exact hn4 | exact Nat.le_trans (Nat.le_succ _) hn4), bw⟩
theorem pbu_all' (F N : Nat) : ∀ l : List St, SizeOf.sizeOf l ≤ N → PBu F l := by
  induction N with
  | zero => intro l h; cases l with
    | nil => exact pbu_nil F
    | cons s r => simp at h
  | succ N ih =>
    intro l hl
    cases l with
    | nil => exact pbu_nil F
    | cons s r =>
      obtain ⟨k, nm, a, b, body, els⟩ := s
      simp at hl
      have hb := ih body (by omega)
      exact pbu_cons F k nm a b body els r (ih _ (by omega)) hb (ih _ (by omega)) (fun M => loop_all F nm body els hb M)
theorem pbu_all (F : Nat) (l : List St) : PBu F l := pbu_all' F _ l (Nat.le_refl _)
end Go.Proofs.Ytdelngmbpjgphaa
