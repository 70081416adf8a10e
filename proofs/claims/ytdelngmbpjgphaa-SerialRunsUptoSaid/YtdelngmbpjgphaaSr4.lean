/- The walk of the runner's loop; block, for all programs. -/
import Derived.Test.YtdelngmbpjgphaaSr3
import Derived.Deep.RegionHeld2
namespace Go.Proofs.Ytdelngmbpjgphaa
open Go.RowKit
set_option linter.unusedVariables false
/-- a round of the loop, in a world -/
structure SLp (base d F : Nat) (S : Blocks) (y : Nat) (cs : List Value) (a b : Ex) (VA VB : Value) (body : List St) (v1 : Value) (w0 : World) (X0 : Blocks) (W : World) (X : Blocks) (m : MS) (env : List Bd) (ve : Value) : Prop where
  at_ : RnAt base W d X F m
  env : FrX X W env ve
  bd : Blk base W y cs
  ra : RdE W S a VA
  rb : RdE W S b VB
  r1 : RdSts W S body v1
  nd : ¬ X y
  but : But X0 w0 W
  sub : Sub X (Plus X0 w0.heap.size W.heap.size)
  hS : Sub S (Upto base)
section
variable {base d F y : Nat} {S X0 X X' : Blocks} {cs : List Value} {a b : Ex} {VA VB : Value} {body : List St} {v1 : Value} {w0 W W' : World} {m m' : MS} {env env' : List Bd} {ve ve' : Value}
theorem SLp.step (h : SLp base d F S y cs a b VA VB body v1 w0 X0 W X m env ve) (hb : But X W W') (hr : RnAt base W' d X' F m') (hs : Sub X' (Plus X W.heap.size W'.heap.size)) : SLp base d F S y cs a b VA VB body v1 w0 X0 W' X' m' env ve := by
  have hsm : Same S W W' := hb.same (h.hS.trans (Sub.upto (Nat.le_trans h.bd.ge (Nat.le_of_lt h.bd.lt)))) (fun k hk ht => by have := (h.at_.1.bd k ht).1; have := h.hS k hk; unfold Upto at this; omega)
  exact ⟨hr, h.env.step hb hs, h.bd.but hb h.nd, h.ra.keep (Sub.refl _) hsm, h.rb.keep (Sub.refl _) hsm, h.r1.keep RdSt.keeps (Sub.refl _) hsm, fun e => by
    rcases hs y e with e | e
    · exact h.nd e
    · have := h.bd.lt; omega,
   h.but.transNew' hb h.sub, fun k hk => by
    rcases hs k hk with e | e
    · rcases h.sub k e with e | e
      · exact .inl e
      · exact .inr ⟨e.1, Nat.lt_of_lt_of_le e.2 hb.size⟩
    · exact .inr ⟨Nat.le_trans h.but.size e.1, e.2⟩, h.hS⟩
theorem SLp.below (h : SLp base d F S y cs a b VA VB body v1 w0 X0 W X m env ve) (hb : Below W.heap.size W W') : SLp base d F S y cs a b VA VB body v1 w0 X0 W' X m env ve :=
  h.step (But.of_below hb) ⟨h.at_.1.below hb, h.at_.2⟩ (Sub.plus _ _ _)
theorem SLp.sW (h : SLp base d F S y cs a b VA VB body v1 w0 X0 W X m env ve) : Sub S (Upto W.heap.size) := h.hS.trans (Sub.upto (Nat.le_trans h.bd.ge (Nat.le_of_lt h.bd.lt)))
theorem SLp.sameAt (h : SLp base d F S y cs a b VA VB body v1 w0 X0 W X m env ve) (hb : But X W W') : SameAt y W W' := fun p hp => World.cell?_of_block (hb.block _ (by rw [hp]; exact h.bd.lt) (by rw [hp]; exact h.nd))
end
theorem SameAt.alloc {y : Nat} {w w' : World} (hy : y < w'.heap.size) (h : SameAt y w w') (o : Obj) : SameAt y w (w'.alloc o) := fun p hp => (World.cell?_alloc_lt w' o p (by rw [hp]; exact hy)).trans (h p hp)
set_option maxHeartbeats 4000000 in
set_option maxRecDepth 100000 in
theorem loop_any (F : Nat) (s : ByteArray) (a b : Ex) (body els : List St) (hbody : PBk F body) : PLp F s a b body els := by
  intro base w d X m env lab S ve k1 n1 s1 A1 m1 p1 k2 n2 s2 A2 m2 p2 A3 p3 A4 p4 hat hS hs ra rb r1 hfx hel hlab hwl res hres
  obtain ⟨i0, hi, hz0, hz1', hz2⟩ := info_parts infoBd
  have hbs : base ≤ w.heap.size := by have := hat.1.bd d hat.1.X0; omega
  have hbel : Below w.heap.size w (w.alloc (.cells #[.int .i64 7, .string s, .int .i64 k1, .int .i64 n1, .string s1, .slice A1 m1 p1, .int .i64 k2, .int .i64 n2, .string s2, .slice A2 m2 p2, .slice A3 body.length p3, .slice A4 els.length p4] 112)) := (Below.refl _ _).alloc (Nat.le_refl _) _
  have hsu : Sub S (Upto w.heap.size) := hS.trans (Sub.upto hbs)
  obtain ⟨y, hy⟩ : ∃ y, y = w.heap.size := ⟨_, rfl⟩
  have hr0 : SLp base d F S w.heap.size [.int .i64 7, .string s, .int .i64 k1, .int .i64 n1, .string s1, .slice A1 m1 p1, .int .i64 k2, .int .i64 n2, .string s2, .slice A2 m2 p2, .slice A3 body.length p3, .slice A4 els.length p4] a b (exV k1 n1 s1 (.slice A1 m1 p1)) (exV k2 n2 s2 (.slice A2 m2 p2)) body (.slice A3 body.length p3) w X (w.alloc (.cells #[.int .i64 7, .string s, .int .i64 k1, .int .i64 n1, .string s1, .slice A1 m1 p1, .int .i64 k2, .int .i64 n2, .string s2, .slice A2 m2 p2, .slice A3 body.length p3, .slice A4 els.length p4] 112)) X m env ve :=
    ⟨⟨hat.1.below hbel, hat.2⟩, hfx.below hbel, Blk.made w _ 112 hbs, ra.go hbel hsu, rb.go hbel hsu, r1.go RdSt.keeps hbel hsu (Sub.refl _), fun e => by have := hat.lt _ e; omega, But.of_below hbel, Sub.plus _ _ _, hS⟩
  obtain ⟨Ae, ce, rfl, hce1, hce2⟩ := hfx.form
  have HR0 := Lib.hid hr0
  have HBO := Lib.hid hbody
  have HRES := Lib.hid hres
  clear hr0 hat ra rb r1 hfx hbel hsu hbody hres hS
  go_enter Try.func67, Try.ntmps67
  go_upto_region 1 with (fail)
  generalize w.alloc (.cells #[.int .i64 7, .string s, .int .i64 k1, .int .i64 n1, .string s1, .slice A1 m1 p1, .int .i64 k2, .int .i64 n2, .string s2, .slice A2 m2 p2, .slice A3 body.length p3, .slice A4 els.length p4] 112) = W at *
  rw [← hy] at HR0 ⊢
  clear hy
  have c0 := HR0.out.bd.cell 0 _ rfl; have c1 := HR0.out.bd.cell 1 _ rfl; have c2 := HR0.out.bd.cell 2 _ rfl; have c3 := HR0.out.bd.cell 3 _ rfl; have c4 := HR0.out.bd.cell 4 _ rfl; have c5 := HR0.out.bd.cell 5 _ rfl; have c6 := HR0.out.bd.cell 6 _ rfl; have c7 := HR0.out.bd.cell 7 _ rfl; have c8 := HR0.out.bd.cell 8 _ rfl; have c9 := HR0.out.bd.cell 9 _ rfl; have c10 := HR0.out.bd.cell 10 _ rfl; have c11 := HR0.out.bd.cell 11 _ rfl
  have hlY : y < W.heap.size := HR0.out.bd.lt
  have HST := Lib.hid (fun w' h => HR0.out.below (Stay.below h) : ∀ w', Stay W w' → SLp base d F S y [.int .i64 7, .string s, .int .i64 k1, .int .i64 n1, .string s1, .slice A1 m1 p1, .int .i64 k2, .int .i64 n2, .string s2, .slice A2 m2 p2, .slice A3 body.length p3, .slice A4 els.length p4] a b (exV k1 n1 s1 (.slice A1 m1 p1)) (exV k2 n2 s2 (.slice A2 m2 p2)) body (.slice A3 body.length p3) w X w' X m env (.slice Ae env.length ce))
  go_region_held3 (fun w' => Stay W w') (first | assumption | exact Stay.mk (Kept.start _) | ((refine Stay.mk ?_; (repeat (with_reducible first | refine Kept.set ?_ (by omega) _ | refine Kept.drew ?_ | refine Kept.alloc ?_ _)); first | exact Kept.refl _ | assumption)))
    (first
      | ((go_at_call_of 42 (Value.agg #[.int .i64 k1, .int .i64 n1, .string s1, .slice A1 m1 p1]); refine (eval_fx env a _ S X _ _ (HST.out _ (by first | assumption | exact Stay.mk (Kept.start _))).sW (HST.out _ (by first | assumption | exact Stay.mk (Kept.start _))).ra (HST.out _ (by first | assumption | exact Stay.mk (Kept.start _))).env).mono ?_; rintro e wv ⟨rfl, hina, hb1⟩; have hst1 : Stay W wv := Stay.step hb1 (by first | assumption | exact Stay.mk (Kept.start _)); have hk1 : Kept W wv := Kept.here hst1))
      | ((go_at_call_of 42 (Value.agg #[.int .i64 k2, .int .i64 n2, .string s2, .slice A2 m2 p2]); refine (eval_fx env b _ S X _ _ (HST.out _ (by first | assumption | exact Stay.mk (Kept.start _))).sW (HST.out _ (by first | assumption | exact Stay.mk (Kept.start _))).rb (HST.out _ (by first | assumption | exact Stay.mk (Kept.start _))).env).mono ?_; rintro e w2 ⟨rfl, hinb, hb2⟩; have hst2 : Stay W w2 := Stay.step hb2 (by first | assumption | exact Stay.mk (Kept.start _)); have hk2 : Kept W w2 := Kept.here hst2)))
  rename_i hheld
  clear hheld
  have HR1 := Lib.hid (HST.out _ hst2)
  clear hst1 hst2 hk1 hk2 hb1 hb2 HST HR0 c0 c1 c2 c3 c4 c5 c6 c7 c8 c9 c10 c11
  obtain ⟨tz, hto⟩ : ∃ tz, tz = b.worth env := ⟨_, rfl⟩
  obtain ⟨st, hst0⟩ : ∃ st, st = a.worth env := ⟨_, rfl⟩
  rw [← hto, ← hst0] at HRES
  rw [← hto] at hinb
  rw [← hst0] at hina
  rw [← hto, ← hst0]
  clear hto hst0
  unfold inI at hina hinb
  go_wp2
  go_loopw [8] (fun u wr => ∃ (i : Int) (n : Nat) (m' : MS) (X' : Blocks), u = .int .i64 i ∧ -9223372036854775808 ≤ i ∧ i ≤ 9223372036854775807 ∧ F < m'.st + n ∧ env.length < m'.st ∧ Hid (forR F tz (fun i m => blR F body (env ++ [⟨s, i⟩]) lab m) n i m' = res) ∧ Hid (SLp base d F S y [.int .i64 7, .string s, .int .i64 k1, .int .i64 n1, .string s1, .slice A1 m1 p1, .int .i64 k2, .int .i64 n2, .string s2, .slice A2 m2 p2, .slice A3 body.length p3, .slice A4 els.length p4] a b (exV k1 n1 s1 (.slice A1 m1 p1)) (exV k2 n2 s2 (.slice A2 m2 p2)) body (.slice A3 body.length p3) w X wr X' m' env (.slice Ae env.length ce))) (fun u _ => (tz - intOf u).toNat)
  case atStart => exact ⟨st, F + 1, m, X, rfl, hina.1, hina.2, by omega, hel, HRES, HR1⟩
  case round =>
    clear HR1 HRES hina hel
    obtain ⟨i, n, m', X', rfl, hi0, hi1, hn, hel, HRES, HR⟩ := hrel
    by_cases hlt : i < tz
    · by_cases hf : m'.st < F
      case neg =>
        have hrn : res = none := by
          have := HRES.out
          rw [forR_none hlt hf] at this
          exact this.symm
        subst hrn
        go_wp2_with fail
        refine (step_no HR.out.at_ hf).mono ?_
        rintro e w' ⟨rfl, hb⟩
        have hbx := HR.out.but.transNew' hb HR.out.sub
        go_wp2_with fail
        exact ⟨rfl, rfl, hbx⟩
      obtain ⟨n0, rfl⟩ : ∃ n0, n = n0 + 1 := ⟨n - 1, by omega⟩
      have hgo := HRES.out
      rw [forR_go hlt hf] at hgo
      have HGO := Lib.hid hgo
      clear hgo HRES
      go_wp2_with fail
      refine (step_ok HR.out.at_ hf).mono ?_
      rintro e w3 ⟨rfl, ha, hb⟩
      have HR3 := Lib.hid (HR.out.step hb ha (Sub.plus _ _ _))
      have HRd := Lib.hid (HR3.out.below ((Below.refl _ _).drew))
      have hmf := HR.out.at_.2.2.2
      clear ha hb
      have c0 := HR3.out.bd.cell 0 _ rfl; have c1 := HR3.out.bd.cell 1 _ rfl; have c2 := HR3.out.bd.cell 2 _ rfl; have c3 := HR3.out.bd.cell 3 _ rfl; have c4 := HR3.out.bd.cell 4 _ rfl; have c5 := HR3.out.bd.cell 5 _ rfl; have c6 := HR3.out.bd.cell 6 _ rfl; have c7 := HR3.out.bd.cell 7 _ rfl; have c8 := HR3.out.bd.cell 8 _ rfl; have c9 := HR3.out.bd.cell 9 _ rfl; have c10 := HR3.out.bd.cell 10 _ rfl; have c11 := HR3.out.bd.cell 11 _ rfl
      have hlY3 : y < w3.heap.size := HR3.out.bd.lt
      have mb1 : (env.length + 1) * 24 ≤ 140737488355328 := by omega
      have mb2 : env.length + 1 ≤ maxLen := by unfold maxLen; omega
      have HOK := Lib.hid (show okBd ⟨s, i⟩ from ⟨hs, hi0, hi1⟩)
      have HFX := Lib.hid (show ∀ o, Fr encBd okBd 2 24 (w3.alloc o).drew env (.slice Ae env.length env.length) from fun o => (((HR3.out.env).alloc o).drew).clip.fr)
      have HA := Lib.hid (show ∀ wf v3 o, OwnL (Flat encBd okBd) 2 123 wf (w3.alloc o).drew.heap.size Nowhere (env ++ [⟨s, i⟩]) v3 → Below (w3.alloc o).drew.heap.size (w3.alloc o).drew wf → SLp base d F S y [.int .i64 7, .string s, .int .i64 k1, .int .i64 n1, .string s1, .slice A1 m1 p1, .int .i64 k2, .int .i64 n2, .string s2, .slice A2 m2 p2, .slice A3 body.length p3, .slice A4 els.length p4] a b (exV k1 n1 s1 (.slice A1 m1 p1)) (exV k2 n2 s2 (.slice A2 m2 p2)) body (.slice A3 body.length p3) w X wf X' m'.step env (.slice Ae env.length ce) ∧ SameAt y w3 wf ∧ FrX X' wf (env ++ [⟨s, i⟩]) v3 from fun wf v3 o ho hb => by
        have hb2 : Below w3.heap.size w3 wf := (((Below.refl _ _).alloc (Nat.le_refl _) o).drew).trans (hb.mono (by show w3.heap.size ≤ (w3.alloc o).heap.size; simp))
        exact ⟨HR3.out.below hb2, SLp.sameAt HR3.out (But.of_below hb2), FrX.own ho (by simp; omega) (fun k hk => by have := HR3.out.at_.lt k hk; show k < (w3.alloc o).heap.size; simp only [World.size_alloc]; omega)⟩)
      have HBL := Lib.hid (show ∀ wf v3 r, SLp base d F S y [.int .i64 7, .string s, .int .i64 k1, .int .i64 n1, .string s1, .slice A1 m1 p1, .int .i64 k2, .int .i64 n2, .string s2, .slice A2 m2 p2, .slice A3 body.length p3, .slice A4 els.length p4] a b (exV k1 n1 s1 (.slice A1 m1 p1)) (exV k2 n2 s2 (.slice A2 m2 p2)) body (.slice A3 body.length p3) w X wf X' m'.step env (.slice Ae env.length ce) → FrX X' wf (env ++ [⟨s, i⟩]) v3 → blR F body (env ++ [⟨s, i⟩]) lab m'.step = r → Calls Try.prog 53 #[.pointer (some ⟨d, 0, none⟩), .slice A3 body.length p3, v3, vI (lab : Int)] wf (OutB base d F wf X' r) from fun wf v3 r h hf hr =>
        HBO.out base wf d X' m'.step (env ++ [⟨s, i⟩]) lab S _ _ h.at_ h.hS h.r1 hf (by simp [MS.step]; omega) hlab hwl r hr)
      cases hrb : blR F body (env ++ [⟨s, i⟩]) lab m'.step with
      | none =>
        have hrn : res = none := by
          have := HGO.out
          rw [hrb] at this
          exact this.symm
        subst hrn
        go_upto_region 5 with (fail)
        go_region_held2 (fun w' => SameAt y w3 w') (first | assumption | exact SameAt.refl _ _ | exact SameAt.drew (SameAt.refl _ _) | exact SameAt.drew (SameAt.alloc hlY3 (SameAt.refl _ _) _))
          (first
              | ((go_at_call 61; refine (clip_any Ae env.length ce hce1 hce2 _).mono ?_; rintro e wc ⟨rfl, rfl⟩))
              | ((refine step_append_full (by rfl) (.tmp 29) (.tmp 34) 106 (by rfl) (by rfl) (by rfl) ⟨s, i⟩ i0 _ Try.underlying106 hi hz0 hz1' hz2 rfl (by decide) encBd_len oneBd ?_ ?_ ?_ mb1 mb2 ?_; exact HFX.out _; exact HOK.out; exact cells_newAt _ [_, _] _ rfl; intro v3 wf ho3 hbf; obtain ⟨hr5, hs5, hf5⟩ := HA.out wf v3 _ ho3 hbf))
              | ((go_at_call 53; refine (HBL.out wf _ _ hr5 hf5 hrb).mono ?_; rintro e w4 ⟨rfl, hb⟩; have hbx := hr5.but.transNew' hb hr5.sub; refine (fun (_ : False → (‹Act → World → Prop›) { tmps := #[], defers := [] } w4) => ⟨rfl, rfl, hbx⟩) (fun hF => ?_); have hs6 : SameAt y w3 w4 := hF.elim)))
        all_goals exact hF.elim
      | some mf =>
        have HRES := Lib.hid (by have := HGO.out; rw [hrb] at this; exact this : forR F tz (fun i m => blR F body (env ++ [⟨s, i⟩]) lab m) n0 (i + 1) mf = res)
        have hmo := blR_mono F _ _ _ _ _ hrb
        have HC4 := Lib.hid (show ∀ wf w4 X4, SLp base d F S y [.int .i64 7, .string s, .int .i64 k1, .int .i64 n1, .string s1, .slice A1 m1 p1, .int .i64 k2, .int .i64 n2, .string s2, .slice A2 m2 p2, .slice A3 body.length p3, .slice A4 els.length p4] a b (exV k1 n1 s1 (.slice A1 m1 p1)) (exV k2 n2 s2 (.slice A2 m2 p2)) body (.slice A3 body.length p3) w X wf X' m'.step env (.slice Ae env.length ce) → SameAt y w3 wf → But X' wf w4 → RnAt base w4 d X4 F mf → Sub X4 (Plus X' wf.heap.size w4.heap.size) → SLp base d F S y [.int .i64 7, .string s, .int .i64 k1, .int .i64 n1, .string s1, .slice A1 m1 p1, .int .i64 k2, .int .i64 n2, .string s2, .slice A2 m2 p2, .slice A3 body.length p3, .slice A4 els.length p4] a b (exV k1 n1 s1 (.slice A1 m1 p1)) (exV k2 n2 s2 (.slice A2 m2 p2)) body (.slice A3 body.length p3) w X w4 X4 mf env (.slice Ae env.length ce) ∧ SameAt y w3 w4 from fun wf w4 X4 h g hb ha hs => ⟨h.step hb ha hs, g.trans (SLp.sameAt h hb)⟩)
        go_upto_region 5 with (fail)
        go_region_held3 (fun w' => SameAt y w3 w') (first | assumption | exact SameAt.refl _ _ | exact SameAt.drew (SameAt.refl _ _) | exact SameAt.drew (SameAt.alloc hlY3 (SameAt.refl _ _) _))
          (first
              | ((go_at_call 61; refine (clip_any Ae env.length ce hce1 hce2 _).mono ?_; rintro e wc ⟨rfl, rfl⟩))
              | ((refine step_append_full (by rfl) (.tmp 29) (.tmp 34) 106 (by rfl) (by rfl) (by rfl) ⟨s, i⟩ i0 _ Try.underlying106 hi hz0 hz1' hz2 rfl (by decide) encBd_len oneBd ?_ ?_ ?_ mb1 mb2 ?_; exact HFX.out _; exact HOK.out; exact cells_newAt _ [_, _] _ rfl; intro v3 wf ho3 hbf; obtain ⟨hr5, hs5, hf5⟩ := HA.out wf v3 _ ho3 hbf))
              | ((go_at_call 53; refine (HBL.out wf _ _ hr5 hf5 hrb).mono ?_; rintro e w4 ⟨rfl, ⟨X4, ha, hs4⟩, hb⟩; obtain ⟨hr6, hs6⟩ := HC4.out wf w4 X4 hr5 hs5 hb ha hs4)))
        all_goals
          have hst6 : m'.st + 1 ≤ mf.st := hmo
          have HR6 := Lib.hid hr6
          clear hr6 hr5 hs5 hs6 hf5 ha hs4 hb hbf ho3 hrb HC4 HBL HA HFX hmo
          go_wp2
          go_roundw
          case rel => exact ⟨i + 1, n0, mf, X4, by go_num, by omega, by omega, by omega, by omega, HRES, HR6⟩
          case measure => simp [intOf]; omega
    · have hr := HRES.out
      rw [forR_end hlt] at hr
      subst hr
      go_wp2
      go_end0
      exact ⟨rfl, ⟨X', HR.out.at_, HR.out.sub⟩, HR.out.but⟩
/-- the runner's block, at every program -/
theorem pblk_all' (F N : Nat) : ∀ l : List St, SizeOf.sizeOf l ≤ N → PBk F l := by
  induction N with
  | zero => intro l h; cases l with
    | nil => exact block_one F [] (fun _ _ _ _ _ _ hm => by simp at hm)
    | cons s r => simp at h
  | succ N ih =>
    intro l hl
    refine block_one F l fun k s a b body els hm => ?_
    have h1 := List.sizeOf_lt_of_mem hm
    simp at h1
    exact ⟨ih _ (by omega), ih _ (by omega), loop_any F s a b body els (ih _ (by omega))⟩
theorem pblk_all (F : Nat) (l : List St) : PBk F l := pblk_all' F _ l (Nat.le_refl _)
end Go.Proofs.Ytdelngmbpjgphaa
