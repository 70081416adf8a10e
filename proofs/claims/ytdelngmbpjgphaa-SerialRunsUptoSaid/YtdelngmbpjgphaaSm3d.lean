/- The walk of the reference's mblock, at a list with a first one: async, finish. -/
import Derived.Test.YtdelngmbpjgphaaSm3
namespace Go.Proofs.Ytdelngmbpjgphaa
open Go.RowKit
set_option linter.unusedVariables false
set_option maxHeartbeats 8000000 in
set_option maxRecDepth 100000 in
theorem pmk_d (F : Nat) (k : Int) (s : ByteArray) (a b : Ex) (body els rest : List St) (hrest : PMk F rest) (hbody : PMk F body) (hels : PMk F els) (hk9 : 4 ≤ k ∧ k ≤ 5) : PMk F (.mk k s a b body els :: rest) := by
  intro base w d X m env lab S v ve hat hS r hfx hel hlab hwl res hres
  obtain ⟨A, cap, rfl, hl, hcm, hby⟩ := r.form
  obtain ⟨Ae, ce, rfl, hce1, hce2⟩ := hfx.form
  unfold maxLen at hcm
  have hbs : base ≤ w.heap.size := by have := hat.1.bd d hat.1.X0; omega
  obtain ⟨b0, off, cs, rfl, hb, hcl, hcell, hrd⟩ := r.at_ (q := 0) (by simp)
  have hb : b0 < base := hS _ hb
  simp only [List.getElem_cons_zero] at hrd
  have hrs := hrd
  obtain ⟨k1, n1, s1, A1, m1, p1, k2, n2, s2, A2, m2, p2, A3, p3, A4, p4, rfl, hk, hs, ra, rb, rv, rv'⟩ := hrd.cells
  have hln : (St.mk k s a b body els :: rest).length = rest.length + 1 := rfl
  have e0 : w.cell? ⟨b0, off, none⟩ = some _ := hcell 0 _ rfl
  have e1 : w.cell? ⟨b0, off + 1, none⟩ = some _ := hcell 1 _ rfl; have e2 : w.cell? ⟨b0, off + 2, none⟩ = some _ := hcell 2 _ rfl; have e3 : w.cell? ⟨b0, off + 3, none⟩ = some _ := hcell 3 _ rfl; have e4 : w.cell? ⟨b0, off + 4, none⟩ = some _ := hcell 4 _ rfl; have e5 : w.cell? ⟨b0, off + 5, none⟩ = some _ := hcell 5 _ rfl; have e6 : w.cell? ⟨b0, off + 6, none⟩ = some _ := hcell 6 _ rfl; have e7 : w.cell? ⟨b0, off + 7, none⟩ = some _ := hcell 7 _ rfl; have e8 : w.cell? ⟨b0, off + 8, none⟩ = some _ := hcell 8 _ rfl; have e9 : w.cell? ⟨b0, off + 9, none⟩ = some _ := hcell 9 _ rfl; have e10 : w.cell? ⟨b0, off + 10, none⟩ = some _ := hcell 10 _ rfl; have e11 : w.cell? ⟨b0, off + 11, none⟩ = some _ := hcell 11 _ rfl
  rw [St.wts, St.wt] at hwl
  rw [labelsL] at hlab
  have hx0 : St.wts rest ≤ 1048576 := by omega
  have hx3 : St.wts body ≤ 1048576 := by omega
  have hx4 : St.wts els ≤ 1048576 := by omega
  have hw1 : St.wts [St.mk k s a b body els] ≤ 1048576 := by
    have : St.wts [St.mk k s a b body els] = St.wt (.mk k s a b body els) := by simp [St.wts]
    rw [this, St.wt]; omega
  have hw1e : labelsL [St.mk k s a b body els] = labelsS (.mk k s a b body els) := by simp [labelsL]
  have hsu : Sub S (Upto w.heap.size) := hS.trans (Sub.upto hbs)
  have hbel : Below w.heap.size w (w.alloc (.cells #[.slice Ae env.length ce] 106)) := (Below.refl _ _).alloc (Nat.le_refl _) _
  have hHK : MnAt base (w.alloc (.cells #[.slice Ae env.length ce] 106)) d X F m := ⟨hat.1.below hbel, hat.2⟩
  have hHG : Blk base (w.alloc (.cells #[.slice Ae env.length ce] 106)) w.heap.size [.slice Ae env.length ce] := Blk.made w _ 106 hbs
  have hHF : FrX (Both X (Is w.heap.size)) (w.alloc (.cells #[.slice Ae env.length ce] 106)) env (.slice Ae env.length ce) := by
    obtain ⟨T, h1, h2, h3⟩ := hfx.below hbel
    obtain ⟨T, h1, h2, h3⟩ := hfx
    exact ⟨T, h1.trans (Sub.upto hbel.size), fun k hk e => e.elim (h2 k hk) (fun e => by have e : k = w.heap.size := e; have := h1 k hk; simp only [Upto] at this; omega), h3.keep Flat.keeps (Sub.refl _) (same_of_below hbel h1)⟩
  have hng : ¬ X w.heap.size := fun e => by have := hat.lt _ e; omega
  have hRW := r.go RdSt.keeps hbel hsu (Sub.refl _)
  have hra := (RdEx.toE ra).go hbel hsu
  have hrb := (RdEx.toE rb).go hbel hsu
  have hrv := rv.go RdSt.keeps hbel hsu (Sub.refl _)
  have hrv' := rv'.go RdSt.keeps hbel hsu (Sub.refl _)
  have hG0 := fun k hk => (hat.1.bd k hk).1
  obtain ⟨g, hg⟩ : ∃ g, g = w.heap.size := ⟨_, rfl⟩
  have hgW : ((w.alloc (.cells #[.slice Ae env.length ce] 106))).heap.size = g + 1 := by simp [hg]
  have hn1 : (1 : Int) ≤ ((rest.length + 1 : Nat) : Int) := by omega
  have en : (((rest.length + 1 : Nat) : Int) == 0) = false := by simp; omega
  have hb0w : b0 < w.heap.size := by omega
  rw [hln] at hl
  rw [← hw1e] at hlab
  have HRES := Lib.hid hres
  have HI := Lib.hid (And.intro hrest (And.intro hbody hels))
  have HG0 := Lib.hid (show ∀ k, X k → base ≤ k from hG0)
  have HS := Lib.hid hS
  have HOKs := Lib.hid (show s.size ≤ 140737488355328 from hs)
  clear hres hrest hbody hels hat hfx hG0 hrd hrs ra rb rv rv' r hcell hcl hs hwl
  have c0 := (hbel.cell hb0w).trans e0; have c1 := (hbel.cell hb0w).trans e1; have c2 := (hbel.cell hb0w).trans e2; have c3 := (hbel.cell hb0w).trans e3; have c4 := (hbel.cell hb0w).trans e4; have c5 := (hbel.cell hb0w).trans e5; have c6 := (hbel.cell hb0w).trans e6; have c7 := (hbel.cell hb0w).trans e7; have c8 := (hbel.cell hb0w).trans e8; have c9 := (hbel.cell hb0w).trans e9; have c10 := (hbel.cell hb0w).trans e10; have c11 := (hbel.cell hb0w).trans e11
  clear e0 e1 e2 e3 e4 e5 e6 e7 e8 e9 e10 e11
  rw [← hg] at hHG hHF hng
  go_enter Try.func31, Try.ntmps31
  go_upto_region 3 with (fail)
  rw [← hg]
  generalize (w.alloc (.cells #[.slice Ae env.length ce] 106)) = W at *
  have HK := Lib.hid (And.intro hHK (And.intro hHG (And.intro hHF (And.intro hng hbel))))
  have HRT := Lib.hid (show RdSts W S rest _ from RdL.drop hRW (k := 1) (by simp))
  have HR1 := Lib.hid (show RdSts W S [.mk k s a b body els] _ from RdL.take hRW (m := 1) (by simp))
  have HSW := Lib.hid (hsu.trans (Sub.upto hbel.size))
  have HLB := Lib.hid (fun w S v hS r => (labs_all _ [St.mk k s a b body els] (Nat.le_refl _)).2 w S v hS r hw1)
  obtain ⟨N1, hN1⟩ : ∃ N1, N1 = labelsL [St.mk k s a b body els] := ⟨_, rfl⟩
  rw [← hN1] at HLB hlab
  have HN1 := Lib.hid hN1
  have hgl : g < W.heap.size := by omega
  have hwg : w.heap.size ≤ g := by omega
  have hb0l : b0 < W.heap.size := by omega
  have hbW : base ≤ W.heap.size := by omega
  clear hHK hHG hHF hng hbel hRW hsu hN1 hw1e hgW hg
  go_cut [11, 12, 13] (fun x11 x12 x13 wx => ∃ y, x11 = .pointer (some ⟨y, 0, none⟩) ∧ W.heap.size ≤ y ∧ (∃ A5 c5, x12 = .slice A5 rest.length c5 ∧ Hid (RdSts wx S rest x12)) ∧ x13 = vI ((lab : Int) + (N1 : Int)) ∧ Hid (Rnd base S y [.int .i64 k, .string s, .int .i64 k1, .int .i64 n1, .string s1, .slice A1 m1 p1, .int .i64 k2, .int .i64 n2, .string s2, .slice A2 m2 p2, .slice A3 body.length p3, .slice A4 els.length p4] a b (exV k1 n1 s1 (.slice A1 m1 p1)) (exV k2 n2 s2 (.slice A2 m2 p2)) body els (.slice A3 body.length p3) (.slice A4 els.length p4) wx) ∧ Hid (Below W.heap.size W wx))
  case first =>
    focus
      skip
      have hwl1 := i64_2 (show lab + N1 ≤ 1048577 by omega)
      have hwl2 := w64_2 (show lab + N1 ≤ 1048577 by omega)
      have hc1 : (1 : Int) ≤ (cap : Int) := by omega
      have H1C := Lib.hid (show ([.int .i64 k, .string s, .int .i64 k1, .int .i64 n1, .string s1, .slice A1 m1 p1, .int .i64 k2, .int .i64 n2, .string s2, .slice A2 m2 p2, .slice A3 body.length p3, .slice A4 els.length p4] : List Value).toArray.all (·.oneCell') = true by simp [Value.oneCell'])
      have HIS := Lib.hid (show (Try.prog.info? 112).map (·.size) = some ([.int .i64 k, .string s, .int .i64 k1, .int .i64 n1, .string s1, .slice A1 m1 p1, .int .i64 k2, .int .i64 n2, .string s2, .slice A2 m2 p2, .slice A3 body.length p3, .slice A4 els.length p4] : List Value).length from by kernel_rfl)
      have hn0 : (0 : Int) < ((rest.length + 1 : Nat) : Int) := by omega
      have hn4 : (1 : Int) ≤ (rest.length : Int) + 1 := by omega
      have hn5 : (rest.length : Int) + 1 ≤ (cap : Int) := by omega
      have hn6 : (0 : Int) < (rest.length : Int) + 1 := by omega
      have HZ := Lib.hid (show ∀ pre wl : World, Below pre.heap.size pre wl → pre.heap = (W.alloc (.cells [.int .i64 0, .string .empty, .int .i64 0, .int .i64 0, .string .empty, .slice none 0 0, .int .i64 0, .int .i64 0, .string .empty, .slice none 0 0, .slice none 0 0, .slice none 0 0].toArray 112)).heap → Blk base wl W.heap.size [.int .i64 0, .string .empty, .int .i64 0, .int .i64 0, .string .empty, .slice none 0 0, .int .i64 0, .int .i64 0, .string .empty, .slice none 0 0, .slice none 0 0, .slice none 0 0] from fun pre wl hb hp => by
        have B := Blk.made W [.int .i64 0, .string .empty, .int .i64 0, .int .i64 0, .string .empty, .slice none 0 0, .int .i64 0, .int .i64 0, .string .empty, .slice none 0 0, .slice none 0 0, .slice none 0 0] 112 (base := base) (by omega)
        exact (Blk.mk B.ge (by rw [hp]; exact B.lt) (fun q v h => by rw [show pre.cell? _ = _ from by unfold World.cell?; rw [hp]]; exact B.cell q v h) (fun o => by rw [show pre.frozen? _ = _ from by unfold World.frozen?; rw [hp]]; exact B.fr o) : Blk base pre W.heap.size [.int .i64 0, .string .empty, .int .i64 0, .int .i64 0, .string .empty, .slice none 0 0, .int .i64 0, .int .i64 0, .string .empty, .slice none 0 0, .slice none 0 0, .slice none 0 0]).below hb)
      have HSA := Lib.hid (show ∀ wl : World, Blk base wl W.heap.size [.int .i64 0, .string .empty, .int .i64 0, .int .i64 0, .string .empty, .slice none 0 0, .int .i64 0, .int .i64 0, .string .empty, .slice none 0 0, .slice none 0 0, .slice none 0 0] → Stay W wl → ∃ wf, (Instr.storeAt 112 (.pointer (some ⟨W.heap.size, 0, none⟩)) (.agg ([.int .i64 k, .string s, .int .i64 k1, .int .i64 n1, .string s1, .slice A1 m1 p1, .int .i64 k2, .int .i64 n2, .string s2, .slice A2 m2 p2, .slice A3 body.length p3, .slice A4 els.length p4] : List Value).toArray)).run Try.prog wl = .ok () wf ∧ Stay W wf ∧ Hid (Blk base wf W.heap.size [.int .i64 k, .string s, .int .i64 k1, .int .i64 n1, .string s1, .slice A1 m1 p1, .int .i64 k2, .int .i64 n2, .string s2, .slice A2 m2 p2, .slice A3 body.length p3, .slice A4 els.length p4]) from fun wl B hs => by
        obtain ⟨q1, q2, q3⟩ := storeAt_blk (cs := [.int .i64 k, .string s, .int .i64 k1, .int .i64 n1, .string s1, .slice A1 m1 p1, .int .i64 k2, .int .i64 n2, .string s2, .slice A2 m2 p2, .slice A3 body.length p3, .slice A4 els.length p4]) B rfl HIS.out H1C.out
        exact ⟨_, q1, Stay.of (hs.below.trans (q3.below hs.size (fun k hk => Nat.le_of_eq (show W.heap.size = k from hk.symm)))), Lib.hid q2⟩)
      have HRM := Lib.hid (show ∀ (w' : World) (y : Nat), Stay W w' → Blk base w' y [.int .i64 k, .string s, .int .i64 k1, .int .i64 n1, .string s1, .slice A1 m1 p1, .int .i64 k2, .int .i64 n2, .string s2, .slice A2 m2 p2, .slice A3 body.length p3, .slice A4 els.length p4] → Rnd base S y [.int .i64 k, .string s, .int .i64 k1, .int .i64 n1, .string s1, .slice A1 m1 p1, .int .i64 k2, .int .i64 n2, .string s2, .slice A2 m2 p2, .slice A3 body.length p3, .slice A4 els.length p4] a b (exV k1 n1 s1 (.slice A1 m1 p1)) (exV k2 n2 s2 (.slice A2 m2 p2)) body els (.slice A3 body.length p3) (.slice A4 els.length p4) w' from fun w' y hs hb => ⟨hb, hra.keep (Sub.refl _) (Same.sub (Stay.same hs) HSW.out), hrb.keep (Sub.refl _) (Same.sub (Stay.same hs) HSW.out), hrv.keep RdSt.keeps (Sub.refl _) (Same.sub (Stay.same hs) HSW.out), hrv'.keep RdSt.keeps (Sub.refl _) (Same.sub (Stay.same hs) HSW.out)⟩)
      clear hra hrb hrv hrv'
      by_cases hc3 : cap = 1
      · subst hc3
        have HR0 := Lib.hid (show rest = [] from List.eq_nil_of_length_eq_zero (by omega))
        go_region_held3 (fun w' => Stay W w') (first | assumption | exact Stay.mk (Kept.start _) | (refine Stay.mk ?_; (repeat (with_reducible first | refine Kept.set ?_ (Nat.le_refl _) _ | refine Kept.drew ?_ | refine Kept.alloc ?_ _)); first | exact Kept.refl _ | assumption))
          (first
            | ((go_at_call 48; refine (HLB.out _ S _ (HSW.out.trans (Sub.upto (Stay.size (by first | assumption | exact Stay.mk (Kept.start _))))) (HR1.out.keep RdSt.keeps (Sub.refl _) (Same.sub (Stay.same (by first | assumption | exact Stay.mk (Kept.start _))) HSW.out))).mono ?_; rintro e wl ⟨rfl, hbl⟩; have hst1 : Stay W wl := Stay.step hbl (by first | assumption | exact Stay.mk (Kept.start _)); have hk1 : Kept W wl := Kept.here hst1; have HZZ := Lib.hid (HZ.out _ wl hbl rfl)))
            | ((go_at_call 48; refine (HLB.out _ S _ (HSW.out.trans (Sub.upto (Stay.size (by first | assumption | exact Stay.mk (Kept.start _))))) (HR1.out.keep RdSt.keeps (Sub.refl _) (Same.sub (Stay.same (by first | assumption | exact Stay.mk (Kept.start _))) HSW.out))).mono ?_; rintro e wl ⟨rfl, hbl⟩; have hst1 : Stay W wl := Stay.step hbl (by first | assumption | exact Stay.mk (Kept.start _)); have hk1 : Kept W wl := Kept.here hst1))
            | ((have b0 := HZZ.out; have g0 := Kept.here hst1; have z0 := b0.cell 0 _ rfl; have f0 := b0.fr 0; simp only [z0, f0, Bool.false_eq_true, if_false, Result.andThen_ok]; clear z0 f0; have b1 := b0.set (i := 0) (show 0 < 12 from by decide) (Value.int .i64 k); clear b0; have g1 := Kept.set (b := W.heap.size) (off := 0) (sp := none) g0 (Nat.le_refl _) (Value.int .i64 k); clear g0; have z1 := b1.cell 1 _ rfl; have f1 := b1.fr 1; simp only [z1, f1, Bool.false_eq_true, if_false, Result.andThen_ok]; clear z1 f1; have b2 := b1.set (i := 1) (show 1 < 12 from by decide) (Value.string s); clear b1; have g2 := Kept.set (b := W.heap.size) (off := 1) (sp := none) g1 (Nat.le_refl _) (Value.string s); clear g1; have z2 := b2.cell 2 _ rfl; have f2 := b2.fr 2; simp only [z2, f2, Bool.false_eq_true, if_false, Result.andThen_ok]; clear z2 f2; have b3 := b2.set (i := 2) (show 2 < 12 from by decide) (Value.int .i64 k1); clear b2; have g3 := Kept.set (b := W.heap.size) (off := 2) (sp := none) g2 (Nat.le_refl _) (Value.int .i64 k1); clear g2; have z3 := b3.cell 3 _ rfl; have f3 := b3.fr 3; simp only [z3, f3, Bool.false_eq_true, if_false, Result.andThen_ok]; clear z3 f3; have b4 := b3.set (i := 3) (show 3 < 12 from by decide) (Value.int .i64 n1); clear b3; have g4 := Kept.set (b := W.heap.size) (off := 3) (sp := none) g3 (Nat.le_refl _) (Value.int .i64 n1); clear g3; have z4 := b4.cell 4 _ rfl; have f4 := b4.fr 4; simp only [z4, f4, Bool.false_eq_true, if_false, Result.andThen_ok]; clear z4 f4; have b5 := b4.set (i := 4) (show 4 < 12 from by decide) (Value.string s1); clear b4; have g5 := Kept.set (b := W.heap.size) (off := 4) (sp := none) g4 (Nat.le_refl _) (Value.string s1); clear g4; have z5 := b5.cell 5 _ rfl; have f5 := b5.fr 5; simp only [z5, f5, Bool.false_eq_true, if_false, Result.andThen_ok]; clear z5 f5; have b6 := b5.set (i := 5) (show 5 < 12 from by decide) (Value.slice A1 m1 p1); clear b5; have g6 := Kept.set (b := W.heap.size) (off := 5) (sp := none) g5 (Nat.le_refl _) (Value.slice A1 m1 p1); clear g5; have z6 := b6.cell 6 _ rfl; have f6 := b6.fr 6; simp only [z6, f6, Bool.false_eq_true, if_false, Result.andThen_ok]; clear z6 f6; have b7 := b6.set (i := 6) (show 6 < 12 from by decide) (Value.int .i64 k2); clear b6; have g7 := Kept.set (b := W.heap.size) (off := 6) (sp := none) g6 (Nat.le_refl _) (Value.int .i64 k2); clear g6; have z7 := b7.cell 7 _ rfl; have f7 := b7.fr 7; simp only [z7, f7, Bool.false_eq_true, if_false, Result.andThen_ok]; clear z7 f7; have b8 := b7.set (i := 7) (show 7 < 12 from by decide) (Value.int .i64 n2); clear b7; have g8 := Kept.set (b := W.heap.size) (off := 7) (sp := none) g7 (Nat.le_refl _) (Value.int .i64 n2); clear g7; have z8 := b8.cell 8 _ rfl; have f8 := b8.fr 8; simp only [z8, f8, Bool.false_eq_true, if_false, Result.andThen_ok]; clear z8 f8; have b9 := b8.set (i := 8) (show 8 < 12 from by decide) (Value.string s2); clear b8; have g9 := Kept.set (b := W.heap.size) (off := 8) (sp := none) g8 (Nat.le_refl _) (Value.string s2); clear g8; have z9 := b9.cell 9 _ rfl; have f9 := b9.fr 9; simp only [z9, f9, Bool.false_eq_true, if_false, Result.andThen_ok]; clear z9 f9; have b10 := b9.set (i := 9) (show 9 < 12 from by decide) (Value.slice A2 m2 p2); clear b9; have g10 := Kept.set (b := W.heap.size) (off := 9) (sp := none) g9 (Nat.le_refl _) (Value.slice A2 m2 p2); clear g9; have z10 := b10.cell 10 _ rfl; have f10 := b10.fr 10; simp only [z10, f10, Bool.false_eq_true, if_false, Result.andThen_ok]; clear z10 f10; have b11 := b10.set (i := 10) (show 10 < 12 from by decide) (Value.slice A3 body.length p3); clear b10; have g11 := Kept.set (b := W.heap.size) (off := 10) (sp := none) g10 (Nat.le_refl _) (Value.slice A3 body.length p3); clear g10; have z11 := b11.cell 11 _ rfl; have f11 := b11.fr 11; simp only [z11, f11, Bool.false_eq_true, if_false, Result.andThen_ok]; clear z11 f11; have b12 := b11.set (i := 11) (show 11 < 12 from by decide) (Value.slice A4 els.length p4); clear b11; have g12 := Kept.set (b := W.heap.size) (off := 11) (sp := none) g11 (Nat.le_refl _) (Value.slice A4 els.length p4); clear g11; have hst2 := Stay.mk g12; have HBF2 := Lib.hid b12; clear b12 g12))
            | fail)
        all_goals (try go_wp2_with fail)
        all_goals go_meet
        all_goals (have hr0 := HR0.out; subst hr0)
        all_goals refine ⟨_, rfl, ?_, ⟨_, _, rfl, Lib.hid ?_⟩, rfl, Lib.hid (HRM.out _ _ (by assumption) ?_), Lib.hid (Stay.below (by assumption))⟩
        all_goals (first | exact Nat.le_refl _ | exact Stay.size hst1 | exact HBF2.out | exact Blk.made wl _ 112 (Nat.le_trans hbW (Stay.size hst1)) | exact RdL.nil (by simp [maxLen]))
      · have hc2 : (1 : Int) < (cap : Int) := by omega
        go_region_held3 (fun w' => Stay W w') (first | assumption | exact Stay.mk (Kept.start _) | (refine Stay.mk ?_; (repeat (with_reducible first | refine Kept.set ?_ (Nat.le_refl _) _ | refine Kept.drew ?_ | refine Kept.alloc ?_ _)); first | exact Kept.refl _ | assumption))
          (first
            | ((go_at_call 48; refine (HLB.out _ S _ (HSW.out.trans (Sub.upto (Stay.size (by first | assumption | exact Stay.mk (Kept.start _))))) (HR1.out.keep RdSt.keeps (Sub.refl _) (Same.sub (Stay.same (by first | assumption | exact Stay.mk (Kept.start _))) HSW.out))).mono ?_; rintro e wl ⟨rfl, hbl⟩; have hst1 : Stay W wl := Stay.step hbl (by first | assumption | exact Stay.mk (Kept.start _)); have hk1 : Kept W wl := Kept.here hst1; have HZZ := Lib.hid (HZ.out _ wl hbl rfl)))
            | ((go_at_call 48; refine (HLB.out _ S _ (HSW.out.trans (Sub.upto (Stay.size (by first | assumption | exact Stay.mk (Kept.start _))))) (HR1.out.keep RdSt.keeps (Sub.refl _) (Same.sub (Stay.same (by first | assumption | exact Stay.mk (Kept.start _))) HSW.out))).mono ?_; rintro e wl ⟨rfl, hbl⟩; have hst1 : Stay W wl := Stay.step hbl (by first | assumption | exact Stay.mk (Kept.start _)); have hk1 : Kept W wl := Kept.here hst1))
            | ((have b0 := HZZ.out; have g0 := Kept.here hst1; have z0 := b0.cell 0 _ rfl; have f0 := b0.fr 0; simp only [z0, f0, Bool.false_eq_true, if_false, Result.andThen_ok]; clear z0 f0; have b1 := b0.set (i := 0) (show 0 < 12 from by decide) (Value.int .i64 k); clear b0; have g1 := Kept.set (b := W.heap.size) (off := 0) (sp := none) g0 (Nat.le_refl _) (Value.int .i64 k); clear g0; have z1 := b1.cell 1 _ rfl; have f1 := b1.fr 1; simp only [z1, f1, Bool.false_eq_true, if_false, Result.andThen_ok]; clear z1 f1; have b2 := b1.set (i := 1) (show 1 < 12 from by decide) (Value.string s); clear b1; have g2 := Kept.set (b := W.heap.size) (off := 1) (sp := none) g1 (Nat.le_refl _) (Value.string s); clear g1; have z2 := b2.cell 2 _ rfl; have f2 := b2.fr 2; simp only [z2, f2, Bool.false_eq_true, if_false, Result.andThen_ok]; clear z2 f2; have b3 := b2.set (i := 2) (show 2 < 12 from by decide) (Value.int .i64 k1); clear b2; have g3 := Kept.set (b := W.heap.size) (off := 2) (sp := none) g2 (Nat.le_refl _) (Value.int .i64 k1); clear g2; have z3 := b3.cell 3 _ rfl; have f3 := b3.fr 3; simp only [z3, f3, Bool.false_eq_true, if_false, Result.andThen_ok]; clear z3 f3; have b4 := b3.set (i := 3) (show 3 < 12 from by decide) (Value.int .i64 n1); clear b3; have g4 := Kept.set (b := W.heap.size) (off := 3) (sp := none) g3 (Nat.le_refl _) (Value.int .i64 n1); clear g3; have z4 := b4.cell 4 _ rfl; have f4 := b4.fr 4; simp only [z4, f4, Bool.false_eq_true, if_false, Result.andThen_ok]; clear z4 f4; have b5 := b4.set (i := 4) (show 4 < 12 from by decide) (Value.string s1); clear b4; have g5 := Kept.set (b := W.heap.size) (off := 4) (sp := none) g4 (Nat.le_refl _) (Value.string s1); clear g4; have z5 := b5.cell 5 _ rfl; have f5 := b5.fr 5; simp only [z5, f5, Bool.false_eq_true, if_false, Result.andThen_ok]; clear z5 f5; have b6 := b5.set (i := 5) (show 5 < 12 from by decide) (Value.slice A1 m1 p1); clear b5; have g6 := Kept.set (b := W.heap.size) (off := 5) (sp := none) g5 (Nat.le_refl _) (Value.slice A1 m1 p1); clear g5; have z6 := b6.cell 6 _ rfl; have f6 := b6.fr 6; simp only [z6, f6, Bool.false_eq_true, if_false, Result.andThen_ok]; clear z6 f6; have b7 := b6.set (i := 6) (show 6 < 12 from by decide) (Value.int .i64 k2); clear b6; have g7 := Kept.set (b := W.heap.size) (off := 6) (sp := none) g6 (Nat.le_refl _) (Value.int .i64 k2); clear g6; have z7 := b7.cell 7 _ rfl; have f7 := b7.fr 7; simp only [z7, f7, Bool.false_eq_true, if_false, Result.andThen_ok]; clear z7 f7; have b8 := b7.set (i := 7) (show 7 < 12 from by decide) (Value.int .i64 n2); clear b7; have g8 := Kept.set (b := W.heap.size) (off := 7) (sp := none) g7 (Nat.le_refl _) (Value.int .i64 n2); clear g7; have z8 := b8.cell 8 _ rfl; have f8 := b8.fr 8; simp only [z8, f8, Bool.false_eq_true, if_false, Result.andThen_ok]; clear z8 f8; have b9 := b8.set (i := 8) (show 8 < 12 from by decide) (Value.string s2); clear b8; have g9 := Kept.set (b := W.heap.size) (off := 8) (sp := none) g8 (Nat.le_refl _) (Value.string s2); clear g8; have z9 := b9.cell 9 _ rfl; have f9 := b9.fr 9; simp only [z9, f9, Bool.false_eq_true, if_false, Result.andThen_ok]; clear z9 f9; have b10 := b9.set (i := 9) (show 9 < 12 from by decide) (Value.slice A2 m2 p2); clear b9; have g10 := Kept.set (b := W.heap.size) (off := 9) (sp := none) g9 (Nat.le_refl _) (Value.slice A2 m2 p2); clear g9; have z10 := b10.cell 10 _ rfl; have f10 := b10.fr 10; simp only [z10, f10, Bool.false_eq_true, if_false, Result.andThen_ok]; clear z10 f10; have b11 := b10.set (i := 10) (show 10 < 12 from by decide) (Value.slice A3 body.length p3); clear b10; have g11 := Kept.set (b := W.heap.size) (off := 10) (sp := none) g10 (Nat.le_refl _) (Value.slice A3 body.length p3); clear g10; have z11 := b11.cell 11 _ rfl; have f11 := b11.fr 11; simp only [z11, f11, Bool.false_eq_true, if_false, Result.andThen_ok]; clear z11 f11; have b12 := b11.set (i := 11) (show 11 < 12 from by decide) (Value.slice A4 els.length p4); clear b11; have g12 := Kept.set (b := W.heap.size) (off := 11) (sp := none) g11 (Nat.le_refl _) (Value.slice A4 els.length p4); clear g11; have hst2 := Stay.mk g12; have HBF2 := Lib.hid b12; clear b12 g12))
            | fail)
        all_goals (try go_wp2_with fail)
        all_goals go_meet
        all_goals refine ⟨_, rfl, ?_, ⟨_, _, rfl, Lib.hid ?_⟩, rfl, Lib.hid (HRM.out _ _ (by assumption) ?_), Lib.hid (Stay.below (by assumption))⟩
        all_goals (first | exact Nat.le_refl _ | exact Stay.size hst1 | exact HBF2.out | exact Blk.made wl _ 112 (Nat.le_trans hbW (Stay.size hst1)) | exact HRT.out.keep RdSt.keeps (Sub.refl _) (Same.sub (Stay.same (by assumption)) HSW.out) | trace_state)
  case rest =>
    obtain ⟨y, rfl, hWy, ⟨A5, c5, rfl, RT⟩, rfl, RN, HB⟩ := hcut
    obtain ⟨W1, hW1⟩ : ∃ W1, W1 = wc := ⟨_, rfl⟩
    subst hW1
    have HR0 := Lib.hid (show SMn base d F S y g [.int .i64 k, .string s, .int .i64 k1, .int .i64 n1, .string s1, .slice A1 m1 p1, .int .i64 k2, .int .i64 n2, .string s2, .slice A2 m2 p2, .slice A3 body.length p3, .slice A4 els.length p4] a b (exV k1 n1 s1 (.slice A1 m1 p1)) (exV k2 n2 s2 (.slice A2 m2 p2)) body els (.slice A3 body.length p3) (.slice A4 els.length p4) w X W1 X m env (.slice Ae env.length ce) from
      ⟨⟨HK.out.1.1.below HB.out, HK.out.1.2⟩, HK.out.2.2.1.below HB.out, RN.out, fun e => by have := HK.out.1.lt _ e; omega, HK.out.2.1.below HB.out, HK.out.2.2.2.1, by omega, hwg, (But.of_below HK.out.2.2.2.2).trans (But.of_below HB.out), Sub.plus _ _ _, HS.out⟩)
    clear HK RN HB hWy hgl hwg
    have c0 := HR0.out.rn.bd.cell 0 _ rfl; have c1 := HR0.out.rn.bd.cell 1 _ rfl; have c2 := HR0.out.rn.bd.cell 2 _ rfl; have c3 := HR0.out.rn.bd.cell 3 _ rfl; have c4 := HR0.out.rn.bd.cell 4 _ rfl; have c5 := HR0.out.rn.bd.cell 5 _ rfl; have c6 := HR0.out.rn.bd.cell 6 _ rfl; have c7 := HR0.out.rn.bd.cell 7 _ rfl; have c8 := HR0.out.rn.bd.cell 8 _ rfl; have c9 := HR0.out.rn.bd.cell 9 _ rfl; have c10 := HR0.out.rn.bd.cell 10 _ rfl; have c11 := HR0.out.rn.bd.cell 11 _ rfl
    have hk0 : ¬ (k < 1 ∨ 7 < k) := by omega
    have hk1 : 1 ≤ k := by omega
    have hk7 : k ≤ 7 := by omega
    have c8 : W1.cell? ⟨d, 8, none⟩ = some (vI (m.st : Int)) := HpAt.midAt HR0.out.at_.1 (n := 0) rfl
    have f8 := HpAt.fr HR0.out.at_.1 8
    have hst1 : (m.st : Int) ≤ 2000 := by have := HR0.out.at_.2.2.1; have := HR0.out.at_.2.2.2; omega
    have hF1 : (F : Int) ≤ 2000 := by have := HR0.out.at_.2.2.2; omega
    by_cases hf : m.st < F
    case neg =>
      focus
        skip
        have hrn : res = none := by
          have := HRES.out
          rw [blR_cons, stR_none hk0 hf] at this
          exact this.symm
        subst hrn
        have hgt : (F : Int) < (m.st : Int) + 1 := by omega
        have hb := HR0.out.but.transNew' (MnAt.spent HR0.out.at_ (vI ((m.st : Int) + 1))) HR0.out.sub
        have HBB := Lib.hid hb
        clear hb
        go_wp2
        go_ret
        exact ⟨rfl, HBB.out⟩
    have hgt : (m.st : Int) + 1 ≤ (F : Int) := by omega
    have HQ := Lib.hid (MnAt.step HR0.out.at_ hf)
    have HR1 := Lib.hid (HR0.out.step HQ.out.2 HQ.out.1 (Sub.plus _ _ _))
    clear HQ
    go_upto_region 9 with (fail)
    generalize W1.setCell ⟨d, 8, none⟩ (vI ((m.st : Int) + 1)) = W2 at *
    clear c8 f8
    clear c0 c1 c2 c3 c4 c5 c6 c7 c8 c9 c10 c11
    have c0 := HR1.out.rn.bd.cell 0 _ rfl; have c1 := HR1.out.rn.bd.cell 1 _ rfl; have c2 := HR1.out.rn.bd.cell 2 _ rfl; have c3 := HR1.out.rn.bd.cell 3 _ rfl; have c4 := HR1.out.rn.bd.cell 4 _ rfl; have c5 := HR1.out.rn.bd.cell 5 _ rfl; have c6 := HR1.out.rn.bd.cell 6 _ rfl; have c7 := HR1.out.rn.bd.cell 7 _ rfl; have c8 := HR1.out.rn.bd.cell 8 _ rfl; have c9 := HR1.out.rn.bd.cell 9 _ rfl; have c10 := HR1.out.rn.bd.cell 10 _ rfl; have c11 := HR1.out.rn.bd.cell 11 _ rfl
    have cg := HR1.out.gb.cell 0 _ rfl
    have hgl2 : g < W2.heap.size := HR1.out.gb.lt
    have hyl2 : y < W2.heap.size := HR1.out.rn.bd.lt
    obtain ⟨va, hva⟩ : ∃ va, va = a.worth env := ⟨_, rfl⟩
    obtain ⟨vb, hvb⟩ : ∃ vb, vb = b.worth env := ⟨_, rfl⟩
    have HVA := Lib.hid hva
    have HVB := Lib.hid hvb
    clear hva hvb
    go_cut [14, 15] (fun x14 x15 wx => x14 = vI va ∧ x15 = vI vb ∧ Hid (inI va) ∧ Hid (inI vb) ∧ Hid (Below W2.heap.size W2 wx))
    case first =>
      focus
        skip
        have HST := Lib.hid (fun w' h => HR1.out.below (Stay.below h) : ∀ w', Stay W2 w' → SMn base d F S y g [.int .i64 k, .string s, .int .i64 k1, .int .i64 n1, .string s1, .slice A1 m1 p1, .int .i64 k2, .int .i64 n2, .string s2, .slice A2 m2 p2, .slice A3 body.length p3, .slice A4 els.length p4] a b (exV k1 n1 s1 (.slice A1 m1 p1)) (exV k2 n2 s2 (.slice A2 m2 p2)) body els (.slice A3 body.length p3) (.slice A4 els.length p4) w X w' X m.step env (.slice Ae env.length ce))
        go_region_held3 (fun w' => Stay W2 w') (first | assumption | exact Stay.mk (Kept.start _) | ((refine Stay.mk ?_; (repeat (with_reducible first | refine Kept.set ?_ (by omega) _ | refine Kept.drew ?_ | refine Kept.alloc ?_ _)); first | exact Kept.refl _ | assumption)))
          (first
            | ((go_at_call_of 49 (Value.agg #[.int .i64 k1, .int .i64 n1, .string s1, .slice A1 m1 p1]); refine (eev_fx env a _ S (Both X (Is g)) _ _ (HST.out _ (by first | assumption | exact Stay.mk (Kept.start _))).sW (HST.out _ (by first | assumption | exact Stay.mk (Kept.start _))).rn.ra (HST.out _ (by first | assumption | exact Stay.mk (Kept.start _))).env).mono ?_; rintro e wv ⟨rfl, hina, hb1⟩; have hst1 : Stay W2 wv := Stay.step hb1 (by first | assumption | exact Stay.mk (Kept.start _)); have hk1 : Kept W2 wv := Kept.here hst1; clear hb1))
            | ((go_at_call_of 49 (Value.agg #[.int .i64 k2, .int .i64 n2, .string s2, .slice A2 m2 p2]); refine (eev_fx env b _ S (Both X (Is g)) _ _ (HST.out _ (by first | assumption | exact Stay.mk (Kept.start _))).sW (HST.out _ (by first | assumption | exact Stay.mk (Kept.start _))).rn.rb (HST.out _ (by first | assumption | exact Stay.mk (Kept.start _))).env).mono ?_; rintro e wu ⟨rfl, hinb, hb1⟩; have hst2 : Stay W2 wu := Stay.step hb1 (by first | assumption | exact Stay.mk (Kept.start _)); have hk2 : Kept W2 wu := Kept.here hst2; clear hb1)))
        all_goals (try go_wp2_with fail)
        all_goals go_meet
        all_goals rw [HVA.out, HVB.out]
        all_goals exact ⟨rfl, rfl, Lib.hid hina, Lib.hid hinb, Lib.hid (Stay.below (by assumption))⟩
    case rest =>
    obtain ⟨rfl, rfl, HIA, HIB, HB⟩ := hcut
    obtain ⟨W3, hW3⟩ : ∃ W3, W3 = wc := ⟨_, rfl⟩
    subst hW3
    have HR2 := Lib.hid (HR1.out.below HB.out)
    clear c0 c1 c2 c3 c4 c5 c6 c7 c8 c9 c10 c11 cg hgl2 hyl2 HB
    have c0 := HR2.out.rn.bd.cell 0 _ rfl; have c1 := HR2.out.rn.bd.cell 1 _ rfl; have c2 := HR2.out.rn.bd.cell 2 _ rfl; have c3 := HR2.out.rn.bd.cell 3 _ rfl; have c4 := HR2.out.rn.bd.cell 4 _ rfl; have c5 := HR2.out.rn.bd.cell 5 _ rfl; have c6 := HR2.out.rn.bd.cell 6 _ rfl; have c7 := HR2.out.rn.bd.cell 7 _ rfl; have c8 := HR2.out.rn.bd.cell 8 _ rfl; have c9 := HR2.out.rn.bd.cell 9 _ rfl; have c10 := HR2.out.rn.bd.cell 10 _ rfl; have c11 := HR2.out.rn.bd.cell 11 _ rfl
    have cg := HR2.out.gb.cell 0 _ rfl
    have hgl2 : g < W3.heap.size := HR2.out.gb.lt
    have hyl2 : y < W3.heap.size := HR2.out.rn.bd.lt
    have en1 : env.length ≤ m.st := hel
    have hltk : m.tr.length ≤ m.st := HR0.out.at_.2.1
    have hlt3 : m.step.tr.length < m.step.st := Nat.lt_of_le_of_lt hltk (Nat.lt_succ_self _)
    have hel3 : env.length < m.step.st := Nat.lt_of_le_of_lt hel (Nat.lt_succ_self _)
    have HN1s := Lib.hid (show N1 = labelsS (.mk k s a b body els) by rw [HN1.out]; simp [labelsL])
    have HSW0 := Lib.hid (SMn.same HR0.out HG0.out hbs (Same.refl _ _))
    have hx2000 : env.length ≤ 2000 := by have := HR2.out.at_.2.2.1; have := HR2.out.at_.2.2.2; omega
    have eg : ∀ args w, (callFunc 54 args).run Try.prog w = .ok (.enter 54 args) w := fun args w => by kernel_rfl
    clear hltk
    go_upto_block 0 with (fail)
    go_cut [17] (SwR base d F S y g [.int .i64 k, .string s, .int .i64 k1, .int .i64 n1, .string s1, .slice A1 m1 p1, .int .i64 k2, .int .i64 n2, .string s2, .slice A2 m2 p2, .slice A3 body.length p3, .slice A4 els.length p4] a b (exV k1 n1 s1 (.slice A1 m1 p1)) (exV k2 n2 s2 (.slice A2 m2 p2)) body els (.slice A3 body.length p3) (.slice A4 els.length p4) w X rest (lab + N1) res)
    case rest =>
      focus
        skip
        rcases hcut with ⟨m', X', env', ve', rfl, HR5, hel5, HN5⟩ | ⟨rfl, HN5, HB5⟩
        · have hc := HI.out.1 base wc d X' m' env' (lab + N1) S _ _ HR5.at_ HS.out (RT.out.keep RdSt.keeps (Sub.refl _) (SMn.same HR5 HG0.out hbs HSW0.out)) (HR5.env.fewer (fun k hk => .inl hk)) hel5 (by omega) hx0 res HN5
          rw [Int.natCast_add] at hc
          have HC := Lib.hid hc
          have HRR := Lib.hid HR5
          have cg5 := HR5.gb.cell 0 _ rfl
          clear hc c0 c1 c2 c3 c4 c5 c6 c7 c8 c9 c10 c11 cg eg HR5 HN5
          go_wp2_with fail
          all_goals
            refine HC.out.mono ?_
            rintro e w' ho
            have ho2 := HRR.out.out ho
            clear ho
            cases res with
            | none =>
              obtain ⟨rfl, hb⟩ := ho2
              go_wp2
              go_ret
              exact ⟨rfl, hb⟩
            | some m' =>
              obtain ⟨rfl, hb⟩ := ho2
              go_wp2
              go_ret
              exact ⟨rfl, hb⟩
        · subst HN5
          have HBB := Lib.hid HB5
          clear c0 c1 c2 c3 c4 c5 c6 c7 c8 c9 c10 c11 cg eg HB5
          go_wp2
          go_ret
          exact ⟨rfl, HBB.out⟩
    case first =>
      by_cases h4 : k = 4
      · subst h4
        focus
          skip
          have hlb5 : labelsL body = N1 := by rw [HN1s.out, labels_one (by omega)]
          have HC := Lib.hid (HI.out.2.1 base W3 d X m.step env lab S _ _ HR2.out.at_ HS.out HR2.out.rn.r1 (HR2.out.env.fewer (fun k hk => .inl hk)) (Nat.le_of_lt hel3) (by omega) hx3 _ rfl)
          go_wp2_with fail
          refine HC.out.mono ?_
          rintro e w' ho
          cases hrb : blR F body env lab m.step with
          | none =>
            rw [hrb] at ho
            obtain ⟨rfl, hb⟩ := ho
            have hrn : res = none := by
              have := HRES.out
              rw [blR_cons, stR_block (by omega) hf, hrb] at this
              exact this.symm
            have HBX := Lib.hid (HR2.out.but.transNew' hb HR2.out.sub)
            clear hb c0 c1 c2 c3 c4 c5 c6 c7 c8 c9 c10 c11 cg hrb
            go_wp2_with fail
            go_meet
            exact SwR.off hrn HBX.out
          | some mf =>
            rw [hrb] at ho
            obtain ⟨rfl, ⟨X4, ha, hs4⟩, hb⟩ := ho
            have HRN := Lib.hid (show blR F rest env (lab + N1) mf = res from by have := HRES.out; rw [blR_cons, stR_block (by omega) hf, hrb, ← HN1s.out] at this; exact this)
            have HR4 := Lib.hid (HR2.out.step hb ha hs4)
            have hel4 : env.length ≤ mf.st := Nat.le_trans (Nat.le_of_lt hel3) (blR_mono F _ _ _ _ _ hrb)
            clear hb ha hs4 c0 c1 c2 c3 c4 c5 c6 c7 c8 c9 c10 c11 cg hrb
            go_wp2_with fail
            go_meet
            exact SwR.on HR4.out hel4 HRN.out
      obtain rfl : k = 5 := by omega
      · skip
        focus
          skip
          have hlb5 : labelsL body = N1 := by rw [HN1s.out, labels_one (by omega)]
          have HC := Lib.hid (HI.out.2.1 base W3 d X m.step env lab S _ _ HR2.out.at_ HS.out HR2.out.rn.r1 (HR2.out.env.fewer (fun k hk => .inl hk)) (Nat.le_of_lt hel3) (by omega) hx3 _ rfl)
          go_wp2_with fail
          refine HC.out.mono ?_
          rintro e w' ho
          cases hrb : blR F body env lab m.step with
          | none =>
            rw [hrb] at ho
            obtain ⟨rfl, hb⟩ := ho
            have hrn : res = none := by
              have := HRES.out
              rw [blR_cons, stR_block (by omega) hf, hrb] at this
              exact this.symm
            have HBX := Lib.hid (HR2.out.but.transNew' hb HR2.out.sub)
            clear hb c0 c1 c2 c3 c4 c5 c6 c7 c8 c9 c10 c11 cg hrb
            go_wp2_with fail
            go_meet
            exact SwR.off hrn HBX.out
          | some mf =>
            rw [hrb] at ho
            obtain ⟨rfl, ⟨X4, ha, hs4⟩, hb⟩ := ho
            have HRN := Lib.hid (show blR F rest env (lab + N1) mf = res from by have := HRES.out; rw [blR_cons, stR_block (by omega) hf, hrb, ← HN1s.out] at this; exact this)
            have HR4 := Lib.hid (HR2.out.step hb ha hs4)
            have hel4 : env.length ≤ mf.st := Nat.le_trans (Nat.le_of_lt hel3) (blR_mono F _ _ _ _ _ hrb)
            clear hb ha hs4 c0 c1 c2 c3 c4 c5 c6 c7 c8 c9 c10 c11 cg hrb
            go_wp2_with fail
            go_meet
            exact SwR.on HR4.out hel4 HRN.out
end Go.Proofs.Ytdelngmbpjgphaa
