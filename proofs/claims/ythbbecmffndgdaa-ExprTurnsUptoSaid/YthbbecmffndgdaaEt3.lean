/- The walks of expr.rebuilt. -/
import Derived.Test.YthbbecmffndgdaaEt2
namespace Go.Proofs.Ythbbecmffndgdaa
open Go.RowKit
set_option linter.unusedVariables false
/-- V reads as t in blocks of S and new ones, from n on -/
def FrP (n : Nat) (S : Blocks) (w : World) (t : Ex) (V : Value) : Prop := ∃ T, Sub T (Plus S n w.heap.size) ∧ Sub T (Upto w.heap.size) ∧ RdE w T t V
section
variable {n : Nat} {S : Blocks} {w w' : World} {t a b : Ex} {V Va Vb : Value}
theorem FrP.via (hb : Below w.heap.size w w') (h : FrP n S w t V) : FrP n S w' t V := by
  obtain ⟨T, h1, h2, r⟩ := h
  exact ⟨T, h1.trans (Sub.plus_mono (Nat.le_refl _) hb.size), h2.trans (Sub.upto hb.size), r.go hb h2⟩
theorem FrP.drew (h : FrP n S w t V) : FrP n S w.drew t V := FrP.via (Below.refl _ _).drew h
theorem FrP.alloc {o : Obj} (h : FrP n S w t V) : FrP n S (w.alloc o) t V := FrP.via ((Below.refl _ _).alloc (Nat.le_refl _) _) h
theorem FrP.of {m : Nat} (h : RdE w (Plus S m w.heap.size) t V) (hn : n ≤ m) (hS : Sub S (Upto w.heap.size)) : FrP n S w t V := ⟨_, Sub.plus_mono hn (Nat.le_refl _), Sub.plus_upto hS, h⟩
theorem FrP.form (h : FrP n S w t V) : ∃ A cap, V = .agg #[.int .i64 t.kind, .int .i64 t.num, .string t.name, .slice A t.args.length cap] := by
  obtain ⟨T, h1, h2, r⟩ := h
  exact r.form
theorem FrP.two_in (ha : FrP n S w a Va) (hb : FrP n S w b Vb) : ∃ T, Sub T (Plus S n w.heap.size) ∧ Sub T (Upto w.heap.size) ∧ RdE w T a Va ∧ RdE w T b Vb := by
  obtain ⟨T, h1, h2, r⟩ := ha
  obtain ⟨T', h1', h2', r'⟩ := hb
  exact ⟨Both T T', Sub.both h1 h1', Sub.both h2 h2', r.keep (Sub.left _ _) (Same.refl _ _), r'.keep (Sub.right _ _) (Same.refl _ _)⟩
theorem FrP.out {T : Blocks} {m : Nat} (h1 : Sub T (Plus S n w.heap.size)) (hT : Sub T (Upto w.heap.size)) (hs : w.heap.size ≤ w'.heap.size) (hn : n ≤ w.heap.size) (r : RdE w' (Plus T w.heap.size w'.heap.size) t V) : FrP n S w' t V :=
  ⟨_, fun b hb => hb.elim (fun h => (h1 b h).elim .inl (fun h => .inr ⟨h.1, Nat.lt_of_lt_of_le h.2 hs⟩)) (fun h => .inr ⟨Nat.le_trans hn h.1, h.2⟩), Sub.plus_upto (hT.trans (Sub.upto hs)), r⟩
end
/-- what a function of two gives -/
def TwoC (g : FuncId) (G : Int → Ex → Ex → Ex) : Prop := ∀ (k : Int) (n : Nat) (S : Blocks) (a b : Ex) (w : World) (Va Vb : Value), inI k → n ≤ w.heap.size → FrP n S w a Va → FrP n S w b Vb →
  Calls Try.prog g #[.int .i64 k, Va, Vb] w fun e w' => ∃ U, e = .returned U ∧ FrP n S w' (G k a b) U ∧ Below w.heap.size w w'
theorem with_p : TwoC 41 mkE := by
  intro k n S a b w Va Vb hk hn ha hb
  obtain ⟨T, h1, h2, ra, rb⟩ := FrP.two_in ha hb
  refine (with_any k hk a b w T Va Vb h2 ra rb).mono ?_
  rintro e w' ⟨U, rfl, hU, hbel⟩
  exact ⟨U, rfl, FrP.out (m := 0) h1 h2 hbel.size hn hU, hbel⟩
theorem fold2_p : TwoC 45 (foldG doE) := by
  intro k n S a b w Va Vb hk hn ha hb
  obtain ⟨T, h1, h2, ra, rb⟩ := FrP.two_in ha hb
  refine (fold2_any k hk a b w T Va Vb h2 ra rb).mono ?_
  rintro e w' ⟨U, rfl, hU, hbel⟩
  exact ⟨U, rfl, FrP.out (m := 0) h1 h2 hbel.size hn hU, hbel⟩
/-- all that was there is as it was, but for block R -/
abbrev StayX (R : Nat) (W w' : World) : Prop :=
  (∀ p : Addr, p.block < W.heap.size → p.block ≠ R → w'.cell? p = W.cell? p) ∧ (∀ p : Addr, p.block < W.heap.size → w'.frozen? p = W.frozen? p) ∧ But (Is R) W w'
theorem StayX.of_stay {R : Nat} {W w' : World} (h : Stay W w') : StayX R W w' := ⟨fun p hp _ => h.1 p hp, fun p hp => h.2.1 p hp, But.of_below h.below⟩
theorem StayX.set {R o : Nat} {W w' : World} (h : StayX R W w') (u : Value) : StayX R W (w'.setCell ⟨R, o, none⟩ u) :=
  ⟨fun p hp hn => (World.cell?_setCell_other w' ⟨R, o, none⟩ p u (fun e => hn (by rw [← e]))).trans (h.1 p hp hn), fun p hp => by rw [World.frozen?_setCell]; exact h.2.1 p hp, h.2.2.setCell (p := ⟨R, o, none⟩) rfl u⟩
/-- expr.rebuilt's contract -/
def RBs (fv gv : Value) (F : Ex → Ex) (G : Int → Ex → Ex → Ex) (Sy : Blocks) (W0 : World) (t : Ex) : Prop := ∀ (w : World) (S : Blocks) (V : Value), Below W0.heap.size W0 w → Sub Sy S → Sub S (Upto w.heap.size) → RdE w S t V →
  Calls Try.prog 40 #[V, fv, gv] w fun e w' => ∃ U, e = .returned U ∧ RdE w' (Plus S w.heap.size w'.heap.size) (reb F G t) U ∧ Below w.heap.size w w'
/-- what a function of what has no arguments gives -/
def LeafC (f : FuncId) (caps : Array Value) (F : Ex → Ex) (Sy : Blocks) (W0 : World) : Prop := ∀ (k n : Int) (s : Str) (w : World), Below W0.heap.size W0 w → inI k → inI n → s.size ≤ 140737488355328 →
  Calls Try.prog f (#[.agg #[.int .i64 k, .int .i64 n, .string s, .slice none 0 0]] ++ caps) w fun e w' => ∃ U, e = .returned U ∧ RdE w' (Plus Sy w.heap.size w'.heap.size) (F (.mk k n s [])) U ∧ Below w.heap.size w w'
theorem IdC.leaf {f : FuncId} (h : IdC f) (W0 : World) : LeafC f #[] (fun x => x) Nowhere W0 := by
  intro k n s w hb hk hn hs
  exact h (.mk k n s []) w Nowhere _ (Sub.nowhere _) (RdE.leaf w Nowhere hk hn hs)
set_option maxHeartbeats 2000000 in
set_option maxRecDepth 100000 in
theorem rb_with (fv : Value) (F : Ex → Ex) (Sy : Blocks) (W0 : World) (t a b : Ex) (ht : t.two = some (a, b)) (iha : RBs fv (.func (.func 41) #[] #[]) F mkE Sy W0 a) (ihb : RBs fv (.func (.func 41) #[] #[]) F mkE Sy W0 b) : RBs fv (.func (.func 41) #[] #[]) F mkE Sy W0 t := by
  intro w S V h0 hSy hS r
  obtain ⟨k, c, s, args, v, rfl, rfl, hk, hc, hs, hargs⟩ := id r
  obtain ⟨A, cap, rfl, _, _, _⟩ := hargs.form
  have bel : Below w.heap.size w ((w.alloc (.cells #[.int .i64 k, .int .i64 c, .string s, .slice A args.length cap] 38)).alloc (.cells #[.int .i64 0, .int .i64 0, .string noS, .slice none 0 0] 38)) := ((Below.refl _ _).alloc (Nat.le_refl _) _).alloc (by simp) _
  have RA := Lib.hid (r.go bel hS)
  have BEL := Lib.hid bel
  have HT := Lib.hid ht
  have HW := Lib.hid (reb_two (F := F) (G := mkE) ht)
  have HBX := Lib.hid ((Blk.made w [.int .i64 k, .int .i64 c, .string s, .slice A args.length cap] 38 (base := 0) (Nat.zero_le _)).below ((Below.refl _ _).alloc (Nat.le_refl _) (.cells #[.int .i64 0, .int .i64 0, .string noS, .slice none 0 0] 38)))
  have HBR := Lib.hid (Blk.made (w.alloc (.cells #[.int .i64 k, .int .i64 c, .string s, .slice A args.length cap] 38)) [.int .i64 0, .int .i64 0, .string noS, .slice none 0 0] 38 (base := 0) (Nat.zero_le _))
  have HS := Lib.hid hS
  have HSY := Lib.hid hSy
  have H0 := Lib.hid h0
  have HK := Lib.hid hk
  have IHa := Lib.hid iha
  have IHb := Lib.hid ihb
  have HSU := Lib.hid (show Sub S (Upto (((w.alloc (.cells #[.int .i64 k, .int .i64 c, .string s, .slice A args.length cap] 38)).alloc (.cells #[.int .i64 0, .int .i64 0, .string noS, .slice none 0 0] 38))).heap.size) from hS.trans (Sub.upto (by simp; omega)))
  have eg : ∀ args w, (callFunc 41 args).run Try.prog w = .ok (.enter 41 args) w := fun args w => by kernel_rfl
  unfold exV
  clear hargs r bel hk hc hs hS iha ihb ht h0 hSy
  go_enter Try.func40, Try.ntmps40
  go_wp2_with fail
  refine (two_two _ a b HT.out _ S _ HSU.out RA.out).mono ?_
  rintro e w1 ⟨⟨Va, Vb, rfl, ra, rb⟩, b1⟩
  obtain ⟨Aa, na, rfl⟩ := ra.form
  obtain ⟨Ab, nb, rfl⟩ := rb.form
  have RVa := Lib.hid ra
  have RVb := Lib.hid rb
  have B1 := Lib.hid b1
  have HBX1 := Lib.hid (HBX.out.below b1)
  have HBR1 := Lib.hid (HBR.out.below b1)
  clear ra rb b1 HBX HBR
  go_upto_region 3 with (fail)
  have hbw : Below w1.heap.size w1 ((w1.alloc (.cells #[.int .i64 a.kind, .int .i64 a.num, .string a.name, .slice Aa a.args.length na] 38)).alloc (.cells #[.int .i64 b.kind, .int .i64 b.num, .string b.name, .slice Ab b.args.length nb] 38)) := ((Below.refl _ _).alloc (Nat.le_refl _) _).alloc (by simp) _
  have hca : ((w1.alloc (.cells #[.int .i64 a.kind, .int .i64 a.num, .string a.name, .slice Aa a.args.length na] 38)).alloc (.cells #[.int .i64 b.kind, .int .i64 b.num, .string b.name, .slice Ab b.args.length nb] 38)).cell? ⟨w1.heap.size, 0, none⟩ = some (.int .i64 a.kind) ∧ ((w1.alloc (.cells #[.int .i64 a.kind, .int .i64 a.num, .string a.name, .slice Aa a.args.length na] 38)).alloc (.cells #[.int .i64 b.kind, .int .i64 b.num, .string b.name, .slice Ab b.args.length nb] 38)).cell? ⟨w1.heap.size, 1, none⟩ = some (.int .i64 a.num) ∧ ((w1.alloc (.cells #[.int .i64 a.kind, .int .i64 a.num, .string a.name, .slice Aa a.args.length na] 38)).alloc (.cells #[.int .i64 b.kind, .int .i64 b.num, .string b.name, .slice Ab b.args.length nb] 38)).cell? ⟨w1.heap.size, 2, none⟩ = some (.string a.name) ∧ ((w1.alloc (.cells #[.int .i64 a.kind, .int .i64 a.num, .string a.name, .slice Aa a.args.length na] 38)).alloc (.cells #[.int .i64 b.kind, .int .i64 b.num, .string b.name, .slice Ab b.args.length nb] 38)).cell? ⟨w1.heap.size, 3, none⟩ = some (.slice Aa a.args.length na) := by simp
  have hcb : ((w1.alloc (.cells #[.int .i64 a.kind, .int .i64 a.num, .string a.name, .slice Aa a.args.length na] 38)).alloc (.cells #[.int .i64 b.kind, .int .i64 b.num, .string b.name, .slice Ab b.args.length nb] 38)).cell? ⟨w1.heap.size + 1, 0, none⟩ = some (.int .i64 b.kind) ∧ ((w1.alloc (.cells #[.int .i64 a.kind, .int .i64 a.num, .string a.name, .slice Aa a.args.length na] 38)).alloc (.cells #[.int .i64 b.kind, .int .i64 b.num, .string b.name, .slice Ab b.args.length nb] 38)).cell? ⟨w1.heap.size + 1, 1, none⟩ = some (.int .i64 b.num) ∧ ((w1.alloc (.cells #[.int .i64 a.kind, .int .i64 a.num, .string a.name, .slice Aa a.args.length na] 38)).alloc (.cells #[.int .i64 b.kind, .int .i64 b.num, .string b.name, .slice Ab b.args.length nb] 38)).cell? ⟨w1.heap.size + 1, 2, none⟩ = some (.string b.name) ∧ ((w1.alloc (.cells #[.int .i64 a.kind, .int .i64 a.num, .string a.name, .slice Aa a.args.length na] 38)).alloc (.cells #[.int .i64 b.kind, .int .i64 b.num, .string b.name, .slice Ab b.args.length nb] 38)).cell? ⟨w1.heap.size + 1, 3, none⟩ = some (.slice Ab b.args.length nb) := by simp
  have hsz : (((w1.alloc (.cells #[.int .i64 a.kind, .int .i64 a.num, .string a.name, .slice Aa a.args.length na] 38)).alloc (.cells #[.int .i64 b.kind, .int .i64 b.num, .string b.name, .slice Ab b.args.length nb] 38))).heap.size = w1.heap.size + 2 := by simp
  generalize ((w1.alloc (.cells #[.int .i64 a.kind, .int .i64 a.num, .string a.name, .slice Aa a.args.length na] 38)).alloc (.cells #[.int .i64 b.kind, .int .i64 b.num, .string b.name, .slice Ab b.args.length nb] 38)) = W at *
  have hzw := BEL.out.size
  have hzb := B1.out.size
  rw [World.size_alloc, World.size_alloc] at hzw hzb
  have hz1' := Nat.le_of_eq hsz
  have hz2' := Nat.le_of_eq hsz.symm
  have hSW : Sub S (Upto w1.heap.size) := HS.out.trans (Sub.upto (by omega))
  have WRa := Lib.hid (RVa.out.go hbw hSW)
  have WRb := Lib.hid (RVb.out.go hbw hSW)
  have HSW := Lib.hid (hSW.trans (Sub.upto (show w1.heap.size ≤ W.heap.size by omega)))
  have HBW := Lib.hid (BEL.out.trans ((B1.out.mono (by simp; omega)).trans (hbw.mono (by omega))))
  have HBX2 := Lib.hid (HBX1.out.below hbw)
  have HBR2 := Lib.hid (HBR1.out.below hbw)
  have H0W := Lib.hid (H0.out.trans (HBW.out.mono H0.out.size))
  rw [World.size_alloc] at HBR2
  have kx := HBX2.out.cell 0 _ rfl
  have kr0 := HBR2.out.cell 0 _ rfl; have kr1 := HBR2.out.cell 1 _ rfl; have kr2 := HBR2.out.cell 2 _ rfl; have kr3 := HBR2.out.cell 3 _ rfl
  have fr0 := HBR2.out.fr 0; have fr1 := HBR2.out.fr 1; have fr2 := HBR2.out.fr 2; have fr3 := HBR2.out.fr 3
  obtain ⟨a0, a1, a2, a3⟩ := hca
  obtain ⟨b0, b1, b2, b3⟩ := hcb
  have hlt1 : w1.heap.size < W.heap.size := by omega
  have hlt2 : w1.heap.size + 1 < W.heap.size := by omega
  have hlt3 : w.heap.size < W.heap.size := by omega
  have hlt4 : w.heap.size + 1 < W.heap.size := by omega
  have HWP := Lib.hid (fun w' h => Stay.size h : ∀ w', Stay W w' → W.heap.size ≤ w'.heap.size)
  have H0P := Lib.hid (fun w' h => H0W.out.trans ((Stay.below h).mono H0W.out.size) : ∀ w', Stay W w' → Below W0.heap.size W0 w')
  clear hsz hbw hSW RVa RVb BEL B1 HBX1 HBR1 RA HSU H0
  have hne1 : w1.heap.size ≠ w.heap.size + 1 := by omega
  have hne2 : w1.heap.size ≠ w.heap.size := by omega
  have hne3 : w1.heap.size + 1 ≠ w.heap.size + 1 := by omega
  go_region_held3 (fun w' => StayX (w.heap.size + 1) W w') (first | assumption | exact StayX.of_stay (Stay.mk (Kept.start _)) | (refine StayX.set ?_ _; refine StayX.set ?_ _; refine StayX.set ?_ _; refine StayX.set ?_ _; assumption))
    (first
      | ((go_at_call_of 40 (Value.agg #[.int .i64 a.kind, .int .i64 a.num, .string a.name, .slice Aa a.args.length na]); refine (IHa.out _ S _ (H0P.out _ (by first | assumption | exact Stay.mk (Kept.start _))) HSY.out (HSW.out.trans (Sub.upto (HWP.out _ (by first | assumption | exact Stay.mk (Kept.start _))))) (WRa.out.keep (Sub.refl _) (Same.sub (Stay.same (by first | assumption | exact Stay.mk (Kept.start _))) HSW.out))).mono ?_; rintro e wa1 ⟨U1, rfl, hu1, hb1⟩; have hp1 : FrP W.heap.size S wa1 (reb F mkE a) U1 := FrP.of hu1 (HWP.out _ (by first | assumption | exact Stay.mk (Kept.start _))) (HSW.out.trans (Sub.upto (Nat.le_trans (HWP.out _ (by first | assumption | exact Stay.mk (Kept.start _))) hb1.size))); obtain ⟨A3, n3, rfl⟩ := hp1.form; have hst1 : Stay W wa1 := Stay.step hb1 (by first | assumption | exact Stay.mk (Kept.start _)); have hr1 : StayX (w.heap.size + 1) W wa1 := StayX.of_stay hst1))
      | ((go_at_call_of 40 (Value.agg #[.int .i64 b.kind, .int .i64 b.num, .string b.name, .slice Ab b.args.length nb]); refine (IHb.out _ S _ (H0P.out _ (by first | assumption | exact Stay.mk (Kept.start _))) HSY.out (HSW.out.trans (Sub.upto (HWP.out _ (by first | assumption | exact Stay.mk (Kept.start _))))) (WRb.out.keep (Sub.refl _) (Same.sub (Stay.same (by first | assumption | exact Stay.mk (Kept.start _))) HSW.out))).mono ?_; rintro e wb1 ⟨U2, rfl, hu2, hb2⟩; have hp2 : FrP W.heap.size S wb1 (reb F mkE b) U2 := FrP.of hu2 (HWP.out _ (by first | assumption | exact Stay.mk (Kept.start _))) (HSW.out.trans (Sub.upto (Nat.le_trans (HWP.out _ (by first | assumption | exact Stay.mk (Kept.start _))) hb2.size))); obtain ⟨A4, n4, rfl⟩ := hp2.form; have hst2 : Stay W wb1 := Stay.step hb2 (by first | assumption | exact Stay.mk (Kept.start _)); have hr2 : StayX (w.heap.size + 1) W wb1 := StayX.of_stay hst2))
      | ((go_at_call 41; refine (with_p k W.heap.size S (reb F mkE a) (reb F mkE b) _ _ _ HK.out (HWP.out _ (by first | assumption | exact Stay.mk (Kept.start _))) ?_ ?_).mono ?_; (focus (repeat (with_reducible first | exact hp1 | refine FrP.drew ?_ | refine FrP.via hb2 ?_))); (focus (repeat (with_reducible first | exact hp2 | refine FrP.drew ?_ | refine FrP.via hb1 ?_))); rintro e wc1 ⟨U3, rfl, hp3, hb3⟩; obtain ⟨A5, n5, rfl⟩ := hp3.form; have hst3 : Stay W wc1 := Stay.step hb3 (by first | assumption | exact Stay.mk (Kept.start _)); have hr3 : StayX (w.heap.size + 1) W wc1 := StayX.of_stay hst3; have hc0 := (hst3.1 ⟨w.heap.size + 1, 0, none⟩ hlt4).trans kr0; have hc1 := (hst3.1 ⟨w.heap.size + 1, 1, none⟩ hlt4).trans kr1; have hc2 := (hst3.1 ⟨w.heap.size + 1, 2, none⟩ hlt4).trans kr2; have hc3 := (hst3.1 ⟨w.heap.size + 1, 3, none⟩ hlt4).trans kr3; have hf0 := (hst3.2.1 ⟨w.heap.size + 1, 0, none⟩ hlt4).trans fr0; have hf1 := (hst3.2.1 ⟨w.heap.size + 1, 1, none⟩ hlt4).trans fr1; have hf2 := (hst3.2.1 ⟨w.heap.size + 1, 2, none⟩ hlt4).trans fr2; have hf3 := (hst3.2.1 ⟨w.heap.size + 1, 3, none⟩ hlt4).trans fr3)))
  rename_i hheld
  clear hheld
  have HST := Lib.hid hst3
  have HP3 := Lib.hid hp3
  clear hst1 hst2 hst3 hr1 hr2 hr3 hb1 hb2 hb3 hp1 hp2 hp3 hu1 hu2
  go_wp2
  refine bodyPost_ret (v := .agg #[.int .i64 (mkE k (reb F mkE a) (reb F mkE b)).kind, .int .i64 (mkE k (reb F mkE a) (reb F mkE b)).num, .string (mkE k (reb F mkE a) (reb F mkE b)).name, .slice A5 (mkE k (reb F mkE a) (reb F mkE b)).args.length n5]) (by simp [results, Try.results40, go_sem, hc0, hc1, hc2, hc3]) rfl ⟨_, rfl, ?_, ?_⟩
  · show RdE (set4 wc1 (w.heap.size + 1) _ _ _ _) _ _ _
    rw [HW.out]
    obtain ⟨T, t1, t2, rT⟩ := HP3.out
    refine rT.keep (t1.trans (Sub.plus_mono (by omega) (Nat.le_of_eq (set4_size _ _ _ _ _ _).symm))) (set4_same ?_)
    intro hp
    rcases t1 _ hp with hp | hp
    · have := HS.out _ hp; unfold Upto at this; omega
    · omega
  · show Below _ _ (set4 wc1 (w.heap.size + 1) _ _ _ _)
    exact set4_below (HBW.out.trans (HST.out.below.mono HBW.out.size)) (by omega)
set_option maxHeartbeats 2000000 in
set_option maxRecDepth 100000 in
theorem rb_fold (fv : Value) (F : Ex → Ex) (Sy : Blocks) (W0 : World) (t a b : Ex) (ht : t.two = some (a, b)) (iha : RBs fv (.func (.func 45) #[] #[]) F (foldG doE) Sy W0 a) (ihb : RBs fv (.func (.func 45) #[] #[]) F (foldG doE) Sy W0 b) : RBs fv (.func (.func 45) #[] #[]) F (foldG doE) Sy W0 t := by
  intro w S V h0 hSy hS r
  obtain ⟨k, c, s, args, v, rfl, rfl, hk, hc, hs, hargs⟩ := id r
  obtain ⟨A, cap, rfl, _, _, _⟩ := hargs.form
  --(w.alloc (.cells #[.int .i64 k, .int .i64 c, .string s, .slice A args.length cap] 38)) = (w.alloc (.cells #[.int .i64 k, .int .i64 c, .string s, .slice A args.length cap] 38))
  --((w.alloc (.cells #[.int .i64 k, .int .i64 c, .string s, .slice A args.length cap] 38)).alloc (.cells #[.int .i64 0, .int .i64 0, .string noS, .slice none 0 0] 38)) = ((w.alloc (.cells #[.int .i64 k, .int .i64 c, .string s, .slice A args.length cap] 38)).alloc (.cells #[.int .i64 0, .int .i64 0, .string noS, .slice none 0 0] 38))
  have bel : Below w.heap.size w ((w.alloc (.cells #[.int .i64 k, .int .i64 c, .string s, .slice A args.length cap] 38)).alloc (.cells #[.int .i64 0, .int .i64 0, .string noS, .slice none 0 0] 38)) := ((Below.refl _ _).alloc (Nat.le_refl _) _).alloc (by simp) _
  have RA := Lib.hid (r.go bel hS)
  have BEL := Lib.hid bel
  have HT := Lib.hid ht
  have HW := Lib.hid (reb_two (F := F) (G := (foldG doE)) ht)
  have HBX := Lib.hid ((Blk.made w [.int .i64 k, .int .i64 c, .string s, .slice A args.length cap] 38 (base := 0) (Nat.zero_le _)).below ((Below.refl _ _).alloc (Nat.le_refl _) (.cells #[.int .i64 0, .int .i64 0, .string noS, .slice none 0 0] 38)))
  have HBR := Lib.hid (Blk.made (w.alloc (.cells #[.int .i64 k, .int .i64 c, .string s, .slice A args.length cap] 38)) [.int .i64 0, .int .i64 0, .string noS, .slice none 0 0] 38 (base := 0) (Nat.zero_le _))
  have HS := Lib.hid hS
  have HSY := Lib.hid hSy
  have H0 := Lib.hid h0
  have HK := Lib.hid hk
  have IHa := Lib.hid iha
  have IHb := Lib.hid ihb
  have HSU := Lib.hid (show Sub S (Upto (((w.alloc (.cells #[.int .i64 k, .int .i64 c, .string s, .slice A args.length cap] 38)).alloc (.cells #[.int .i64 0, .int .i64 0, .string noS, .slice none 0 0] 38))).heap.size) from hS.trans (Sub.upto (by simp; omega)))
  have eg : ∀ args w, (callFunc 45 args).run Try.prog w = .ok (.enter 45 args) w := fun args w => by kernel_rfl
  unfold exV
  clear hargs r bel hk hc hs hS iha ihb ht h0 hSy
  go_enter Try.func40, Try.ntmps40
  go_wp2_with fail
  refine (two_two _ a b HT.out _ S _ HSU.out RA.out).mono ?_
  rintro e w1 ⟨⟨Va, Vb, rfl, ra, rb⟩, b1⟩
  obtain ⟨Aa, na, rfl⟩ := ra.form
  obtain ⟨Ab, nb, rfl⟩ := rb.form
  have RVa := Lib.hid ra
  have RVb := Lib.hid rb
  have B1 := Lib.hid b1
  have HBX1 := Lib.hid (HBX.out.below b1)
  have HBR1 := Lib.hid (HBR.out.below b1)
  clear ra rb b1 HBX HBR
  --((w1.alloc (.cells #[.int .i64 a.kind, .int .i64 a.num, .string a.name, .slice Aa a.args.length na] 38)).alloc (.cells #[.int .i64 b.kind, .int .i64 b.num, .string b.name, .slice Ab b.args.length nb] 38)) = ((w1.alloc (.cells #[.int .i64 a.kind, .int .i64 a.num, .string a.name, .slice Aa a.args.length na] 38)).alloc (.cells #[.int .i64 b.kind, .int .i64 b.num, .string b.name, .slice Ab b.args.length nb] 38))
  go_upto_region 3 with (fail)
  have hbw : Below w1.heap.size w1 ((w1.alloc (.cells #[.int .i64 a.kind, .int .i64 a.num, .string a.name, .slice Aa a.args.length na] 38)).alloc (.cells #[.int .i64 b.kind, .int .i64 b.num, .string b.name, .slice Ab b.args.length nb] 38)) := ((Below.refl _ _).alloc (Nat.le_refl _) _).alloc (by simp) _
  have hca : ((w1.alloc (.cells #[.int .i64 a.kind, .int .i64 a.num, .string a.name, .slice Aa a.args.length na] 38)).alloc (.cells #[.int .i64 b.kind, .int .i64 b.num, .string b.name, .slice Ab b.args.length nb] 38)).cell? ⟨w1.heap.size, 0, none⟩ = some (.int .i64 a.kind) ∧ ((w1.alloc (.cells #[.int .i64 a.kind, .int .i64 a.num, .string a.name, .slice Aa a.args.length na] 38)).alloc (.cells #[.int .i64 b.kind, .int .i64 b.num, .string b.name, .slice Ab b.args.length nb] 38)).cell? ⟨w1.heap.size, 1, none⟩ = some (.int .i64 a.num) ∧ ((w1.alloc (.cells #[.int .i64 a.kind, .int .i64 a.num, .string a.name, .slice Aa a.args.length na] 38)).alloc (.cells #[.int .i64 b.kind, .int .i64 b.num, .string b.name, .slice Ab b.args.length nb] 38)).cell? ⟨w1.heap.size, 2, none⟩ = some (.string a.name) ∧ ((w1.alloc (.cells #[.int .i64 a.kind, .int .i64 a.num, .string a.name, .slice Aa a.args.length na] 38)).alloc (.cells #[.int .i64 b.kind, .int .i64 b.num, .string b.name, .slice Ab b.args.length nb] 38)).cell? ⟨w1.heap.size, 3, none⟩ = some (.slice Aa a.args.length na) := by simp
  have hcb : ((w1.alloc (.cells #[.int .i64 a.kind, .int .i64 a.num, .string a.name, .slice Aa a.args.length na] 38)).alloc (.cells #[.int .i64 b.kind, .int .i64 b.num, .string b.name, .slice Ab b.args.length nb] 38)).cell? ⟨w1.heap.size + 1, 0, none⟩ = some (.int .i64 b.kind) ∧ ((w1.alloc (.cells #[.int .i64 a.kind, .int .i64 a.num, .string a.name, .slice Aa a.args.length na] 38)).alloc (.cells #[.int .i64 b.kind, .int .i64 b.num, .string b.name, .slice Ab b.args.length nb] 38)).cell? ⟨w1.heap.size + 1, 1, none⟩ = some (.int .i64 b.num) ∧ ((w1.alloc (.cells #[.int .i64 a.kind, .int .i64 a.num, .string a.name, .slice Aa a.args.length na] 38)).alloc (.cells #[.int .i64 b.kind, .int .i64 b.num, .string b.name, .slice Ab b.args.length nb] 38)).cell? ⟨w1.heap.size + 1, 2, none⟩ = some (.string b.name) ∧ ((w1.alloc (.cells #[.int .i64 a.kind, .int .i64 a.num, .string a.name, .slice Aa a.args.length na] 38)).alloc (.cells #[.int .i64 b.kind, .int .i64 b.num, .string b.name, .slice Ab b.args.length nb] 38)).cell? ⟨w1.heap.size + 1, 3, none⟩ = some (.slice Ab b.args.length nb) := by simp
  have hsz : (((w1.alloc (.cells #[.int .i64 a.kind, .int .i64 a.num, .string a.name, .slice Aa a.args.length na] 38)).alloc (.cells #[.int .i64 b.kind, .int .i64 b.num, .string b.name, .slice Ab b.args.length nb] 38))).heap.size = w1.heap.size + 2 := by simp
  generalize ((w1.alloc (.cells #[.int .i64 a.kind, .int .i64 a.num, .string a.name, .slice Aa a.args.length na] 38)).alloc (.cells #[.int .i64 b.kind, .int .i64 b.num, .string b.name, .slice Ab b.args.length nb] 38)) = W at *
  have hzw := BEL.out.size
  have hzb := B1.out.size
  rw [World.size_alloc, World.size_alloc] at hzw hzb
  have hz1' := Nat.le_of_eq hsz
  have hz2' := Nat.le_of_eq hsz.symm
  have hSW : Sub S (Upto w1.heap.size) := HS.out.trans (Sub.upto (by omega))
  have WRa := Lib.hid (RVa.out.go hbw hSW)
  have WRb := Lib.hid (RVb.out.go hbw hSW)
  have HSW := Lib.hid (hSW.trans (Sub.upto (show w1.heap.size ≤ W.heap.size by omega)))
  have HBW := Lib.hid (BEL.out.trans ((B1.out.mono (by simp; omega)).trans (hbw.mono (by omega))))
  have HBX2 := Lib.hid (HBX1.out.below hbw)
  have HBR2 := Lib.hid (HBR1.out.below hbw)
  have H0W := Lib.hid (H0.out.trans (HBW.out.mono H0.out.size))
  rw [World.size_alloc] at HBR2
  have kx := HBX2.out.cell 0 _ rfl
  have kr0 := HBR2.out.cell 0 _ rfl; have kr1 := HBR2.out.cell 1 _ rfl; have kr2 := HBR2.out.cell 2 _ rfl; have kr3 := HBR2.out.cell 3 _ rfl
  have fr0 := HBR2.out.fr 0; have fr1 := HBR2.out.fr 1; have fr2 := HBR2.out.fr 2; have fr3 := HBR2.out.fr 3
  obtain ⟨a0, a1, a2, a3⟩ := hca
  obtain ⟨b0, b1, b2, b3⟩ := hcb
  have hlt1 : w1.heap.size < W.heap.size := by omega
  have hlt2 : w1.heap.size + 1 < W.heap.size := by omega
  have hlt3 : w.heap.size < W.heap.size := by omega
  have hlt4 : w.heap.size + 1 < W.heap.size := by omega
  have HWP := Lib.hid (fun w' h => Stay.size h : ∀ w', Stay W w' → W.heap.size ≤ w'.heap.size)
  have H0P := Lib.hid (fun w' h => H0W.out.trans ((Stay.below h).mono H0W.out.size) : ∀ w', Stay W w' → Below W0.heap.size W0 w')
  clear hsz hbw hSW RVa RVb BEL B1 HBX1 HBR1 RA HSU H0
  have hne1 : w1.heap.size ≠ w.heap.size + 1 := by omega
  have hne2 : w1.heap.size ≠ w.heap.size := by omega
  have hne3 : w1.heap.size + 1 ≠ w.heap.size + 1 := by omega
  go_region_held3 (fun w' => StayX (w.heap.size + 1) W w') (first | assumption | exact StayX.of_stay (Stay.mk (Kept.start _)) | (refine StayX.set ?_ _; refine StayX.set ?_ _; refine StayX.set ?_ _; refine StayX.set ?_ _; assumption))
    (first
      | ((go_at_call_of 40 (Value.agg #[.int .i64 a.kind, .int .i64 a.num, .string a.name, .slice Aa a.args.length na]); refine (IHa.out _ S _ (H0P.out _ (by first | assumption | exact Stay.mk (Kept.start _))) HSY.out (HSW.out.trans (Sub.upto (HWP.out _ (by first | assumption | exact Stay.mk (Kept.start _))))) (WRa.out.keep (Sub.refl _) (Same.sub (Stay.same (by first | assumption | exact Stay.mk (Kept.start _))) HSW.out))).mono ?_; rintro e wa1 ⟨U1, rfl, hu1, hb1⟩; have hp1 : FrP W.heap.size S wa1 (reb F (foldG doE) a) U1 := FrP.of hu1 (HWP.out _ (by first | assumption | exact Stay.mk (Kept.start _))) (HSW.out.trans (Sub.upto (Nat.le_trans (HWP.out _ (by first | assumption | exact Stay.mk (Kept.start _))) hb1.size))); obtain ⟨A3, n3, rfl⟩ := hp1.form; have hst1 : Stay W wa1 := Stay.step hb1 (by first | assumption | exact Stay.mk (Kept.start _)); have hr1 : StayX (w.heap.size + 1) W wa1 := StayX.of_stay hst1))
      | ((go_at_call_of 40 (Value.agg #[.int .i64 b.kind, .int .i64 b.num, .string b.name, .slice Ab b.args.length nb]); refine (IHb.out _ S _ (H0P.out _ (by first | assumption | exact Stay.mk (Kept.start _))) HSY.out (HSW.out.trans (Sub.upto (HWP.out _ (by first | assumption | exact Stay.mk (Kept.start _))))) (WRb.out.keep (Sub.refl _) (Same.sub (Stay.same (by first | assumption | exact Stay.mk (Kept.start _))) HSW.out))).mono ?_; rintro e wb1 ⟨U2, rfl, hu2, hb2⟩; have hp2 : FrP W.heap.size S wb1 (reb F (foldG doE) b) U2 := FrP.of hu2 (HWP.out _ (by first | assumption | exact Stay.mk (Kept.start _))) (HSW.out.trans (Sub.upto (Nat.le_trans (HWP.out _ (by first | assumption | exact Stay.mk (Kept.start _))) hb2.size))); obtain ⟨A4, n4, rfl⟩ := hp2.form; have hst2 : Stay W wb1 := Stay.step hb2 (by first | assumption | exact Stay.mk (Kept.start _)); have hr2 : StayX (w.heap.size + 1) W wb1 := StayX.of_stay hst2))
      | ((go_at_call 45; refine (fold2_p k W.heap.size S (reb F (foldG doE) a) (reb F (foldG doE) b) _ _ _ HK.out (HWP.out _ (by first | assumption | exact Stay.mk (Kept.start _))) ?_ ?_).mono ?_; (focus (repeat (with_reducible first | exact hp1 | refine FrP.drew ?_ | refine FrP.via hb2 ?_))); (focus (repeat (with_reducible first | exact hp2 | refine FrP.drew ?_ | refine FrP.via hb1 ?_))); rintro e wc1 ⟨U3, rfl, hp3, hb3⟩; obtain ⟨A5, n5, rfl⟩ := hp3.form; have hst3 : Stay W wc1 := Stay.step hb3 (by first | assumption | exact Stay.mk (Kept.start _)); have hr3 : StayX (w.heap.size + 1) W wc1 := StayX.of_stay hst3; have hc0 := (hst3.1 ⟨w.heap.size + 1, 0, none⟩ hlt4).trans kr0; have hc1 := (hst3.1 ⟨w.heap.size + 1, 1, none⟩ hlt4).trans kr1; have hc2 := (hst3.1 ⟨w.heap.size + 1, 2, none⟩ hlt4).trans kr2; have hc3 := (hst3.1 ⟨w.heap.size + 1, 3, none⟩ hlt4).trans kr3; have hf0 := (hst3.2.1 ⟨w.heap.size + 1, 0, none⟩ hlt4).trans fr0; have hf1 := (hst3.2.1 ⟨w.heap.size + 1, 1, none⟩ hlt4).trans fr1; have hf2 := (hst3.2.1 ⟨w.heap.size + 1, 2, none⟩ hlt4).trans fr2; have hf3 := (hst3.2.1 ⟨w.heap.size + 1, 3, none⟩ hlt4).trans fr3)))
  rename_i hheld
  clear hheld
  have HST := Lib.hid hst3
  have HP3 := Lib.hid hp3
  clear hst1 hst2 hst3 hr1 hr2 hr3 hb1 hb2 hb3 hp1 hp2 hp3 hu1 hu2
  go_wp2
  refine bodyPost_ret (v := .agg #[.int .i64 ((foldG doE) k (reb F (foldG doE) a) (reb F (foldG doE) b)).kind, .int .i64 ((foldG doE) k (reb F (foldG doE) a) (reb F (foldG doE) b)).num, .string ((foldG doE) k (reb F (foldG doE) a) (reb F (foldG doE) b)).name, .slice A5 ((foldG doE) k (reb F (foldG doE) a) (reb F (foldG doE) b)).args.length n5]) (by simp [results, Try.results40, go_sem, hc0, hc1, hc2, hc3]) rfl ⟨_, rfl, ?_, ?_⟩
  · show RdE (set4 wc1 (w.heap.size + 1) _ _ _ _) _ _ _
    rw [HW.out]
    obtain ⟨T, t1, t2, rT⟩ := HP3.out
    refine rT.keep (t1.trans (Sub.plus_mono (by omega) (Nat.le_of_eq (set4_size _ _ _ _ _ _).symm))) (set4_same ?_)
    intro hp
    rcases t1 _ hp with hp | hp
    · have := HS.out _ hp; unfold Upto at this; omega
    · omega
  · show Below _ _ (set4 wc1 (w.heap.size + 1) _ _ _ _)
    exact set4_below (HBW.out.trans (HST.out.below.mono HBW.out.size)) (by omega)
set_option maxHeartbeats 2000000 in
set_option maxRecDepth 100000 in
theorem rb_put1 (gv : Value) (F : Ex → Ex) (G : Int → Ex → Ex → Ex) (Sy : Blocks) (W0 : World) (hf : LeafC 38 #[] F Sy W0) (t : Ex) (ht : t.two = none) : RBs (.func (.func 38) #[] #[]) gv F G Sy W0 t := by
  intro w S V h0 hSy hS r
  obtain ⟨k, c, s, args, v, rfl, rfl, hk, hc, hs, hargs⟩ := id r
  obtain ⟨A, cap, rfl, _, _, _⟩ := hargs.form
  --(w.alloc (.cells #[.int .i64 k, .int .i64 c, .string s, .slice A args.length cap] 38)) = (w.alloc (.cells #[.int .i64 k, .int .i64 c, .string s, .slice A args.length cap] 38))
  --((w.alloc (.cells #[.int .i64 k, .int .i64 c, .string s, .slice A args.length cap] 38)).alloc (.cells #[.int .i64 0, .int .i64 0, .string noS, .slice none 0 0] 38)) = ((w.alloc (.cells #[.int .i64 k, .int .i64 c, .string s, .slice A args.length cap] 38)).alloc (.cells #[.int .i64 0, .int .i64 0, .string noS, .slice none 0 0] 38))
  have bel : Below w.heap.size w ((w.alloc (.cells #[.int .i64 k, .int .i64 c, .string s, .slice A args.length cap] 38)).alloc (.cells #[.int .i64 0, .int .i64 0, .string noS, .slice none 0 0] 38)) := ((Below.refl _ _).alloc (Nat.le_refl _) _).alloc (by simp) _
  have RA := Lib.hid (r.go bel hS)
  have BEL := Lib.hid bel
  have HT := Lib.hid ht
  have HW := Lib.hid (reb_none (F := F) (G := G) ht)
  have HBX := Lib.hid ((Blk.made w [.int .i64 k, .int .i64 c, .string s, .slice A args.length cap] 38 (base := 0) (Nat.zero_le _)).below ((Below.refl _ _).alloc (Nat.le_refl _) (.cells #[.int .i64 0, .int .i64 0, .string noS, .slice none 0 0] 38)))
  have HBR := Lib.hid (Blk.made (w.alloc (.cells #[.int .i64 k, .int .i64 c, .string s, .slice A args.length cap] 38)) [.int .i64 0, .int .i64 0, .string noS, .slice none 0 0] 38 (base := 0) (Nat.zero_le _))
  have HS := Lib.hid hS
  have HSY := Lib.hid hSy
  have H0 := Lib.hid h0
  have HNK := Lib.hid (And.intro hc hs)
  have HF := Lib.hid hf
  have eg : ∀ args w, (callFunc 38 args).run Try.prog w = .ok (.enter 38 args) w := fun args w => by kernel_rfl
  unfold exV
  clear hargs r bel hk hc hs hS hf ht h0 hSy
  go_enter Try.func40, Try.ntmps40
  go_wp2_with fail
  refine (two_none _ HT.out _ S _ RA.out).mono ?_
  rintro e w1 ⟨rfl, b1⟩
  have B1 := Lib.hid b1
  have HBX1 := Lib.hid (HBX.out.below b1)
  have HBR1 := Lib.hid (HBR.out.below b1)
  clear b1 HBX HBR RA
  go_upto_region 2 with (fail)
  have hbw : Below w1.heap.size w1 ((w1.alloc (.cells #[.int .i64 0, .int .i64 0, .string noS, .slice none 0 0] 38)).alloc (.cells #[.int .i64 0, .int .i64 0, .string noS, .slice none 0 0] 38)) := ((Below.refl _ _).alloc (Nat.le_refl _) _).alloc (by simp) _
  generalize ((w1.alloc (.cells #[.int .i64 0, .int .i64 0, .string noS, .slice none 0 0] 38)).alloc (.cells #[.int .i64 0, .int .i64 0, .string noS, .slice none 0 0] 38)) = W at *
  have hzw := BEL.out.size
  have hzb := B1.out.size
  rw [World.size_alloc, World.size_alloc] at hzw hzb
  have hzx := hbw.size
  have HBW := Lib.hid (BEL.out.trans ((B1.out.mono (by simp; omega)).trans (hbw.mono (by omega))))
  have HBX2 := Lib.hid (HBX1.out.below hbw)
  have HBR2 := Lib.hid (HBR1.out.below hbw)
  have H0W := Lib.hid (H0.out.trans (HBW.out.mono H0.out.size))
  rw [World.size_alloc] at HBR2
  have kx0 := HBX2.out.cell 0 _ rfl; have kx1 := HBX2.out.cell 1 _ rfl; have kx2 := HBX2.out.cell 2 _ rfl
  have kr0 := HBR2.out.cell 0 _ rfl; have kr1 := HBR2.out.cell 1 _ rfl; have kr2 := HBR2.out.cell 2 _ rfl; have kr3 := HBR2.out.cell 3 _ rfl
  have fr0 := HBR2.out.fr 0; have fr1 := HBR2.out.fr 1; have fr2 := HBR2.out.fr 2; have fr3 := HBR2.out.fr 3
  have hlt3 : w.heap.size < W.heap.size := by omega
  have hlt4 : w.heap.size + 1 < W.heap.size := by omega
  have hne : w.heap.size ≠ w.heap.size + 1 := by omega
  clear hbw BEL B1 HBX1 HBR1 H0
  by_cases h1 : k = 1
  · subst h1
    have HX := Lib.hid (show reb F G (.mk 1 c s args) = F (.mk 1 c noS []) by rw [HW.out]; rfl)
    go_wp2_with fail
    refine (HF.out 1 c noS W H0W.out (by decide) HNK.out.1 (by decide)).mono ?_
    rintro e w3 ⟨U, rfl, hU, hb3⟩
    obtain ⟨A3, c3, rfl⟩ := hU.form
    have hc0 := (hb3.cell (p := ⟨w.heap.size + 1, 0, none⟩) hlt4).trans kr0
    have hc1 := (hb3.cell (p := ⟨w.heap.size + 1, 1, none⟩) hlt4).trans kr1
    have hc2 := (hb3.cell (p := ⟨w.heap.size + 1, 2, none⟩) hlt4).trans kr2
    have hc3 := (hb3.cell (p := ⟨w.heap.size + 1, 3, none⟩) hlt4).trans kr3
    have hf0 := (hb3.frozen (p := ⟨w.heap.size + 1, 0, none⟩) hlt4).trans fr0
    have hf1 := (hb3.frozen (p := ⟨w.heap.size + 1, 1, none⟩) hlt4).trans fr1
    have hf2 := (hb3.frozen (p := ⟨w.heap.size + 1, 2, none⟩) hlt4).trans fr2
    have hf3 := (hb3.frozen (p := ⟨w.heap.size + 1, 3, none⟩) hlt4).trans fr3
    have HU := Lib.hid hU
    have HB3 := Lib.hid hb3
    have hz3 := hb3.size
    clear hb3 hU kr0 kr1 kr2 kr3 fr0 fr1 fr2 fr3 kx0 kx1 kx2
    go_wp2
    refine bodyPost_ret (v := .agg #[.int .i64 (F (.mk 1 c noS [])).kind, .int .i64 (F (.mk 1 c noS [])).num, .string (F (.mk 1 c noS [])).name, .slice A3 (F (.mk 1 c noS [])).args.length c3]) (by simp [results, Try.results40, go_sem, hc0, hc1, hc2, hc3]) rfl ⟨_, rfl, ?_, ?_⟩
    · show RdE (set4 w3 (w.heap.size + 1) _ _ _ _) _ _ _
      rw [HX.out]
      refine HU.out.keep (fun b hb => hb.elim (fun h => .inl (HSY.out b h)) (fun h => .inr ⟨by omega, Nat.lt_of_lt_of_le h.2 (Nat.le_of_eq (set4_size _ _ _ _ _ _).symm)⟩)) (set4_same ?_)
      intro hp
      rcases hp with hp | hp
      · have := HS.out _ (HSY.out _ hp); unfold Upto at this; omega
      · omega
    · show Below _ _ (set4 w3 (w.heap.size + 1) _ _ _ _)
      exact set4_below (HBW.out.trans (HB3.out.mono HBW.out.size)) (by omega)
  · by_cases h2 : k = 2
    · subst h2
      have HX := Lib.hid (show reb F G (.mk 2 c s args) = F (.mk 2 0 s []) by rw [HW.out]; rfl)
      clear h1
      go_wp2_with fail
      refine (HF.out 2 0 s W H0W.out (by decide) (by decide) HNK.out.2).mono ?_
      rintro e w3 ⟨U, rfl, hU, hb3⟩
      obtain ⟨A3, c3, rfl⟩ := hU.form
      have hc0 := (hb3.cell (p := ⟨w.heap.size + 1, 0, none⟩) hlt4).trans kr0
      have hc1 := (hb3.cell (p := ⟨w.heap.size + 1, 1, none⟩) hlt4).trans kr1
      have hc2 := (hb3.cell (p := ⟨w.heap.size + 1, 2, none⟩) hlt4).trans kr2
      have hc3 := (hb3.cell (p := ⟨w.heap.size + 1, 3, none⟩) hlt4).trans kr3
      have hf0 := (hb3.frozen (p := ⟨w.heap.size + 1, 0, none⟩) hlt4).trans fr0
      have hf1 := (hb3.frozen (p := ⟨w.heap.size + 1, 1, none⟩) hlt4).trans fr1
      have hf2 := (hb3.frozen (p := ⟨w.heap.size + 1, 2, none⟩) hlt4).trans fr2
      have hf3 := (hb3.frozen (p := ⟨w.heap.size + 1, 3, none⟩) hlt4).trans fr3
      have HU := Lib.hid hU
      have HB3 := Lib.hid hb3
      have hz3 := hb3.size
      clear hb3 hU kr0 kr1 kr2 kr3 fr0 fr1 fr2 fr3 kx0 kx1 kx2
      go_wp2
      refine bodyPost_ret (v := .agg #[.int .i64 (F (.mk 2 0 s [])).kind, .int .i64 (F (.mk 2 0 s [])).num, .string (F (.mk 2 0 s [])).name, .slice A3 (F (.mk 2 0 s [])).args.length c3]) (by simp [results, Try.results40, go_sem, hc0, hc1, hc2, hc3]) rfl ⟨_, rfl, ?_, ?_⟩
      · show RdE (set4 w3 (w.heap.size + 1) _ _ _ _) _ _ _
        rw [HX.out]
        refine HU.out.keep (fun b hb => hb.elim (fun h => .inl (HSY.out b h)) (fun h => .inr ⟨by omega, Nat.lt_of_lt_of_le h.2 (Nat.le_of_eq (set4_size _ _ _ _ _ _).symm)⟩)) (set4_same ?_)
        intro hp
        rcases hp with hp | hp
        · have := HS.out _ (HSY.out _ hp); unfold Upto at this; omega
        · omega
      · show Below _ _ (set4 w3 (w.heap.size + 1) _ _ _ _)
        exact set4_below (HBW.out.trans (HB3.out.mono HBW.out.size)) (by omega)
    · have HX := Lib.hid (show reb F G (.mk k c s args) = numE 0 by rw [HW.out]; simp [Ex.kind, h1, h2])
      have g1 : (k == 1) = false := by simpa using h1
      have g2 : (k == 2) = false := by simpa using h2
      clear h1 h2
      go_wp2
      refine bodyPost_ret (v := .agg #[.int .i64 1, .int .i64 0, .string noS, .slice none 0 0]) (by simp [results, Try.results40, go_sem, kr0, kr1, kr2, kr3]) rfl ⟨_, rfl, ?_, ?_⟩
      · rw [HX.out]
        exact RdE.leaf _ _ (by decide) (by decide) (by decide)
      · show Below _ _ (set4 W (w.heap.size + 1) _ _ _ _)
        exact set4_below HBW.out (by omega)
set_option maxHeartbeats 2000000 in
set_option maxRecDepth 100000 in
theorem rb_fold1 (gv : Value) (F : Ex → Ex) (G : Int → Ex → Ex → Ex) (Sy : Blocks) (W0 : World) (hf : LeafC 44 #[] F Sy W0) (t : Ex) (ht : t.two = none) : RBs (.func (.func 44) #[] #[]) gv F G Sy W0 t := by
  intro w S V h0 hSy hS r
  obtain ⟨k, c, s, args, v, rfl, rfl, hk, hc, hs, hargs⟩ := id r
  obtain ⟨A, cap, rfl, _, _, _⟩ := hargs.form
  --(w.alloc (.cells #[.int .i64 k, .int .i64 c, .string s, .slice A args.length cap] 38)) = (w.alloc (.cells #[.int .i64 k, .int .i64 c, .string s, .slice A args.length cap] 38))
  --((w.alloc (.cells #[.int .i64 k, .int .i64 c, .string s, .slice A args.length cap] 38)).alloc (.cells #[.int .i64 0, .int .i64 0, .string noS, .slice none 0 0] 38)) = ((w.alloc (.cells #[.int .i64 k, .int .i64 c, .string s, .slice A args.length cap] 38)).alloc (.cells #[.int .i64 0, .int .i64 0, .string noS, .slice none 0 0] 38))
  have bel : Below w.heap.size w ((w.alloc (.cells #[.int .i64 k, .int .i64 c, .string s, .slice A args.length cap] 38)).alloc (.cells #[.int .i64 0, .int .i64 0, .string noS, .slice none 0 0] 38)) := ((Below.refl _ _).alloc (Nat.le_refl _) _).alloc (by simp) _
  have RA := Lib.hid (r.go bel hS)
  have BEL := Lib.hid bel
  have HT := Lib.hid ht
  have HW := Lib.hid (reb_none (F := F) (G := G) ht)
  have HBX := Lib.hid ((Blk.made w [.int .i64 k, .int .i64 c, .string s, .slice A args.length cap] 38 (base := 0) (Nat.zero_le _)).below ((Below.refl _ _).alloc (Nat.le_refl _) (.cells #[.int .i64 0, .int .i64 0, .string noS, .slice none 0 0] 38)))
  have HBR := Lib.hid (Blk.made (w.alloc (.cells #[.int .i64 k, .int .i64 c, .string s, .slice A args.length cap] 38)) [.int .i64 0, .int .i64 0, .string noS, .slice none 0 0] 38 (base := 0) (Nat.zero_le _))
  have HS := Lib.hid hS
  have HSY := Lib.hid hSy
  have H0 := Lib.hid h0
  have HNK := Lib.hid (And.intro hc hs)
  have HF := Lib.hid hf
  have eg : ∀ args w, (callFunc 44 args).run Try.prog w = .ok (.enter 44 args) w := fun args w => by kernel_rfl
  unfold exV
  clear hargs r bel hk hc hs hS hf ht h0 hSy
  go_enter Try.func40, Try.ntmps40
  go_wp2_with fail
  refine (two_none _ HT.out _ S _ RA.out).mono ?_
  rintro e w1 ⟨rfl, b1⟩
  have B1 := Lib.hid b1
  have HBX1 := Lib.hid (HBX.out.below b1)
  have HBR1 := Lib.hid (HBR.out.below b1)
  clear b1 HBX HBR RA
  --((w1.alloc (.cells #[.int .i64 0, .int .i64 0, .string noS, .slice none 0 0] 38)).alloc (.cells #[.int .i64 0, .int .i64 0, .string noS, .slice none 0 0] 38)) = ((w1.alloc (.cells #[.int .i64 0, .int .i64 0, .string noS, .slice none 0 0] 38)).alloc (.cells #[.int .i64 0, .int .i64 0, .string noS, .slice none 0 0] 38))
  go_upto_region 2 with (fail)
  have hbw : Below w1.heap.size w1 ((w1.alloc (.cells #[.int .i64 0, .int .i64 0, .string noS, .slice none 0 0] 38)).alloc (.cells #[.int .i64 0, .int .i64 0, .string noS, .slice none 0 0] 38)) := ((Below.refl _ _).alloc (Nat.le_refl _) _).alloc (by simp) _
  generalize ((w1.alloc (.cells #[.int .i64 0, .int .i64 0, .string noS, .slice none 0 0] 38)).alloc (.cells #[.int .i64 0, .int .i64 0, .string noS, .slice none 0 0] 38)) = W at *
  have hzw := BEL.out.size
  have hzb := B1.out.size
  rw [World.size_alloc, World.size_alloc] at hzw hzb
  have hzx := hbw.size
  have HBW := Lib.hid (BEL.out.trans ((B1.out.mono (by simp; omega)).trans (hbw.mono (by omega))))
  have HBX2 := Lib.hid (HBX1.out.below hbw)
  have HBR2 := Lib.hid (HBR1.out.below hbw)
  have H0W := Lib.hid (H0.out.trans (HBW.out.mono H0.out.size))
  rw [World.size_alloc] at HBR2
  have kx0 := HBX2.out.cell 0 _ rfl; have kx1 := HBX2.out.cell 1 _ rfl; have kx2 := HBX2.out.cell 2 _ rfl
  have kr0 := HBR2.out.cell 0 _ rfl; have kr1 := HBR2.out.cell 1 _ rfl; have kr2 := HBR2.out.cell 2 _ rfl; have kr3 := HBR2.out.cell 3 _ rfl
  have fr0 := HBR2.out.fr 0; have fr1 := HBR2.out.fr 1; have fr2 := HBR2.out.fr 2; have fr3 := HBR2.out.fr 3
  have hlt3 : w.heap.size < W.heap.size := by omega
  have hlt4 : w.heap.size + 1 < W.heap.size := by omega
  have hne : w.heap.size ≠ w.heap.size + 1 := by omega
  clear hbw BEL B1 HBX1 HBR1 H0
  by_cases h1 : k = 1
  · subst h1
    have HX := Lib.hid (show reb F G (.mk 1 c s args) = F (.mk 1 c noS []) by rw [HW.out]; rfl)
    go_wp2_with fail
    refine (HF.out 1 c noS W H0W.out (by decide) HNK.out.1 (by decide)).mono ?_
    rintro e w3 ⟨U, rfl, hU, hb3⟩
    obtain ⟨A3, c3, rfl⟩ := hU.form
    have hc0 := (hb3.cell (p := ⟨w.heap.size + 1, 0, none⟩) hlt4).trans kr0
    have hc1 := (hb3.cell (p := ⟨w.heap.size + 1, 1, none⟩) hlt4).trans kr1
    have hc2 := (hb3.cell (p := ⟨w.heap.size + 1, 2, none⟩) hlt4).trans kr2
    have hc3 := (hb3.cell (p := ⟨w.heap.size + 1, 3, none⟩) hlt4).trans kr3
    have hf0 := (hb3.frozen (p := ⟨w.heap.size + 1, 0, none⟩) hlt4).trans fr0
    have hf1 := (hb3.frozen (p := ⟨w.heap.size + 1, 1, none⟩) hlt4).trans fr1
    have hf2 := (hb3.frozen (p := ⟨w.heap.size + 1, 2, none⟩) hlt4).trans fr2
    have hf3 := (hb3.frozen (p := ⟨w.heap.size + 1, 3, none⟩) hlt4).trans fr3
    have HU := Lib.hid hU
    have HB3 := Lib.hid hb3
    have hz3 := hb3.size
    clear hb3 hU kr0 kr1 kr2 kr3 fr0 fr1 fr2 fr3 kx0 kx1 kx2
    go_wp2
    refine bodyPost_ret (v := .agg #[.int .i64 (F (.mk 1 c noS [])).kind, .int .i64 (F (.mk 1 c noS [])).num, .string (F (.mk 1 c noS [])).name, .slice A3 (F (.mk 1 c noS [])).args.length c3]) (by simp [results, Try.results40, go_sem, hc0, hc1, hc2, hc3]) rfl ⟨_, rfl, ?_, ?_⟩
    · show RdE (set4 w3 (w.heap.size + 1) _ _ _ _) _ _ _
      rw [HX.out]
      refine HU.out.keep (fun b hb => hb.elim (fun h => .inl (HSY.out b h)) (fun h => .inr ⟨by omega, Nat.lt_of_lt_of_le h.2 (Nat.le_of_eq (set4_size _ _ _ _ _ _).symm)⟩)) (set4_same ?_)
      intro hp
      rcases hp with hp | hp
      · have := HS.out _ (HSY.out _ hp); unfold Upto at this; omega
      · omega
    · show Below _ _ (set4 w3 (w.heap.size + 1) _ _ _ _)
      exact set4_below (HBW.out.trans (HB3.out.mono HBW.out.size)) (by omega)
  · by_cases h2 : k = 2
    · subst h2
      have HX := Lib.hid (show reb F G (.mk 2 c s args) = F (.mk 2 0 s []) by rw [HW.out]; rfl)
      clear h1
      go_wp2_with fail
      refine (HF.out 2 0 s W H0W.out (by decide) (by decide) HNK.out.2).mono ?_
      rintro e w3 ⟨U, rfl, hU, hb3⟩
      obtain ⟨A3, c3, rfl⟩ := hU.form
      have hc0 := (hb3.cell (p := ⟨w.heap.size + 1, 0, none⟩) hlt4).trans kr0
      have hc1 := (hb3.cell (p := ⟨w.heap.size + 1, 1, none⟩) hlt4).trans kr1
      have hc2 := (hb3.cell (p := ⟨w.heap.size + 1, 2, none⟩) hlt4).trans kr2
      have hc3 := (hb3.cell (p := ⟨w.heap.size + 1, 3, none⟩) hlt4).trans kr3
      have hf0 := (hb3.frozen (p := ⟨w.heap.size + 1, 0, none⟩) hlt4).trans fr0
      have hf1 := (hb3.frozen (p := ⟨w.heap.size + 1, 1, none⟩) hlt4).trans fr1
      have hf2 := (hb3.frozen (p := ⟨w.heap.size + 1, 2, none⟩) hlt4).trans fr2
      have hf3 := (hb3.frozen (p := ⟨w.heap.size + 1, 3, none⟩) hlt4).trans fr3
      have HU := Lib.hid hU
      have HB3 := Lib.hid hb3
      have hz3 := hb3.size
      clear hb3 hU kr0 kr1 kr2 kr3 fr0 fr1 fr2 fr3 kx0 kx1 kx2
      go_wp2
      refine bodyPost_ret (v := .agg #[.int .i64 (F (.mk 2 0 s [])).kind, .int .i64 (F (.mk 2 0 s [])).num, .string (F (.mk 2 0 s [])).name, .slice A3 (F (.mk 2 0 s [])).args.length c3]) (by simp [results, Try.results40, go_sem, hc0, hc1, hc2, hc3]) rfl ⟨_, rfl, ?_, ?_⟩
      · show RdE (set4 w3 (w.heap.size + 1) _ _ _ _) _ _ _
        rw [HX.out]
        refine HU.out.keep (fun b hb => hb.elim (fun h => .inl (HSY.out b h)) (fun h => .inr ⟨by omega, Nat.lt_of_lt_of_le h.2 (Nat.le_of_eq (set4_size _ _ _ _ _ _).symm)⟩)) (set4_same ?_)
        intro hp
        rcases hp with hp | hp
        · have := HS.out _ (HSY.out _ hp); unfold Upto at this; omega
        · omega
      · show Below _ _ (set4 w3 (w.heap.size + 1) _ _ _ _)
        exact set4_below (HBW.out.trans (HB3.out.mono HBW.out.size)) (by omega)
    · have HX := Lib.hid (show reb F G (.mk k c s args) = numE 0 by rw [HW.out]; simp [Ex.kind, h1, h2])
      have g1 : (k == 1) = false := by simpa using h1
      have g2 : (k == 2) = false := by simpa using h2
      clear h1 h2
      go_wp2
      refine bodyPost_ret (v := .agg #[.int .i64 1, .int .i64 0, .string noS, .slice none 0 0]) (by simp [results, Try.results40, go_sem, kr0, kr1, kr2, kr3]) rfl ⟨_, rfl, ?_, ?_⟩
      · rw [HX.out]
        exact RdE.leaf _ _ (by decide) (by decide) (by decide)
      · show Below _ _ (set4 W (w.heap.size + 1) _ _ _ _)
        exact set4_below HBW.out (by omega)
set_option maxHeartbeats 2000000 in
set_option maxRecDepth 100000 in
theorem rb_put3 (P Q : Nat) (gv : Value) (F : Ex → Ex) (G : Int → Ex → Ex → Ex) (Sy : Blocks) (W0 : World) (hf : LeafC 42 #[.pointer (some ⟨P, 0, none⟩), .pointer (some ⟨Q, 0, none⟩)] F Sy W0) (t : Ex) (ht : t.two = none) : RBs (.func (.func 42) #[] #[.pointer (some ⟨P, 0, none⟩), .pointer (some ⟨Q, 0, none⟩)]) gv F G Sy W0 t := by
  intro w S V h0 hSy hS r
  obtain ⟨k, c, s, args, v, rfl, rfl, hk, hc, hs, hargs⟩ := id r
  obtain ⟨A, cap, rfl, _, _, _⟩ := hargs.form
  --(w.alloc (.cells #[.int .i64 k, .int .i64 c, .string s, .slice A args.length cap] 38)) = (w.alloc (.cells #[.int .i64 k, .int .i64 c, .string s, .slice A args.length cap] 38))
  --((w.alloc (.cells #[.int .i64 k, .int .i64 c, .string s, .slice A args.length cap] 38)).alloc (.cells #[.int .i64 0, .int .i64 0, .string noS, .slice none 0 0] 38)) = ((w.alloc (.cells #[.int .i64 k, .int .i64 c, .string s, .slice A args.length cap] 38)).alloc (.cells #[.int .i64 0, .int .i64 0, .string noS, .slice none 0 0] 38))
  have bel : Below w.heap.size w ((w.alloc (.cells #[.int .i64 k, .int .i64 c, .string s, .slice A args.length cap] 38)).alloc (.cells #[.int .i64 0, .int .i64 0, .string noS, .slice none 0 0] 38)) := ((Below.refl _ _).alloc (Nat.le_refl _) _).alloc (by simp) _
  have RA := Lib.hid (r.go bel hS)
  have BEL := Lib.hid bel
  have HT := Lib.hid ht
  have HW := Lib.hid (reb_none (F := F) (G := G) ht)
  have HBX := Lib.hid ((Blk.made w [.int .i64 k, .int .i64 c, .string s, .slice A args.length cap] 38 (base := 0) (Nat.zero_le _)).below ((Below.refl _ _).alloc (Nat.le_refl _) (.cells #[.int .i64 0, .int .i64 0, .string noS, .slice none 0 0] 38)))
  have HBR := Lib.hid (Blk.made (w.alloc (.cells #[.int .i64 k, .int .i64 c, .string s, .slice A args.length cap] 38)) [.int .i64 0, .int .i64 0, .string noS, .slice none 0 0] 38 (base := 0) (Nat.zero_le _))
  have HS := Lib.hid hS
  have HSY := Lib.hid hSy
  have H0 := Lib.hid h0
  have HNK := Lib.hid (And.intro hc hs)
  have HF := Lib.hid hf
  have eg : ∀ args w, (callFunc 42 args).run Try.prog w = .ok (.enter 42 args) w := fun args w => by kernel_rfl
  unfold exV
  clear hargs r bel hk hc hs hS hf ht h0 hSy
  go_enter Try.func40, Try.ntmps40
  go_wp2_with fail
  refine (two_none _ HT.out _ S _ RA.out).mono ?_
  rintro e w1 ⟨rfl, b1⟩
  have B1 := Lib.hid b1
  have HBX1 := Lib.hid (HBX.out.below b1)
  have HBR1 := Lib.hid (HBR.out.below b1)
  clear b1 HBX HBR RA
  --((w1.alloc (.cells #[.int .i64 0, .int .i64 0, .string noS, .slice none 0 0] 38)).alloc (.cells #[.int .i64 0, .int .i64 0, .string noS, .slice none 0 0] 38)) = ((w1.alloc (.cells #[.int .i64 0, .int .i64 0, .string noS, .slice none 0 0] 38)).alloc (.cells #[.int .i64 0, .int .i64 0, .string noS, .slice none 0 0] 38))
  go_upto_region 2 with (fail)
  have hbw : Below w1.heap.size w1 ((w1.alloc (.cells #[.int .i64 0, .int .i64 0, .string noS, .slice none 0 0] 38)).alloc (.cells #[.int .i64 0, .int .i64 0, .string noS, .slice none 0 0] 38)) := ((Below.refl _ _).alloc (Nat.le_refl _) _).alloc (by simp) _
  generalize ((w1.alloc (.cells #[.int .i64 0, .int .i64 0, .string noS, .slice none 0 0] 38)).alloc (.cells #[.int .i64 0, .int .i64 0, .string noS, .slice none 0 0] 38)) = W at *
  have hzw := BEL.out.size
  have hzb := B1.out.size
  rw [World.size_alloc, World.size_alloc] at hzw hzb
  have hzx := hbw.size
  have HBW := Lib.hid (BEL.out.trans ((B1.out.mono (by simp; omega)).trans (hbw.mono (by omega))))
  have HBX2 := Lib.hid (HBX1.out.below hbw)
  have HBR2 := Lib.hid (HBR1.out.below hbw)
  have H0W := Lib.hid (H0.out.trans (HBW.out.mono H0.out.size))
  rw [World.size_alloc] at HBR2
  have kx0 := HBX2.out.cell 0 _ rfl; have kx1 := HBX2.out.cell 1 _ rfl; have kx2 := HBX2.out.cell 2 _ rfl
  have kr0 := HBR2.out.cell 0 _ rfl; have kr1 := HBR2.out.cell 1 _ rfl; have kr2 := HBR2.out.cell 2 _ rfl; have kr3 := HBR2.out.cell 3 _ rfl
  have fr0 := HBR2.out.fr 0; have fr1 := HBR2.out.fr 1; have fr2 := HBR2.out.fr 2; have fr3 := HBR2.out.fr 3
  have hlt3 : w.heap.size < W.heap.size := by omega
  have hlt4 : w.heap.size + 1 < W.heap.size := by omega
  have hne : w.heap.size ≠ w.heap.size + 1 := by omega
  clear hbw BEL B1 HBX1 HBR1 H0
  by_cases h1 : k = 1
  · subst h1
    have HX := Lib.hid (show reb F G (.mk 1 c s args) = F (.mk 1 c noS []) by rw [HW.out]; rfl)
    go_wp2_with fail
    refine (HF.out 1 c noS W H0W.out (by decide) HNK.out.1 (by decide)).mono ?_
    rintro e w3 ⟨U, rfl, hU, hb3⟩
    obtain ⟨A3, c3, rfl⟩ := hU.form
    have hc0 := (hb3.cell (p := ⟨w.heap.size + 1, 0, none⟩) hlt4).trans kr0
    have hc1 := (hb3.cell (p := ⟨w.heap.size + 1, 1, none⟩) hlt4).trans kr1
    have hc2 := (hb3.cell (p := ⟨w.heap.size + 1, 2, none⟩) hlt4).trans kr2
    have hc3 := (hb3.cell (p := ⟨w.heap.size + 1, 3, none⟩) hlt4).trans kr3
    have hf0 := (hb3.frozen (p := ⟨w.heap.size + 1, 0, none⟩) hlt4).trans fr0
    have hf1 := (hb3.frozen (p := ⟨w.heap.size + 1, 1, none⟩) hlt4).trans fr1
    have hf2 := (hb3.frozen (p := ⟨w.heap.size + 1, 2, none⟩) hlt4).trans fr2
    have hf3 := (hb3.frozen (p := ⟨w.heap.size + 1, 3, none⟩) hlt4).trans fr3
    have HU := Lib.hid hU
    have HB3 := Lib.hid hb3
    have hz3 := hb3.size
    clear hb3 hU kr0 kr1 kr2 kr3 fr0 fr1 fr2 fr3 kx0 kx1 kx2
    go_wp2
    refine bodyPost_ret (v := .agg #[.int .i64 (F (.mk 1 c noS [])).kind, .int .i64 (F (.mk 1 c noS [])).num, .string (F (.mk 1 c noS [])).name, .slice A3 (F (.mk 1 c noS [])).args.length c3]) (by simp [results, Try.results40, go_sem, hc0, hc1, hc2, hc3]) rfl ⟨_, rfl, ?_, ?_⟩
    · show RdE (set4 w3 (w.heap.size + 1) _ _ _ _) _ _ _
      rw [HX.out]
      refine HU.out.keep (fun b hb => hb.elim (fun h => .inl (HSY.out b h)) (fun h => .inr ⟨by omega, Nat.lt_of_lt_of_le h.2 (Nat.le_of_eq (set4_size _ _ _ _ _ _).symm)⟩)) (set4_same ?_)
      intro hp
      rcases hp with hp | hp
      · have := HS.out _ (HSY.out _ hp); unfold Upto at this; omega
      · omega
    · show Below _ _ (set4 w3 (w.heap.size + 1) _ _ _ _)
      exact set4_below (HBW.out.trans (HB3.out.mono HBW.out.size)) (by omega)
  · by_cases h2 : k = 2
    · subst h2
      have HX := Lib.hid (show reb F G (.mk 2 c s args) = F (.mk 2 0 s []) by rw [HW.out]; rfl)
      clear h1
      go_wp2_with fail
      refine (HF.out 2 0 s W H0W.out (by decide) (by decide) HNK.out.2).mono ?_
      rintro e w3 ⟨U, rfl, hU, hb3⟩
      obtain ⟨A3, c3, rfl⟩ := hU.form
      have hc0 := (hb3.cell (p := ⟨w.heap.size + 1, 0, none⟩) hlt4).trans kr0
      have hc1 := (hb3.cell (p := ⟨w.heap.size + 1, 1, none⟩) hlt4).trans kr1
      have hc2 := (hb3.cell (p := ⟨w.heap.size + 1, 2, none⟩) hlt4).trans kr2
      have hc3 := (hb3.cell (p := ⟨w.heap.size + 1, 3, none⟩) hlt4).trans kr3
      have hf0 := (hb3.frozen (p := ⟨w.heap.size + 1, 0, none⟩) hlt4).trans fr0
      have hf1 := (hb3.frozen (p := ⟨w.heap.size + 1, 1, none⟩) hlt4).trans fr1
      have hf2 := (hb3.frozen (p := ⟨w.heap.size + 1, 2, none⟩) hlt4).trans fr2
      have hf3 := (hb3.frozen (p := ⟨w.heap.size + 1, 3, none⟩) hlt4).trans fr3
      have HU := Lib.hid hU
      have HB3 := Lib.hid hb3
      have hz3 := hb3.size
      clear hb3 hU kr0 kr1 kr2 kr3 fr0 fr1 fr2 fr3 kx0 kx1 kx2
      go_wp2
      refine bodyPost_ret (v := .agg #[.int .i64 (F (.mk 2 0 s [])).kind, .int .i64 (F (.mk 2 0 s [])).num, .string (F (.mk 2 0 s [])).name, .slice A3 (F (.mk 2 0 s [])).args.length c3]) (by simp [results, Try.results40, go_sem, hc0, hc1, hc2, hc3]) rfl ⟨_, rfl, ?_, ?_⟩
      · show RdE (set4 w3 (w.heap.size + 1) _ _ _ _) _ _ _
        rw [HX.out]
        refine HU.out.keep (fun b hb => hb.elim (fun h => .inl (HSY.out b h)) (fun h => .inr ⟨by omega, Nat.lt_of_lt_of_le h.2 (Nat.le_of_eq (set4_size _ _ _ _ _ _).symm)⟩)) (set4_same ?_)
        intro hp
        rcases hp with hp | hp
        · have := HS.out _ (HSY.out _ hp); unfold Upto at this; omega
        · omega
      · show Below _ _ (set4 w3 (w.heap.size + 1) _ _ _ _)
        exact set4_below (HBW.out.trans (HB3.out.mono HBW.out.size)) (by omega)
    · have HX := Lib.hid (show reb F G (.mk k c s args) = numE 0 by rw [HW.out]; simp [Ex.kind, h1, h2])
      have g1 : (k == 1) = false := by simpa using h1
      have g2 : (k == 2) = false := by simpa using h2
      clear h1 h2
      go_wp2
      refine bodyPost_ret (v := .agg #[.int .i64 1, .int .i64 0, .string noS, .slice none 0 0]) (by simp [results, Try.results40, go_sem, kr0, kr1, kr2, kr3]) rfl ⟨_, rfl, ?_, ?_⟩
      · rw [HX.out]
        exact RdE.leaf _ _ (by decide) (by decide) (by decide)
      · show Below _ _ (set4 W (w.heap.size + 1) _ _ _ _)
        exact set4_below HBW.out (by omega)
end Go.Proofs.Ythbbecmffndgdaa
