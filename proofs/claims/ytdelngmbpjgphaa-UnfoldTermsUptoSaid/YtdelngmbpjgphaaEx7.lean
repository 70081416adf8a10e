/- The walk of expr.Eval, at what has two. -/
import Derived.Test.YtdelngmbpjgphaaGEx4
import Derived.Test.YtdelngmbpjgphaaGAppStep
namespace Go.Proofs.Ytdelngmbpjgphaa
open Go.RowKit
set_option linter.unusedVariables false
def MEv (env : List Bd) (t : Ex) : Prop := ∀ (w : World) (S : Blocks) (V Ve : Value), Sub S (Upto w.heap.size) → RdE w S t V → RdBds w S env Ve →
  Calls Try.prog 42 #[V, Ve] w fun e w' => e = .returned (.int .i64 (t.worth env)) ∧ inI (t.worth env) ∧ Below w.heap.size w w'
theorem do_b (k x y : Int) (hx : inI x) (hy : inI y) (w : World) : Calls Try.prog 59 #[.int .i64 k, .int .i64 x, .int .i64 y] w fun e w' =>
    e = .returned (.int .i64 (doE k x y)) ∧ Below w.heap.size w w' := by
  refine (do_e k x y hx hy w).mono ?_
  rintro e w' ⟨rfl, rfl⟩
  exact ⟨rfl, Below.refl _ _⟩
/-- all that was there is as it was, but for block R -/
abbrev StayR (R : Nat) (W w' : World) : Prop :=
  (∀ p : Addr, p.block < W.heap.size → p.block ≠ R → w'.cell? p = W.cell? p) ∧ (∀ p : Addr, p.block < W.heap.size → w'.frozen? p = W.frozen? p) ∧ But (Is R) W w'
theorem StayR.of_stay {R : Nat} {W w' : World} (h : Stay W w') : StayR R W w' := ⟨fun p hp _ => h.1 p hp, fun p hp => h.2.1 p hp, But.of_below h.below⟩
theorem StayR.set {R : Nat} {W w' : World} (h : StayR R W w') (u : Value) : StayR R W (w'.setCell ⟨R, 0, none⟩ u) :=
  ⟨fun p hp hn => (World.cell?_setCell_other w' ⟨R, 0, none⟩ p u (fun e => hn (by rw [← e]))).trans (h.1 p hp hn), fun p hp => by rw [World.frozen?_setCell]; exact h.2.1 p hp, h.2.2.setCell (p := ⟨R, 0, none⟩) rfl u⟩
theorem StayR.but {R : Nat} {W w' : World} (h : StayR R W w') : But (Is R) W w' := h.2.2
set_option maxHeartbeats 1600000 in
set_option maxRecDepth 100000 in
theorem mev_two (env : List Bd) (t a b : Ex) (ht : t.two = some (a, b)) (iha : MEv env a) (ihb : MEv env b) : MEv env t := by
  intro w S V Ve hS r re
  obtain ⟨k, c, s, args, v, rfl, rfl, hk, hc, hs, hargs⟩ := id r
  obtain ⟨hkk, r', hr'⟩ := Ex.two_kind ht
  simp only [Ex.kind, Ex.args] at hkk hr'
  obtain ⟨A, cap, rfl, _, _, _⟩ := hargs.form
  obtain ⟨Ae, cape, rfl, hel, hem, _⟩ := re.form
  have bel : Below w.heap.size w ((w.alloc (.cells #[.int .i64 k, .int .i64 c, .string s, .slice A args.length cap] 110)).alloc (.cells #[.int .i64 0] 3)) := ((Below.refl _ _).alloc (Nat.le_refl _) _).alloc (by simp) _
  have RA := Lib.hid (r.go bel hS)
  have BEL := Lib.hid bel
  have HT := Lib.hid ht
  have HW := Lib.hid (Ex.worth_two env ht)
  have HBX := Lib.hid ((Blk.made w [.int .i64 k, .int .i64 c, .string s, .slice A args.length cap] 110 (base := 0) (Nat.zero_le _)).below ((Below.refl _ _).alloc (Nat.le_refl _) (.cells #[.int .i64 0] 3)))
  have HBR := Lib.hid (Blk.made (w.alloc (.cells #[.int .i64 k, .int .i64 c, .string s, .slice A args.length cap] 110)) [.int .i64 0] 3 (base := 0) (Nat.zero_le _))
  have HS := Lib.hid hS
  have RE := Lib.hid (re.keep Flat.keeps (Sub.refl _) (same_of_below bel hS))
  have IHa := Lib.hid iha
  have IHb := Lib.hid ihb
  unfold maxLen at hem
  unfold exV
  clear hargs r bel re hk hc hs hS iha ihb ht hr'
  go_enter Try.func42, Try.ntmps42
  go_wp2_with fail
  refine (two_two _ a b HT.out _ S _ (HS.out.trans (Sub.upto (by simp; omega))) RA.out).mono ?_
  rintro e w1 ⟨⟨Va, Vb, rfl, ra, rb⟩, b1⟩
  obtain ⟨ka, ca, sa, argsa, va, ea, rfl, _, _, _, hka⟩ := id ra
  obtain ⟨Aa, na, rfl, _⟩ := hka.form
  obtain ⟨kb, cb, sb, argsb, vb, eb, rfl, _, _, _, hkb⟩ := id rb
  obtain ⟨Ab, nb, rfl, _⟩ := hkb.form
  have RVa := Lib.hid ra
  have RVb := Lib.hid rb
  have B1 := Lib.hid b1
  have HBX1 := Lib.hid (HBX.out.below b1)
  have HBR1 := Lib.hid (HBR.out.below b1)
  have RE1 := Lib.hid (RE.out.keep Flat.keeps (Sub.refl _) (same_of_below b1 (HS.out.trans (Sub.upto (by simp; omega)))))
  unfold exV
  clear ra rb b1 hka hkb ea eb RE HBX HBR
  go_upto_region 3 with (fail)
  have hbw : Below w1.heap.size w1 ((w1.alloc (.cells #[.int .i64 ka, .int .i64 ca, .string sa, .slice Aa argsa.length na] 110)).alloc (.cells #[.int .i64 kb, .int .i64 cb, .string sb, .slice Ab argsb.length nb] 110)) := ((Below.refl _ _).alloc (Nat.le_refl _) _).alloc (by simp) _
  have hca : ((w1.alloc (.cells #[.int .i64 ka, .int .i64 ca, .string sa, .slice Aa argsa.length na] 110)).alloc (.cells #[.int .i64 kb, .int .i64 cb, .string sb, .slice Ab argsb.length nb] 110)).cell? ⟨w1.heap.size, 0, none⟩ = some (.int .i64 ka) ∧ ((w1.alloc (.cells #[.int .i64 ka, .int .i64 ca, .string sa, .slice Aa argsa.length na] 110)).alloc (.cells #[.int .i64 kb, .int .i64 cb, .string sb, .slice Ab argsb.length nb] 110)).cell? ⟨w1.heap.size, 1, none⟩ = some (.int .i64 ca) ∧ ((w1.alloc (.cells #[.int .i64 ka, .int .i64 ca, .string sa, .slice Aa argsa.length na] 110)).alloc (.cells #[.int .i64 kb, .int .i64 cb, .string sb, .slice Ab argsb.length nb] 110)).cell? ⟨w1.heap.size, 2, none⟩ = some (.string sa) ∧ ((w1.alloc (.cells #[.int .i64 ka, .int .i64 ca, .string sa, .slice Aa argsa.length na] 110)).alloc (.cells #[.int .i64 kb, .int .i64 cb, .string sb, .slice Ab argsb.length nb] 110)).cell? ⟨w1.heap.size, 3, none⟩ = some (.slice Aa argsa.length na) := by simp
  have hcb : ((w1.alloc (.cells #[.int .i64 ka, .int .i64 ca, .string sa, .slice Aa argsa.length na] 110)).alloc (.cells #[.int .i64 kb, .int .i64 cb, .string sb, .slice Ab argsb.length nb] 110)).cell? ⟨w1.heap.size + 1, 0, none⟩ = some (.int .i64 kb) ∧ ((w1.alloc (.cells #[.int .i64 ka, .int .i64 ca, .string sa, .slice Aa argsa.length na] 110)).alloc (.cells #[.int .i64 kb, .int .i64 cb, .string sb, .slice Ab argsb.length nb] 110)).cell? ⟨w1.heap.size + 1, 1, none⟩ = some (.int .i64 cb) ∧ ((w1.alloc (.cells #[.int .i64 ka, .int .i64 ca, .string sa, .slice Aa argsa.length na] 110)).alloc (.cells #[.int .i64 kb, .int .i64 cb, .string sb, .slice Ab argsb.length nb] 110)).cell? ⟨w1.heap.size + 1, 2, none⟩ = some (.string sb) ∧ ((w1.alloc (.cells #[.int .i64 ka, .int .i64 ca, .string sa, .slice Aa argsa.length na] 110)).alloc (.cells #[.int .i64 kb, .int .i64 cb, .string sb, .slice Ab argsb.length nb] 110)).cell? ⟨w1.heap.size + 1, 3, none⟩ = some (.slice Ab argsb.length nb) := by simp
  have hsz : (((w1.alloc (.cells #[.int .i64 ka, .int .i64 ca, .string sa, .slice Aa argsa.length na] 110)).alloc (.cells #[.int .i64 kb, .int .i64 cb, .string sb, .slice Ab argsb.length nb] 110))).heap.size = w1.heap.size + 2 := by simp
  generalize ((w1.alloc (.cells #[.int .i64 ka, .int .i64 ca, .string sa, .slice Aa argsa.length na] 110)).alloc (.cells #[.int .i64 kb, .int .i64 cb, .string sb, .slice Ab argsb.length nb] 110)) = W at *
  have hzw := BEL.out.size
  have hzb := B1.out.size
  rw [World.size_alloc, World.size_alloc] at hzw hzb
  have hz1' := Nat.le_of_eq hsz
  have hz2' := Nat.le_of_eq hsz.symm
  have hSW : Sub S (Upto w1.heap.size) := HS.out.trans (Sub.upto (by omega))
  have WRa := Lib.hid (RVa.out.go hbw hSW)
  have WRb := Lib.hid (RVb.out.go hbw hSW)
  have REW := Lib.hid (RE1.out.keep Flat.keeps (Sub.refl _) (same_of_below hbw hSW))
  have HSW := Lib.hid (hSW.trans (Sub.upto (show w1.heap.size ≤ W.heap.size by omega)))
  have HBW := Lib.hid (BEL.out.trans ((B1.out.mono (by simp; omega)).trans (hbw.mono (by omega))))
  have HBX2 := Lib.hid (HBX1.out.below hbw)
  have hbr2 := HBR1.out.below hbw
  rw [World.size_alloc] at hbr2
  have kx := HBX2.out.cell 0 _ rfl
  have kr := hbr2.cell 0 _ rfl
  have fr := hbr2.fr
  obtain ⟨a0, a1, a2, a3⟩ := hca
  obtain ⟨b0, b1, b2, b3⟩ := hcb
  have hlt1 : w1.heap.size < W.heap.size := by omega
  have hlt2 : w1.heap.size + 1 < W.heap.size := by omega
  have hlt3 : w.heap.size < W.heap.size := by omega
  have hlt4 : w.heap.size + 1 < W.heap.size := by omega
  have HWP := Lib.hid (fun w' h => Stay.size h : ∀ w', Stay W w' → W.heap.size ≤ w'.heap.size)
  clear hsz hbw hSW RE1 RVa RVb hbr2 BEL B1 HBX1 HBR1 RA
  have hne1 : w1.heap.size ≠ w.heap.size + 1 := by omega
  have hne2 : w1.heap.size ≠ w.heap.size := by omega
  have FR := Lib.hid fr
  go_region_held3 (fun w' => StayR (w.heap.size + 1) W w') (first | assumption | exact StayR.of_stay (Stay.mk (Kept.start _)) | exact StayR.set (by assumption) _)
    (first
      | ((go_at_call_of 42 (Value.agg #[.int .i64 ka, .int .i64 ca, .string sa, .slice Aa argsa.length na]); refine (IHa.out _ S _ _ (HSW.out.trans (Sub.upto (HWP.out _ (by first | assumption | exact Stay.mk (Kept.start _))))) (WRa.out.keep (Sub.refl _) (Same.sub (Stay.same (by first | assumption | exact Stay.mk (Kept.start _))) HSW.out)) (REW.out.keep Flat.keeps (Sub.refl _) (Same.sub (Stay.same (by first | assumption | exact Stay.mk (Kept.start _))) HSW.out))).mono ?_; rintro e wa1 ⟨rfl, hia, hb1⟩; have hst1 : Stay W wa1 := Stay.step hb1 (by first | assumption | exact Stay.mk (Kept.start _)); have hr1 : StayR (w.heap.size + 1) W wa1 := StayR.of_stay hst1))
      | ((go_at_call_of 42 (Value.agg #[.int .i64 kb, .int .i64 cb, .string sb, .slice Ab argsb.length nb]); refine (IHb.out _ S _ _ (HSW.out.trans (Sub.upto (HWP.out _ (by first | assumption | exact Stay.mk (Kept.start _))))) (WRb.out.keep (Sub.refl _) (Same.sub (Stay.same (by first | assumption | exact Stay.mk (Kept.start _))) HSW.out)) (REW.out.keep Flat.keeps (Sub.refl _) (Same.sub (Stay.same (by first | assumption | exact Stay.mk (Kept.start _))) HSW.out))).mono ?_; rintro e wb1 ⟨rfl, hib, hb2⟩; have hst2 : Stay W wb1 := Stay.step hb2 (by first | assumption | exact Stay.mk (Kept.start _)); have hr2 : StayR (w.heap.size + 1) W wb1 := StayR.of_stay hst2))
      | ((go_at_call 59; refine (do_b k (a.worth env) (b.worth env) (by assumption) (by assumption) _).mono ?_; rintro e wc1 ⟨rfl, hb3⟩; have hst3 : Stay W wc1 := Stay.step hb3 (by first | assumption | exact Stay.mk (Kept.start _)); have hr3 : StayR (w.heap.size + 1) W wc1 := StayR.of_stay hst3; have hcr3 := (hst3.1 ⟨w.heap.size + 1, 0, none⟩ hlt4).trans kr; have hfr3 := (hst3.2.1 ⟨w.heap.size + 1, 0, none⟩ hlt4).trans (FR.out _))))
  rename_i hheld
  clear hheld
  have HST := Lib.hid hst3
  have hfin : (wc1.setCell ⟨w.heap.size + 1, 0, none⟩ (.int .i64 (doE k (a.worth env) (b.worth env)))).cell? ⟨w.heap.size + 1, 0, none⟩ = some (.int .i64 (doE k (a.worth env) (b.worth env))) := World.cell?_setCell_same' _ _ _ (by rw [hcr3]; rfl)
  clear hst1 hst2 hst3 hr1 hr2 hr3 hb1 hb2 hb3
  go_wp2
  refine bodyPost_ret (v := .int .i64 (doE k (a.worth env) (b.worth env))) (by simp [results, Try.results42, go_sem, hfin]) rfl ⟨by rw [HW.out]; rfl, by rw [HW.out]; exact doE_in _ _ _ hia hib, ?_⟩
  exact (HBW.out.trans (HST.out.below.mono (by omega))).setCell (p := ⟨w.heap.size + 1, 0, none⟩) (Nat.le_succ _) _
end Go.Proofs.Ytdelngmbpjgphaa
