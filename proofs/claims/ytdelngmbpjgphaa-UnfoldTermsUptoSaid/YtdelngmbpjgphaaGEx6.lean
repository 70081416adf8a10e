/- Texts merged: NlSpec, Ex6. -/
import Derived.Test.YtdelngmbpjgphaaGAppStep
import Derived.Test.YtdelngmbpjgphaaGEx8
/- How many marks a run leaves, and its steps. -/
namespace Go.Proofs.Ytdelngmbpjgphaa
set_option linter.unusedVariables false
theorem loopN_len {F : Nat} {tz : Int} {body : Int → US → Option (List Mk × US)} (hb : ∀ i m x, body i m = some x → (flatL x.1).length + 2 * m.st ≤ 2 * x.2.st ∧ m.st ≤ x.2.st ∧ x.2.h.length = m.h.length) : ∀ (n : Nat) (i : Int) (m : US) (x : List Mk × US), loopN F tz body n i m = some x → (flatL x.1).length + 2 * m.st ≤ 2 * x.2.st ∧ m.st ≤ x.2.st ∧ x.2.h.length = m.h.length := by
  intro n
  induction n with
  | zero =>
    intro i m x h
    rw [loopN] at h
    split at h
    · cases h
    · injection h with h; subst h; simp [flatL_nil]
  | succ n ih =>
    intro i m x h
    rw [loopN] at h
    split at h
    · split at h
      · cases hbo : body i m.step with
        | none => rw [hbo] at h; cases h
        | some y =>
          rw [hbo] at h
          simp only [Option.bind_some, Option.map_eq_some_iff] at h
          obtain ⟨z, hz, rfl⟩ := h
          have h1 := hb _ _ _ hbo
          have h2 := ih _ _ _ hz
          simp only [US.step] at h1
          simp only [flatL_app, List.length_append]
          omega
      · cases h
    · injection h with h; subst h; simp [flatL_nil]
theorem blN_len' (F N : Nat) : ∀ (l : List St), SizeOf.sizeOf l ≤ N → ∀ env lab m x, blN F l env lab m = some x → (flatL x.1).length + 2 * m.st ≤ 2 * x.2.st ∧ m.st ≤ x.2.st ∧ x.2.h.length = m.h.length := by
  induction N with
  | zero =>
    intro l h
    cases l with
    | nil => intro env lab m x e; rw [blN_nil] at e; injection e with e; subst e; simp [flatL_nil]
    | cons s r => simp at h
  | succ N ih =>
    intro l h
    cases l with
    | nil => intro env lab m x e; rw [blN_nil] at e; injection e with e; subst e; simp [flatL_nil]
    | cons s r =>
      obtain ⟨k, nm, a, b, body, els⟩ := s
      simp at h
      intro env lab m x e
      rw [blN_cons] at e
      have hb := ih body (by omega)
      have he := ih els (by omega)
      have hr := ih r (by omega)
      have key : ∀ y, stN F (.mk k nm a b body els) env lab m = some y → (flatL y.1).length + 2 * m.st ≤ 2 * y.2.1.st ∧ m.st ≤ y.2.1.st ∧ y.2.1.h.length = m.h.length := by
        intro y hy
        rw [stN] at hy
        repeat' split at hy
        · injection hy with hy; subst hy; simp [flatL_nil]
        · cases hy
        · injection hy with hy; subst hy; simp [flatL_nil, US.step]; omega
        · injection hy with hy; subst hy; simp [flatL_nil, flatL_cons, flat_acc, US.step]; omega
        · injection hy with hy; subst hy; simp [flatL_nil, flatL_cons, flat_acc, US.step, US.put]; omega
        · obtain ⟨z, hz, rfl⟩ := Option.map_eq_some_iff.1 hy
          have := hb _ _ _ _ hz
          simp only [US.step] at this
          simp [flatL_nil, flatL_cons, flat_par]; omega
        · obtain ⟨z, hz, rfl⟩ := Option.map_eq_some_iff.1 hy
          have := hb _ _ _ _ hz
          simp only [US.step] at this
          simp [flatL_nil, flatL_cons, flat_fin]; omega
        · obtain ⟨z, hz, rfl⟩ := Option.map_eq_some_iff.1 hy
          have := he _ _ _ _ hz
          simp only [US.step] at this
          simp only; omega
        · obtain ⟨z, hz, rfl⟩ := Option.map_eq_some_iff.1 hy
          have := hb _ _ _ _ hz
          simp only [US.step] at this
          simp only; omega
        · obtain ⟨z, hz, rfl⟩ := Option.map_eq_some_iff.1 hy
          have := loopN_len (fun i m x h => hb _ _ _ _ h) _ _ _ _ hz
          simp only [US.step] at this
          simp only; omega
      cases hs : stN F (.mk k nm a b body els) env lab m with
      | none => rw [hs] at e; cases e
      | some y =>
        rw [hs] at e
        simp only [Option.bind_some, Option.map_eq_some_iff] at e
        obtain ⟨z, hz, rfl⟩ := e
        have h1 := key y hs
        have h2 := hr _ _ _ _ hz
        simp only [flatL_app, List.length_append]
        omega
theorem blN_len (F : Nat) (l : List St) (env : List Bd) (lab : Nat) (m : US) (x : List Mk × US) (h : blN F l env lab m = some x) : (flatL x.1).length + 2 * m.st ≤ 2 * x.2.st ∧ m.st ≤ x.2.st ∧ x.2.h.length = m.h.length := blN_len' F _ l (Nat.le_refl _) env lab m x h
end Go.Proofs.Ytdelngmbpjgphaa
/- The walk of the reference's EEval, at what has two. -/
namespace Go.Proofs.Ytdelngmbpjgphaa
open Go.RowKit
set_option linter.unusedVariables false
theorem reckon_b (k x y : Int) (hx : inI x) (hy : inI y) (w : World) : Calls Try.prog 64 #[.int .i64 k, .int .i64 x, .int .i64 y] w fun e w' =>
    e = .returned (.int .i64 (doE k x y)) ∧ Below w.heap.size w w' := by
  refine (reckon_e k x y hx hy w).mono ?_
  rintro e w' ⟨rfl, n, rfl⟩
  exact ⟨rfl, below_drewN (Below.refl _ _) _⟩
set_option maxHeartbeats 1600000 in
set_option maxRecDepth 100000 in
theorem eev_two (env : List Bd) (t a b : Ex) (ht : t.two = some (a, b)) (iha : EEv env a) (ihb : EEv env b) : EEv env t := by
  intro w S V Ve hS r re
  obtain ⟨k, c, s, args, v, rfl, rfl, hk, hc, hs, hargs⟩ := id r
  obtain ⟨hkk, r', hr'⟩ := Ex.two_kind ht
  simp only [Ex.kind, Ex.args] at hkk hr'
  subst hr'
  obtain ⟨A, cap, rfl, hcl, hcm, _⟩ := hargs.form
  obtain ⟨Ae, cape, rfl, hel, hem, _⟩ := re.form
  obtain ⟨b0, off, k0, c0, s0, v0, rfl, hsb, x0, x1, x2, x3, ra⟩ := RdExs.arg hargs (q := 0) (by simp)
  obtain ⟨b0', off', k1, c1, s1, v1, hA, hsb', y0, y1, y2, y3, rb⟩ := RdExs.arg hargs (q := 1) (by simp)
  injection hA with hA
  injection hA with e1 e2
  subst e1 e2
  simp only [List.getElem_cons_zero, List.getElem_cons_succ] at ra rb
  rw [Nat.zero_mul, Nat.add_zero] at x0 x1 x2 x3
  rw [Nat.one_mul] at y0 y1 y2 y3
  have hl2 : 2 ≤ (a :: b :: r').length := by simp
  have bel : Below w.heap.size w (w.alloc (.cells #[.int .i64 k, .int .i64 c, .string s, .slice (some ⟨b0, off, none⟩) (a :: b :: r').length cap] 110)) := (Below.refl _ _).alloc (Nat.le_refl _) _
  have RA := Lib.hid (r.go bel hS)
  have BEL := Lib.hid bel
  have HT := Lib.hid ht
  have HW := Lib.hid (Ex.worth_two env ht)
  have HBX := Lib.hid (Blk.made w [.int .i64 k, .int .i64 c, .string s, .slice (some ⟨b0, off, none⟩) (a :: b :: r').length cap] 110 (base := 0) (Nat.zero_le _))
  have HS := Lib.hid hS
  have RE := Lib.hid re
  have RVa := Lib.hid ra
  have RVb := Lib.hid rb
  have IHa := Lib.hid iha
  have IHb := Lib.hid ihb
  have hb0 : b0 < w.heap.size := hS _ hsb
  obtain ⟨A1, m1, n1, rfl⟩ := ra.slice
  obtain ⟨A2, m2, n2, rfl⟩ := rb.slice
  unfold maxLen at hem hcm
  unfold exV
  clear hargs r bel re hk hc hs hS ra rb iha ihb
  generalize hn : (a :: b :: r').length = n at *
  have HT' := HT
  go_enter Try.func49, Try.ntmps49
  go_wp2_with fail
  refine (etwo_yes _ a b HT.out _ S _ RA.out).mono ?_
  rintro e w1 ⟨rfl, bb1⟩
  have BX1 := HBX.out.below bb1
  have hz1 := BEL.out.size
  have hz2 := bb1.size
  rw [World.size_alloc] at hz1 hz2
  have kx0 := BX1.cell 0 _ rfl
  have kx3 := BX1.cell 3 _ rfl
  have BEL1 := Lib.hid (BEL.out.trans (bb1.mono (by simp)))
  have REW := Lib.hid (RE.out.keep Flat.keeps (Sub.refl _) (same_of_below BEL1.out HS.out))
  have WRa := Lib.hid (RVa.out.go BEL1.out HS.out)
  have WRb := Lib.hid (RVb.out.go BEL1.out HS.out)
  have f0 := (BEL1.out.cell (p := ⟨b0, off, none⟩) hb0).trans x0
  have f1 := (BEL1.out.cell (p := ⟨b0, off + 1, none⟩) hb0).trans x1
  have f2 := (BEL1.out.cell (p := ⟨b0, off + 2, none⟩) hb0).trans x2
  have f3 := (BEL1.out.cell (p := ⟨b0, off + 3, none⟩) hb0).trans x3
  have f4 := (BEL1.out.cell (p := ⟨b0, off + 4, none⟩) hb0).trans y0
  have f5 := (BEL1.out.cell (p := ⟨b0, off + 4 + 1, none⟩) hb0).trans y1
  have f6 := (BEL1.out.cell (p := ⟨b0, off + 4 + 2, none⟩) hb0).trans y2
  have f7 := (BEL1.out.cell (p := ⟨b0, off + 4 + 3, none⟩) hb0).trans y3
  have hzl : w.heap.size < w1.heap.size := by omega
  have hbl : b0 < w1.heap.size := by omega
  have HSW := Lib.hid (HS.out.trans (Sub.upto (show w.heap.size ≤ w1.heap.size by omega)))
  clear bb1 BEL RA HBX BX1 RE RVa RVb x0 x1 x2 x3 y0 y1 y2 y3
  have BELw := BEL1
  obtain ⟨z, hz⟩ : ∃ z, z = w.heap.size := ⟨_, rfl⟩
  rw [← hz]
  rw [← hz] at kx0 kx3 hzl
  clear hz hz1 hz2 hb0 BEL1
  have hn0 : (0 : Int) < (n : Int) := by omega
  have hn00 : 0 < n := by omega
  have hn1 : (1 : Int) < (n : Int) := by omega
  have hn2 : 1 < n := by omega
  have HWP := Lib.hid (fun w' h => Stay.size h : ∀ w', Stay w1 w' → w1.heap.size ≤ w'.heap.size)
  go_upto_region 12 with (fail)
  go_region_held3 (fun w' => Stay w1 w') (first | assumption | exact Stay.mk (Kept.start _) | ((refine Stay.mk ?_; (repeat (with_reducible first | refine Kept.set ?_ (by omega) _ | refine Kept.drew ?_ | refine Kept.alloc ?_ _)); first | exact Kept.refl _ | assumption)))
    (first
      | ((go_at_call_of 49 (Value.agg #[.int .i64 k0, .int .i64 c0, .string s0, .slice A1 m1 n1]); refine (IHa.out _ S _ _ (HSW.out.trans (Sub.upto (HWP.out _ (by assumption)))) (WRa.out.keep (Sub.refl _) (Same.sub (Stay.same (by assumption)) HSW.out)) (REW.out.keep Flat.keeps (Sub.refl _) (Same.sub (Stay.same (by assumption)) HSW.out))).mono ?_; rintro e wa1 ⟨rfl, hia, hb1⟩; have hst1 : Stay w1 wa1 := Stay.step hb1 (by assumption); have hk1 : Kept w1 wa1 := Kept.here hst1))
      | ((go_at_call_of 49 (Value.agg #[.int .i64 k1, .int .i64 c1, .string s1, .slice A2 m2 n2]); refine (IHb.out _ S _ _ (HSW.out.trans (Sub.upto (HWP.out _ (by assumption)))) (WRb.out.keep (Sub.refl _) (Same.sub (Stay.same (by assumption)) HSW.out)) (REW.out.keep Flat.keeps (Sub.refl _) (Same.sub (Stay.same (by assumption)) HSW.out))).mono ?_; rintro e wb1 ⟨rfl, hib, hb2⟩; have hst2 : Stay w1 wb1 := Stay.step hb2 (by assumption); have hk2 : Kept w1 wb1 := Kept.here hst2))
      | ((go_at_call 64; refine (reckon_b k (a.worth env) (b.worth env) (by assumption) (by assumption) _).mono ?_; rintro e wc1 ⟨rfl, hb3⟩; have hst3 : Stay w1 wc1 := Stay.step hb3 (by assumption); have hk3 : Kept w1 wc1 := Kept.here hst3)))
  go_wp2
  go_ret
  exact ⟨by rw [HW.out]; rfl, by rw [HW.out]; exact doE_in _ _ _ hia hib, BELw.out.trans (hst3.below.mono BELw.out.size)⟩
theorem eev_all (env : List Bd) (t : Ex) : EEv env t := Ex.ind (eev_one env) (eev_two env) t
end Go.Proofs.Ytdelngmbpjgphaa
