/- The walk of the reference's ENames. -/
import Derived.Test.YtdelngmbpjgphaaSc1
import Derived.Test.YtdelngmbpjgphaaGExMul
import Derived.Test.YtdelngmbpjgphaaOpen
namespace Go.Proofs.Ytdelngmbpjgphaa
open Go.RowKit
set_option linter.unusedVariables false
theorem Ex.two_wt {t a b : Ex} (h : t.two = some (a, b)) : a.wt + b.wt + 1 ≤ t.wt := by
  match t, h with
  | .mk k c s (x :: y :: r), h =>
    simp only [Ex.two] at h
    split at h
    · simp only [Option.some.injEq, Prod.mk.injEq] at h
      obtain ⟨rfl, rfl⟩ := h
      simp only [Ex.wt, Ex.wts]
      omega
    · cases h
theorem Ex.wt_pos (t : Ex) : 1 ≤ t.wt := by
  obtain ⟨k, n, s, args⟩ := t
  simp only [Ex.wt]; omega
theorem Ex.names_len (t : Ex) : t.names.length ≤ t.wt := by
  refine Ex.ind (motive := fun t => t.names.length ≤ t.wt) ?_ ?_ t
  · intro t h
    rw [Ex.names_none h]
    have := t.wt_pos
    split <;> simp <;> omega
  · intro t a b h ha hb
    rw [Ex.names_two h]
    have := Ex.two_wt h
    have := merge_len a.names b.names
    omega
theorem two_no (t : Ex) (ht : t.two = none) (w : World) (S : Blocks) (V : Value) (r : RdE w S t V) :
    Calls Try.prog 63 #[V] w fun e w' => e = .returned (.bool false) ∧ Below w.heap.size w w' := by
  refine (etwo_any t w S V r).mono ?_
  rintro e w' ⟨rfl, h⟩
  exact ⟨by simp [Ex.isTwo, ht], h⟩
theorem two_yes (t a b : Ex) (ht : t.two = some (a, b)) (w : World) (S : Blocks) (V : Value) (r : RdE w S t V) :
    Calls Try.prog 63 #[V] w fun e w' => e = .returned (.bool true) ∧ Below w.heap.size w w' := by
  refine (etwo_any t w S V r).mono ?_
  rintro e w' ⟨rfl, h⟩
  exact ⟨by simp [Ex.isTwo, ht], h⟩
theorem rdS_one {w : World} {S : Blocks} {g : Nat} {x : Str} (h : w.cell? ⟨g, 0, none⟩ = some (.string x)) (hx : okS x) (hg : S g) : RdSs w S [x] (.slice (some ⟨g, 0, none⟩) 1 1) :=
  rd_one rfl (fun j v hv => by match j, hv with | 0, hv => simp [encS] at hv; subst hv; exact h) hx hg (by decide)
def ENs (t : Ex) : Prop := ∀ (w : World) (S : Blocks) (V : Value), Sub S (Upto w.heap.size) → RdE w S t V → t.wt ≤ 1048576 →
  Calls Try.prog 71 #[V] w fun e w' => ∃ x, e = .returned x ∧ FrS w' t.names x ∧ Below w.heap.size w w'
set_option maxHeartbeats 1000000 in
set_option maxRecDepth 100000 in
theorem ens_one (t : Ex) (ht : t.two = none) : ENs t := by
  intro w S V hS r hwt
  obtain ⟨k, c, s, args, v, rfl, rfl, hk, hc, hs, hargs⟩ := id r
  obtain ⟨A, cap, rfl, _, _, _⟩ := hargs.form
  have bel : Below w.heap.size w (w.alloc (.cells #[.int .i64 k, .int .i64 c, .string s, .slice A args.length cap] 110)) := (Below.refl _ _).alloc (Nat.le_refl _) _
  have RA := Lib.hid (r.go bel hS)
  have BEL := Lib.hid bel
  have HT := Lib.hid ht
  have HW := Lib.hid (Ex.names_none ht)
  have HBX := Lib.hid (Blk.made w [.int .i64 k, .int .i64 c, .string s, .slice A args.length cap] 110 (base := 0) (Nat.zero_le _))
  have HOK := Lib.hid hs
  unfold exV
  clear hargs ht r bel hk hc hs hS hwt
  go_enter Try.func71, Try.ntmps71
  go_wp2_with fail
  refine (two_no _ HT.out _ S _ RA.out).mono ?_
  rintro e w1 ⟨rfl, b1⟩
  have BX1 := HBX.out.below b1
  have hz1 := BEL.out.size
  have hz2 := b1.size
  rw [World.size_alloc] at hz1 hz2
  have k0 := BX1.cell 0 _ rfl
  have k2 := BX1.cell 2 _ rfl
  have BEL1 := Lib.hid (BEL.out.trans (b1.mono (by simp)))
  clear b1 BEL RA HBX BX1
  obtain ⟨z, hz⟩ : ∃ z, z = w.heap.size := ⟨_, rfl⟩
  rw [← hz] at k0 k2
  have hzw : z < w1.heap.size := by omega
  rw [← hz]
  clear hz hz1 hz2
  by_cases h2 : k = 2
  · subst h2
    have HX := Lib.hid (show (Ex.mk 2 c s args).names = [s] by rw [HW.out]; simp [Ex.kind, Ex.name])
    go_wp2
    go_ret
    have hb := (Below.refl w1.heap.size w1).alloc (Nat.le_refl _) (.cells #[.string s] 9)
    refine ⟨_, rfl, ?_, BEL1.out.trans (hb.mono BEL1.out.size)⟩
    rw [HX.out]
    exact ⟨Is w1.heap.size, fun b hb => by unfold Is at hb; subst hb; simp [Upto], rdS_one (by simp) HOK.out rfl⟩
  · have HX := Lib.hid (show (Ex.mk k c s args).names = [] by rw [HW.out]; simp [Ex.kind, h2])
    have e2 : (k == 2) = false := by simpa using h2
    clear h2
    go_wp2
    go_ret
    exact ⟨_, rfl, by rw [HX.out]; exact Fr.nil (by simp [maxLen]), BEL1.out⟩
set_option maxHeartbeats 1600000 in
set_option maxRecDepth 100000 in
theorem ens_two (t a b : Ex) (ht : t.two = some (a, b)) (iha : ENs a) (ihb : ENs b) : ENs t := by
  intro w S V hS r hwt
  have hwt2 := Ex.two_wt ht
  have hla := a.names_len
  have hlb := b.names_len
  obtain ⟨k, c, s, args, v, rfl, rfl, hk, hc, hs, hargs⟩ := id r
  obtain ⟨hkk, r', hr'⟩ := Ex.two_kind ht
  simp only [Ex.kind, Ex.args] at hkk hr'
  subst hr'
  obtain ⟨A, cap, rfl, hcl, hcm, _⟩ := hargs.form
  obtain ⟨b0, off, k0, c0, s0, v0, rfl, hsb, x0, x1, x2, x3, ra⟩ := RdExs.arg hargs (q := 0) (by simp)
  obtain ⟨b0', off', k1, c1, s1, v1, hA, hsb', y0, y1, y2, y3, rb⟩ := RdExs.arg hargs (q := 1) (by simp)
  injection hA with hA
  injection hA with e1 e2
  subst e1 e2
  simp only [List.getElem_cons_zero, List.getElem_cons_succ] at ra rb
  rw [Nat.zero_mul, Nat.add_zero] at x0 x1 x2 x3
  rw [Nat.one_mul] at y0 y1 y2 y3
  have hl2 : 2 ≤ (a :: b :: r').length := by simp
  have bel : Below w.heap.size w (w.alloc (.cells #[.int .i64 k, .int .i64 c, .string s, .slice (some ⟨b0, off, none⟩) (a :: b :: r').length cap] 110)) := (Below.refl _ _).alloc (Nat.le_refl _) _
  have RA := Lib.hid (r.go bel hS)
  have BEL := Lib.hid bel
  have HT := Lib.hid ht
  have HW := Lib.hid (Ex.names_two ht)
  have HBX := Lib.hid (Blk.made w [.int .i64 k, .int .i64 c, .string s, .slice (some ⟨b0, off, none⟩) (a :: b :: r').length cap] 110 (base := 0) (Nat.zero_le _))
  have HS := Lib.hid hS
  have RVa := Lib.hid ra
  have RVb := Lib.hid rb
  have IHa := Lib.hid iha
  have IHb := Lib.hid ihb
  have HWA := Lib.hid (show a.wt ≤ 1048576 by omega)
  have HWB := Lib.hid (show b.wt ≤ 1048576 by omega)
  have HLE := Lib.hid (show a.names.length + b.names.length ≤ 1073741824 by omega)
  have hb0 : b0 < w.heap.size := hS _ hsb
  obtain ⟨A1, m1, n1, rfl⟩ := ra.slice
  obtain ⟨A2, m2, n2, rfl⟩ := rb.slice
  unfold maxLen at hcm
  unfold exV
  clear hargs r bel hk hc hs hS ra rb iha ihb hwt hwt2 hla hlb
  generalize hn : (a :: b :: r').length = n at *
  go_enter Try.func71, Try.ntmps71
  go_wp2_with fail
  refine (two_yes _ a b HT.out _ S _ RA.out).mono ?_
  rintro e w1 ⟨rfl, bb1⟩
  have BX1 := HBX.out.below bb1
  have hz1 := BEL.out.size
  have hz2 := bb1.size
  rw [World.size_alloc] at hz1 hz2
  have kx0 := BX1.cell 0 _ rfl
  have kx3 := BX1.cell 3 _ rfl
  have BEL1 := Lib.hid (BEL.out.trans (bb1.mono (by simp)))
  have WRa := Lib.hid (RVa.out.go BEL1.out HS.out)
  have WRb := Lib.hid (RVb.out.go BEL1.out HS.out)
  have f0 := (BEL1.out.cell (p := ⟨b0, off, none⟩) hb0).trans x0
  have f1 := (BEL1.out.cell (p := ⟨b0, off + 1, none⟩) hb0).trans x1
  have f2 := (BEL1.out.cell (p := ⟨b0, off + 2, none⟩) hb0).trans x2
  have f3 := (BEL1.out.cell (p := ⟨b0, off + 3, none⟩) hb0).trans x3
  have f4 := (BEL1.out.cell (p := ⟨b0, off + 4, none⟩) hb0).trans y0
  have f5 := (BEL1.out.cell (p := ⟨b0, off + 4 + 1, none⟩) hb0).trans y1
  have f6 := (BEL1.out.cell (p := ⟨b0, off + 4 + 2, none⟩) hb0).trans y2
  have f7 := (BEL1.out.cell (p := ⟨b0, off + 4 + 3, none⟩) hb0).trans y3
  have hzl : w.heap.size < w1.heap.size := by omega
  have hbl : b0 < w1.heap.size := by omega
  have HSW := Lib.hid (HS.out.trans (Sub.upto (show w.heap.size ≤ w1.heap.size by omega)))
  clear bb1 BEL RA HBX BX1 RVa RVb x0 x1 x2 x3 y0 y1 y2 y3
  have BELw := BEL1
  obtain ⟨z, hz⟩ : ∃ z, z = w.heap.size := ⟨_, rfl⟩
  rw [← hz]
  rw [← hz] at kx0 kx3 hzl
  clear hz hz1 hz2 hb0 BEL1
  have hn0 : (0 : Int) < (n : Int) := by omega
  have hn00 : 0 < n := by omega
  have hn1 : (1 : Int) < (n : Int) := by omega
  have hn2 : 1 < n := by omega
  have HWP := Lib.hid (fun w' h => Stay.size h : ∀ w', Stay w1 w' → w1.heap.size ≤ w'.heap.size)
  go_upto_region 2 with (fail)
  go_region_held3 (fun w' => Stay w1 w') (first | assumption | exact Stay.mk (Kept.start _) | ((refine Stay.mk ?_; (repeat (with_reducible first | refine Kept.set ?_ (by omega) _ | refine Kept.drew ?_ | refine Kept.alloc ?_ _)); first | exact Kept.refl _ | assumption)))
    (first
      | ((go_at_call_of 71 (Value.agg #[.int .i64 k0, .int .i64 c0, .string s0, .slice A1 m1 n1]); refine (IHa.out _ S _ (HSW.out.trans (Sub.upto (HWP.out _ (by assumption)))) (WRa.out.keep (Sub.refl _) (Same.sub (Stay.same (by assumption)) HSW.out)) HWA.out).mono ?_; rintro e wa1 ⟨xa, rfl, hfa, hb1⟩; have hst1 : Stay w1 wa1 := Stay.step hb1 (by assumption); have hk1 : Kept w1 wa1 := Kept.here hst1))
      | ((go_at_call_of 71 (Value.agg #[.int .i64 k1, .int .i64 c1, .string s1, .slice A2 m2 n2]); refine (IHb.out _ S _ (HSW.out.trans (Sub.upto (HWP.out _ (by assumption)))) (WRb.out.keep (Sub.refl _) (Same.sub (Stay.same (by assumption)) HSW.out)) HWB.out).mono ?_; rintro e wb1 ⟨xb, rfl, hfb, hb2⟩; have hst2 : Stay w1 wb1 := Stay.step hb2 (by assumption); have hk2 : Kept w1 wb1 := Kept.here hst2))
      | ((go_at_call 72; refine (merge_any a.names b.names _ _ _ ?_ ?_ HLE.out).mono ?_; (focus (repeat (with_reducible first | exact hfa | refine Fr.drew ?_ | refine Fr.via hb2 ?_))); (focus (repeat (with_reducible first | exact hfb | refine Fr.drew ?_ | refine Fr.via hb1 ?_))); rintro e wc1 ⟨xc, rfl, hfc, hb3⟩; have hst3 : Stay w1 wc1 := Stay.step hb3 (by assumption); have hk3 : Kept w1 wc1 := Kept.here hst3)))
  go_wp2
  go_ret
  exact ⟨xc, rfl, by rw [HW.out]; exact hfc, BELw.out.trans (hst3.below.mono BELw.out.size)⟩
theorem ens_all (t : Ex) : ENs t := Ex.ind ens_one ens_two t
end Go.Proofs.Ytdelngmbpjgphaa
