/- The walk of the reference's DTurned. -/
import Derived.Test.YtmpononkbdfkmaaSp7
import Derived.Test.YtmpononkbdfkmaaUf2
namespace Go.Proofs.Ytmpononkbdfkmaa
open Go.RowKit
set_option linter.unusedVariables false
def Tm.turnedI (t : Tm) (n : Nat) : List Int := (t.turned n).map fun (k : Nat) => (k : Int)
theorem Tm.turnedI_len (t : Tm) (n : Nat) : (t.turnedI n).length = t.count := by unfold Tm.turnedI; rw [List.length_map, Tm.turned_len]
def DTs (t : Tm) : Prop := ∀ (n : Nat) (w : World) (S : Blocks) (V : Value), Sub S (Upto w.heap.size) → RdT w S t V → n + t.count ≤ 1048576 →
  Calls Try.prog 94 #[V, .int .i64 (n : Int)] w fun e w' => ∃ x, e = .returned x ∧ AppL encI inI 1 3 w' w.heap.size (t.turnedI n) x ∧ Below w.heap.size w w'
theorem oneI' : ∀ e, inI e → ∀ u ∈ encI e, u.oneCell' = true := fun e he => oneI (w := default) (S := Nowhere) e _ ⟨rfl, he⟩
set_option maxHeartbeats 1000000 in
set_option maxRecDepth 100000 in
theorem dts_one (t : Tm) (ht : t.two = none) : DTs t := by
  intro n w S V hS r hl
  obtain ⟨k, c, wr, lb, kids, v, rfl, rfl, hk, hc, hlb, hkids⟩ := id r
  obtain ⟨A, cap, rfl, _, _, _⟩ := hkids.form
  have bel : Below w.heap.size w (w.alloc (.cells #[.int .i64 k, .int .i64 c, .bool wr, .int .i64 lb, .slice A kids.length cap] 64)) := (Below.refl _ _).alloc (Nat.le_refl _) _
  have RA := Lib.hid (r.go bel hS)
  have BEL := Lib.hid bel
  have HB := Lib.hid (Blk.made w [.int .i64 k, .int .i64 c, .bool wr, .int .i64 lb, .slice A kids.length cap] 64 (base := 0) (Nat.zero_le _))
  have HT := Lib.hid ht
  have hL := Lib.hid (Tm.turned_none ht n)
  have hnI : inI (n : Int) := by unfold inI; omega
  have hn0 : (n : Int) ≤ 1048576 := by omega
  unfold tmV
  clear hkids ht r bel hl
  by_cases h1 : k = 1
  · subst h1
    have hL2 := Lib.hid (show (Tm.mk 1 c wr lb kids).turnedI n = [(n : Int)] by unfold Tm.turnedI; rw [hL.out, if_pos (by simp [Tm.kind])]; rfl)
    go_enter Try.func94, Try.ntmps94
    go_wp2_with fail
    refine (both_none _ HT.out _ S _ RA.out).mono ?_
    rintro e w1 ⟨rfl, b1⟩
    have B1 := HB.out.below b1
    have c0 := B1.cell 0 _ rfl
    have c1 := B1.cell 1 _ rfl
    have c2 := B1.cell 2 _ rfl
    have c3 := B1.cell 3 _ rfl
    have hz := B1.lt
    have HB1 := Lib.hid b1
    unfold tm0
    clear B1 b1
    go_wp2
    go_ret
    rw [hL2.out]
    have hz1 := BEL.out.size
    have hz2 := HB1.out.size
    refine ⟨_, rfl, .inl (OwnL.litAt [.int .i64 (n : Int)] (n : Int) rfl hnI rfl (by simp) (by simp; omega)), ?_⟩
    exact (((BEL.out.trans (HB1.out.mono (by omega))).alloc (by omega) _).alloc (by simp; omega) _).alloc (by simp; omega) _
  · have hL2 := Lib.hid (show (Tm.mk k c wr lb kids).turnedI n = [] by unfold Tm.turnedI; rw [hL.out, if_neg (by simpa [Tm.kind] using h1)]; rfl)
    have e1 : (k == 1) = false := by simpa using h1
    clear h1
    go_enter Try.func94, Try.ntmps94
    go_wp2_with fail
    refine (both_none _ HT.out _ S _ RA.out).mono ?_
    rintro e w1 ⟨rfl, b1⟩
    have B1 := HB.out.below b1
    have c0 := B1.cell 0 _ rfl
    have c1 := B1.cell 1 _ rfl
    have hz := B1.lt
    have HB1 := Lib.hid b1
    unfold tm0
    clear B1 b1
    go_wp2
    go_ret
    rw [hL2.out]
    have hz1 := BEL.out.size
    have hz2 := HB1.out.size
    refine ⟨_, rfl, AppL.zero _ _ _, ?_⟩
    exact ((BEL.out.trans (HB1.out.mono (by omega))).alloc (by omega) _).alloc (by simp; omega) _
set_option maxHeartbeats 600000 in
set_option maxRecDepth 100000 in
theorem dts_two (t : Tm) (p : Bool) (a b : Tm) (ht : t.two = some (p, a, b)) (iha : DTs a) (ihb : DTs b) : DTs t := by
  intro n w S V hS r hl
  obtain ⟨i0, hi, hz0, hz1, hz2⟩ := info_parts infoI
  obtain ⟨k, c, wr, lb, kids, v, rfl, rfl, hk, hc, hlb, hkids⟩ := id r
  obtain ⟨A, cap, rfl, _, _, _⟩ := hkids.form
  have bel : Below w.heap.size w (w.alloc (.cells #[.int .i64 k, .int .i64 c, .bool wr, .int .i64 lb, .slice A kids.length cap] 64)) := (Below.refl _ _).alloc (Nat.le_refl _) _
  have RA := Lib.hid (r.go bel hS)
  have BEL := Lib.hid bel
  have hcnt := Tm.count_two ht
  have HBX := Lib.hid (Blk.made w [.int .i64 k, .int .i64 c, .bool wr, .int .i64 lb, .slice A kids.length cap] 64 (base := 0) (Nat.zero_le _))
  have HLa := Lib.hid (show a.leaves.length = a.count from rfl)
  have HLb := Lib.hid (show b.leaves.length = b.count from rfl)
  have HT := Lib.hid ht
  have hL := Lib.hid (Tm.turned_two ht n)
  obtain ⟨hkk, _⟩ := Tm.two_kind ht
  simp only [Tm.kind] at hkk
  have HKK := Lib.hid hkk
  clear hkk
  have IHa := Lib.hid iha
  have IHb := Lib.hid ihb
  have HS := Lib.hid hS
  rw [hcnt] at hl
  unfold tmV
  clear hkids ht r bel hcnt iha ihb
  go_enter Try.func94, Try.ntmps94
  go_wp2_with fail
  refine (both_two _ p a b HT.out _ S _ (HS.out.trans (Sub.upto (by simp))) RA.out).mono ?_
  rintro e w1 ⟨⟨Va, Vb, rfl, ra, rb⟩, b1⟩
  obtain ⟨ka, ca, wa, la, kidsa, va, ea, rfl, _, _, _, hka⟩ := id ra
  obtain ⟨Aa, na, rfl, _⟩ := hka.form
  obtain ⟨kb, cb, wb, lb', kidsb, vb, eb, rfl, _, _, _, hkb⟩ := id rb
  obtain ⟨Ab, nb, rfl, _⟩ := hkb.form
  have RVa := Lib.hid ra
  have RVb := Lib.hid rb
  have B1 := Lib.hid b1
  have HBX1 := Lib.hid (HBX.out.below b1)
  unfold tmV
  clear ra rb b1 hka hkb ea eb
  go_upto_region 2 with (fail)
  have hbw : Below w1.heap.size w1 ((w1.alloc (.cells #[.int .i64 ka, .int .i64 ca, .bool wa, .int .i64 la, .slice Aa kidsa.length na] 64)).alloc (.cells #[.int .i64 kb, .int .i64 cb, .bool wb, .int .i64 lb', .slice Ab kidsb.length nb] 64)) := ((Below.refl _ _).alloc (Nat.le_refl _) _).alloc (by simp) _
  have hca : ((w1.alloc (.cells #[.int .i64 ka, .int .i64 ca, .bool wa, .int .i64 la, .slice Aa kidsa.length na] 64)).alloc (.cells #[.int .i64 kb, .int .i64 cb, .bool wb, .int .i64 lb', .slice Ab kidsb.length nb] 64)).cell? ⟨w1.heap.size, 0, none⟩ = some (.int .i64 ka) ∧ ((w1.alloc (.cells #[.int .i64 ka, .int .i64 ca, .bool wa, .int .i64 la, .slice Aa kidsa.length na] 64)).alloc (.cells #[.int .i64 kb, .int .i64 cb, .bool wb, .int .i64 lb', .slice Ab kidsb.length nb] 64)).cell? ⟨w1.heap.size, 1, none⟩ = some (.int .i64 ca) ∧ ((w1.alloc (.cells #[.int .i64 ka, .int .i64 ca, .bool wa, .int .i64 la, .slice Aa kidsa.length na] 64)).alloc (.cells #[.int .i64 kb, .int .i64 cb, .bool wb, .int .i64 lb', .slice Ab kidsb.length nb] 64)).cell? ⟨w1.heap.size, 2, none⟩ = some (.bool wa) ∧ ((w1.alloc (.cells #[.int .i64 ka, .int .i64 ca, .bool wa, .int .i64 la, .slice Aa kidsa.length na] 64)).alloc (.cells #[.int .i64 kb, .int .i64 cb, .bool wb, .int .i64 lb', .slice Ab kidsb.length nb] 64)).cell? ⟨w1.heap.size, 3, none⟩ = some (.int .i64 la) ∧ ((w1.alloc (.cells #[.int .i64 ka, .int .i64 ca, .bool wa, .int .i64 la, .slice Aa kidsa.length na] 64)).alloc (.cells #[.int .i64 kb, .int .i64 cb, .bool wb, .int .i64 lb', .slice Ab kidsb.length nb] 64)).cell? ⟨w1.heap.size, 4, none⟩ = some (.slice Aa kidsa.length na) := by simp
  have hcb : ((w1.alloc (.cells #[.int .i64 ka, .int .i64 ca, .bool wa, .int .i64 la, .slice Aa kidsa.length na] 64)).alloc (.cells #[.int .i64 kb, .int .i64 cb, .bool wb, .int .i64 lb', .slice Ab kidsb.length nb] 64)).cell? ⟨w1.heap.size + 1, 0, none⟩ = some (.int .i64 kb) ∧ ((w1.alloc (.cells #[.int .i64 ka, .int .i64 ca, .bool wa, .int .i64 la, .slice Aa kidsa.length na] 64)).alloc (.cells #[.int .i64 kb, .int .i64 cb, .bool wb, .int .i64 lb', .slice Ab kidsb.length nb] 64)).cell? ⟨w1.heap.size + 1, 1, none⟩ = some (.int .i64 cb) ∧ ((w1.alloc (.cells #[.int .i64 ka, .int .i64 ca, .bool wa, .int .i64 la, .slice Aa kidsa.length na] 64)).alloc (.cells #[.int .i64 kb, .int .i64 cb, .bool wb, .int .i64 lb', .slice Ab kidsb.length nb] 64)).cell? ⟨w1.heap.size + 1, 2, none⟩ = some (.bool wb) ∧ ((w1.alloc (.cells #[.int .i64 ka, .int .i64 ca, .bool wa, .int .i64 la, .slice Aa kidsa.length na] 64)).alloc (.cells #[.int .i64 kb, .int .i64 cb, .bool wb, .int .i64 lb', .slice Ab kidsb.length nb] 64)).cell? ⟨w1.heap.size + 1, 3, none⟩ = some (.int .i64 lb') ∧ ((w1.alloc (.cells #[.int .i64 ka, .int .i64 ca, .bool wa, .int .i64 la, .slice Aa kidsa.length na] 64)).alloc (.cells #[.int .i64 kb, .int .i64 cb, .bool wb, .int .i64 lb', .slice Ab kidsb.length nb] 64)).cell? ⟨w1.heap.size + 1, 4, none⟩ = some (.slice Ab kidsb.length nb) := by simp
  have hsz : ((w1.alloc (.cells #[.int .i64 ka, .int .i64 ca, .bool wa, .int .i64 la, .slice Aa kidsa.length na] 64)).alloc (.cells #[.int .i64 kb, .int .i64 cb, .bool wb, .int .i64 lb', .slice Ab kidsb.length nb] 64)).heap.size = w1.heap.size + 2 := by simp
  generalize (w1.alloc (.cells #[.int .i64 ka, .int .i64 ca, .bool wa, .int .i64 la, .slice Aa kidsa.length na] 64)).alloc (.cells #[.int .i64 kb, .int .i64 cb, .bool wb, .int .i64 lb', .slice Ab kidsb.length nb] 64) = W at *
  have hzw := BEL.out.size
  have hzb := B1.out.size
  rw [World.size_alloc] at hzw hzb
  have hz1' := Nat.le_of_eq hsz
  have hz2' := Nat.le_of_eq hsz.symm
  have hSW : Sub S (Upto w1.heap.size) := HS.out.trans (Sub.upto (by omega))
  have WRa := Lib.hid (RVa.out.go hbw hSW)
  have WRb := Lib.hid (RVb.out.go hbw hSW)
  have HSW := Lib.hid (hSW.trans (Sub.upto (show w1.heap.size ≤ W.heap.size by omega)))
  have HBW := Lib.hid hbw
  have HBX2 := Lib.hid (HBX1.out.below hbw)
  obtain ⟨a0, a1, a2, a3, a4⟩ := hca
  obtain ⟨b0, b1, b2, b3, b4⟩ := hcb
  have hlt1 : w1.heap.size < W.heap.size := by omega
  have hlt2 : w1.heap.size + 1 < W.heap.size := by omega
  have m1 := Lib.hid (show ∀ x y, ((a.turnedI x).length + (b.turnedI y).length) * 8 ≤ 140737488355328 by intro x y; rw [Tm.turnedI_len, Tm.turnedI_len]; omega)
  have m2 := Lib.hid (show ∀ x y, (a.turnedI x).length + (b.turnedI y).length ≤ maxLen by intro x y; rw [Tm.turnedI_len, Tm.turnedI_len]; unfold maxLen; omega)
  have LA8 := Lib.hid (show ∀ x, (a.turnedI x).length * 8 ≤ 140737488355328 by intro x; rw [Tm.turnedI_len]; omega)
  have LB8 := Lib.hid (show ∀ x, (b.turnedI x).length * 8 ≤ 140737488355328 by intro x; rw [Tm.turnedI_len]; omega)
  have CA := Lib.hid (show a.count ≤ 1048576 by omega)
  have CB := Lib.hid (show n + a.count + b.count ≤ 1048576 by omega)
  have CA2 := Lib.hid (show n + a.count ≤ 1048576 by omega)
  have CB2 := Lib.hid (show n + b.count ≤ 1048576 by omega)
  have n0 : (n : Int) ≤ 1048576 := by omega
  have HWP := Lib.hid (fun w' h => Stay.size h : ∀ w', Stay W w' → W.heap.size ≤ w'.heap.size)
  clear hsz hbw hSW
  have m1b := Lib.hid (show ∀ x y, ((b.turnedI y).length + (a.turnedI x).length) * 8 ≤ 140737488355328 by intro x y; have := m1.out x y; omega)
  have m2b := Lib.hid (show ∀ x y, (b.turnedI y).length + (a.turnedI x).length ≤ maxLen by intro x y; have := m2.out x y; omega)
  have kx := HBX2.out.cell 0 _ rfl
  have hcc : (a.leaves.length : Int) = (a.count : Int) := rfl
  have HCC := Lib.hid hcc
  clear hcc
  have hal : (a.leaves.length : Int) ≤ 1048576 := by have := HCC.out; omega
  have IHB2 := Lib.hid (show ∀ (w : World) (S : Blocks) (V : Value), Sub S (Upto w.heap.size) → RdT w S b V → Calls Try.prog 94 #[V, .int .i64 ((n : Int) + (a.leaves.length : Int))] w fun e w' => ∃ x, e = .returned x ∧ AppL encI inI 1 3 w' w.heap.size (b.turnedI (n + a.count)) x ∧ Below w.heap.size w w' from fun w S V h1 h2 => by
    have h := IHb.out (n + a.count) w S V h1 h2 CB.out
    rw [Int.natCast_add] at h
    exact h)
  have HWR := Lib.hid (show IntKind.i64.wrap ((n : Int) + (a.leaves.length : Int)) = (n : Int) + (a.leaves.length : Int) from IntWalk.i64_in _ (by omega))
  cases p
  · have hkk : k = 2 := HKK.out
    clear HKK
    subst hkk
    go_upto_region 5 with (fail)
    have hwr := HWR.out
    go_region_held3 (fun w' => Stay W w') (first | assumption | exact Stay.mk (Kept.start _) | ((refine Stay.mk ?_; (repeat (with_reducible first | refine Kept.set ?_ (by omega) _ | refine Kept.drew ?_ | refine Kept.alloc ?_ _)); first | exact Kept.refl _ | assumption)))
      (first
        | ((go_at_call_of 55 (Value.agg #[.int .i64 ka, .int .i64 ca, .bool wa, .int .i64 la, .slice Aa kidsa.length na]); refine (dls_all a _ S _ (HSW.out.trans (Sub.upto (HWP.out _ (by assumption)))) (WRa.out.keep (Sub.refl _) (Same.sub (Stay.same (by assumption)) HSW.out)) CA.out).mono ?_; rintro e wl ⟨x0, rfl, hx0, hb0⟩; obtain ⟨A0, n0', rfl⟩ := hx0.form; clear hx0; have hst0 : Stay W wl := Stay.step hb0 (by assumption); have hk0 : Kept W wl := Kept.here hst0))
        | ((go_at_call_of 94 (Value.agg #[.int .i64 ka, .int .i64 ca, .bool wa, .int .i64 la, .slice Aa kidsa.length na]); refine (IHa.out (n) _ S _ (HSW.out.trans (Sub.upto (HWP.out _ (by assumption)))) (WRa.out.keep (Sub.refl _) (Same.sub (Stay.same (by assumption)) HSW.out)) CA2.out).mono ?_; rintro e wa1 ⟨x1, rfl, hx1, hb1⟩; obtain ⟨A1, n1, rfl⟩ := hx1.form; have hst1 : Stay W wa1 := Stay.step hb1 (by assumption); have hk1 : Kept W wa1 := Kept.here hst1; have ho1 := hx1.rebase (HWP.out _ (by assumption)); have hf1 := hx1.fr (bytes := 8) (LA8.out _); clear hx1))
        | ((go_at_call_of 94 (Value.agg #[.int .i64 kb, .int .i64 cb, .bool wb, .int .i64 lb', .slice Ab kidsb.length nb]); refine (IHB2.out _ S _ (HSW.out.trans (Sub.upto (HWP.out _ (by assumption)))) (WRb.out.keep (Sub.refl _) (Same.sub (Stay.same (by assumption)) HSW.out))).mono ?_; rintro e wb1 ⟨x2, rfl, hx2, hb2⟩; obtain ⟨A2, n2, rfl⟩ := hx2.form; have hst2 : Stay W wb1 := Stay.step hb2 (by assumption); have hk2 : Kept W wb1 := Kept.here hst2; have ho2 := hx2.rebase (HWP.out _ (by assumption)); have hf2 := hx2.fr (bytes := 8) (LB8.out _); clear hx2))
        | ((refine step_append_app (by rfl) (.tmp 36) (.tmp 43) 37 (by rfl) (by rfl) (by rfl) i0 _ Try.underlying37 hi hz0 hz1 hz2 rfl (by decide) (enc := encI) (ok := inI) (l := a.turnedI n) (m := b.turnedI (n + a.count)) (base := W.heap.size) oneI' ?_ ?_ (HWP.out _ (by assumption)) (m1.out _ _) (m2.out _ _) ?_; (repeat (with_reducible first | exact hf2 | refine Fr.drew ?_ | refine Fr.alloc ?_)); change AppL encI inI 1 3 _ W.heap.size (a.turnedI n) (Value.slice A1 (a.turnedI n).length n1); (repeat (with_reducible first | exact ho1 | refine AppL.drew ?_ | refine AppL.alloc ?_ | refine AppL.via hb2 ?_ | refine AppL.via hb0 ?_)); intro v3 wf ho3 hbf; have hst4 : Stay W wf := Stay.of ((Stay.below (by assumption)).trans hbf); have hk4 : Kept W wf := Kept.here hst4)))
    go_wp2
    go_ret
    have hres : (Tm.mk 2 c wr lb kids).turnedI n = a.turnedI n ++ b.turnedI (n + a.count) := by unfold Tm.turnedI; rw [hL.out, ← List.map_append]; rfl
    rw [hres]
    have hst : Stay W wf := hst4
    exact ⟨_, rfl, ho3.rebase (by omega), ((BEL.out.trans (B1.out.mono (by simp))).trans (HBW.out.mono (by omega))).trans (hst.below.mono (by omega))⟩
  · have hkk : k = 3 := HKK.out
    clear HKK
    subst hkk
    go_upto_region 3 with (fail)
    have hwr := HWR.out
    go_region_held3 (fun w' => Stay W w') (first | assumption | exact Stay.mk (Kept.start _) | ((refine Stay.mk ?_; (repeat (with_reducible first | refine Kept.set ?_ (by omega) _ | refine Kept.drew ?_ | refine Kept.alloc ?_ _)); first | exact Kept.refl _ | assumption)))
      (first
        | ((go_at_call_of 55 (Value.agg #[.int .i64 ka, .int .i64 ca, .bool wa, .int .i64 la, .slice Aa kidsa.length na]); refine (dls_all a _ S _ (HSW.out.trans (Sub.upto (HWP.out _ (by assumption)))) (WRa.out.keep (Sub.refl _) (Same.sub (Stay.same (by assumption)) HSW.out)) CA.out).mono ?_; rintro e wl ⟨x0, rfl, hx0, hb0⟩; obtain ⟨A0, n0', rfl⟩ := hx0.form; clear hx0; have hst0 : Stay W wl := Stay.step hb0 (by assumption); have hk0 : Kept W wl := Kept.here hst0))
        | ((go_at_call_of 94 (Value.agg #[.int .i64 kb, .int .i64 cb, .bool wb, .int .i64 lb', .slice Ab kidsb.length nb]); refine (IHB2.out _ S _ (HSW.out.trans (Sub.upto (HWP.out _ (by assumption)))) (WRb.out.keep (Sub.refl _) (Same.sub (Stay.same (by assumption)) HSW.out))).mono ?_; rintro e wb1 ⟨x2, rfl, hx2, hb2⟩; obtain ⟨A2, n2, rfl⟩ := hx2.form; have hst2 : Stay W wb1 := Stay.step hb2 (by assumption); have hk2 : Kept W wb1 := Kept.here hst2; have ho2 := hx2.rebase (HWP.out _ (by assumption)); have hf2 := hx2.fr (bytes := 8) (LB8.out _); clear hx2))
        | ((go_at_call_of 94 (Value.agg #[.int .i64 ka, .int .i64 ca, .bool wa, .int .i64 la, .slice Aa kidsa.length na]); refine (IHa.out (n) _ S _ (HSW.out.trans (Sub.upto (HWP.out _ (by assumption)))) (WRa.out.keep (Sub.refl _) (Same.sub (Stay.same (by assumption)) HSW.out)) CA2.out).mono ?_; rintro e wa1 ⟨x1, rfl, hx1, hb1⟩; obtain ⟨A1, n1, rfl⟩ := hx1.form; have hst1 : Stay W wa1 := Stay.step hb1 (by assumption); have hk1 : Kept W wa1 := Kept.here hst1; have ho1 := hx1.rebase (HWP.out _ (by assumption)); have hf1 := hx1.fr (bytes := 8) (LA8.out _); clear hx1))
        | ((refine step_append_app (by rfl) (.tmp 27) (.tmp 30) 37 (by rfl) (by rfl) (by rfl) i0 _ Try.underlying37 hi hz0 hz1 hz2 rfl (by decide) (enc := encI) (ok := inI) (l := b.turnedI (n + a.count)) (m := a.turnedI n) (base := W.heap.size) oneI' ?_ ?_ (HWP.out _ (by assumption)) (m1b.out _ _) (m2b.out _ _) ?_; (repeat (with_reducible first | exact hf1 | refine Fr.drew ?_ | refine Fr.alloc ?_)); change AppL encI inI 1 3 _ W.heap.size (b.turnedI (n + a.count)) (Value.slice A2 (b.turnedI (n + a.count)).length n2); (repeat (with_reducible first | exact ho2 | refine AppL.drew ?_ | refine AppL.alloc ?_ | refine AppL.via hb1 ?_ | refine AppL.via hb0 ?_)); intro v3 wf ho3 hbf; have hst4 : Stay W wf := Stay.of ((Stay.below (by assumption)).trans hbf); have hk4 : Kept W wf := Kept.here hst4)))
    go_wp2
    go_ret
    have hres : (Tm.mk 3 c wr lb kids).turnedI n = b.turnedI (n + a.count) ++ a.turnedI n := by unfold Tm.turnedI; rw [hL.out, ← List.map_append]; rfl
    rw [hres]
    have hst : Stay W wf := hst4
    exact ⟨_, rfl, ho3.rebase (by omega), ((BEL.out.trans (B1.out.mono (by simp))).trans (HBW.out.mono (by omega))).trans (hst.below.mono (by omega))⟩
theorem dts_all (t : Tm) : DTs t := Tm.ind dts_one dts_two t
end Go.Proofs.Ytmpononkbdfkmaa
