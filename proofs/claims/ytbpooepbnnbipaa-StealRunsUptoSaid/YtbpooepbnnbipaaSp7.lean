/- DLeaves at a term of two. -/
import Derived.Test.YtbpooepbnnbipaaSp6
namespace Go.Proofs.Ytbpooepbnnbipaa
open Go.RowKit
set_option linter.unusedVariables false
set_option maxHeartbeats 1600000 in
set_option maxRecDepth 100000 in
theorem dls_two (t : Tm) (p : Bool) (a b : Tm) (ht : t.two = some (p, a, b)) (iha : DLs a) (ihb : DLs b) : DLs t := by
  intro w S V hS r hl
  obtain ⟨i0, hi, hz0, hz1, hz2⟩ := info_parts infoAcc
  obtain ⟨k, c, wr, lb, kids, v, rfl, rfl, hk, hc, hlb, hkids⟩ := id r
  obtain ⟨A, cap, rfl, _, _, _⟩ := hkids.form
  have bel : Below w.heap.size w (w.alloc (.cells #[.int .i64 k, .int .i64 c, .bool wr, .int .i64 lb, .slice A kids.length cap] 26)) := (Below.refl _ _).alloc (Nat.le_refl _) _
  have RA := Lib.hid (r.go bel hS)
  have BEL := Lib.hid bel
  have hcnt := Tm.count_two ht
  have HLa := Lib.hid (show a.leaves.length = a.count from rfl)
  have HLb := Lib.hid (show b.leaves.length = b.count from rfl)
  have HT := Lib.hid ht
  have hL := Lib.hid (Tm.leaves_two ht)
  have IHa := Lib.hid iha
  have IHb := Lib.hid ihb
  have HS := Lib.hid hS
  rw [hcnt] at hl
  unfold tmV
  clear hkids ht r bel hcnt iha ihb
  go_enter Try.func21, Try.ntmps21
  go_wp2_with fail
  refine (both_two _ p a b HT.out _ S _ (HS.out.trans (Sub.upto (by simp))) RA.out).mono ?_
  rintro e w1 ⟨⟨Va, Vb, rfl, ra, rb⟩, b1⟩
  obtain ⟨ka, ca, wa, la, kidsa, va, ea, rfl, _, _, _, hka⟩ := id ra
  obtain ⟨Aa, na, rfl, _⟩ := hka.form
  obtain ⟨kb, cb, wb, lb', kidsb, vb, eb, rfl, _, _, _, hkb⟩ := id rb
  obtain ⟨Ab, nb, rfl, _⟩ := hkb.form
  have RVa := Lib.hid ra
  have RVb := Lib.hid rb
  have B1 := Lib.hid b1
  unfold tmV
  clear ra rb b1 hka hkb ea eb
  go_upto_region 3 with (fail)
  have hbw : Below w1.heap.size w1 ((w1.alloc (.cells #[.int .i64 ka, .int .i64 ca, .bool wa, .int .i64 la, .slice Aa kidsa.length na] 26)).alloc (.cells #[.int .i64 kb, .int .i64 cb, .bool wb, .int .i64 lb', .slice Ab kidsb.length nb] 26)) := ((Below.refl _ _).alloc (Nat.le_refl _) _).alloc (by simp) _
  have hca : ((w1.alloc (.cells #[.int .i64 ka, .int .i64 ca, .bool wa, .int .i64 la, .slice Aa kidsa.length na] 26)).alloc (.cells #[.int .i64 kb, .int .i64 cb, .bool wb, .int .i64 lb', .slice Ab kidsb.length nb] 26)).cell? ⟨w1.heap.size, 0, none⟩ = some (.int .i64 ka) ∧ ((w1.alloc (.cells #[.int .i64 ka, .int .i64 ca, .bool wa, .int .i64 la, .slice Aa kidsa.length na] 26)).alloc (.cells #[.int .i64 kb, .int .i64 cb, .bool wb, .int .i64 lb', .slice Ab kidsb.length nb] 26)).cell? ⟨w1.heap.size, 1, none⟩ = some (.int .i64 ca) ∧ ((w1.alloc (.cells #[.int .i64 ka, .int .i64 ca, .bool wa, .int .i64 la, .slice Aa kidsa.length na] 26)).alloc (.cells #[.int .i64 kb, .int .i64 cb, .bool wb, .int .i64 lb', .slice Ab kidsb.length nb] 26)).cell? ⟨w1.heap.size, 2, none⟩ = some (.bool wa) ∧ ((w1.alloc (.cells #[.int .i64 ka, .int .i64 ca, .bool wa, .int .i64 la, .slice Aa kidsa.length na] 26)).alloc (.cells #[.int .i64 kb, .int .i64 cb, .bool wb, .int .i64 lb', .slice Ab kidsb.length nb] 26)).cell? ⟨w1.heap.size, 3, none⟩ = some (.int .i64 la) ∧ ((w1.alloc (.cells #[.int .i64 ka, .int .i64 ca, .bool wa, .int .i64 la, .slice Aa kidsa.length na] 26)).alloc (.cells #[.int .i64 kb, .int .i64 cb, .bool wb, .int .i64 lb', .slice Ab kidsb.length nb] 26)).cell? ⟨w1.heap.size, 4, none⟩ = some (.slice Aa kidsa.length na) := by simp
  have hcb : ((w1.alloc (.cells #[.int .i64 ka, .int .i64 ca, .bool wa, .int .i64 la, .slice Aa kidsa.length na] 26)).alloc (.cells #[.int .i64 kb, .int .i64 cb, .bool wb, .int .i64 lb', .slice Ab kidsb.length nb] 26)).cell? ⟨w1.heap.size + 1, 0, none⟩ = some (.int .i64 kb) ∧ ((w1.alloc (.cells #[.int .i64 ka, .int .i64 ca, .bool wa, .int .i64 la, .slice Aa kidsa.length na] 26)).alloc (.cells #[.int .i64 kb, .int .i64 cb, .bool wb, .int .i64 lb', .slice Ab kidsb.length nb] 26)).cell? ⟨w1.heap.size + 1, 1, none⟩ = some (.int .i64 cb) ∧ ((w1.alloc (.cells #[.int .i64 ka, .int .i64 ca, .bool wa, .int .i64 la, .slice Aa kidsa.length na] 26)).alloc (.cells #[.int .i64 kb, .int .i64 cb, .bool wb, .int .i64 lb', .slice Ab kidsb.length nb] 26)).cell? ⟨w1.heap.size + 1, 2, none⟩ = some (.bool wb) ∧ ((w1.alloc (.cells #[.int .i64 ka, .int .i64 ca, .bool wa, .int .i64 la, .slice Aa kidsa.length na] 26)).alloc (.cells #[.int .i64 kb, .int .i64 cb, .bool wb, .int .i64 lb', .slice Ab kidsb.length nb] 26)).cell? ⟨w1.heap.size + 1, 3, none⟩ = some (.int .i64 lb') ∧ ((w1.alloc (.cells #[.int .i64 ka, .int .i64 ca, .bool wa, .int .i64 la, .slice Aa kidsa.length na] 26)).alloc (.cells #[.int .i64 kb, .int .i64 cb, .bool wb, .int .i64 lb', .slice Ab kidsb.length nb] 26)).cell? ⟨w1.heap.size + 1, 4, none⟩ = some (.slice Ab kidsb.length nb) := by simp
  have hsz : ((w1.alloc (.cells #[.int .i64 ka, .int .i64 ca, .bool wa, .int .i64 la, .slice Aa kidsa.length na] 26)).alloc (.cells #[.int .i64 kb, .int .i64 cb, .bool wb, .int .i64 lb', .slice Ab kidsb.length nb] 26)).heap.size = w1.heap.size + 2 := by simp
  generalize (w1.alloc (.cells #[.int .i64 ka, .int .i64 ca, .bool wa, .int .i64 la, .slice Aa kidsa.length na] 26)).alloc (.cells #[.int .i64 kb, .int .i64 cb, .bool wb, .int .i64 lb', .slice Ab kidsb.length nb] 26) = W at *
  have hzw := BEL.out.size
  have hzb := B1.out.size
  rw [World.size_alloc] at hzw hzb
  have hz1' := Nat.le_of_eq hsz
  have hz2' := Nat.le_of_eq hsz.symm
  have hSW : Sub S (Upto w1.heap.size) := HS.out.trans (Sub.upto (by omega))
  have WRa := Lib.hid (RVa.out.go hbw hSW)
  have WRb := Lib.hid (RVb.out.go hbw hSW)
  have HSW := Lib.hid (hSW.trans (Sub.upto (show w1.heap.size ≤ W.heap.size by omega)))
  have HBW := Lib.hid hbw
  obtain ⟨a0, a1, a2, a3, a4⟩ := hca
  obtain ⟨b0, b1, b2, b3, b4⟩ := hcb
  have hlt1 : w1.heap.size < W.heap.size := by omega
  have hlt2 : w1.heap.size + 1 < W.heap.size := by omega
  have la3 : a.leaves.length * 24 ≤ 140737488355328 := by have := HLa.out; omega
  have lb3 : b.leaves.length * 24 ≤ 140737488355328 := by have := HLb.out; omega
  have m1 := Lib.hid (show (a.leaves.length + b.leaves.length) * 24 ≤ 140737488355328 by have := HLa.out; have := HLb.out; omega)
  have m2 := Lib.hid (show a.leaves.length + b.leaves.length ≤ maxLen by have := HLa.out; have := HLb.out; unfold maxLen; omega)
  have LA3 := Lib.hid la3
  have LB3 := Lib.hid lb3
  have CA := Lib.hid (show a.count ≤ 1048576 by omega)
  have CB := Lib.hid (show b.count ≤ 1048576 by omega)
  have HWP := Lib.hid (fun w' h => Stay.size h : ∀ w', Stay W w' → W.heap.size ≤ w'.heap.size)
  clear hsz la3 lb3 hbw hSW
  go_region_held3 (fun w' => Stay W w') (first | assumption | exact Stay.mk (Kept.start _) | ((refine Stay.mk ?_; (repeat (with_reducible first | refine Kept.set ?_ (by omega) _ | refine Kept.drew ?_ | refine Kept.alloc ?_ _)); first | exact Kept.refl _ | assumption)))
    (first
      | ((go_at_call_of 21 (Value.agg #[.int .i64 ka, .int .i64 ca, .bool wa, .int .i64 la, .slice Aa kidsa.length na]); refine (IHa.out _ S _ (HSW.out.trans (Sub.upto (HWP.out _ (by assumption)))) (WRa.out.keep (Sub.refl _) (Same.sub (Stay.same (by assumption)) HSW.out)) CA.out).mono ?_; rintro e wa1 ⟨x1, rfl, hx1, hb1⟩; obtain ⟨A1, n1, rfl⟩ := hx1.form; have hf1 := hx1.fr (bytes := 24) LA3.out; clear hx1; have hst1 : Stay W wa1 := Stay.step hb1 (by assumption); have hk1 : Kept W wa1 := Kept.here hst1))
      | ((go_at_call_of 21 (Value.agg #[.int .i64 kb, .int .i64 cb, .bool wb, .int .i64 lb', .slice Ab kidsb.length nb]); refine (IHb.out _ S _ (HSW.out.trans (Sub.upto (HWP.out _ (by assumption)))) (WRb.out.keep (Sub.refl _) (Same.sub (Stay.same (by assumption)) HSW.out)) CB.out).mono ?_; rintro e wb1 ⟨x2, rfl, hx2, hb2⟩; obtain ⟨A2, n2, rfl⟩ := hx2.form; have hf2 := hx2.fr (bytes := 24) LB3.out; clear hx2; have hst2 : Stay W wb1 := Stay.step hb2 (by assumption); have hk2 : Kept W wb1 := Kept.here hst2))
      | ((refine step_append_zero (by rfl) (.tmp 13) (.tmp 15) 74 (by rfl) _ (by rfl) (by rfl) i0 _ Try.underlying74 hi hz0 hz1 hz2 rfl (by decide) (enc := encAcc) (ok := okAcc) (m := a.leaves) (base := W.heap.size) oneAcc' ?_ (HWP.out _ (by assumption)) ?_; (repeat (with_reducible first | exact hf1 | refine Fr.drew ?_ | refine Fr.alloc ?_ | refine Fr.via hb2 ?_)); intro v1 wz ho1 hbz; obtain ⟨A3, n3, rfl⟩ := ho1.form; have hst3 : Stay W wz := Stay.step hbz (by assumption); have hk3 : Kept W wz := Kept.here hst3))
      | ((refine step_append_app (by rfl) (.tmp 16) (.tmp 18) 74 (by rfl) (by rfl) (by rfl) i0 _ Try.underlying74 hi hz0 hz1 hz2 rfl (by decide) (enc := encAcc) (ok := okAcc) (l := a.leaves) (m := b.leaves) (base := W.heap.size) oneAcc' ?_ ?_ (HWP.out _ (by assumption)) m1.out m2.out ?_; (repeat (with_reducible first | exact hf2 | refine Fr.drew ?_ | refine Fr.alloc ?_ | refine Fr.via hb1 ?_ | refine Fr.via hbz ?_)); change AppL encAcc okAcc 3 23 _ W.heap.size a.leaves (Value.slice A3 a.leaves.length n3); (repeat (with_reducible first | exact ho1 | refine AppL.drew ?_ | refine AppL.alloc ?_ | refine AppL.via hb2 ?_)); intro v2 wf ho2 hbf; have hst4 : Stay W wf := Stay.of ((Stay.below (by assumption)).trans hbf); have hk4 : Kept W wf := Kept.here hst4)))
  all_goals go_wp2
  all_goals go_ret
  all_goals
    rw [hL.out]
    have hst : Stay W wf := hst4
    exact ⟨_, rfl, ho2.rebase (by omega), ((BEL.out.trans (B1.out.mono (by simp))).trans (HBW.out.mono (by omega))).trans (hst.below.mono (by omega))⟩
theorem dls_all (t : Tm) : DLs t := Tm.ind dls_one dls_two t
end Go.Proofs.Ytbpooepbnnbipaa
