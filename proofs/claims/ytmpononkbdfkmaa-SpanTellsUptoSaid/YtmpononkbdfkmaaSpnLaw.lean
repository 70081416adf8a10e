/- The walk of the law SpanTells. -/
import Derived.Test.YtmpononkbdfkmaaSpn3
import Derived.Test.YtmpononkbdfkmaaSpn2
import Derived.Test.YtmpononkbdfkmaaOpen2
namespace Go.Proofs.Ytmpononkbdfkmaa
open Go.RowKit
set_option linter.unusedVariables false
set_option maxHeartbeats 1600000 in
set_option maxRecDepth 100000 in
theorem spanTells_walk (t : Tm) (w : World) (V : Value) (r : RdT w (Upto w.heap.size) t V) (hl : t.count ≤ 1048576) :
    Calls Try.prog 11 #[V] w fun e w' => e = .returned (.bool true) ∧ Below w.heap.size w w' := by
  obtain ⟨k, c, wr, lb, kids, v, et, rfl, h1, h2, h3, h4⟩ := id r
  obtain ⟨A1, n1, rfl, _⟩ := h4.form
  have bel : Below w.heap.size w (w.alloc (.cells #[.int .i64 k, .int .i64 c, .bool wr, .int .i64 lb, .slice A1 kids.length n1] 64)) := (Below.refl _ _).alloc (Nat.le_refl _) _
  have BEL := Lib.hid bel
  have RA := Lib.hid (r.go bel (Sub.refl _))
  have BB := Lib.hid (Blk.made w [.int .i64 k, .int .i64 c, .bool wr, .int .i64 lb, .slice A1 kids.length n1] 64 (base := 0) (Nat.zero_le _))
  have hsz : w.heap.size ≤ (w.alloc (.cells #[.int .i64 k, .int .i64 c, .bool wr, .int .i64 lb, .slice A1 kids.length n1] 64)).heap.size := by simp
  unfold tmV
  clear h4 bel r et h1 h2 h3
  go_enter Try.func11, Try.ntmps11
  go_upto_region 1 with (fail)
  generalize w.alloc (.cells #[.int .i64 k, .int .i64 c, .bool wr, .int .i64 lb, .slice A1 kids.length n1] 64) = W at *
  obtain ⟨z, hz⟩ : ∃ z, z = w.heap.size := ⟨_, rfl⟩
  rw [← hz] at BB
  have hz1 := Nat.le_of_eq hz
  have hz2 := Nat.le_of_eq hz.symm
  rw [← hz]
  clear hz
  have hzW : z < W.heap.size := BB.out.lt
  have c0 := BB.out.cell 0 _ rfl
  have c1 := BB.out.cell 1 _ rfl
  have c2 := BB.out.cell 2 _ rfl
  have c3 := BB.out.cell 3 _ rfl
  have c4 := BB.out.cell 4 _ rfl
  have HWP := Lib.hid (fun w' h => Stay.size h : ∀ w', Stay W w' → W.heap.size ≤ w'.heap.size)
  have SW := Lib.hid (show Sub (Upto w.heap.size) (Upto W.heap.size) from Sub.upto hsz)
  clear BB
  go_region_held3 (fun w' => Stay W w') (first | assumption | exact Stay.mk (Kept.start _) | ((refine Stay.mk ?_; (repeat (with_reducible first | refine Kept.set ?_ (by omega) _ | refine Kept.drew ?_ | refine Kept.alloc ?_ _)); first | exact Kept.refl _ | assumption)))
    (first
      | ((go_at_call 54; refine (work_any t _ (Upto w.heap.size) _ (SW.out.trans (Sub.upto (HWP.out _ (by assumption)))) (RA.out.keep (Sub.refl _) (Same.sub (Stay.same (by assumption)) SW.out)) hl).mono ?_; rintro e wa ⟨rfl, hb1⟩; have hst1 : Stay W wa := Stay.step hb1 (by assumption); have hk1 : Kept W wa := Kept.here hst1))
      | ((go_at_call 55; refine (dls_all t _ (Upto w.heap.size) _ (SW.out.trans (Sub.upto (HWP.out _ (by assumption)))) (RA.out.keep (Sub.refl _) (Same.sub (Stay.same (by assumption)) SW.out)) hl).mono ?_; rintro e wb ⟨x2, rfl, hx0, hb2⟩; obtain ⟨A4, n4, rfl⟩ := hx0.form; clear hx0; have hst2 : Stay W wb := Stay.step hb2 (by assumption); have hk2 : Kept W wb := Kept.here hst2))
      | ((go_at_call 56; refine (span_any t _ (Upto w.heap.size) _ (SW.out.trans (Sub.upto (HWP.out _ (by assumption)))) (RA.out.keep (Sub.refl _) (Same.sub (Stay.same (by assumption)) SW.out)) hl).mono ?_; rintro e wc ⟨rfl, hb3⟩; have hst3 : Stay W wc := Stay.step hb3 (by assumption); have hk3 : Kept W wc := Kept.here hst3))
      | ((go_at_call 57; refine (espan_any t _ (Upto w.heap.size) _ (SW.out.trans (Sub.upto (HWP.out _ (by assumption)))) (RA.out.keep (Sub.refl _) (Same.sub (Stay.same (by assumption)) SW.out)) hl).mono ?_; rintro e wd ⟨rfl, hb4⟩; have hst4 : Stay W wd := Stay.step hb4 (by assumption); have hk4 : Kept W wd := Kept.here hst4))
      | ((go_at_call 58; refine (width_any t _ (Upto w.heap.size) _ (SW.out.trans (Sub.upto (HWP.out _ (by assumption)))) (RA.out.keep (Sub.refl _) (Same.sub (Stay.same (by assumption)) SW.out)) hl).mono ?_; rintro e we ⟨rfl, hb5⟩; have hst5 : Stay W we := Stay.step hb5 (by assumption); have hk5 : Kept W we := Kept.here hst5))
      | ((go_at_call 59; refine (ews_all t _ (Upto w.heap.size) _ (SW.out.trans (Sub.upto (HWP.out _ (by assumption)))) (RA.out.keep (Sub.refl _) (Same.sub (Stay.same (by assumption)) SW.out)) hl).mono ?_; rintro e wf ⟨rfl, hb6⟩; have hst6 : Stay W wf := Stay.step hb6 (by assumption); have hk6 : Kept W wf := Kept.here hst6)))
  go_wp2
  go_ret
  exact ⟨by simp, BEL.out.trans (hst6.below.mono hsz)⟩
end Go.Proofs.Ytmpononkbdfkmaa
