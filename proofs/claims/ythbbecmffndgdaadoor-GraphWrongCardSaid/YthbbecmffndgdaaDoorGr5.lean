/- The walk of the law GraphWrong. -/
import Derived.Test.YthbbecmffndgdaaDoorGr2
import Derived.Test.YthbbecmffndgdaaDoorGr4
namespace Go.Proofs.YthbbecmffndgdaaDoor
open Go.RowKit
set_option linter.unusedVariables false
set_option maxHeartbeats 800000 in
theorem graphWrong_walk (N : Int) (hNi : inI N) (ps : List (Int × Int)) (w : World) (ve : Value) (hT : Tab w) (r : RdP w (Upto w.heap.size) ps ve) :
    Calls Tryd.prog 3 #[.agg #[.int .i64 N, ve]] w fun e w' => e = .returned (.bool true) ∧ Below w.heap.size w w' := by
  obtain ⟨A, cap, rfl, hl, hcm, hby⟩ := r.form
  have bel : Below w.heap.size w (w.alloc (.cells #[.int .i64 N, .slice A ps.length cap] 24)) := (Below.refl _ _).alloc (Nat.le_refl _) _
  have BEL := Lib.hid bel
  have RA := Lib.hid (r.go Flat.keeps bel (Sub.refl _) (Sub.refl _))
  have BB := Lib.hid (Blk.made w [.int .i64 N, .slice A ps.length cap] 24 (base := 0) (Nat.zero_le _))
  have hsz : w.heap.size ≤ (w.alloc (.cells #[.int .i64 N, .slice A ps.length cap] 24)).heap.size := by simp
  have TW := Lib.hid (hT.go bel)
  clear bel r
  go_enter Tryd.func3, Tryd.ntmps3
  go_upto_region 1 with (fail)
  generalize w.alloc (.cells #[.int .i64 N, .slice A ps.length cap] 24) = W at *
  obtain ⟨z, hz⟩ : ∃ z, z = w.heap.size := ⟨_, rfl⟩
  rw [← hz] at BB
  have hz1 := Nat.le_of_eq hz
  have hz2 := Nat.le_of_eq hz.symm
  rw [← hz]
  clear hz
  have hzW : z < W.heap.size := BB.out.lt
  have c0 := BB.out.cell 0 _ rfl
  have c1 := BB.out.cell 1 _ rfl
  have HWP := Lib.hid (fun w' h => Stay.size h : ∀ w', Stay W w' → W.heap.size ≤ w'.heap.size)
  have SW := Lib.hid (show Sub (Upto w.heap.size) (Upto W.heap.size) from Sub.upto hsz)
  clear BB
  go_region_held3 (fun w' => Stay W w') (first | assumption | exact Stay.mk (Kept.start _) | ((refine Stay.mk ?_; (repeat (with_reducible first | refine Kept.set ?_ (by omega) _ | refine Kept.drew ?_ | refine Kept.alloc ?_ _)); first | exact Kept.refl _ | assumption)))
    (first
      | ((go_at_call 5; refine (wrong_any N hNi ps _ (Upto w.heap.size) _ (SW.out.trans (Sub.upto (HWP.out _ (by assumption)))) (TW.out.go (Stay.below (by assumption))) (RA.out.go Flat.keeps (Stay.below (by assumption)) SW.out (Sub.refl _))).mono ?_; rintro e wa ⟨rfl, hb1⟩; have hst1 : Stay W wa := Stay.step hb1 (by assumption); have hk1 : Kept W wa := Kept.here hst1))
      | ((go_at_call 6; refine (bwrong_any N hNi ps _ (Upto w.heap.size) _ (SW.out.trans (Sub.upto (HWP.out _ (by assumption)))) (RA.out.go Flat.keeps (Stay.below (by assumption)) SW.out (Sub.refl _))).mono ?_; rintro e wb ⟨rfl, hb2⟩; have hst2 : Stay W wb := Stay.step hb2 (by assumption); have hk2 : Kept W wb := Kept.here hst2)))
  go_wp2
  go_ret
  exact ⟨rfl, BEL.out.trans (hst2.below.mono hsz)⟩
end Go.Proofs.YthbbecmffndgdaaDoor
