/- slices.Equal at pairs; the walk of the law SpPlaces. -/
import Derived.Test.YtmpononkbdfkmaaTu2
import Derived.Test.YtmpononkbdfkmaaOpen2
namespace Go.Proofs.Ytmpononkbdfkmaa
open Go.RowKit
set_option linter.unusedVariables false
set_option maxHeartbeats 400000 in
theorem equalPair (l : List (Int × Int)) (w : World) (v u : Value) (r0 : Fr encP okPr 2 16 w l v) (r1 : Fr encP okPr 2 16 w l u) :
    Calls Try.prog 51 #[v, u] w fun e w' => e = .returned (.bool true) ∧ Below w.heap.size w w' := by
  obtain ⟨S, hS, r⟩ := r0
  obtain ⟨T, hT, r'⟩ := r1
  obtain ⟨A, cap, rfl, hl, hcm, hby⟩ := r.form
  obtain ⟨A', cap', rfl, hl', hcm', _⟩ := r'.form
  unfold maxLen at hcm hcm'
  go_enter Try.func51, Try.ntmps51
  go_wp2
  go_loopw [13] (fun t wr => ∃ q : Nat, q ≤ l.length ∧ t = .int .i64 q ∧ Below w.heap.size w wr) (fun t _ => l.length - (intOf t).toNat)
  case atStart => exact ⟨0, by omega, rfl, Below.refl _ _⟩
  case round =>
    obtain ⟨q, hq, rfl, hbel⟩ := hrel
    by_cases hlt : q < l.length
    · obtain ⟨b, off, rfl, hb, hok, hc, hd⟩ := RdP.at1 r hlt
      obtain ⟨b', off', rfl, hb', hok', hc', hd'⟩ := RdP.at1 r' hlt
      have e0 := (hbel.cell (p := ⟨b, off + q * 2, none⟩) (hS _ hb)).trans hc
      have e1 := (hbel.cell (p := ⟨b', off' + q * 2, none⟩) (hT _ hb')).trans hc'
      have f0 := (hbel.cell (p := ⟨b, off + q * 2 + 1, none⟩) (hS _ hb)).trans hd
      have f1 := (hbel.cell (p := ⟨b', off' + q * 2 + 1, none⟩) (hT _ hb')).trans hd'
      have hq1 : (q : Int) < (l.length : Int) := by omega
      have hq0 : (0 : Int) ≤ (q : Int) := by omega
      clear r r' hc hc' hd hd'
      go_wp2
      all_goals (try go_quiet (fail))
      all_goals (try go_wp2)
      go_roundw
      case rel => exact ⟨q + 1, by omega, by go_num, below_drewN hbel _⟩
      case measure => simp [intOf]; omega
    · go_wp2
      go_ret
      exact ⟨rfl, hbel⟩
theorem spPlaces_walk (t : Tm) (w : World) (V : Value) (r : RdT w (Upto w.heap.size) t V) (hl : t.count ≤ 1048576) :
    Calls Try.prog 10 #[V] w fun e w' => e = .returned (.bool true) ∧ Below w.heap.size w w' := by
  obtain ⟨k, c, wr, lb, kids, v, et, rfl, h1, h2, h3, h4⟩ := id r
  obtain ⟨A1, n1, rfl, _⟩ := h4.form
  have bel : Below w.heap.size w (w.alloc (.cells #[.int .i64 k, .int .i64 c, .bool wr, .int .i64 lb, .slice A1 kids.length n1] 64)) := (Below.refl _ _).alloc (Nat.le_refl _) _
  have BEL := Lib.hid bel
  have RA := Lib.hid (r.go bel (Sub.refl _))
  have BB := Lib.hid (Blk.made w [.int .i64 k, .int .i64 c, .bool wr, .int .i64 lb, .slice A1 kids.length n1] 64 (base := 0) (Nat.zero_le _))
  have hsz : w.heap.size ≤ (w.alloc (.cells #[.int .i64 k, .int .i64 c, .bool wr, .int .i64 lb, .slice A1 kids.length n1] 64)).heap.size := by simp
  unfold tmV
  clear h4 bel r et h1 h2 h3
  go_enter Try.func10, Try.ntmps10
  go_upto_region 1 with (fail)
  generalize w.alloc (.cells #[.int .i64 k, .int .i64 c, .bool wr, .int .i64 lb, .slice A1 kids.length n1] 64) = W at *
  obtain ⟨z, hz⟩ : ∃ z, z = w.heap.size := ⟨_, rfl⟩
  rw [← hz] at BB
  have hz1 := Nat.le_of_eq hz
  have hz2 := Nat.le_of_eq hz.symm
  rw [← hz]
  clear hz
  have hzW : z < W.heap.size := BB.out.lt
  have c0 := BB.out.cell 0 _ rfl
  have c1 := BB.out.cell 1 _ rfl
  have c2 := BB.out.cell 2 _ rfl
  have c3 := BB.out.cell 3 _ rfl
  have c4 := BB.out.cell 4 _ rfl
  have HWP := Lib.hid (fun w' h => Stay.size h : ∀ w', Stay W w' → W.heap.size ≤ w'.heap.size)
  have SW := Lib.hid (show Sub (Upto w.heap.size) (Upto W.heap.size) from Sub.upto hsz)
  clear BB
  go_region_held3 (fun w' => Stay W w') (first | assumption | exact Stay.mk (Kept.start _) | ((refine Stay.mk ?_; (repeat (with_reducible first | refine Kept.set ?_ (by omega) _ | refine Kept.drew ?_ | refine Kept.alloc ?_ _)); first | exact Kept.refl _ | assumption)))
    (first
      | ((go_at_call 52; refine (marks_any t _ (Upto w.heap.size) _ (SW.out.trans (Sub.upto (HWP.out _ (by assumption)))) (RA.out.keep (Sub.refl _) (Same.sub (Stay.same (by assumption)) SW.out)) hl).mono ?_; rintro e wa ⟨x1, rfl, hx1, hb1⟩; obtain ⟨A3, n3, rfl, -, -, -⟩ := hx1.form; have hst1 : Stay W wa := Stay.step hb1 (by assumption); have hk1 : Kept W wa := Kept.here hst1))
      | ((go_at_call 53; refine (dmarks_any t _ (Upto w.heap.size) _ (SW.out.trans (Sub.upto (HWP.out _ (by assumption)))) (RA.out.keep (Sub.refl _) (Same.sub (Stay.same (by assumption)) SW.out)) hl).mono ?_; rintro e wb ⟨x2, rfl, hx2, hb2⟩; obtain ⟨A4, n4, rfl, -, -, -⟩ := hx2.form; have hst2 : Stay W wb := Stay.step hb2 (by assumption); have hk2 : Kept W wb := Kept.here hst2))
      | ((go_at_call 51; refine (equalPair t.marks _ _ _ ?_ ?_).mono ?_; (focus (repeat (with_reducible first | exact hx1 | refine Fr.drew ?_ | refine Fr.via hb2 ?_))); (focus (repeat (with_reducible first | exact hx2 | refine Fr.drew ?_ | refine Fr.via hb1 ?_))); rintro e wc ⟨rfl, hb3⟩; have hst3 : Stay W wc := Stay.step hb3 (by assumption); have hk3 : Kept W wc := Kept.here hst3)))
  go_wp2
  go_ret
  exact ⟨rfl, BEL.out.trans (hst3.below.mono hsz)⟩
end Go.Proofs.Ytmpononkbdfkmaa
