/- slices.Equal at accesses; the walk of the law SpLeaves. -/
import Derived.Test.YtmpononkbdfkmaaBf2
import Derived.Test.YtmpononkbdfkmaaOpen2
namespace Go.Proofs.Ytmpononkbdfkmaa
open Go.RowKit
set_option linter.unusedVariables false
theorem RdAccs.at1 {w : World} {S : Blocks} {l : List Acc} {A : Option Addr} {n cap : Nat} (h : RdAccs w S l (.slice A n cap)) {q : Nat} (hq : q < l.length) :
    ∃ b off, A = some ⟨b, off, none⟩ ∧ S b ∧ okAcc l[q] ∧ w.cell? ⟨b, off + q * 3, none⟩ = some (.int .i64 l[q].cell) ∧ w.cell? ⟨b, off + q * 3 + 1, none⟩ = some (.bool l[q].write) ∧ w.cell? ⟨b, off + q * 3 + 2, none⟩ = some (.int .i64 l[q].label) := by
  obtain ⟨b, off, hA, hb, hok, hc⟩ := RdL.flat h hq
  exact ⟨b, off, hA, hb, hok, hc 0 _ rfl, by rw [Nat.add_assoc]; exact hc 1 _ rfl, by rw [Nat.add_assoc]; exact hc 2 _ rfl⟩
set_option maxHeartbeats 400000 in
theorem equalAcc (l : List Acc) (w : World) (v u : Value) (r0 : Fr encAcc okAcc 3 24 w l v) (r1 : Fr encAcc okAcc 3 24 w l u) :
    Calls Try.prog 65 #[v, u] w fun e w' => e = .returned (.bool true) ∧ Below w.heap.size w w' := by
  obtain ⟨S, hS, r⟩ := r0
  obtain ⟨T, hT, r'⟩ := r1
  obtain ⟨A, cap, rfl, hl, hcm, hby⟩ := r.form
  obtain ⟨A', cap', rfl, hl', hcm', _⟩ := r'.form
  unfold maxLen at hcm hcm'
  go_enter Try.func65, Try.ntmps65
  go_wp2
  go_loopw [13] (fun t wr => ∃ q : Nat, q ≤ l.length ∧ t = .int .i64 q ∧ Below w.heap.size w wr) (fun t _ => l.length - (intOf t).toNat)
  case atStart => exact ⟨0, by omega, rfl, Below.refl _ _⟩
  case round =>
    obtain ⟨q, hq, rfl, hbel⟩ := hrel
    by_cases hlt : q < l.length
    · obtain ⟨b, off, rfl, hb, hok, hc, hd, he⟩ := RdAccs.at1 r hlt
      obtain ⟨b', off', rfl, hb', hok', hc', hd', he'⟩ := RdAccs.at1 r' hlt
      have e0 := (hbel.cell (p := ⟨b, off + q * 3, none⟩) (hS _ hb)).trans hc
      have e1 := (hbel.cell (p := ⟨b', off' + q * 3, none⟩) (hT _ hb')).trans hc'
      have f0 := (hbel.cell (p := ⟨b, off + q * 3 + 1, none⟩) (hS _ hb)).trans hd
      have f1 := (hbel.cell (p := ⟨b', off' + q * 3 + 1, none⟩) (hT _ hb')).trans hd'
      have g0 := (hbel.cell (p := ⟨b, off + q * 3 + 2, none⟩) (hS _ hb)).trans he
      have g1 := (hbel.cell (p := ⟨b', off' + q * 3 + 2, none⟩) (hT _ hb')).trans he'
      have hq1 : (q : Int) < (l.length : Int) := by omega
      have hq0 : (0 : Int) ≤ (q : Int) := by omega
      clear r r' hc hc' hd hd' he he'
      go_wp2
      all_goals (try go_quiet (fail))
      all_goals (try go_wp2)
      go_roundw
      case rel => exact ⟨q + 1, by omega, by go_num, below_drewN hbel _⟩
      case measure => simp [intOf]; omega
    · go_wp2
      go_ret
      exact ⟨rfl, hbel⟩
set_option maxHeartbeats 1600000 in
set_option maxRecDepth 100000 in
theorem spLeaves_walk (t : Tm) (i j : Int) (w : World) (V : Value) (r : RdT w (Upto w.heap.size) t V) (hl : t.count ≤ 1048576) :
    Calls Try.prog 13 #[V, .int .i64 i, .int .i64 j] w fun e w' => e = .returned (.bool true) ∧ Below w.heap.size w w' := by
  obtain ⟨k, c, wr, lb, kids, v, et, rfl, h1, h2, h3, h4⟩ := id r
  obtain ⟨A1, n1, rfl, _⟩ := h4.form
  have bel : Below w.heap.size w (w.alloc (.cells #[.int .i64 k, .int .i64 c, .bool wr, .int .i64 lb, .slice A1 kids.length n1] 64)) := (Below.refl _ _).alloc (Nat.le_refl _) _
  have BEL := Lib.hid bel
  have RA := Lib.hid (r.go bel (Sub.refl _))
  have BB := Lib.hid (Blk.made w [.int .i64 k, .int .i64 c, .bool wr, .int .i64 lb, .slice A1 kids.length n1] 64 (base := 0) (Nat.zero_le _))
  have hsz : w.heap.size ≤ (w.alloc (.cells #[.int .i64 k, .int .i64 c, .bool wr, .int .i64 lb, .slice A1 kids.length n1] 64)).heap.size := by simp
  unfold tmV
  clear h4 bel r et h1 h2 h3
  go_enter Try.func13, Try.ntmps13
  go_upto_region 1 with (fail)
  generalize w.alloc (.cells #[.int .i64 k, .int .i64 c, .bool wr, .int .i64 lb, .slice A1 kids.length n1] 64) = W at *
  obtain ⟨z, hz⟩ : ∃ z, z = w.heap.size := ⟨_, rfl⟩
  rw [← hz] at BB
  have hz1 := Nat.le_of_eq hz
  have hz2 := Nat.le_of_eq hz.symm
  rw [← hz]
  clear hz
  have hzW : z < W.heap.size := BB.out.lt
  have c0 := BB.out.cell 0 _ rfl
  have c1 := BB.out.cell 1 _ rfl
  have c2 := BB.out.cell 2 _ rfl
  have c3 := BB.out.cell 3 _ rfl
  have c4 := BB.out.cell 4 _ rfl
  have HWP := Lib.hid (fun w' h => Stay.size h : ∀ w', Stay W w' → W.heap.size ≤ w'.heap.size)
  have SW := Lib.hid (show Sub (Upto w.heap.size) (Upto W.heap.size) from Sub.upto hsz)
  have L24 := Lib.hid (show t.leaves.length * 24 ≤ 140737488355328 by have : t.count = t.leaves.length := rfl; omega)
  clear BB
  go_region_held3 (fun w' => Stay W w') (first | assumption | exact Stay.mk (Kept.start _) | ((refine Stay.mk ?_; (repeat (with_reducible first | refine Kept.set ?_ (by omega) _ | refine Kept.drew ?_ | refine Kept.alloc ?_ _)); first | exact Kept.refl _ | assumption)))
    (first
      | ((go_at_call 66; refine (leaves_any t _ (Upto w.heap.size) _ (SW.out.trans (Sub.upto (HWP.out _ (by assumption)))) (RA.out.keep (Sub.refl _) (Same.sub (Stay.same (by assumption)) SW.out)) hl).mono ?_; rintro e wa ⟨x1, rfl, hx0, hb1⟩; have hx1 := Fr.of hx0 (Sub.plus_upto (Sub.nowhere _)); clear hx0; obtain ⟨A3, n3, rfl, -, -, -⟩ := hx1.form; have hst1 : Stay W wa := Stay.step hb1 (by assumption); have hk1 : Kept W wa := Kept.here hst1))
      | ((go_at_call 55; refine (dls_all t _ (Upto w.heap.size) _ (SW.out.trans (Sub.upto (HWP.out _ (by assumption)))) (RA.out.keep (Sub.refl _) (Same.sub (Stay.same (by assumption)) SW.out)) hl).mono ?_; rintro e wb ⟨x2, rfl, hx0, hb2⟩; have hx2 := hx0.fr (bytes := 24) L24.out; clear hx0; obtain ⟨A4, n4, rfl, -, -, -⟩ := hx2.form; have hst2 : Stay W wb := Stay.step hb2 (by assumption); have hk2 : Kept W wb := Kept.here hst2))
      | ((go_at_call 65; refine (equalAcc t.leaves _ _ _ ?_ ?_).mono ?_; (focus (repeat (with_reducible first | exact hx1 | refine Fr.drew ?_ | refine Fr.via hb2 ?_))); (focus (repeat (with_reducible first | exact hx2 | refine Fr.drew ?_ | refine Fr.via hb1 ?_))); rintro e wc ⟨rfl, hb3⟩; have hst3 : Stay W wc := Stay.step hb3 (by assumption); have hk3 : Kept W wc := Kept.here hst3))
      | ((go_at_call 67; refine (before_any t i j _ (Upto w.heap.size) _ (SW.out.trans (Sub.upto (HWP.out _ (by assumption)))) (RA.out.keep (Sub.refl _) (Same.sub (Stay.same (by assumption)) SW.out)) hl).mono ?_; rintro e wd ⟨rfl, hb4⟩; have hst4 : Stay W wd := Stay.step hb4 (by assumption); have hk4 : Kept W wd := Kept.here hst4))
      | ((go_at_call 68; refine (dbs_all t i j _ (Upto w.heap.size) _ (SW.out.trans (Sub.upto (HWP.out _ (by assumption)))) (RA.out.keep (Sub.refl _) (Same.sub (Stay.same (by assumption)) SW.out)) hl).mono ?_; rintro e we ⟨rfl, hb5⟩; have hst5 : Stay W we := Stay.step hb5 (by assumption); have hk5 : Kept W we := Kept.here hst5)))
  go_wp2
  go_ret
  exact ⟨by simp, BEL.out.trans (hst5.below.mono hsz)⟩
end Go.Proofs.Ytmpononkbdfkmaa
