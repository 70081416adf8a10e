/- The walk of the law StealRuns. -/
import Derived.Test.YtbpooepbnnbipaaSw6
import Derived.BigQuiet
namespace Go.Proofs.Ytbpooepbnnbipaa
open Go.RowKit
set_option linter.unusedVariables false
abbrev RdDn := RdL (Flat encDn okDn) 2 16
set_option maxHeartbeats 400000 in
theorem equalDn (l : List (Nat × Nat)) (w : World) (S T : Blocks) (v u : Value) (hS : Sub S (Upto w.heap.size)) (hT : Sub T (Upto w.heap.size)) (r : RdDn w S l v) (r' : RdDn w T l u) :
    Calls Try.prog 8 #[v, u] w fun e w' => e = .returned (.bool true) ∧ Below w.heap.size w w' := by
  obtain ⟨A, cap, rfl, hl, hcm, hby⟩ := r.form
  obtain ⟨A', cap', rfl, hl', hcm', _⟩ := r'.form
  unfold maxLen at hcm hcm'
  go_enter Try.func8, Try.ntmps8
  go_wp2
  go_loopw [13] (fun t wr => ∃ q : Nat, q ≤ l.length ∧ t = .int .i64 q ∧ Below w.heap.size w wr) (fun t _ => l.length - (intOf t).toNat)
  case atStart => exact ⟨0, by omega, rfl, Below.refl _ _⟩
  case round =>
    obtain ⟨q, hq, rfl, hbel⟩ := hrel
    by_cases hlt : q < l.length
    · obtain ⟨b, off, rfl, hb, hok, hc⟩ := RdL.flat r hlt
      obtain ⟨b', off', rfl, hb', hok', hc'⟩ := RdL.flat r' hlt
      generalize l[q] = x at *
      obtain ⟨x0, x1⟩ := x
      have e0 : wr.cell? ⟨b, off + q * 2, none⟩ = some (.int .i64 (x0 : Int)) := (hbel.cell (p := ⟨b, off + q * 2, none⟩) (hS _ hb)).trans (hc 0 _ rfl)
      have e1 : wr.cell? ⟨b', off' + q * 2, none⟩ = some (.int .i64 (x0 : Int)) := (hbel.cell (p := ⟨b', off' + q * 2, none⟩) (hT _ hb')).trans (hc' 0 _ rfl)
      have f0 : wr.cell? ⟨b, off + q * 2 + 1, none⟩ = some (.int .i64 (x1 : Int)) := (hbel.cell (p := ⟨b, off + q * 2 + 1, none⟩) (hS _ hb)).trans (hc 1 _ rfl)
      have f1 : wr.cell? ⟨b', off' + q * 2 + 1, none⟩ = some (.int .i64 (x1 : Int)) := (hbel.cell (p := ⟨b', off' + q * 2 + 1, none⟩) (hT _ hb')).trans (hc' 1 _ rfl)
      have hq1 : (q : Int) < (l.length : Int) := by omega
      have hq0 : (0 : Int) ≤ (q : Int) := by omega
      clear r r' hc hc'
      go_wp2
      all_goals (try go_quiet (fail))
      all_goals (try go_wp2)
      go_roundw
      case rel => exact ⟨q + 1, by omega, by go_num, below_drewN hbel _⟩
      case measure => simp [intOf]; omega
    · go_wp2
      go_ret
      exact ⟨rfl, hbel⟩
theorem both_runs (t : Tm) (n : Int) (ps : List (Int × Int)) (hnt : (nodesT t).length ≤ 1048576) (hps : ps.length ≤ 1048576) (w : World) (S : Blocks) (V Pv : Value) (r : RdT w S t V) (hS : Sub S (Upto w.heap.size)) (rp : RdL (Flat encPk okPk) 2 16 w S ps Pv) :
    Calls Try.prog 6 #[V, .int .i64 n, Pv] w (fun e w' => RunA t n ps w e w') ∧ Calls Try.prog 7 #[V, .int .i64 n, Pv] w (fun e w' => RunA t n ps w e w') := by
  by_cases hb : badW n
  · exact ⟨run_bad t n hb ps w S V Pv r, vrun_bad t n hb ps w S V Pv r⟩
  · unfold badW at hb
    obtain ⟨k, rfl⟩ : ∃ k : Nat, n = (k : Int) := ⟨n.toNat, by omega⟩
    exact ⟨run_good t k (by omega) (by omega) ps w S V Pv r hS rp (by omega) (by omega), vrun_good t k (by omega) (by omega) ps w S V Pv r hS rp hnt hps⟩
set_option maxHeartbeats 4000000 in
set_option maxRecDepth 100000 in
theorem stealRuns_walk (t : Tm) (n : Int) (ps : List (Int × Int)) (w : World) (V U : Value) (r : RdT w (Upto w.heap.size) t V) (ro : RdL (Flat encPk okPk) 2 16 w (Upto w.heap.size) ps U) (hl : (nodesT t).length ≤ 1048576) (hps : ps.length ≤ 1048576) :
    Calls Try.prog 3 #[V, .int .i64 n, U] w fun e w' => e = .returned (.bool true) ∧ Below w.heap.size w w' := by
  obtain ⟨k, c, wb, lb, kids, v, et, rfl, h1, h2, h3, h4⟩ := id r
  obtain ⟨A1, n1, rfl, _⟩ := h4.form
  obtain ⟨Ao, co, rfl, -⟩ := ro.form
  have bel : Below w.heap.size w (w.alloc (.cells #[.int .i64 k, .int .i64 c, .bool wb, .int .i64 lb, .slice A1 kids.length n1] 26)) := (Below.refl _ _).alloc (Nat.le_refl _) _
  have BEL := Lib.hid bel
  have HR := Lib.hid (show ∀ wx, Below ((w.alloc (.cells #[.int .i64 k, .int .i64 c, .bool wb, .int .i64 lb, .slice A1 kids.length n1] 26))).heap.size (w.alloc (.cells #[.int .i64 k, .int .i64 c, .bool wb, .int .i64 lb, .slice A1 kids.length n1] 26)) wx → Sub (Upto w.heap.size) (Upto wx.heap.size) ∧ RdT wx (Upto w.heap.size) t (.agg #[.int .i64 k, .int .i64 c, .bool wb, .int .i64 lb, .slice A1 kids.length n1]) ∧ RdL (Flat encPk okPk) 2 16 wx (Upto w.heap.size) ps (.slice Ao ps.length co) ∧ Blk 0 wx w.heap.size [.int .i64 k, .int .i64 c, .bool wb, .int .i64 lb, .slice A1 kids.length n1] from fun wx h =>
    have h2 := bel.trans (h.mono bel.size)
    ⟨Sub.upto h2.size, r.go h2 (Sub.refl _), ro.keep Flat.keeps (Sub.refl _) (same_of_below h2 (Sub.refl _)), (Blk.made w [.int .i64 k, .int .i64 c, .bool wb, .int .i64 lb, .slice A1 kids.length n1] 26 (base := 0) (Nat.zero_le _)).below h⟩)
  unfold tmV
  clear h4 bel r ro et h1 h2 h3
  go_enter Try.func3, Try.ntmps3
  go_upto_region 1 with (fail)
  have hbs := BEL.out.size
  obtain ⟨X, hX⟩ : ∃ X, X = w.heap.size := ⟨_, rfl⟩
  rw [← hX] at HR ⊢
  clear hX
  generalize (w.alloc (.cells #[.int .i64 k, .int .i64 c, .bool wb, .int .i64 lb, .slice A1 kids.length n1] 26)) = W at *
  have hR1 := HR.out W (Below.refl _ _)
  have x0 := hR1.2.2.2.cell 0 _ rfl; have x1 := hR1.2.2.2.cell 1 _ rfl; have x2 := hR1.2.2.2.cell 2 _ rfl; have x3 := hR1.2.2.2.cell 3 _ rfl; have x4 := hR1.2.2.2.cell 4 _ rfl
  go_wp2_with fail
  refine (both_runs t n ps hl hps W _ _ _ hR1.2.1 hR1.1 hR1.2.2.1).1.mono ?_
  rintro e w1 ⟨Ax, cx, rfl, hx1, hb1⟩
  obtain ⟨o1, ho1⟩ : ∃ z, z = outR t n ps := ⟨_, rfl⟩
  obtain ⟨l1, hl1⟩ : ∃ z, z = leftR t n ps := ⟨_, rfl⟩
  obtain ⟨f1, hf1⟩ : ∃ z, z = errR n := ⟨_, rfl⟩
  have HO := Lib.hid ho1
  have HL := Lib.hid hl1
  have HF := Lib.hid hf1
  rw [← ho1] at hx1
  rw [← ho1, ← hl1, ← hf1]
  have B1 := Lib.hid hb1
  have X1 := Lib.hid (show RdDn w1 (Upto w1.heap.size) o1 _ from hx1.keep Flat.keeps (Sub.plus_upto (Sub.nowhere _)) (Same.refl _ _))
  clear ho1 hl1 hf1 hx1 hb1 x0 x1 x2 x3 x4 hR1
  have hR1 := HR.out w1 B1.out
  have x0 := hR1.2.2.2.cell 0 _ rfl; have x1 := hR1.2.2.2.cell 1 _ rfl; have x2 := hR1.2.2.2.cell 2 _ rfl; have x3 := hR1.2.2.2.cell 3 _ rfl; have x4 := hR1.2.2.2.cell 4 _ rfl
  go_wp2_with fail
  refine (both_runs t n ps hl hps w1 _ _ _ hR1.2.1 hR1.1 hR1.2.2.1).2.mono ?_
  rintro e w2 ⟨Ay, cy, rfl, hx2, hb2⟩
  rw [← HO.out] at hx2
  rw [← HO.out, ← HL.out, ← HF.out]
  have B2 := Lib.hid (B1.out.trans (hb2.mono B1.out.size))
  have X12 := Lib.hid (X1.out.keep Flat.keeps (Sub.upto hb2.size) (same_of_below hb2 (Sub.refl _)))
  have X2 := Lib.hid (show RdDn w2 (Upto w2.heap.size) o1 _ from hx2.keep Flat.keeps (Sub.plus_upto (Sub.nowhere _)) (Same.refl _ _))
  clear hx2 hb2 x0 x1 x2 x3 x4 hR1 X1
  go_wp2_with (refine (equalDn _ w2 _ _ _ _ (Sub.refl _) (Sub.refl _) X12.out X2.out).mono ?_; rintro e w3 ⟨rfl, b3⟩)
  go_ret
  exact ⟨rfl, BEL.out.trans ((B2.out.trans (b3.mono B2.out.size)).mono hbs)⟩
end Go.Proofs.Ytbpooepbnnbipaa
