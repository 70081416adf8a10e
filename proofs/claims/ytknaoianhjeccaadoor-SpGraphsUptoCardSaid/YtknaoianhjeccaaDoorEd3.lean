/- slices.Equal at edges; the reference's SameGraph. -/
import Derived.Test.YtknaoianhjeccaaDoorPairRow
import Derived.Test.YtknaoianhjeccaaDoorBlk
import Derived.BigQuiet
namespace Go.Proofs.YtknaoianhjeccaaDoor
open Go.RowKit
set_option linter.unusedVariables false
set_option maxHeartbeats 400000 in
theorem equalEs (l : List (Int × Int)) (w : World) (S T : Blocks) (v u : Value) (hS : Sub S (Upto w.heap.size)) (hT : Sub T (Upto w.heap.size)) (r : RdP w S l v) (r' : RdP w T l u) :
    Calls Tryd.prog 19 #[v, u] w fun e w' => e = .returned (.bool true) ∧ Below w.heap.size w w' := by
  obtain ⟨A, cap, rfl, hl, hcm, hby⟩ := r.form
  obtain ⟨A', cap', rfl, hl', hcm', _⟩ := r'.form
  unfold maxLen at hcm hcm'
  go_enter Tryd.func19, Tryd.ntmps19
  go_wp2
  go_loopw [13] (fun t wr => ∃ q : Nat, q ≤ l.length ∧ t = .int .i64 q ∧ Below w.heap.size w wr) (fun t _ => l.length - (intOf t).toNat)
  case atStart => exact ⟨0, by omega, rfl, Below.refl _ _⟩
  case round =>
    obtain ⟨q, hq, rfl, hbel⟩ := hrel
    by_cases hlt : q < l.length
    · obtain ⟨b, off, rfl, hb, hok, hc1, hc2⟩ := RdP.at1 r hlt
      obtain ⟨b', off', rfl, hb', hok', hc1', hc2'⟩ := RdP.at1 r' hlt
      have e0 := (hbel.cell (p := ⟨b, off + q * 2, none⟩) (hS _ hb)).trans hc1
      have e1 := (hbel.cell (p := ⟨b, off + q * 2 + 1, none⟩) (hS _ hb)).trans hc2
      have e2 := (hbel.cell (p := ⟨b', off' + q * 2, none⟩) (hT _ hb')).trans hc1'
      have e3 := (hbel.cell (p := ⟨b', off' + q * 2 + 1, none⟩) (hT _ hb')).trans hc2'
      obtain ⟨x, y, hxy⟩ : ∃ x y, l[q] = (x, y) := ⟨_, _, rfl⟩
      rw [hxy] at e0 e1 e2 e3
      simp only at e0 e1 e2 e3
      have hq1 : (q : Int) < (l.length : Int) := by omega
      have hq0 : (0 : Int) ≤ (q : Int) := by omega
      clear r r' hc1 hc1' hc2 hc2' hok hok' hxy
      go_wp2
      all_goals (try go_quiet (fail))
      all_goals (try go_wp2)
      go_roundw
      case rel => exact ⟨q + 1, by omega, by go_num, below_drewN hbel _⟩
      case measure => simp [intOf]; omega
    · go_wp2
      go_ret
      exact ⟨rfl, hbel⟩
set_option maxHeartbeats 400000 in
theorem sameGraph (N : Int) (l : List (Int × Int)) (w : World) (S T : Blocks) (v u : Value) (hS : Sub S (Upto w.heap.size)) (hT : Sub T (Upto w.heap.size)) (r : RdP w S l v) (r' : RdP w T l u) :
    Calls Tryd.prog 8 #[.agg #[.int .i64 N, v], .agg #[.int .i64 N, u]] w fun e w' => e = .returned (.bool true) ∧ Below w.heap.size w w' := by
  obtain ⟨A, cap, rfl, hl, hcm, hby⟩ := r.form
  obtain ⟨A', cap', rfl, hl', hcm', _⟩ := r'.form
  have b0 := (Blk.made w [.int .i64 N, .slice A l.length cap] 24 (base := 0) (Nat.zero_le _)).but (But.alloc (T := Nowhere) (But.refl _ _) (.cells #[.int .i64 N, .slice A' l.length cap'] 24)) (fun h => h)
  have b4 := Blk.made (w.alloc (.cells #[.int .i64 N, .slice A l.length cap] 24)) [.int .i64 N, .slice A' l.length cap'] 24 (base := 0) (Nat.zero_le _)
  have bl : Below w.heap.size w ((w.alloc (.cells #[.int .i64 N, .slice A l.length cap] 24)).alloc (.cells #[.int .i64 N, .slice A' l.length cap'] 24)) := ((Below.refl _ _).alloc (Nat.le_refl _) _).alloc (by simp) _
  rw [show (w.alloc (.cells #[.int .i64 N, .slice A l.length cap] 24)).heap.size = w.heap.size + 1 by simp] at b4
  have k0 := b0.cell 0 _ rfl
  have k1 := b0.cell 1 _ rfl
  have j0 := b4.cell 0 _ rfl
  have j1 := b4.cell 1 _ rfl
  have BL := Lib.hid bl
  have C := Lib.hid (equalEs l ((w.alloc (.cells #[.int .i64 N, .slice A l.length cap] 24)).alloc (.cells #[.int .i64 N, .slice A' l.length cap'] 24)) S T _ _ (hS.trans (Sub.upto bl.size)) (hT.trans (Sub.upto bl.size)) (r.go Flat.keeps bl hS (Sub.refl _)) (r'.go Flat.keeps bl hT (Sub.refl _)))
  clear r r' hS hT b0 b4 bl
  go_enter Tryd.func8, Tryd.ntmps8
  go_upto_region 1 with (fail)
  generalize ((w.alloc (.cells #[.int .i64 N, .slice A l.length cap] 24)).alloc (.cells #[.int .i64 N, .slice A' l.length cap'] 24)) = W0 at *
  go_wp2_with fail
  refine C.out.mono ?_
  rintro e w' ⟨rfl, hb⟩
  have HB := Lib.hid (BL.out.trans (hb.mono BL.out.size))
  clear hb C
  go_wp2
  go_ret
  exact ⟨rfl, HB.out⟩
end Go.Proofs.YtknaoianhjeccaaDoor
