/- slices.Equal at pairs and at numbers; the walk of the law HbRaces. -/
import Derived.Test.YtikjegfjgfhiaaaHr3
import Derived.Test.YtikjegfjgfhiaaaOpenEv
namespace Go.Proofs.Ytikjegfjgfhiaaa
open Go.RowKit
set_option linter.unusedVariables false
set_option maxHeartbeats 400000 in
theorem equalPrs (l : List (Int × Int)) (w : World) (S T : Blocks) (v u : Value) (hS : Sub S (Upto w.heap.size)) (hT : Sub T (Upto w.heap.size)) (r : RdP w S l v) (r' : RdP w T l u) :
    Calls Try.prog 12 #[v, u] w fun e w' => e = .returned (.bool true) ∧ Below w.heap.size w w' := by
  obtain ⟨A, cap, rfl, hl, hcm, hby⟩ := r.form
  obtain ⟨A', cap', rfl, hl', hcm', _⟩ := r'.form
  unfold maxLen at hcm hcm'
  go_enter Try.func12, Try.ntmps12
  go_wp2
  go_loopw [13] (fun t wr => ∃ q : Nat, q ≤ l.length ∧ t = .int .i64 q ∧ Below w.heap.size w wr) (fun t _ => l.length - (intOf t).toNat)
  case atStart => exact ⟨0, by omega, rfl, Below.refl _ _⟩
  case round =>
    obtain ⟨q, hq, rfl, hbel⟩ := hrel
    by_cases hlt : q < l.length
    · obtain ⟨b, off, rfl, hb, hok, hc, hd⟩ := RdP.at1 r hlt
      obtain ⟨b', off', rfl, hb', hok', hc', hd'⟩ := RdP.at1 r' hlt
      have e0 := (hbel.cell (p := ⟨b, off + q * 2, none⟩) (hS _ hb)).trans hc
      have e1 := (hbel.cell (p := ⟨b', off' + q * 2, none⟩) (hT _ hb')).trans hc'
      have f0 := (hbel.cell (p := ⟨b, off + q * 2 + 1, none⟩) (hS _ hb)).trans hd
      have f1 := (hbel.cell (p := ⟨b', off' + q * 2 + 1, none⟩) (hT _ hb')).trans hd'
      have hq1 : (q : Int) < (l.length : Int) := by omega
      have hq0 : (0 : Int) ≤ (q : Int) := by omega
      clear r r' hc hc' hd hd'
      go_wp2
      all_goals (try go_quiet (fail))
      all_goals (try go_wp2)
      go_roundw
      case rel => exact ⟨q + 1, by omega, by go_num, below_drewN hbel _⟩
      case measure => simp [intOf]; omega
    · go_wp2
      go_ret
      exact ⟨rfl, hbel⟩
set_option maxHeartbeats 400000 in
theorem equalIs (l : List Int) (w : World) (S T : Blocks) (v u : Value) (hS : Sub S (Upto w.heap.size)) (hT : Sub T (Upto w.heap.size)) (r : RdI w S l v) (r' : RdI w T l u) :
    Calls Try.prog 15 #[v, u] w fun e w' => e = .returned (.bool true) ∧ Below w.heap.size w w' := by
  obtain ⟨A, cap, rfl, hl, hcm, hby⟩ := r.form
  obtain ⟨A', cap', rfl, hl', hcm', _⟩ := r'.form
  unfold maxLen at hcm hcm'
  go_enter Try.func15, Try.ntmps15
  go_wp2
  go_loopw [13] (fun t wr => ∃ q : Nat, q ≤ l.length ∧ t = .int .i64 q ∧ Below w.heap.size w wr) (fun t _ => l.length - (intOf t).toNat)
  case atStart => exact ⟨0, by omega, rfl, Below.refl _ _⟩
  case round =>
    obtain ⟨q, hq, rfl, hbel⟩ := hrel
    by_cases hlt : q < l.length
    · obtain ⟨b, off, rfl, hb, hok, hc⟩ := RdI.at1 r hlt
      obtain ⟨b', off', rfl, hb', hok', hc'⟩ := RdI.at1 r' hlt
      have e0 := (hbel.cell (p := ⟨b, off + q, none⟩) (hS _ hb)).trans hc
      have e1 := (hbel.cell (p := ⟨b', off' + q, none⟩) (hT _ hb')).trans hc'
      have hq1 : (q : Int) < (l.length : Int) := by omega
      have hq0 : (0 : Int) ≤ (q : Int) := by omega
      clear r r' hc hc'
      go_wp2
      all_goals (try go_quiet (fail))
      all_goals (try go_wp2)
      go_roundw
      case rel => exact ⟨q + 1, by omega, by go_num, below_drewN hbel _⟩
      case measure => simp [intOf]; omega
    · go_wp2
      go_ret
      exact ⟨rfl, hbel⟩
set_option maxHeartbeats 400000 in
theorem hbRaces_walk (l : List HEv) (w : World) (v : Value) (r : RdEvs w (Upto w.heap.size) l v) (hl : l.length ≤ 1048576) :
    Calls Try.prog 5 #[v] w fun e w' => e = .returned (.bool true) ∧ Below w.heap.size w w' := by
  have R := Lib.hid r
  clear r
  go_enter Try.func5, Try.ntmps5
  go_wp2_with fail
  refine (races_any l w _ v (Sub.refl _) R.out hl).mono ?_
  rintro e w1 ⟨x1, rfl, hf1, b1⟩
  have HF1 := Lib.hid hf1
  have B1 := Lib.hid b1
  clear hf1 b1
  go_wp2_with fail
  refine (sraces_any l w1 _ v (Sub.upto B1.out.size) (R.out.go Flat.keeps B1.out (Sub.refl _) (Sub.refl _)) hl).mono ?_
  rintro e w2 ⟨x2, rfl, hf2, b2⟩
  have HF2 := Lib.hid hf2
  have HF3 := Lib.hid (HF1.out.go Flat.keeps b2 (Sub.plus_upto (Sub.nowhere _)) (Sub.refl _))
  have B2 := Lib.hid (B1.out.trans (b2.mono B1.out.size))
  have s1 := Lib.hid (show Sub (Plus Nowhere w.heap.size w1.heap.size) (Upto w2.heap.size) from Sub.plus_to (j := 0) (Sub.nowhere _) (by omega) b2.size)
  clear b2 HF1 hf2
  go_wp2_with fail
  refine (equalPrs _ w2 _ _ _ _ s1.out (Sub.plus_upto (Sub.nowhere _)) HF3.out HF2.out).mono ?_
  rintro e w3 ⟨rfl, b3⟩
  have B3 := Lib.hid (B2.out.trans (b3.mono B2.out.size))
  clear b3 HF2 HF3 s1
  go_wp2_with fail
  refine (cells_any l w3 _ v (Sub.upto B3.out.size) (R.out.go Flat.keeps B3.out (Sub.refl _) (Sub.refl _)) hl).mono ?_
  rintro e w4 ⟨x4, rfl, ⟨T4, hT4, rr4⟩, b4⟩
  have B4 := Lib.hid (B3.out.trans (b4.mono B3.out.size))
  have RR4 := Lib.hid rr4
  have HT4 := Lib.hid hT4
  clear b4 rr4 hT4
  go_wp2_with fail
  refine (scells_any l w4 _ v (Sub.upto B4.out.size) (R.out.go Flat.keeps B4.out (Sub.refl _) (Sub.refl _)) hl).mono ?_
  rintro e w5 ⟨x5, rfl, ⟨T5, hT5, rr5⟩, b5⟩
  have B5 := Lib.hid (B4.out.trans (b5.mono B4.out.size))
  have RR5 := Lib.hid rr5
  have RR6 := Lib.hid (RR4.out.go Flat.keeps b5 HT4.out (Sub.refl _))
  have HT6 := Lib.hid (HT4.out.trans (Sub.upto b5.size))
  have HT5 := Lib.hid hT5
  clear b5 rr5 hT5
  go_wp2_with fail
  refine (equalIs _ w5 _ _ _ _ HT6.out HT5.out RR6.out RR5.out).mono ?_
  rintro e w6 ⟨rfl, b6⟩
  have B6 := Lib.hid (B5.out.trans (b6.mono B5.out.size))
  clear b6
  go_wp2
  go_ret
  exact ⟨rfl, B6.out⟩
end Go.Proofs.Ytikjegfjgfhiaaa
