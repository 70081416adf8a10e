/- slices.Concat at three rows of numbers. -/
import Derived.Shelf.Spec.SlicesGrow
import Derived.Test.YtfldajplclahfaaFlat
import Derived.Test.YtfldajplclahfaaGSrtI
import Derived.Test.YtfldajplclahfaaGRdT
namespace Go.Proofs.Ytfldajplclahfaa
open Go.RowKit Go.Shelf
set_option linter.unusedVariables false
def layGrow_ren : Go.Shelf.Ren := ⟨fun | 4 => 45 | n => n, fun | 22 => 34 | 25 => 3 | 3 => 3 | 4 => 4 | 9 => 9 | 20 => 20 | 0 => 0 | n => n, fun | n => n⟩
theorem layGrow : Go.Proofs.Lays8.n4 Try.prog layGrow_ren where
  mixed := by kernel_rfl
  f4 := ⟨Try.f45.name, by decide, Try.func45.trans (congrArg some (by kernel_rfl))⟩
  t0 := Try.underlying0
  a0 := Try.isAgg0
  z0 := Try.sizeOf0
  v0 := Try.zeroValue0
  t3 := Try.underlying3
  a3 := Try.isAgg3
  z3 := Try.sizeOf3
  v3 := Try.zeroValue3
  t4 := Try.underlying4
  a4 := Try.isAgg4
  z4 := Try.sizeOf4
  v4 := Try.zeroValue4
  t9 := Try.underlying9
  a9 := Try.isAgg9
  z9 := Try.sizeOf9
  v9 := Try.zeroValue9
  t20 := Try.underlying20
  a20 := Try.isAgg20
  z20 := Try.sizeOf20
  v20 := Try.zeroValue20
  t22 := Try.underlying34
  a22 := Try.isAgg34
  z22 := Try.sizeOf34
  v22 := Try.zeroValue34
theorem grow0_any (n : Nat) (hn : n ≤ 4398046511104) (w : World) :
    Calls Try.prog 45 #[.slice none 0 0, .int .i64 (n : Int)] w fun e w' => ∃ v, e = .returned v ∧ OwnI 3 w' w.heap.size Nowhere [] v ∧ Below w.heap.size w w' := by
  obtain ⟨i0, hi, hz0, hz1, hz2⟩ := info_parts infoInt
  rcases Nat.eq_zero_or_pos n with h | h
  · subst h
    refine (Any8.slices_Grow_room layGrow none 0 0 0 w (Nat.le_refl _) (by omega) (by omega) (by omega)).mono ?_
    rintro e w' ⟨rfl, rfl⟩
    exact ⟨_, rfl, OwnL.nil _ _ _, Below.refl _ _⟩
  · refine (Any8.slices_Grow_grow layGrow i0 _ hi hz0 (by rw [hz1]; omega) none 0 0 n [] w (Nat.le_refl _) (by omega) (by rw [hz2]; omega) (by omega) (by simp) (fun _ => rfl) (fun a h => by cases h)).mono ?_
    rintro e w' ⟨rfl, rfl⟩
    refine ⟨_, rfl, ⟨fun _ => False, [], fun _ h => h.elim, fun _ h => h.elim, fun _ _ h => h, rfl, by simp, World.ownsRow_made w.drew _ _ (Nat.le_refl _) (grownCap_le_maxLen w _ _ _ (by unfold maxLen; omega)) ?_, by simp⟩, (Below.refl _ _).drew.alloc (Nat.le_refl _) _⟩
    have hg := grownCap_ge w (0 + n) 0 (layGrow_ren.t 25)
    have e1 : (Value.int .i64 0).cells.size = 1 := rfl
    rw [Nat.zero_add] at hg ⊢
    simp [Builtin.zeroCells, e1]
    omega
def lenTo (L : Nat → List Int) : Nat → Nat
  | 0 => 0
  | q + 1 => lenTo L q + (L q).length
def catTo (L : Nat → List Int) : Nat → List Int
  | 0 => []
  | q + 1 => catTo L q ++ L q
theorem catTo_len (L : Nat → List Int) (q : Nat) : (catTo L q).length = lenTo L q := by
  induction q with
  | zero => rfl
  | succ q ih => simp [catTo, lenTo, ih]
theorem lenTo_le (L : Nat → List Int) {m : Nat} (h : ∀ i, (L i).length ≤ m) (q : Nat) : lenTo L q ≤ q * m := by
  induction q with
  | zero => simp [lenTo]
  | succ q ih => have := h q; rw [Nat.succ_mul]; unfold lenTo; omega
set_option maxHeartbeats 1000000 in
set_option maxRecDepth 100000 in
theorem concat3_any (L : Nat → List Int) (vs : Nat → Value) (w : World) (So : Blocks) (Y yo cp : Nat) (hSo : Sub So (Upto w.heap.size)) (hL : ∀ i, (L i).length ≤ 1048576) (hY : Y < w.heap.size) (hc : ∀ i, i < 3 → w.cell? ⟨Y, yo + i, none⟩ = some (vs i)) (hr : ∀ i, i < 3 → RdI w So (L i) (vs i)) :
    Calls Try.prog 31 #[.slice (some ⟨Y, yo, none⟩) 3 cp] w fun e w' => ∃ v, e = .returned v ∧ OwnI 3 w' w.heap.size Nowhere (catTo L 3) v ∧ Below w.heap.size w w' := by
  obtain ⟨i0, hi, hz0, hz1, hz2⟩ := info_parts infoInt
  have HC := Lib.hid hc
  have HR := Lib.hid hr
  have HL := Lib.hid hL
  have HLL := Lib.hid (lenTo_le L hL)
  clear hc hr hL
  go_enter Try.func31, Try.ntmps31
  go_wp2_with fail
  go_loopw [3, 11] (fun s u wr => ∃ q : Nat, q ≤ 3 ∧ u = .int .i64 q ∧ s = .int .i64 (lenTo L q : Nat) ∧ w = wr) (fun _ u _ => 3 - (intOf u).toNat)
  case atStart => exact ⟨0, by omega, rfl, rfl, rfl⟩
  case round =>
    obtain ⟨q, hq, rfl, rfl, rfl⟩ := hrel
    by_cases hlt : q < 3
    · have z0 := HC.out q hlt
      have hrq := HR.out q hlt
      obtain ⟨Aq, cq, hv, hlq, hmq, _⟩ := hrq.form
      rw [hv] at z0
      have h1 := HLL.out q
      have h2 := HL.out q
      have h3 : q * 1048576 ≤ 3 * 1048576 := Nat.mul_le_mul_right _ hq
      have hs : lenTo L (q + 1) = lenTo L q + (L q).length := rfl
      have HS := Lib.hid hs
      have q0 : (0 : Int) ≤ (q : Int) := by omega
      have q1 : (q : Int) < 3 := by omega
      have hnn : ¬ ((lenTo L q : Nat) : Int) + ((L q).length : Int) < 0 := by omega
      unfold maxLen at hmq
      clear hs hrq hv
      generalize lenTo L q = a at *
      generalize (L q).length = b at *
      go_wp2
      go_roundw
      case rel => exact ⟨q + 1, hlt, by go_num, by rw [HS.out, Int.natCast_add], trivial⟩
      case measure => simp [intOf]; omega
    · have hqe : q = 3 := by omega
      subst hqe
      have h1 := HLL.out 3
      go_wp2_with fail
      refine (grow0_any (lenTo L 3) (by omega) w).mono ?_
      rintro e w1 ⟨v1, rfl, ho1, hb1⟩
      have HO := Lib.hid ho1
      have HB := Lib.hid hb1
      clear ho1 hb1
      go_wp2_with fail
      go_loopw [6, 27] (fun o u wr => ∃ q : Nat, q ≤ 3 ∧ u = .int .i64 q ∧ Hid (OwnI 3 wr w.heap.size Nowhere (catTo L q) o) ∧ Hid (Below w.heap.size w wr)) (fun _ u _ => 3 - (intOf u).toNat)
      case atStart => exact ⟨0, by omega, rfl, HO, HB⟩
      case round =>
        clear HO HB
        obtain ⟨q, hq, rfl, HO, HB⟩ := hrel
        by_cases hlt : q < 3
        · have z0 := (HB.out.cell (p := ⟨Y, yo + q, none⟩) hY).trans (HC.out q hlt)
          have hrq := (HR.out q hlt).go Flat.keeps HB.out hSo (Sub.refl _)
          obtain ⟨Aq, cq, hv, hlq, hmq, hbq⟩ := hrq.form
          rw [hv] at z0 hrq
          have HRQ := Lib.hid (hrq.bare Nowhere)
          have h1 := HLL.out q
          have h2 := HL.out q
          have h3 : q * 1048576 ≤ 3 * 1048576 := Nat.mul_le_mul_right _ hq
          have HCL := Lib.hid (catTo_len L q)
          have HSZ := Lib.hid HB.out.size
          have q0 : (0 : Int) ≤ (q : Int) := by omega
          have q1 : (q : Int) < 3 := by omega
          clear hrq hv
          go_wp2_with (at_builtin; refine wpList_append_list rfl _ _ 34 rfl i0 _ Try.underlying34 hi hz0 hz1 hz2 rfl (by decide) Flat.keeps HO.out HRQ.out rfl rfl (Sub.nowhere _) (Sub.nowhere _) not_nowhere oneI ?c3 ?c4 ?c5 ?_)
          case c3 => rw [HCL.out]; unfold maxLen; omega
          case c4 => rw [HCL.out]; omega
          case c5 => exact HSZ.out
          intro v2 w2 ho2 hg2 _
          have HO2 := Lib.hid (show OwnI 3 w2 w.heap.size Nowhere (catTo L (q + 1)) v2 from ho2)
          have HB2 := Lib.hid (HB.out.grown hg2 HSZ.out (fun g hg => (HO.out.lt g hg).1))
          clear ho2 hg2 HO HB
          go_wp2_with fail
          go_roundw
          case rel => exact ⟨q + 1, hlt, by go_num, HO2, HB2⟩
          case measure => simp [intOf]; omega
        · have hqe : q = 3 := by omega
          subst hqe
          obtain ⟨A9, c9, rfl⟩ := HO.out.form
          go_wp2
          go_ret
          exact ⟨_, rfl, HO.out, HB.out⟩
end Go.Proofs.Ytfldajplclahfaa
