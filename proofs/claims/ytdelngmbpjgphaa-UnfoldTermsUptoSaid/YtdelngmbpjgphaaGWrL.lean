/- Texts merged: ScLf, WrL. -/
import Derived.Test.YtdelngmbpjgphaaSc11
import Derived.Test.YtdelngmbpjgphaaSr2
/- The reference's LFree, for all programs. -/
namespace Go.Proofs.Ytdelngmbpjgphaa
open Go.RowKit
set_option linter.unusedVariables false
theorem lfs_all' (m : Nat) : ∀ l : List St, SizeOf.sizeOf l ≤ m → LFs l := by
  induction m with
  | zero => intro l h; cases l with
    | nil => exact lfs_nil
    | cons s r => simp at h
  | succ m ih =>
    intro l h
    cases l with
    | nil => exact lfs_nil
    | cons s r =>
      obtain ⟨k, n, a, b, body, els⟩ := s
      simp at h
      exact lfs_cons k n a b body els r (ih _ (by omega)) (ih _ (by omega)) (ih _ (by omega))
theorem lfs_all (l : List St) : LFs l := lfs_all' _ l (Nat.le_refl _)
theorem lfree_any (l : List St) (w : World) (S : Blocks) (v : Value) (hS : Sub S (Upto w.heap.size)) (r : RdSts w S l v) (hwt : St.wts l ≤ 1048576) :
    Calls Try.prog 33 #[v] w fun e w' => ∃ x, e = .returned x ∧ FrS w' (lfree l []) x ∧ Below w.heap.size w w' := by
  have R := Lib.hid r
  have HS := Lib.hid hS
  clear r hS
  go_enter Try.func33, Try.ntmps33
  go_wp2_with fail
  refine (lfs_all l [] _ S _ _ HS.out R.out (Fr.nil (by simp [maxLen])) hwt (by simp; omega)).mono ?_
  rintro e w1 ⟨x, rfl, h, hb⟩
  go_wp2
  go_ret
  exact ⟨x, rfl, h, hb⟩
end Go.Proofs.Ytdelngmbpjgphaa
/- What is wrong ahead of a run: the walks of serial.Wrong and of the reference's MWrong. -/
namespace Go.Proofs.Ytdelngmbpjgphaa
open Go.RowKit
set_option linter.unusedVariables false
/-- what is wrong ahead of a run -/
def wrongR (l : List St) (f : Int) : Int := if lfree l [] ≠ [] then 4 else if f < 0 ∨ 2000 < f then 2 else 0
theorem wrongR_zero {l : List St} {f : Int} (h : wrongR l f = 0) : 0 ≤ f ∧ f ≤ 2000 := by
  unfold wrongR at h
  split at h
  · cases h
  · split at h
    · cases h
    · omega
theorem len_pos {α : Type} {l : List α} (h : l ≠ []) : 0 < l.length := by cases l with | nil => exact absurd rfl h | cons => simp
set_option maxHeartbeats 400000 in
theorem wrong_any (l : List St) (f : Int) (w : World) (S : Blocks) (v : Value) (hS : Sub S (Upto w.heap.size)) (r : RdSts w S l v) (hwt : St.wts l ≤ 1048576) :
    Calls Try.prog 16 #[v, vI f] w fun e w' => e = .returned (vI (wrongR l f)) ∧ Below w.heap.size w w' := by
  have C := Lib.hid (free_any l w S v hS r hwt)
  have HW := Lib.hid (show wrongR l f = if lfree l [] ≠ [] then 4 else if f < 0 ∨ 2000 < f then 2 else 0 from rfl)
  clear r hS
  go_enter Try.func16, Try.ntmps16
  go_wp2_with fail
  refine C.out.mono ?_
  rintro e w1 ⟨x, rfl, hx, hb⟩
  obtain ⟨A, c, rfl, -⟩ := hx.form
  clear hx
  by_cases hl : lfree l [] = []
  · have hl0 : (lfree l []).length = 0 := by rw [hl]; rfl
    rw [hl0]
    rw [if_neg (by simpa using hl)] at HW
    by_cases h0 : f < 0
    · rw [if_pos (.inl h0)] at HW
      go_wp2
      go_ret
      exact ⟨by rw [HW.out]; rfl, hb⟩
    · by_cases h2 : 2000 < f
      · rw [if_pos (.inr h2)] at HW
        go_wp2
        go_ret
        exact ⟨by rw [HW.out]; rfl, hb⟩
      · rw [if_neg (by omega)] at HW
        go_wp2
        go_ret
        exact ⟨by rw [HW.out]; rfl, hb⟩
  · have hl0 : 0 < (lfree l []).length := len_pos hl
    have hl1 : (0 : Int) < ((lfree l []).length : Int) := by omega
    rw [if_pos hl] at HW
    go_wp2
    go_ret
    exact ⟨by rw [HW.out]; rfl, hb⟩
set_option maxHeartbeats 400000 in
theorem mwrong_any (l : List St) (f : Int) (w : World) (S : Blocks) (v : Value) (hS : Sub S (Upto w.heap.size)) (r : RdSts w S l v) (hwt : St.wts l ≤ 1048576) :
    Calls Try.prog 17 #[v, vI f] w fun e w' => e = .returned (vI (wrongR l f)) ∧ Below w.heap.size w w' := by
  have C := Lib.hid (lfree_any l w S v hS r hwt)
  have HW := Lib.hid (show wrongR l f = if lfree l [] ≠ [] then 4 else if f < 0 ∨ 2000 < f then 2 else 0 from rfl)
  clear r hS
  go_enter Try.func17, Try.ntmps17
  go_wp2_with fail
  refine C.out.mono ?_
  rintro e w1 ⟨x, rfl, hx, hb⟩
  obtain ⟨A, c, rfl, -⟩ := hx.form
  clear hx
  by_cases hl : lfree l [] = []
  · have hl0 : (lfree l []).length = 0 := by rw [hl]; rfl
    rw [hl0]
    rw [if_neg (by simpa using hl)] at HW
    by_cases h0 : f < 0
    · rw [if_pos (.inl h0)] at HW
      go_wp2
      go_ret
      exact ⟨by rw [HW.out]; rfl, hb⟩
    · by_cases h2 : 2000 < f
      · rw [if_pos (.inr h2)] at HW
        go_wp2
        go_ret
        exact ⟨by rw [HW.out]; rfl, hb⟩
      · rw [if_neg (by omega)] at HW
        go_wp2
        go_ret
        exact ⟨by rw [HW.out]; rfl, hb⟩
  · have hl0 : 0 < (lfree l []).length := len_pos hl
    have hl1 : (0 : Int) < ((lfree l []).length : Int) := by omega
    have hl2 : (((lfree l []).length : Int) != 0) = true := by simp; exact hl
    rw [if_pos hl] at HW
    go_wp2
    go_ret
    exact ⟨by rw [HW.out]; rfl, hb⟩
end Go.Proofs.Ytdelngmbpjgphaa
