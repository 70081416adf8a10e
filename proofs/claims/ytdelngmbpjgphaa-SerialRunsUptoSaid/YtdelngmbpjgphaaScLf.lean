/- The reference's LFree, for all programs. -/
import Derived.Test.YtdelngmbpjgphaaSc11
namespace Go.Proofs.Ytdelngmbpjgphaa
open Go.RowKit
set_option linter.unusedVariables false
theorem lfs_all' (m : Nat) : ∀ l : List St, SizeOf.sizeOf l ≤ m → LFs l := by
  induction m with
  | zero => intro l h; cases l with
    | nil => exact lfs_nil
    | cons s r => simp at h
  | succ m ih =>
    intro l h
    cases l with
    | nil => exact lfs_nil
    | cons s r =>
      obtain ⟨k, n, a, b, body, els⟩ := s
      simp at h
      exact lfs_cons k n a b body els r (ih _ (by omega)) (ih _ (by omega)) (ih _ (by omega))
theorem lfs_all (l : List St) : LFs l := lfs_all' _ l (Nat.le_refl _)
theorem lfree_any (l : List St) (w : World) (S : Blocks) (v : Value) (hS : Sub S (Upto w.heap.size)) (r : RdSts w S l v) (hwt : St.wts l ≤ 1048576) :
    Calls Try.prog 33 #[v] w fun e w' => ∃ x, e = .returned x ∧ FrS w' (lfree l []) x ∧ Below w.heap.size w w' := by
  have R := Lib.hid r
  have HS := Lib.hid hS
  clear r hS
  go_enter Try.func33, Try.ntmps33
  go_wp2_with fail
  refine (lfs_all l [] _ S _ _ HS.out R.out (Fr.nil (by simp [maxLen])) hwt (by simp; omega)).mono ?_
  rintro e w1 ⟨x, rfl, h, hb⟩
  go_wp2
  go_ret
  exact ⟨x, rfl, h, hb⟩
end Go.Proofs.Ytdelngmbpjgphaa
