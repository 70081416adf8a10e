/- The walk of the law ScopeFree. -/
import Derived.Test.YthbbecmffndgdaaSc11
namespace Go.Proofs.Ythbbecmffndgdaa
open Go.RowKit
set_option linter.unusedVariables false
theorem lfs_all' (m : Nat) : ∀ l : List St, SizeOf.sizeOf l ≤ m → LFs l := by
  induction m with
  | zero => intro l h; cases l with
    | nil => exact lfs_nil
    | cons s r => simp at h
  | succ m ih =>
    intro l h
    cases l with
    | nil => exact lfs_nil
    | cons s r =>
      obtain ⟨k, n, a, b, body, els⟩ := s
      simp at h
      exact lfs_cons k n a b body els r (ih _ (by omega)) (ih _ (by omega)) (ih _ (by omega))
theorem lfs_all (l : List St) : LFs l := lfs_all' _ l (Nat.le_refl _)
theorem lfree_any (l : List St) (w : World) (S : Blocks) (v : Value) (hS : Sub S (Upto w.heap.size)) (r : RdSts w S l v) (hwt : St.wts l ≤ 1048576) :
    Calls Try.prog 9 #[v] w fun e w' => ∃ x, e = .returned x ∧ FrS w' (lfree l []) x ∧ Below w.heap.size w w' := by
  have R := Lib.hid r
  have HS := Lib.hid hS
  clear r hS
  go_enter Try.func9, Try.ntmps9
  go_wp2_with fail
  refine (lfs_all l [] _ S _ _ HS.out R.out (Fr.nil (by simp [maxLen])) hwt (by simp; omega)).mono ?_
  rintro e w1 ⟨x, rfl, h, hb⟩
  go_wp2
  go_ret
  exact ⟨x, rfl, h, hb⟩
set_option maxHeartbeats 400000 in
theorem scopeFree_walk (l : List St) (w : World) (v : Value) (r : RdSts w (Upto w.heap.size) l v) (hl : St.wts l ≤ 1048576) :
    Calls Try.prog 3 #[v] w fun e w' => e = .returned (.bool true) ∧ Below w.heap.size w w' := by
  have R := Lib.hid r
  have HLB := Lib.hid (fun w S v hS r => (labs_all _ l (Nat.le_refl _)).1 w S v hS r hl)
  have HLL := Lib.hid (fun w S v hS r => (labs_all _ l (Nat.le_refl _)).2 w S v hS r hl)
  clear r
  go_enter Try.func3, Try.ntmps3
  go_wp2_with fail
  refine (free_any l w _ v (Sub.refl _) R.out hl).mono ?_
  rintro e w1 ⟨x1, rfl, hf1, b1⟩
  have HF1 := Lib.hid hf1
  have B1 := Lib.hid b1
  clear hf1 b1
  go_wp2_with fail
  refine (lfree_any l w1 _ v (Sub.upto B1.out.size) (R.out.go RdSt.keeps B1.out (Sub.refl _) (Sub.refl _)) hl).mono ?_
  rintro e w2 ⟨x2, rfl, hf2, b2⟩
  obtain ⟨T2, hT2, rr2⟩ := hf2
  obtain ⟨T1, hT1, rr1⟩ := Fr.via b2 HF1.out
  have B2 := Lib.hid (B1.out.trans (b2.mono B1.out.size))
  clear b2 HF1
  go_wp2_with fail
  refine (equalSs _ w2 _ _ _ _ hT1 hT2 rr1 rr2).mono ?_
  rintro e w3 ⟨rfl, b3⟩
  have B3 := Lib.hid (B2.out.trans (b3.mono B2.out.size))
  clear b3 rr1 rr2 hT1 hT2
  go_wp2_with fail
  refine (HLB.out w3 _ v (Sub.upto B3.out.size) (R.out.go RdSt.keeps B3.out (Sub.refl _) (Sub.refl _))).mono ?_
  rintro e w4 ⟨rfl, b4⟩
  have B4 := Lib.hid (B3.out.trans (b4.mono B3.out.size))
  clear b4
  go_wp2_with fail
  refine (HLL.out w4 _ v (Sub.upto B4.out.size) (R.out.go RdSt.keeps B4.out (Sub.refl _) (Sub.refl _))).mono ?_
  rintro e w5 ⟨rfl, b5⟩
  have B5 := Lib.hid (B4.out.trans (b5.mono B4.out.size))
  clear b5
  go_wp2
  go_ret
  exact ⟨rfl, B5.out⟩
end Go.Proofs.Ythbbecmffndgdaa
