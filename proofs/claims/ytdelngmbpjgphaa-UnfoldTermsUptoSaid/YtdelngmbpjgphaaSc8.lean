/- The walks of scope.Free and of Labels, the program's and the reference's. -/
import Derived.Test.YtdelngmbpjgphaaSc7
namespace Go.Proofs.Ytdelngmbpjgphaa
open Go.RowKit
set_option linter.unusedVariables false
theorem sts_all' (m : Nat) : ∀ l : List St, SizeOf.sizeOf l ≤ m → STs l := by
  induction m with
  | zero => intro l h; cases l <;> simp at h
  | succ m ih =>
    intro l h
    refine sts_one l (fun k s a b body els hm => ?_)
    have := List.sizeOf_lt_of_mem hm
    simp only [St.mk.sizeOf_spec] at this
    exact ⟨ih _ (by omega), ih _ (by omega)⟩
theorem sts_all (l : List St) : STs l := sts_all' _ l (Nat.le_refl _)
set_option maxHeartbeats 400000 in
theorem free_any (l : List St) (w : World) (S : Blocks) (v : Value) (hS : Sub S (Upto w.heap.size)) (r : RdSts w S l v) (hwt : St.wts l ≤ 1048576) :
    Calls Try.prog 32 #[v] w fun e w' => ∃ x, e = .returned x ∧ FrS w' (lfree l []) x ∧ Below w.heap.size w w' := by
  have HFE := Lib.hid (free_eq_lfree l)
  have HLL := Lib.hid (lfree_len l [])
  have bel : Below w.heap.size w (w.alloc (.cells #[.slice none 0 0, .slice none 0 0] 132)) := (Below.refl _ _).alloc (Nat.le_refl _) _
  have hw : Wk w.heap.size (w.alloc (.cells #[.slice none 0 0, .slice none 0 0] 132)) w.heap.size [] [] (.slice none 0 0) (.slice none 0 0) :=
    ⟨Blk.made w _ 132 (Nat.le_refl _), OwnL.nil _ _ _, OwnL.nil _ _ _, fun k hk => (by cases hk), fun k hk => (by cases hk), fun k hk => (by cases hk)⟩
  have HWK := Lib.hid hw
  have BEL := Lib.hid bel
  have HR := Lib.hid (r.go RdSt.keeps bel hS (Sub.refl _))
  have hsz : w.heap.size ≤ (w.alloc (.cells #[.slice none 0 0, .slice none 0 0] 132)).heap.size := by simp
  have HS := Lib.hid hS
  clear hw bel r hS
  go_enter Try.func32, Try.ntmps32
  go_wp2_with fail
  refine (sts_all l w.heap.size _ S w.heap.size [] [] _ _ v HS.out hsz HR.out HWK.out hwt (by simp; omega) (by simp; omega)).mono ?_
  rintro e w2 ⟨⟨x, rfl⟩, vb2, vf2, k1, k2, k3, k4⟩
  rw [HFE.out] at k1
  obtain ⟨A, c, rfl⟩ := k1.of_.form
  have z1 := k1.blk.cell 1 _ rfl
  have HRD := Lib.hid (k1.of_.toRd (bytes := 16) (S' := Plus Nowhere w.heap.size w2.heap.size) Flat.keeps (by have := HLL.out; omega) (Sub.nowhere _) (fun b h1 h2 => .inr ⟨h1, h2⟩))
  have HB := Lib.hid (BEL.out.trans (k2.below (B := w.heap.size) hsz (fun k hk => HWK.out.ge k hk)))
  clear k1 k2 k3 k4 hsz
  go_wp2
  go_ret
  exact ⟨_, rfl, ⟨_, Sub.plus_upto (Sub.nowhere _), HRD.out⟩, HB.out⟩
theorem labelsS_le (s : St) (hl : ∀ (l : List St), SizeOf.sizeOf l < SizeOf.sizeOf s → labelsL l ≤ St.wts l) : labelsS s ≤ s.wt := by
  obtain ⟨k, n, a, b, body, els⟩ := s
  have h1 := hl body (by simp; omega)
  have h2 := hl els (by simp; omega)
  rw [labelsS, St.wt]
  have : (if k = 2 ∨ k = 3 then 1 else 0) ≤ 1 := by split <;> omega
  have : (if k = 4 ∨ k = 5 ∨ k = 6 ∨ k = 7 then labelsL body else 0) ≤ labelsL body := by split <;> omega
  have : (if k = 6 then labelsL els else 0) ≤ labelsL els := by split <;> omega
  omega
theorem labelsL_le' (m : Nat) : ∀ (l : List St), SizeOf.sizeOf l ≤ m → labelsL l ≤ St.wts l := by
  induction m with
  | zero => intro l h; cases l with
    | nil => rw [labelsL]; simp
    | cons s r => simp at h
  | succ m ih =>
    intro l h
    cases l with
    | nil => rw [labelsL]; simp
    | cons s r =>
      simp at h
      rw [labelsL, St.wts]
      have h1 := labelsS_le s (fun l hl => ih l (by omega))
      have h2 := ih r (by omega)
      omega
theorem labelsL_le (l : List St) : labelsL l ≤ St.wts l := labelsL_le' _ l (Nat.le_refl _)
theorem labelsL_snoc (l : List St) (s : St) : labelsL (l ++ [s]) = labelsL l + labelsS s := by
  induction l with
  | nil => simp [labelsL]
  | cons t r ih => rw [List.cons_append, labelsL, labelsL, ih]; omega
theorem labels_acc {k : Int} {s : Str} {a b : Ex} {body els : List St} (h : k = 2 ∨ k = 3) : labelsS (.mk k s a b body els) = 1 := by
  rw [labelsS, if_pos h, if_neg (by omega), if_neg (by omega)]
theorem labels_one {k : Int} {s : Str} {a b : Ex} {body els : List St} (h : k = 4 ∨ k = 5 ∨ k = 7) : labelsS (.mk k s a b body els) = labelsL body := by
  rw [labelsS, if_neg (by omega), if_pos (by omega), if_neg (by omega)]; omega
theorem labels_if {s : Str} {a b : Ex} {body els : List St} : labelsS (.mk 6 s a b body els) = labelsL body + labelsL els := by rw [labelsS]; simp
theorem labels_other {k : Int} {s : Str} {a b : Ex} {body els : List St} (h : k < 2 ∨ 7 < k) : labelsS (.mk k s a b body els) = 0 := by
  rw [labelsS, if_neg (by omega), if_neg (by omega), if_neg (by omega)]
def LBs (f : FuncId) (l : List St) : Prop := ∀ (w : World) (S : Blocks) (v : Value), Sub S (Upto w.heap.size) → RdSts w S l v → St.wts l ≤ 1048576 →
  Calls Try.prog f #[v] w fun e w' => e = .returned (.int .i64 (labelsL l : Int)) ∧ Below w.heap.size w w'
end Go.Proofs.Ytdelngmbpjgphaa
