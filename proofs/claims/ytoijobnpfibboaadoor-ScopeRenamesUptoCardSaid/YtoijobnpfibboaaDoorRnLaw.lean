/- The walks of LRename and of the law ScopeRenames. -/
import Derived.Test.YtoijobnpfibboaaDoorRn9
import Derived.Test.YtoijobnpfibboaaDoorRn12
import Derived.Test.YtoijobnpfibboaaDoorSame
namespace Go.Proofs.YtoijobnpfibboaaDoor
open Go.RowKit
set_option linter.unusedVariables false
theorem lr_all' (m : Nat) : ∀ l : List St, SizeOf.sizeOf l ≤ m → LRs l := by
  induction m with
  | zero => intro l h; cases l <;> simp at h
  | succ m ih =>
    intro l h
    refine lr_one l (fun k s a b body els hm => ?_)
    have := List.sizeOf_lt_of_mem hm
    simp only [St.mk.sizeOf_spec] at this
    exact ⟨ih _ (by omega), ih _ (by omega)⟩
theorem lr_all (l : List St) : LRs l := lr_all' _ l (Nat.le_refl _)
set_option maxHeartbeats 400000 in
theorem lren_any (l : List St) (w : World) (S : Blocks) (v : Value) (hS : Sub S (Upto w.heap.size)) (r : RdSts w S l v) (hwt : St.wts l ≤ 1048576) (hT : PowT w) :
    Calls Tryd.prog 6 #[v] w fun e w' => ∃ x, e = .returned x ∧ RdSts w' (Plus S w.heap.size w'.heap.size) (renL l [] 0).1 x ∧ Below w.heap.size w w' := by
  have HC := Lib.hid (lr_all l w S Nowhere [] 0 v (.slice none 0 0) hT hS r (Sub.nowhere _) (RdL.nil (by simp [maxLen])) hwt (by omega) (by simp; omega))
  clear r hS hT
  go_enter Tryd.func6, Tryd.ntmps6
  go_wp2_with fail
  refine HC.out.mono ?_
  rintro e w2 ⟨x, rfl, hr, hb⟩
  have HR := Lib.hid hr
  have HB := Lib.hid hb
  clear hr hb
  go_wp2
  go_ret
  exact ⟨_, rfl, HR.out, HB.out⟩
set_option maxHeartbeats 400000 in
theorem scopeRenames_walk (l : List St) (w : World) (v : Value) (r : RdSts w (Upto w.heap.size) l v) (hwt : St.wts l ≤ 1048576) (hT : PowT w) :
    Calls Tryd.prog 3 #[v] w fun e w' => e = .returned (.bool true) ∧ Below w.heap.size w w' := by
  have HC := Lib.hid (ren_any l w _ v (Sub.refl _) r hwt hT)
  have R := Lib.hid r
  have HT := Lib.hid hT
  clear r hT
  go_enter Tryd.func3, Tryd.ntmps3
  go_wp2_with fail
  refine HC.out.mono ?_
  rintro e w1 ⟨x, rfl, hr, hb⟩
  have HR := Lib.hid hr
  have HB := Lib.hid hb
  clear hr hb
  go_wp2_with fail
  refine (lren_any l w1 (Upto w.heap.size) v (Sub.upto HB.out.size) (R.out.go RdSt.keeps HB.out (Sub.refl _) (Sub.refl _)) hwt (HT.out.go HB.out)).mono ?_
  rintro e w2 ⟨x2, rfl, hr2, hb2⟩
  have HR2 := Lib.hid (hr2.sub RdSt.keeps (Sub.plus_upto ((Sub.upto (Nat.le_trans HB.out.size hb2.size)))))
  have HR1 := Lib.hid (HR.out.go RdSt.keeps hb2 (Sub.plus_upto (Sub.nowhere _)) (show Sub _ (Upto w2.heap.size) from (Sub.plus_upto (Sub.nowhere _)).trans (Sub.upto hb2.size)))
  have HB2 := Lib.hid (HB.out.trans (hb2.mono HB.out.size))
  clear hr2 hb2
  go_wp2_with fail
  refine (sameStmts_any _ w2 _ _ HR1.out HR2.out).mono ?_
  rintro e w3 ⟨rfl, hb3⟩
  have HB3 := Lib.hid (HB2.out.trans (hb3.mono HB2.out.size))
  clear hb3
  go_wp2
  go_ret
  exact ⟨rfl, HB3.out⟩
end Go.Proofs.YtoijobnpfibboaaDoor
