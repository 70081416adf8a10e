/- The walk of scope.Rename. -/
import Derived.Test.YtoijobnpfibboaaDoorRn8
namespace Go.Proofs.YtoijobnpfibboaaDoor
open Go.RowKit
set_option linter.unusedVariables false
theorem rst_all' (m : Nat) : ∀ l : List St, SizeOf.sizeOf l ≤ m → RSs l := by
  induction m with
  | zero => intro l h; cases l <;> simp at h
  | succ m ih =>
    intro l h
    refine rst_one l (fun k s a b body els hm => ?_)
    have := List.sizeOf_lt_of_mem hm
    simp only [St.mk.sizeOf_spec] at this
    exact ⟨ih _ (by omega), ih _ (by omega)⟩
theorem rst_all (l : List St) : RSs l := rst_all' _ l (Nat.le_refl _)
set_option maxHeartbeats 400000 in
theorem ren_any (l : List St) (w : World) (S : Blocks) (v : Value) (hS : Sub S (Upto w.heap.size)) (r : RdSts w S l v) (hwt : St.wts l ≤ 1048576) (hT : PowT w) :
    Calls Tryd.prog 5 #[v] w fun e w' => ∃ x, e = .returned x ∧ RdSts w' (Plus Nowhere w.heap.size w'.heap.size) (renL l [] 0).1 x ∧ Below w.heap.size w w' := by
  have bel : Below w.heap.size w (w.alloc (.cells #[.slice none 0 0, .slice none 0 0, .int .i64 0] 34)) := (Below.refl _ _).alloc (Nat.le_refl _) _
  have hw : RmAt w.heap.size w.heap.size (w.alloc (.cells #[.slice none 0 0, .slice none 0 0, .int .i64 0] 34)) [] 0 (.slice none 0 0) (.slice none 0 0) :=
    ⟨Blk.made w _ 34 (Nat.le_refl _), by simp, OwnL.nil _ _ _, OwnL.nil _ _ _, (fun k hk => by simp [Value.ownBlock] at hk), (fun k hk => by simp [Value.ownBlock] at hk), (fun k hk => by simp [Value.ownBlock] at hk), (fun k hk => .inl hk), (fun k hk => .inl hk), But.refl _ _⟩
  have hsz : w.heap.size ≤ (w.alloc (.cells #[.slice none 0 0, .slice none 0 0, .int .i64 0] 34)).heap.size := by simp
  have HC := Lib.hid ((rst_all l) w.heap.size w.heap.size 0 _ S [] _ _ v hT.lt (hT.go bel) hw hsz hS (r.go RdSt.keeps bel hS (Sub.refl _)) hwt (by omega) (by simp; omega))
  have BEL := Lib.hid bel
  have HLT := Lib.hid (hw.lts)
  clear hw bel r hS hT
  go_enter Tryd.func5, Tryd.ntmps5
  go_wp2_with fail
  refine HC.out.mono ?_
  rintro e w2 ⟨x, vo2, vn2, rfl, ht, T, hT, r⟩
  have HB := Lib.hid (BEL.out.trans (ht.but.below hsz (fun k hk => (HLT.out k hk).1)))
  have HRD := Lib.hid (show RdSts w2 (Plus Nowhere w.heap.size w2.heap.size) (renL l [] 0).1 x from r.sub RdSt.keeps (fun k hk => .inr ⟨Nat.le_trans hsz (hT k hk).1, (hT k hk).2.1⟩))
  clear ht r hT hsz
  go_wp2
  go_ret
  exact ⟨_, rfl, HRD.out, HB.out⟩
end Go.Proofs.YtoijobnpfibboaaDoor
