/- slices.Clone at numbers. -/
import Derived.Test.YtfldajplclahfaaGSrtI
namespace Go.Proofs.Ytfldajplclahfaa
open Go.RowKit
set_option linter.unusedVariables false
set_option maxHeartbeats 400000 in
set_option maxRecDepth 100000 in
theorem cloneI (l : List Int) (w : World) (S : Blocks) (v : Value) (hS : Sub S (Upto w.heap.size)) (r : RdI w S l v) :
    Calls Try.prog 28 #[v] w fun e w' => ∃ u, e = .returned u ∧ OwnI 3 w' w.heap.size Nowhere l u ∧ Below w.heap.size w w' := by
  obtain ⟨A, cap, rfl, hl, hcm, hby⟩ := r.form
  have hm := hcm
  unfold maxLen at hcm
  obtain ⟨i0, hi, hz0, hz1, hz2⟩ := info_parts infoInt
  rcases A with _ | a
  · have hl0 : l = [] := by
      rcases Nat.eq_zero_or_pos l.length with h | h
      · exact List.eq_nil_of_length_eq_zero h
      · obtain ⟨b, off, h1, _⟩ := RdI.at1 r h
        cases h1
    subst hl0
    have hnil := fun (w : World) (a : Option Addr) (n c : Nat) => Lib.run_eql_slice_nil (P := Try.prog) w 34 3 a n c 0 0 Try.underlying34
    go_enter Try.func28, Try.ntmps28
    go_wp2
    go_ret
    exact ⟨_, rfl, OwnL.nil _ _ _, Below.refl _ _⟩
  · have hnil := fun (w : World) (a : Option Addr) (n c : Nat) => Lib.run_eql_slice_nil (P := Try.prog) w 34 3 a n c 0 0 Try.underlying34
    have hb0 : Below w.heap.size w (w.alloc (.cells #[] 3)) := (Below.refl _ _).alloc (Nat.le_refl _) _
    have ho : OwnI 3 (w.alloc (.cells #[] 3)) w.heap.size Nowhere [] (.slice (some ⟨w.heap.size, 0, none⟩) 0 0) := OwnL.empty w (Nat.le_refl _)
    have hx := (r.go Flat.keeps hb0 hS (Sub.refl _)).bare Nowhere
    go_enter Try.func28, Try.ntmps28
    go_wp2_with (at_builtin; refine wpList_append_list rfl _ _ 34 rfl i0 _ Try.underlying34 hi hz0 hz1 hz2 rfl (by decide) Flat.keeps ho hx rfl rfl (Sub.nowhere _) (Sub.nowhere _) not_nowhere oneI ?c3 ?c4 ?c5 ?_)
    case c3 => simp; omega
    case c4 => simp; omega
    case c5 => simp
    intro v1 w1 ho1 hg1 _
    have hb1 : Below w.heap.size w w1 := hb0.grown hg1 (by simp) (fun k hk => by simp [Value.ownBlock] at hk; omega)
    clear hg1 hb0 ho hx hnil
    go_wp2
    go_ret
    exact ⟨_, rfl, ho1, hb1⟩
end Go.Proofs.Ytfldajplclahfaa
