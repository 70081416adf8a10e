/- The walk of forkwrightlaw.VectorTells. -/
import Derived.Test.YtmpononkbdfkmaaVec5
namespace Go.Proofs.Ytmpononkbdfkmaa
open Go.RowKit
set_option linter.unusedVariables false

set_option maxHeartbeats 600000 in
theorem vectorTells_walk (l m : List Nat) (i : Int) (w : World) (v u : Value) (r : RdU w (Upto w.heap.size) l v) (r' : RdU w (Upto w.heap.size) m u) :
    Calls Try.prog 4 #[v, u, .int .i64 i] w fun e w' => e = .returned (.bool true) ∧ Below w.heap.size w w' := by
  have R := Lib.hid r
  have R' := Lib.hid r'
  clear r r'
  have hS := Sub.refl (Upto w.heap.size)
  have go : ∀ w' l v, Below w.heap.size w w' → RdU w (Upto w.heap.size) l v → RdU w' (Upto w'.heap.size) l v := fun w' l v hb h => h.go Flat.keeps hb (Sub.refl _) (Sub.upto hb.size)
  have GO := Lib.hid go
  clear go
  go_enter Try.func4, Try.ntmps4
  go_wp2_with fail
  refine (at_any l i _ _ _ R.out).mono ?_
  rintro e w' ⟨rfl, rfl⟩
  go_wp2_with fail
  refine (hand_any l i _ _ _ R.out).mono ?_
  rintro e w' ⟨rfl, rfl⟩
  go_wp2_with fail
  refine (tick_any l i _ _ _ hS R.out).mono ?_
  rintro e w1 ⟨v1, rfl, h1, b1⟩
  go_wp2_with fail
  refine (gtick_any l i _ _ _ (Sub.refl _) (GO.out _ _ _ b1 R.out)).mono ?_
  rintro e w2 ⟨v2, rfl, h2, b2⟩
  have b12 := b1.trans (b2.mono b1.size)
  go_wp2_with fail
  refine (equalU (tickL l i) _ (Upto w2.heap.size) (Upto w2.heap.size) _ _ (Sub.refl _) (Sub.refl _) (h1.go Flat.keeps b2 (Sub.plus_to (Sub.nowhere (Upto w1.heap.size)) (Nat.le_refl _) (Nat.le_refl _)) (Sub.plus_to (Sub.nowhere (Upto w2.heap.size)) (Nat.le_refl _) b2.size)) (h2.sub Flat.keeps (Sub.plus_to (Sub.nowhere (Upto w2.heap.size)) (Nat.le_refl _) (Nat.le_refl _)))).mono ?_
  rintro e w3 ⟨rfl, b3⟩
  have b13 := b12.trans (b3.mono b12.size)
  clear h1 h2
  go_wp2_with fail
  refine (join_any l m _ _ _ _ _ (Sub.refl _) (Sub.refl _) (GO.out _ _ _ b13 R.out) (GO.out _ _ _ b13 R'.out)).mono ?_
  rintro e w4 ⟨v4, rfl, h4, b4⟩
  have b14 := b13.trans (b4.mono b13.size)
  go_wp2_with fail
  refine (gjoin_any l m _ _ _ _ _ (Sub.refl _) (Sub.refl _) (GO.out _ _ _ b14 R.out) (GO.out _ _ _ b14 R'.out)).mono ?_
  rintro e w5 ⟨v5, rfl, h5, b5⟩
  have b15 := b14.trans (b5.mono b14.size)
  go_wp2_with fail
  refine (equalU (joinL l m) _ (Upto w5.heap.size) (Upto w5.heap.size) _ _ (Sub.refl _) (Sub.refl _) (h4.go Flat.keeps b5 (Sub.plus_to (Sub.nowhere (Upto w4.heap.size)) (Nat.le_refl _) (Nat.le_refl _)) (Sub.plus_to (Sub.nowhere (Upto w5.heap.size)) (Nat.le_refl _) b5.size)) (h5.sub Flat.keeps (Sub.plus_to (Sub.nowhere (Upto w5.heap.size)) (Nat.le_refl _) (Nat.le_refl _)))).mono ?_
  rintro e w6 ⟨rfl, b6⟩
  have b16 := b15.trans (b6.mono b15.size)
  clear h4 h5
  go_wp2_with fail
  refine (within_any l m _ _ _ _ _ (GO.out _ _ _ b16 R.out) (GO.out _ _ _ b16 R'.out)).mono ?_
  rintro e w' ⟨rfl, rfl⟩
  go_wp2_with fail
  refine (gwithin_any l m _ _ _ _ _ (GO.out _ _ _ b16 R.out) (GO.out _ _ _ b16 R'.out)).mono ?_
  rintro e w' ⟨rfl, rfl⟩
  go_wp2_with fail
  all_goals go_ret
  all_goals exact ⟨rfl, b16⟩
end Go.Proofs.Ytmpononkbdfkmaa
