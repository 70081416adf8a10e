/- The walk of forkwrightlaw.BitsetSets. -/
import Derived.Test.YtmpononkbdfkmaaBs3
namespace Go.Proofs.Ytmpononkbdfkmaa
open Go.RowKit
set_option linter.unusedVariables false
set_option maxHeartbeats 400000 in
theorem bsC1 (a b : Bool) (w : World) : Calls Try.prog 40 #[.bool a, .bool b] w fun e w' => e = .returned (.bool (a && !b)) ∧ w = w' := by
  cases a <;> cases b <;> (go_enter Try.func40, Try.ntmps40; go_wp2; go_ret; exact ⟨rfl, rfl⟩)
set_option maxHeartbeats 400000 in
theorem bsC2 (a b : Bool) (w : World) : Calls Try.prog 42 #[.bool a, .bool b] w fun e w' => e = .returned (.bool (a && b)) ∧ w = w' := by
  cases a <;> cases b <;> (go_enter Try.func42, Try.ntmps42; go_wp2; go_ret; exact ⟨rfl, rfl⟩)
set_option maxHeartbeats 400000 in
theorem bsC3 (a b : Bool) (w : World) : Calls Try.prog 44 #[.bool a, .bool b] w fun e w' => e = .returned (.bool (a || b)) ∧ w = w' := by
  cases a <;> cases b <;> (go_enter Try.func44, Try.ntmps44; go_wp2; go_ret; exact ⟨rfl, rfl⟩)
theorem eq_and (l m : List Nat) (hs : ∀ x ∈ l, okU x) (ht : ∀ x ∈ m, okU x) : setB (fun n => bitB l n && bitB m n) (64 * max l.length m.length) = zipB (fun a b => a &&& b) l m :=
  (zip_eq (fun a b => a &&& b) (fun a b => a && b) l m hs ht (fun a b ha _ => okU_and ha) (fun a b j _ _ _ => Nat.testBit_and a b j) rfl rfl).symm
theorem eq_or (l m : List Nat) (hs : ∀ x ∈ l, okU x) (ht : ∀ x ∈ m, okU x) : setB (fun n => bitB l n || bitB m n) (64 * max l.length m.length) = zipB (fun a b => a ||| b) l m :=
  (zip_eq (fun a b => a ||| b) (fun a b => a || b) l m hs ht (fun a b ha hb => okU_or ha hb) (fun a b j _ _ _ => Nat.testBit_or a b j) rfl rfl).symm
theorem eq_less (l m : List Nat) (hs : ∀ x ∈ l, okU x) (ht : ∀ x ∈ m, okU x) : setB (fun n => bitB l n && !bitB m n) (64 * max l.length m.length) = zipB bsLess l m :=
  (zip_eq bsLess (fun a b => a && !b) l m hs ht (fun a b ha _ => okU_and ha) (fun a b j _ hb hj => by
    unfold bsLess
    rw [Nat.testBit_and]
    congr 1
    have e : 18446744073709551615 - b = 2 ^ 64 - (b + 1) := by omega
    rw [e, Nat.testBit_two_pow_sub_succ hb, decide_eq_true hj, Bool.true_and]) rfl rfl).symm
set_option maxHeartbeats 600000 in
set_option maxRecDepth 100000 in
theorem bitsetSets_walk (l m : List Nat) (hsm : l.length ≤ 1048576) (w : World) (v u : Value) (r : RdU w (Upto w.heap.size) l v) (r' : RdU w (Upto w.heap.size) m u) :
    Calls Try.prog 8 #[v, u] w fun e w' => e = .returned (.bool true) ∧ Below w.heap.size w w' := by
  have okl : ∀ x ∈ l, okU x := by obtain ⟨A, cap, rfl, _⟩ := r.form; exact r.oks
  have okm : ∀ x ∈ m, okU x := by obtain ⟨A, cap, rfl, _⟩ := r'.form; exact r'.oks
  have R := Lib.hid r
  have R' := Lib.hid r'
  have E1 := Lib.hid (eq_and l m okl okm)
  have E2 := Lib.hid (eq_or l m okl okm)
  have E3 := Lib.hid (eq_less l m okl okm)
  obtain ⟨L1, h1⟩ : ∃ L, L = zipB (fun a b => a &&& b) l m := ⟨_, rfl⟩
  obtain ⟨L2, h2⟩ : ∃ L, L = zipB (fun a b => a ||| b) l m := ⟨_, rfl⟩
  obtain ⟨L3, h3⟩ : ∃ L, L = zipB bsLess l m := ⟨_, rfl⟩
  rw [← h1] at E1
  rw [← h2] at E2
  rw [← h3] at E3
  have H1 := Lib.hid h1
  have H2 := Lib.hid h2
  have H3 := Lib.hid h3
  have HL := Lib.hid (listB_length (bitB l) (64 * l.length))
  have go : ∀ w' l v, Below w.heap.size w w' → RdU w (Upto w.heap.size) l v → RdU w' (Upto w'.heap.size) l v := fun w' l v hb h => h.go Flat.keeps hb (Sub.refl _) (Sub.upto hb.size)
  have GO := Lib.hid go
  have HSM := Lib.hid hsm
  clear go r r' okl okm h1 h2 h3 hsm
  go_enter Try.func8, Try.ntmps8
  go_wp2_with fail
  refine (awhere_any 40 (fun a b => a && !b) (fun args w => by kernel_rfl) bsC1 l m _ _ _ _ _ (Sub.refl _) (Sub.refl _) R.out R'.out).mono ?_
  rintro e w1 ⟨v1, rfl, h1, b1⟩
  rw [E3.out] at h1
  obtain ⟨A3, c3, rfl, _⟩ := h1.form
  have K3 := Lib.hid h1
  clear h1
  go_wp2_with fail
  refine (bsAnd_any l m _ _ _ _ _ (Sub.refl _) (Sub.refl _) (GO.out _ _ _ b1 R.out) (GO.out _ _ _ b1 R'.out)).mono ?_
  rintro e w2 ⟨v2, rfl, h2, b2⟩
  rw [← H1.out] at h2
  have b12 := b1.trans (b2.mono b1.size)
  have K1 := Lib.hid h2
  clear h2
  go_wp2_with fail
  refine (awhere_any 42 (fun a b => a && b) (fun args w => by kernel_rfl) bsC2 l m _ _ _ _ _ (Sub.refl _) (Sub.refl _) (GO.out _ _ _ b12 R.out) (GO.out _ _ _ b12 R'.out)).mono ?_
  rintro e w3 ⟨v3, rfl, h3, b3⟩
  rw [E1.out] at h3
  have b13 := b12.trans (b3.mono b12.size)
  go_wp2_with fail
  refine (equalU L1 _ (Upto w3.heap.size) (Upto w3.heap.size) _ _ (Sub.refl _) (Sub.refl _) (K1.out.go Flat.keeps b3 (Sub.plus_to (Sub.nowhere (Upto w2.heap.size)) (Nat.le_refl _) (Nat.le_refl _)) (Sub.plus_to (Sub.nowhere (Upto w3.heap.size)) (Nat.le_refl _) b3.size)) (h3.sub Flat.keeps (Sub.plus_to (Sub.nowhere (Upto w3.heap.size)) (Nat.le_refl _) (Nat.le_refl _)))).mono ?_
  rintro e w4 ⟨rfl, b4⟩
  have b14 := b13.trans (b4.mono b13.size)
  have c14 := b2.trans ((b3.trans (b4.mono b3.size)).mono b2.size)
  clear h3 K1 b2 b3 b4 b12 b13
  go_wp2_with fail
  refine (bsOr_any l m _ _ _ _ _ (Sub.refl _) (Sub.refl _) (GO.out _ _ _ b14 R.out) (GO.out _ _ _ b14 R'.out)).mono ?_
  rintro e w5 ⟨v5, rfl, h5, b5⟩
  rw [← H2.out] at h5
  have b15 := b14.trans (b5.mono b14.size)
  have K2 := Lib.hid h5
  clear h5
  go_wp2_with fail
  refine (awhere_any 44 (fun a b => a || b) (fun args w => by kernel_rfl) bsC3 l m _ _ _ _ _ (Sub.refl _) (Sub.refl _) (GO.out _ _ _ b15 R.out) (GO.out _ _ _ b15 R'.out)).mono ?_
  rintro e w6 ⟨v6, rfl, h6, b6⟩
  rw [E2.out] at h6
  have b16 := b15.trans (b6.mono b15.size)
  go_wp2_with fail
  refine (equalU L2 _ (Upto w6.heap.size) (Upto w6.heap.size) _ _ (Sub.refl _) (Sub.refl _) (K2.out.go Flat.keeps b6 (Sub.plus_to (Sub.nowhere (Upto w5.heap.size)) (Nat.le_refl _) (Nat.le_refl _)) (Sub.plus_to (Sub.nowhere (Upto w6.heap.size)) (Nat.le_refl _) b6.size)) (h6.sub Flat.keeps (Sub.plus_to (Sub.nowhere (Upto w6.heap.size)) (Nat.le_refl _) (Nat.le_refl _)))).mono ?_
  rintro e w7 ⟨rfl, b7⟩
  have b17 := b16.trans (b7.mono b16.size)
  have b57 := b5.trans ((b6.trans (b7.mono b6.size)).mono b5.size)
  have c17 := c14.trans (b57.mono c14.size)
  clear h6 K2 b6 b7 b15 b16
  go_wp2_with fail
  refine (bsLess_any l m _ _ _ _ _ (Sub.refl _) (Sub.refl _) (GO.out _ _ _ b17 R.out) (GO.out _ _ _ b17 R'.out)).mono ?_
  rintro e w8 ⟨v8, rfl, h8, b8⟩
  rw [← H3.out] at h8
  have b18 := b17.trans (b8.mono b17.size)
  have c18 := c17.trans (b8.mono c17.size)
  clear b57 c14 b5 b14
  go_wp2_with fail
  refine (equalU L3 _ (Upto w8.heap.size) (Upto w8.heap.size) _ _ (Sub.refl _) (Sub.refl _) (h8.sub Flat.keeps (Sub.plus_to (Sub.nowhere (Upto w8.heap.size)) (Nat.le_refl _) (Nat.le_refl _))) (K3.out.go Flat.keeps c18 (Sub.plus_to (Sub.nowhere (Upto w1.heap.size)) (Nat.le_refl _) (Nat.le_refl _)) (Sub.plus_to (Sub.nowhere (Upto w8.heap.size)) (Nat.le_refl _) c18.size))).mono ?_
  rintro e w9 ⟨rfl, b9⟩
  have b19 := b18.trans (b9.mono b18.size)
  clear h8 K3 b8 b9 b17 b18 c17 c18 b1
  go_wp2_with fail
  refine (size_any l _ _ _ (GO.out _ _ _ b19 R.out)).mono ?_
  rintro e w' ⟨rfl, rfl⟩
  go_wp2_with fail
  refine (alist_any l HSM.out _ _ _ (Sub.refl _) (GO.out _ _ _ b19 R.out)).mono ?_
  rintro e w10 ⟨v10, rfl, h10, b10⟩
  have b20 := b19.trans (b10.mono b19.size)
  obtain ⟨A10, c10, rfl, _⟩ := h10.form
  rw [HL.out]
  clear h10 b10 b19 HL
  generalize cntB (bitB l) (64 * l.length) = N
  go_wp2_with fail
  refine (bsWithin_any l m _ _ _ _ _ (Sub.refl _) (Sub.refl _) (GO.out _ _ _ b20 R.out) (GO.out _ _ _ b20 R'.out)).mono ?_
  rintro e w11 ⟨rfl, b11⟩
  rw [← H3.out]
  have b21 := b20.trans (b11.mono b20.size)
  clear b11 b20 H3 H1 H2 E1 E2 E3
  generalize L3.length = n
  go_wp2_with fail
  all_goals go_ret
  all_goals exact ⟨rfl, b21⟩
end Go.Proofs.Ytmpononkbdfkmaa
