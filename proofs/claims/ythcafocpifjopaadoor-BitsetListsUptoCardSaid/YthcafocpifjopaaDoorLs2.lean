/- The plain law and the walk of the law BitsetLists. -/
import Derived.Test.YthcafocpifjopaaDoorLs1
import Derived.Test.YthcafocpifjopaaDoorAListW
import Derived.Test.YthcafocpifjopaaDoorAof1
import Derived.Test.YthcafocpifjopaaDoorEqUw
import Derived.Test.YthcafocpifjopaaDoorEqI
namespace Go.Proofs.YthcafocpifjopaaDoor
open Go.RowKit
set_option linter.unusedVariables false
theorem of_all : ∀ (l : List Int) (z : List Nat) (P : Nat → Bool), SetIs z P → SetIs (l.foldl addL z) (fun m => P m || (decide (m ≤ 65535) && l.contains (m : Int)))
  | [], z, P, h => h.congr fun m => by simp
  | x :: r, z, P, h => by
    show SetIs (r.foldl addL (addL z x)) _
    by_cases hx : inTick x = true
    · obtain ⟨k, hk⟩ : ∃ k : Nat, x = (k : Int) := ⟨x.toNat, by unfold inTick at hx; simp at hx; omega⟩
      subst hk
      have hk2 : k ≤ 65535 := by unfold inTick at hx; simp at hx; omega
      have e : addL z (k : Int) = orB z k := by unfold addL; rw [if_pos hx]; rfl
      rw [e]
      refine (of_all r _ _ (h.add k)).congr fun m => ?_
      rw [Bool.or_assoc]
      congr 1
      rw [Bool.eq_iff_iff]
      simp only [Bool.or_eq_true, Bool.and_eq_true, decide_eq_true_eq, List.contains_iff_mem, List.mem_cons]
      constructor
      · rintro (h | h)
        · exact ⟨by omega, .inl (by omega)⟩
        · exact ⟨h.1, .inr h.2⟩
      · rintro ⟨h0, h | h⟩
        · exact .inl (by omega)
        · exact .inr ⟨h0, h⟩
    · have e : addL z x = z := by unfold addL; rw [if_neg hx]
      rw [e]
      refine (of_all r _ _ h).congr fun m => ?_
      congr 1
      rw [Bool.eq_iff_iff]
      simp only [Bool.and_eq_true, decide_eq_true_eq, List.contains_iff_mem, List.mem_cons]
      constructor
      · rintro ⟨h0, h⟩
        exact ⟨h0, .inr h⟩
      · rintro ⟨h0, h | h⟩
        · exact absurd (show inTick x = true by unfold inTick; simp; omega) hx
        · exact ⟨h0, h⟩
theorem listB_filter (P : Nat → Bool) (n : Nat) : listB P n = castN ((List.range n).filter P) := by
  induction n with
  | zero => rfl
  | succ n ih =>
    unfold listB
    rw [List.range_succ, List.filter_append, ih]
    unfold castN
    rw [List.map_append]
    by_cases h : P n = true
    · rw [if_pos h, List.filter_cons_of_pos h]; rfl
    · rw [if_neg h, List.filter_cons_of_neg h]; simp
theorem castN_mem (l : List Nat) : castN (memB l l.length) = listB (bitB l) (64 * l.length) := by
  rw [memB_filter, listB_filter]
set_option maxHeartbeats 1600000 in
set_option maxRecDepth 100000 in
theorem bitsetLists_walk (l : List Int) (s : List Nat) (hsm : s.length ≤ 1048576) (w : World) (v u : Value) (hT : Tab w) (r : RdI w (Upto w.heap.size) l v) (r' : RdU w (Upto w.heap.size) s u) :
    Calls Tryd.prog 3 #[v, u] w fun e w' => e = .returned (.bool true) ∧ Below w.heap.size w w' := by
  have R := Lib.hid r
  have R' := Lib.hid r'
  have HT := Lib.hid hT
  clear r r' hT
  go_enter Tryd.func3, Tryd.ntmps3
  go_wp2_with fail
  refine (of_any l w _ v (Sub.refl _) R.out).mono ?_
  rintro e w1 ⟨x1, rfl, h1, hb1⟩
  have z1 := hb1.size
  have R1 := Lib.hid (R.out.go Flat.keeps hb1 (Sub.refl _) (Sub.refl _))
  have X1 := Lib.hid h1
  have B1 := Lib.hid hb1
  clear h1 hb1
  go_wp2_with fail
  refine (aof_any l w1 _ v (Sub.upto z1) R1.out).mono ?_
  rintro e w2 ⟨L, x2, rfl, h2, hL, hb2⟩
  obtain rfl : L = l.foldl addL [] := hL.uniq ((of_all l [] _ SetIs.nil).congr fun m => by simp)
  have z2 := hb2.size
  have X1b := Lib.hid (X1.out.go Flat.keeps hb2 plus_upto (Sub.refl _))
  have X2 := Lib.hid h2
  have B2 := Lib.hid (B1.out.trans (hb2.mono z1))
  clear h2 hb2 X1 hL
  go_wp2_with fail
  refine (equalUs9 _ w2 _ _ x1 x2 (plus_upto.trans (Sub.upto z2)) plus_upto X1b.out X2.out).mono ?_
  rintro e w3 ⟨rfl, hb3⟩
  have z3 := hb3.size
  have B3 := Lib.hid (B2.out.trans (hb3.mono B2.out.size))
  have R3 := Lib.hid (R'.out.go Flat.keeps B3.out (Sub.refl _) (Sub.refl _))
  have z30 := B3.out.size
  have T3 := Lib.hid (HT.out.go B3.out)
  clear hb3 X1b X2
  go_wp2_with fail
  refine (list_any s hsm w3 _ u (Sub.upto z30) T3.out R3.out).mono ?_
  rintro e w4 ⟨x3, rfl, h4, hb4⟩
  have z4 := hb4.size
  have B4 := Lib.hid (B3.out.trans (hb4.mono z30))
  have R4 := Lib.hid (R'.out.go Flat.keeps B4.out (Sub.refl _) (Sub.refl _))
  have z40 := B4.out.size
  rw [castN_mem] at h4
  have X3 := Lib.hid h4
  clear h4 hb4
  go_wp2_with fail
  refine (alist_any s hsm w4 _ u (Sub.upto z40) R4.out).mono ?_
  rintro e w5 ⟨x4, rfl, h5, hb5⟩
  have z5 := hb5.size
  have B5 := Lib.hid (B4.out.trans (hb5.mono z40))
  have X3b := Lib.hid (X3.out.go Flat.keeps hb5 plus_upto (Sub.refl _))
  have X4 := Lib.hid h5
  clear h5 hb5 X3
  go_wp2_with fail
  refine (equalIs _ w5 _ _ x3 x4 (plus_upto.trans (Sub.upto z5)) plus_upto X3b.out X4.out).mono ?_
  rintro e w6 ⟨rfl, hb6⟩
  have B6 := Lib.hid (B5.out.trans (hb6.mono B5.out.size))
  clear hb6 X3b X4
  go_wp2
  go_ret
  exact ⟨rfl, B6.out⟩
end Go.Proofs.YthcafocpifjopaaDoor
