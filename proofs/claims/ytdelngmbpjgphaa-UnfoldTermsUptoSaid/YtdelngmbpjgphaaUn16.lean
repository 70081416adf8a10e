/- The reference's block for all lists; the walk of its NUnfold. -/
import Derived.Test.YtdelngmbpjgphaaUn8
import Derived.Test.YtdelngmbpjgphaaUn15
namespace Go.Proofs.Ytdelngmbpjgphaa
open Go.RowKit
set_option linter.unusedVariables false
theorem pnb_all' (F N : Nat) : ∀ l : List St, SizeOf.sizeOf l ≤ N → PNb F l := by
  induction N with
  | zero => intro l h; cases l with
    | nil => exact nb_one F [] (fun k s a b body els h => by cases h)
    | cons s r => simp at h
  | succ N ih =>
    intro l hl
    refine nb_one F l (fun k s a b body els hm => ?_)
    have := List.sizeOf_lt_of_mem hm
    simp only [St.mk.sizeOf_spec] at this
    exact ⟨ih _ (by omega), ih _ (by omega)⟩
theorem pnb_all (F : Nat) (l : List St) : PNb F l := pnb_all' F _ l (Nat.le_refl _)
/-- the same by marks -/
theorem unfE_marks (l : List St) (F : Nat) (h : List Int) (hz : wrongR l F = 0) : unfE l (F : Int) h = match blN F l [] 0 ⟨h, 0⟩ with | some x => (weave x.1 zeroT, x.2.h, 0) | none => (zeroT, List.replicate 8 0, 5) := by
  unfold unfE
  rw [if_neg (by simpa using hz), Int.toNat_natCast, unfold_law]
  unfold onM
  cases blN F l [] 0 ⟨h, 0⟩ with
  | none => rfl
  | some x => rfl
/-- two boxes of the results: a term, a heap -/
def VBx (base : Nat) (w : World) (g : Nat) (t h : List Value) : Prop := Blk base w g t ∧ Blk base w (g + 1) h
set_option maxHeartbeats 4000000 in
set_option maxRecDepth 100000 in
theorem nunfold_any (l : List St) (f : Int) (h : List Int) (w : World) (S : Blocks) (v : Value) (hS : Sub S (Upto w.heap.size)) (r : RdSts w S l v) (hwt : St.wts l ≤ 1048576) (hl8 : h.length = 8) (hin : ∀ x ∈ h, inI x) :
    Calls Try.prog 10 #[v, .agg (h.map vI).toArray, vI f] w fun e w' => (∃ V, e = .returned (.tuple #[V, .agg ((unfE l f h).2.1.map vI).toArray, vI (unfE l f h).2.2]) ∧ FrT (Upto w.heap.size) w' (unfE l f h).1 V) ∧ Below w.heap.size w w' := by
  obtain ⟨a0, a1, a2, a3, a4, a5, a6, a7, rfl⟩ := list8 hl8
  have bA : Below w.heap.size w (((w.alloc (.cells #[vI a0, vI a1, vI a2, vI a3, vI a4, vI a5, vI a6, vI a7] 38)).alloc (.cells [.int .i64 0, .int .i64 0, .bool false, .int .i64 0, .slice none 0 0].toArray 26)).alloc (.cells [.int .i64 0, .int .i64 0, .int .i64 0, .int .i64 0, .int .i64 0, .int .i64 0, .int .i64 0, .int .i64 0].toArray 38)) := (((Below.refl _ _).alloc (Nat.le_refl _) _).alloc (by simp) _).alloc (by simp; omega) _
  have H0 := Lib.hid (show Blk w.heap.size (((w.alloc (.cells #[vI a0, vI a1, vI a2, vI a3, vI a4, vI a5, vI a6, vI a7] 38)).alloc (.cells [.int .i64 0, .int .i64 0, .bool false, .int .i64 0, .slice none 0 0].toArray 26)).alloc (.cells [.int .i64 0, .int .i64 0, .int .i64 0, .int .i64 0, .int .i64 0, .int .i64 0, .int .i64 0, .int .i64 0].toArray 38)) w.heap.size [vI a0, vI a1, vI a2, vI a3, vI a4, vI a5, vI a6, vI a7] from ((Blk.made w [vI a0, vI a1, vI a2, vI a3, vI a4, vI a5, vI a6, vI a7] 38 (Nat.le_refl _)).al' _).al' _)
  have HU := Lib.hid (show VBx w.heap.size (((w.alloc (.cells #[vI a0, vI a1, vI a2, vI a3, vI a4, vI a5, vI a6, vI a7] 38)).alloc (.cells [.int .i64 0, .int .i64 0, .bool false, .int .i64 0, .slice none 0 0].toArray 26)).alloc (.cells [.int .i64 0, .int .i64 0, .int .i64 0, .int .i64 0, .int .i64 0, .int .i64 0, .int .i64 0, .int .i64 0].toArray 38)) (w.heap.size + 1) [.int .i64 0, .int .i64 0, .bool false, .int .i64 0, .slice none 0 0] [.int .i64 0, .int .i64 0, .int .i64 0, .int .i64 0, .int .i64 0, .int .i64 0, .int .i64 0, .int .i64 0] from by
    have e1 : ((w.alloc (.cells #[vI a0, vI a1, vI a2, vI a3, vI a4, vI a5, vI a6, vI a7] 38))).heap.size = w.heap.size + 1 := by simp
    have e2 : ((((w.alloc (.cells #[vI a0, vI a1, vI a2, vI a3, vI a4, vI a5, vI a6, vI a7] 38))).alloc (.cells [.int .i64 0, .int .i64 0, .bool false, .int .i64 0, .slice none 0 0].toArray 26))).heap.size = w.heap.size + 1 + 1 := by simp
    have h1 := (Blk.made (w.alloc (.cells #[vI a0, vI a1, vI a2, vI a3, vI a4, vI a5, vI a6, vI a7] 38)) [.int .i64 0, .int .i64 0, .bool false, .int .i64 0, .slice none 0 0] 26 (base := w.heap.size) (by simp)).al' (.cells [.int .i64 0, .int .i64 0, .int .i64 0, .int .i64 0, .int .i64 0, .int .i64 0, .int .i64 0, .int .i64 0].toArray 38)
    have h2 := Blk.made (((w.alloc (.cells #[vI a0, vI a1, vI a2, vI a3, vI a4, vI a5, vI a6, vI a7] 38))).alloc (.cells [.int .i64 0, .int .i64 0, .bool false, .int .i64 0, .slice none 0 0].toArray 26)) [.int .i64 0, .int .i64 0, .int .i64 0, .int .i64 0, .int .i64 0, .int .i64 0, .int .i64 0, .int .i64 0] 38 (base := w.heap.size) (by simp; omega)
    rw [e1] at h1
    rw [e2] at h2
    exact ⟨h1, h2⟩)
  have BL := Lib.hid bA
  have R := Lib.hid (r.go RdSt.keeps bA hS (Sub.refl _))
  have HS := Lib.hid hS
  have HIN := Lib.hid hin
  clear r hS hin bA
  simp only [List.map]
  go_enter Try.func10, Try.ntmps10
  go_upto_region 1 with (fail)
  generalize (((w.alloc (.cells #[vI a0, vI a1, vI a2, vI a3, vI a4, vI a5, vI a6, vI a7] 38)).alloc (.cells [.int .i64 0, .int .i64 0, .bool false, .int .i64 0, .slice none 0 0].toArray 26)).alloc (.cells [.int .i64 0, .int .i64 0, .int .i64 0, .int .i64 0, .int .i64 0, .int .i64 0, .int .i64 0, .int .i64 0].toArray 38)) = W0 at *
  go_wp2_with fail
  refine (mwrong_any l f W0 S v (HS.out.trans (Sub.upto BL.out.size)) R.out hwt).mono ?_
  rintro e w1 ⟨rfl, hb⟩
  have BL1 := Lib.hid (BL.out.trans (hb.mono BL.out.size))
  have H01 := Lib.hid (H0.out.below hb)
  have HB0 := Lib.hid (show VBx w.heap.size w1 (w.heap.size + 1) [.int .i64 0, .int .i64 0, .bool false, .int .i64 0, .slice none 0 0] [.int .i64 0, .int .i64 0, .int .i64 0, .int .i64 0, .int .i64 0, .int .i64 0, .int .i64 0, .int .i64 0] from ⟨HU.out.1.below hb, HU.out.2.below hb⟩)
  have R1 := Lib.hid (R.out.go RdSt.keeps hb (HS.out.trans (Sub.upto BL.out.size)) (Sub.refl _))
  clear hb BL H0 HU R
  obtain ⟨g, hg⟩ : ∃ g, g = w.heap.size + 1 := ⟨_, rfl⟩
  rw [← hg] at HB0 ⊢
  have hgw : w.heap.size < g := by omega
  clear hg
  have c0 := H01.out.cell 0 _ rfl; have c1 := H01.out.cell 1 _ rfl; have c2 := H01.out.cell 2 _ rfl; have c3 := H01.out.cell 3 _ rfl; have c4 := H01.out.cell 4 _ rfl; have c5 := H01.out.cell 5 _ rfl; have c6 := H01.out.cell 6 _ rfl; have c7 := H01.out.cell 7 _ rfl
  have u0 := HB0.out.1.cell 0 _ rfl; have u1 := HB0.out.1.cell 1 _ rfl; have u2 := HB0.out.1.cell 2 _ rfl; have u3 := HB0.out.1.cell 3 _ rfl; have u4 := HB0.out.1.cell 4 _ rfl
  have q0 := HB0.out.2.cell 0 _ rfl; have q1 := HB0.out.2.cell 1 _ rfl; have q2 := HB0.out.2.cell 2 _ rfl; have q3 := HB0.out.2.cell 3 _ rfl; have q4 := HB0.out.2.cell 4 _ rfl; have q5 := HB0.out.2.cell 5 _ rfl; have q6 := HB0.out.2.cell 6 _ rfl; have q7 := HB0.out.2.cell 7 _ rfl
  have uf := HB0.out.1.fr
  have vf := HB0.out.2.fr
  by_cases hz : wrongR l f = 0
  · have hzz := wrongR_zero hz
    rw [hz]
    obtain ⟨F, hF⟩ : ∃ F : Nat, f = (F : Int) := ⟨f.toNat, by omega⟩
    subst hF
    have hF2 : F ≤ 2000 := by omega
    have hrE := unfE_marks l F [a0, a1, a2, a3, a4, a5, a6, a7] hz
    have bB : Below w1.heap.size w1 (w1.alloc (.cells #[vI a0, vI a1, vI a2, vI a3, vI a4, vI a5, vI a6, vI a7, .int .i64 0, .slice none 0 0] 86)) := (Below.refl _ _).alloc (Nat.le_refl _) _
    have HA := Lib.hid (show NnAt w.heap.size (w1.alloc (.cells #[vI a0, vI a1, vI a2, vI a3, vI a4, vI a5, vI a6, vI a7, .int .i64 0, .slice none 0 0] 86)) w1.heap.size (Is w1.heap.size) F 0 ⟨[a0, a1, a2, a3, a4, a5, a6, a7], 0⟩ [] from
      ⟨⟨.slice none 0 0, Blk.made w1 _ 86 BL1.out.size, rfl, HIN.out, OwnL.nil _ _ _, rfl, fun b hb2 => by have e : b = w1.heap.size := hb2; subst e; exact ⟨BL1.out.size, by simp⟩, fun k hk => by cases hk⟩, by simp, Nat.zero_le _, hF2⟩)
    have HB2 := Lib.hid (show VBx w.heap.size (w1.alloc (.cells #[vI a0, vI a1, vI a2, vI a3, vI a4, vI a5, vI a6, vI a7, .int .i64 0, .slice none 0 0] 86)) g [.int .i64 0, .int .i64 0, .bool false, .int .i64 0, .slice none 0 0] [.int .i64 0, .int .i64 0, .int .i64 0, .int .i64 0, .int .i64 0, .int .i64 0, .int .i64 0, .int .i64 0] from ⟨HB0.out.1.below bB, HB0.out.2.below bB⟩)
    have R2 := Lib.hid (R1.out.go RdSt.keeps bB (HS.out.trans (Sub.upto BL1.out.size)) (Sub.refl _))
    have BL2 := Lib.hid (BL1.out.trans (bB.mono BL1.out.size))
    have hgl := HB0.out.2.lt
    have hww := BL1.out.size
    clear bB
    go_upto_region 5 with (fail)
    generalize (w1.alloc (.cells #[vI a0, vI a1, vI a2, vI a3, vI a4, vI a5, vI a6, vI a7, .int .i64 0, .slice none 0 0] 86)) = W2 at *
    obtain ⟨d, hd⟩ : ∃ d, d = w1.heap.size := ⟨_, rfl⟩
    rw [← hd] at HA ⊢
    have hgd : g + 1 < d := by omega
    have hwd : w.heap.size ≤ d := by omega
    clear hd c0 c1 c2 c3 c4 c5 c6 c7 u0 u1 u2 u3 u4 q0 q1 q2 q3 q4 q5 q6 q7 uf vf HB0 BL1 R1 H01
    have hlab := labelsL_le l
    have C := Lib.hid (fun res hr => pnb_all F l w.heap.size W2 d (Is d) 0 ⟨[a0, a1, a2, a3, a4, a5, a6, a7], 0⟩ [] [] 0 S v (.slice none 0 0) HA.out HS.out R2.out (FrX.nil (by simp [maxLen])) (by simp) (by omega) hwt res hr)
    have nd : ∀ k, k < d → ¬ Is d k := fun k hk e => by have e : k = d := e; omega
    cases hres : blN F l [] 0 ⟨[a0, a1, a2, a3, a4, a5, a6, a7], 0⟩ with
    | none =>
      rw [hres] at hrE
      have HE := Lib.hid hrE
      clear hrE
      go_wp2_with fail
      refine (C.out none hres).mono ?_
      rintro e w4 ⟨rfl, -, hb⟩
      have HB4 := Lib.hid (show VBx w.heap.size w4 g [.int .i64 0, .int .i64 0, .bool false, .int .i64 0, .slice none 0 0] [.int .i64 0, .int .i64 0, .int .i64 0, .int .i64 0, .int .i64 0, .int .i64 0, .int .i64 0, .int .i64 0] from ⟨HB2.out.1.but hb (nd _ (by omega)), HB2.out.2.but hb (nd _ (by omega))⟩)
      have BL4 := Lib.hid (BL2.out.trans (hb.below BL2.out.size (fun k e => by have e2 : k = d := e; omega)))
      clear hb
      have u0 := HB4.out.1.cell 0 _ rfl; have u1 := HB4.out.1.cell 1 _ rfl; have u2 := HB4.out.1.cell 2 _ rfl; have u3 := HB4.out.1.cell 3 _ rfl; have u4 := HB4.out.1.cell 4 _ rfl
      have q0 := HB4.out.2.cell 0 _ rfl; have q1 := HB4.out.2.cell 1 _ rfl; have q2 := HB4.out.2.cell 2 _ rfl; have q3 := HB4.out.2.cell 3 _ rfl; have q4 := HB4.out.2.cell 4 _ rfl; have q5 := HB4.out.2.cell 5 _ rfl; have q6 := HB4.out.2.cell 6 _ rfl; have q7 := HB4.out.2.cell 7 _ rfl
      have uf := HB4.out.1.fr
      have vf := HB4.out.2.fr
      go_wp2
      have HBB := Lib.hid (But.refl (fun b => b = g ∨ b = g + 1) w4)
      have HF : VBx w.heap.size (((((((((((((w4.setCell ⟨g, 0, none⟩ (.int .i64 0)).setCell ⟨g, 1, none⟩ (.int .i64 0)).setCell ⟨g, 2, none⟩ (.bool false)).setCell ⟨g, 3, none⟩ (.int .i64 0)).setCell ⟨g, 4, none⟩ (.slice none 0 0)).setCell ⟨g + 1, 0, none⟩ (.int .i64 0)).setCell ⟨g + 1, 1, none⟩ (.int .i64 0)).setCell ⟨g + 1, 2, none⟩ (.int .i64 0)).setCell ⟨g + 1, 3, none⟩ (.int .i64 0)).setCell ⟨g + 1, 4, none⟩ (.int .i64 0)).setCell ⟨g + 1, 5, none⟩ (.int .i64 0)).setCell ⟨g + 1, 6, none⟩ (.int .i64 0)).setCell ⟨g + 1, 7, none⟩ (.int .i64 0)) g [.int .i64 0, .int .i64 0, .bool false, .int .i64 0, .slice none 0 0] [.int .i64 0, .int .i64 0, .int .i64 0, .int .i64 0, .int .i64 0, .int .i64 0, .int .i64 0, .int .i64 0] := ⟨(((((((((((((HB4.out.1.set (i := 0) (by simp) (.int .i64 0)).set (i := 1) (by simp) (.int .i64 0)).set (i := 2) (by simp) (.bool false)).set (i := 3) (by simp) (.int .i64 0)).set (i := 4) (by simp) (.slice none 0 0)).other (p := ⟨g + 1, 0, none⟩) (by dsimp only; omega) (.int .i64 0)).other (p := ⟨g + 1, 1, none⟩) (by dsimp only; omega) (.int .i64 0)).other (p := ⟨g + 1, 2, none⟩) (by dsimp only; omega) (.int .i64 0)).other (p := ⟨g + 1, 3, none⟩) (by dsimp only; omega) (.int .i64 0)).other (p := ⟨g + 1, 4, none⟩) (by dsimp only; omega) (.int .i64 0)).other (p := ⟨g + 1, 5, none⟩) (by dsimp only; omega) (.int .i64 0)).other (p := ⟨g + 1, 6, none⟩) (by dsimp only; omega) (.int .i64 0)).other (p := ⟨g + 1, 7, none⟩) (by dsimp only; omega) (.int .i64 0)), (((((((((((((HB4.out.2.other (p := ⟨g, 0, none⟩) (by dsimp only; omega) (.int .i64 0)).other (p := ⟨g, 1, none⟩) (by dsimp only; omega) (.int .i64 0)).other (p := ⟨g, 2, none⟩) (by dsimp only; omega) (.bool false)).other (p := ⟨g, 3, none⟩) (by dsimp only; omega) (.int .i64 0)).other (p := ⟨g, 4, none⟩) (by dsimp only; omega) (.slice none 0 0)).set (i := 0) (by simp) (.int .i64 0)).set (i := 1) (by simp) (.int .i64 0)).set (i := 2) (by simp) (.int .i64 0)).set (i := 3) (by simp) (.int .i64 0)).set (i := 4) (by simp) (.int .i64 0)).set (i := 5) (by simp) (.int .i64 0)).set (i := 6) (by simp) (.int .i64 0)).set (i := 7) (by simp) (.int .i64 0))⟩
      have HT : But (fun b => b = g ∨ b = g + 1) w4 (((((((((((((w4.setCell ⟨g, 0, none⟩ (.int .i64 0)).setCell ⟨g, 1, none⟩ (.int .i64 0)).setCell ⟨g, 2, none⟩ (.bool false)).setCell ⟨g, 3, none⟩ (.int .i64 0)).setCell ⟨g, 4, none⟩ (.slice none 0 0)).setCell ⟨g + 1, 0, none⟩ (.int .i64 0)).setCell ⟨g + 1, 1, none⟩ (.int .i64 0)).setCell ⟨g + 1, 2, none⟩ (.int .i64 0)).setCell ⟨g + 1, 3, none⟩ (.int .i64 0)).setCell ⟨g + 1, 4, none⟩ (.int .i64 0)).setCell ⟨g + 1, 5, none⟩ (.int .i64 0)).setCell ⟨g + 1, 6, none⟩ (.int .i64 0)).setCell ⟨g + 1, 7, none⟩ (.int .i64 0)) := (((((((((((((HBB.out.setCell (p := ⟨g, 0, none⟩) (.inl rfl) (.int .i64 0)).setCell (p := ⟨g, 1, none⟩) (.inl rfl) (.int .i64 0)).setCell (p := ⟨g, 2, none⟩) (.inl rfl) (.bool false)).setCell (p := ⟨g, 3, none⟩) (.inl rfl) (.int .i64 0)).setCell (p := ⟨g, 4, none⟩) (.inl rfl) (.slice none 0 0)).setCell (p := ⟨g + 1, 0, none⟩) (.inr rfl) (.int .i64 0)).setCell (p := ⟨g + 1, 1, none⟩) (.inr rfl) (.int .i64 0)).setCell (p := ⟨g + 1, 2, none⟩) (.inr rfl) (.int .i64 0)).setCell (p := ⟨g + 1, 3, none⟩) (.inr rfl) (.int .i64 0)).setCell (p := ⟨g + 1, 4, none⟩) (.inr rfl) (.int .i64 0)).setCell (p := ⟨g + 1, 5, none⟩) (.inr rfl) (.int .i64 0)).setCell (p := ⟨g + 1, 6, none⟩) (.inr rfl) (.int .i64 0)).setCell (p := ⟨g + 1, 7, none⟩) (.inr rfl) (.int .i64 0))
      have BB := Lib.hid (BL4.out.trans (HT.below BL4.out.size (fun k e => by rcases e with e | e <;> omega)))
      clear HT HBB u0 u1 u2 u3 u4 q0 q1 q2 q3 q4 q5 q6 q7 uf vf
      generalize (((((((((((((w4.setCell ⟨g, 0, none⟩ (.int .i64 0)).setCell ⟨g, 1, none⟩ (.int .i64 0)).setCell ⟨g, 2, none⟩ (.bool false)).setCell ⟨g, 3, none⟩ (.int .i64 0)).setCell ⟨g, 4, none⟩ (.slice none 0 0)).setCell ⟨g + 1, 0, none⟩ (.int .i64 0)).setCell ⟨g + 1, 1, none⟩ (.int .i64 0)).setCell ⟨g + 1, 2, none⟩ (.int .i64 0)).setCell ⟨g + 1, 3, none⟩ (.int .i64 0)).setCell ⟨g + 1, 4, none⟩ (.int .i64 0)).setCell ⟨g + 1, 5, none⟩ (.int .i64 0)).setCell ⟨g + 1, 6, none⟩ (.int .i64 0)).setCell ⟨g + 1, 7, none⟩ (.int .i64 0)) = WF at *
      have u0 := HF.1.cell 0 _ rfl; have u1 := HF.1.cell 1 _ rfl; have u2 := HF.1.cell 2 _ rfl; have u3 := HF.1.cell 3 _ rfl; have u4 := HF.1.cell 4 _ rfl
      have q0 := HF.2.cell 0 _ rfl; have q1 := HF.2.cell 1 _ rfl; have q2 := HF.2.cell 2 _ rfl; have q3 := HF.2.cell 3 _ rfl; have q4 := HF.2.cell 4 _ rfl; have q5 := HF.2.cell 5 _ rfl; have q6 := HF.2.cell 6 _ rfl; have q7 := HF.2.cell 7 _ rfl
      refine bodyPost_ret (v := .tuple #[.agg [.int .i64 0, .int .i64 0, .bool false, .int .i64 0, .slice none 0 0].toArray, .agg [.int .i64 0, .int .i64 0, .int .i64 0, .int .i64 0, .int .i64 0, .int .i64 0, .int .i64 0, .int .i64 0].toArray, vI 5]) (by simp [results, Try.results10, go_sem, u0, u1, u2, u3, u4, q0, q1, q2, q3, q4, q5, q6, q7]) rfl ?_
      rw [HE.out]
      exact ⟨⟨_, rfl, FrT.leaf ⟨by decide, by decide⟩ ⟨by decide, by decide⟩ ⟨by decide, by decide⟩⟩, BB.out⟩
    | some x =>
      obtain ⟨ms, ⟨hh, sn⟩⟩ := x
      rw [hres] at hrE
      have HE := Lib.hid hrE
      clear hrE
      go_wp2_with fail
      refine (C.out (some (ms, ⟨hh, sn⟩)) hres).mono ?_
      rintro e w4 ⟨rfl, ⟨X4, ha4, hs4⟩, hb⟩
      rw [List.nil_append] at ha4
      have ha4 : NnAt w.heap.size w4 d X4 F 0 ⟨hh, sn⟩ (flatL ms) := ha4
      have HB4 := Lib.hid (show VBx w.heap.size w4 g [.int .i64 0, .int .i64 0, .bool false, .int .i64 0, .slice none 0 0] [.int .i64 0, .int .i64 0, .int .i64 0, .int .i64 0, .int .i64 0, .int .i64 0, .int .i64 0, .int .i64 0] from ⟨HB2.out.1.but hb (nd _ (by omega)), HB2.out.2.but hb (nd _ (by omega))⟩)
      have BL4 := Lib.hid (BL2.out.trans (hb.below BL2.out.size (fun k e => by have e2 : k = d := e; omega)))
      have hl8 : hh.length = 8 := ha4.1.len
      have hin8 : ∀ x ∈ hh, inI x := ha4.1.ints
      have htl : (flatL ms).length ≤ 6000 := by have h1 := ha4.2.1; have h2 := ha4.2.2.1; dsimp only at h1 h2; omega
      obtain ⟨o, ho, ow, hX, -⟩ := ha4.1.row
      have ho : w4.cell? ⟨d, 9, none⟩ = some o := ho
      obtain ⟨A9, c9, rfl⟩ := ow.form
      have HRD := Lib.hid (show RdNs w4 (Upto w4.heap.size) (flatL ms ++ []) (.slice A9 (flatL ms).length c9) from by rw [List.append_nil]; exact ow.toRd (bytes := 32) Flat.keeps (by omega) (Sub.nowhere _) (fun b h1 h2 => h2))
      have HH4 := Lib.hid (show ∀ n, n < 8 → w4.cell? ⟨d, n, none⟩ = some (vI (hh.getD n 0)) from fun n hn => HnAt.cell ha4.1 hn)
      have hdl4 : d < w4.heap.size := ha4.lt d ha4.1.X0
      obtain ⟨y0, y1, y2, y3, y4, y5, y6, y7, rfl⟩ := list8 hl8
      clear ow hX hs4 ha4 hb
      go_wp2_with fail
      refine (nt_all ms [] w4 (Upto w4.heap.size) (Upto w4.heap.size) _ (fun k hk => hk) trivial (Sub.refl _) HRD.out).mono ?_
      rintro e w5 ⟨⟨V, A6, n6, c6, rfl, hf, -⟩, hb⟩
      obtain ⟨k5, c5, wr5, lb5, A5, n5, cap5, rfl⟩ := hf.form
      have hbq : Below w5.heap.size w5 (w5.alloc (.cells #[.int .i64 k5, .int .i64 c5, .bool wr5, .int .i64 lb5, .slice A5 n5 cap5] 26)) := (Below.refl _ _).alloc (Nat.le_refl _) _
      have hb6 : Below w4.heap.size w4 (w5.alloc (.cells #[.int .i64 k5, .int .i64 c5, .bool wr5, .int .i64 lb5, .slice A5 n5 cap5] 26)) := hb.trans (hbq.mono hb.size)
      have HB0 := Lib.hid (show VBx w.heap.size (w5.alloc (.cells #[.int .i64 k5, .int .i64 c5, .bool wr5, .int .i64 lb5, .slice A5 n5 cap5] 26)) g [.int .i64 0, .int .i64 0, .bool false, .int .i64 0, .slice none 0 0] [.int .i64 0, .int .i64 0, .int .i64 0, .int .i64 0, .int .i64 0, .int .i64 0, .int .i64 0, .int .i64 0] from ⟨HB4.out.1.below hb6, HB4.out.2.below hb6⟩)
      have HQ := Lib.hid (Blk.made w5 [.int .i64 k5, .int .i64 c5, .bool wr5, .int .i64 lb5, .slice A5 n5 cap5] 26 (base := 0) (Nat.zero_le _))
      have HF6 := Lib.hid (hf.below hbq)
      have BL6 := Lib.hid (BL4.out.trans (hb6.mono BL4.out.size))
      have zz0 := (hb6.cell (p := ⟨d, 0, none⟩) hdl4).trans (HH4.out 0 (by decide)); have zz1 := (hb6.cell (p := ⟨d, 1, none⟩) hdl4).trans (HH4.out 1 (by decide)); have zz2 := (hb6.cell (p := ⟨d, 2, none⟩) hdl4).trans (HH4.out 2 (by decide)); have zz3 := (hb6.cell (p := ⟨d, 3, none⟩) hdl4).trans (HH4.out 3 (by decide)); have zz4 := (hb6.cell (p := ⟨d, 4, none⟩) hdl4).trans (HH4.out 4 (by decide)); have zz5 := (hb6.cell (p := ⟨d, 5, none⟩) hdl4).trans (HH4.out 5 (by decide)); have zz6 := (hb6.cell (p := ⟨d, 6, none⟩) hdl4).trans (HH4.out 6 (by decide)); have zz7 := (hb6.cell (p := ⟨d, 7, none⟩) hdl4).trans (HH4.out 7 (by decide))
      have hww4 := BL4.out.size
      have hwz := HB4.out.2.lt
      have h45 := hb.size
      clear hf hbq hb hb6 ho HH4
      go_upto_region 8 with (fail)
      generalize (w5.alloc (.cells #[.int .i64 k5, .int .i64 c5, .bool wr5, .int .i64 lb5, .slice A5 n5 cap5] 26)) = W6 at *
      obtain ⟨q, hq⟩ : ∃ q, q = w5.heap.size := ⟨_, rfl⟩
      rw [← hq] at HQ ⊢
      have hqg : g + 1 < q := by omega
      have hq1 : q ≠ g := by omega
      have hq2 : q ≠ g + 1 := by omega
      clear hq
      have u0 := HB0.out.1.cell 0 _ rfl; have u1 := HB0.out.1.cell 1 _ rfl; have u2 := HB0.out.1.cell 2 _ rfl; have u3 := HB0.out.1.cell 3 _ rfl; have u4 := HB0.out.1.cell 4 _ rfl
      have q0 := HB0.out.2.cell 0 _ rfl; have q1 := HB0.out.2.cell 1 _ rfl; have q2 := HB0.out.2.cell 2 _ rfl; have q3 := HB0.out.2.cell 3 _ rfl; have q4 := HB0.out.2.cell 4 _ rfl; have q5 := HB0.out.2.cell 5 _ rfl; have q6 := HB0.out.2.cell 6 _ rfl; have q7 := HB0.out.2.cell 7 _ rfl
      have x0 := HQ.out.cell 0 _ rfl; have x1 := HQ.out.cell 1 _ rfl; have x2 := HQ.out.cell 2 _ rfl; have x3 := HQ.out.cell 3 _ rfl; have x4 := HQ.out.cell 4 _ rfl
      have uf := HB0.out.1.fr
      have vf := HB0.out.2.fr
      have z0 : W6.cell? ⟨d, 0, none⟩ = some (vI y0) := zz0; have z1 : W6.cell? ⟨d, 1, none⟩ = some (vI y1) := zz1; have z2 : W6.cell? ⟨d, 2, none⟩ = some (vI y2) := zz2; have z3 : W6.cell? ⟨d, 3, none⟩ = some (vI y3) := zz3; have z4 : W6.cell? ⟨d, 4, none⟩ = some (vI y4) := zz4; have z5 : W6.cell? ⟨d, 5, none⟩ = some (vI y5) := zz5; have z6 : W6.cell? ⟨d, 6, none⟩ = some (vI y6) := zz6; have z7 : W6.cell? ⟨d, 7, none⟩ = some (vI y7) := zz7
      clear zz0 zz1 zz2 zz3 zz4 zz5 zz6 zz7
      have hne1 : d ≠ g := by omega
      have hne2 : d ≠ g + 1 := by omega
      go_region
      all_goals
        have HBB := Lib.hid (But.refl (fun b => b = g ∨ b = g + 1) W6)
        have HF : VBx w.heap.size ((((((((((((((W6.setCell ⟨g, 0, none⟩ (.int .i64 k5)).setCell ⟨g, 1, none⟩ (.int .i64 c5)).setCell ⟨g, 2, none⟩ (.bool wr5)).setCell ⟨g, 3, none⟩ (.int .i64 lb5)).setCell ⟨g, 4, none⟩ (.slice A5 n5 cap5)).setCell ⟨g + 1, 0, none⟩ (vI y0)).setCell ⟨g + 1, 1, none⟩ (vI y1)).setCell ⟨g + 1, 2, none⟩ (vI y2)).setCell ⟨g + 1, 3, none⟩ (vI y3)).setCell ⟨g + 1, 4, none⟩ (vI y4)).setCell ⟨g + 1, 5, none⟩ (vI y5)).setCell ⟨g + 1, 6, none⟩ (vI y6)).setCell ⟨g + 1, 7, none⟩ (vI y7)).drew) g [.int .i64 k5, .int .i64 c5, .bool wr5, .int .i64 lb5, .slice A5 n5 cap5] [vI y0, vI y1, vI y2, vI y3, vI y4, vI y5, vI y6, vI y7] := by
          have h : VBx w.heap.size (((((((((((((W6.setCell ⟨g, 0, none⟩ (.int .i64 k5)).setCell ⟨g, 1, none⟩ (.int .i64 c5)).setCell ⟨g, 2, none⟩ (.bool wr5)).setCell ⟨g, 3, none⟩ (.int .i64 lb5)).setCell ⟨g, 4, none⟩ (.slice A5 n5 cap5)).setCell ⟨g + 1, 0, none⟩ (vI y0)).setCell ⟨g + 1, 1, none⟩ (vI y1)).setCell ⟨g + 1, 2, none⟩ (vI y2)).setCell ⟨g + 1, 3, none⟩ (vI y3)).setCell ⟨g + 1, 4, none⟩ (vI y4)).setCell ⟨g + 1, 5, none⟩ (vI y5)).setCell ⟨g + 1, 6, none⟩ (vI y6)).setCell ⟨g + 1, 7, none⟩ (vI y7)) g [.int .i64 k5, .int .i64 c5, .bool wr5, .int .i64 lb5, .slice A5 n5 cap5] [vI y0, vI y1, vI y2, vI y3, vI y4, vI y5, vI y6, vI y7] := ⟨((((((((((((((HB0.out.1).set (i := 0) (by simp) (.int .i64 k5)).set (i := 1) (by simp) (.int .i64 c5)).set (i := 2) (by simp) (.bool wr5)).set (i := 3) (by simp) (.int .i64 lb5)).set (i := 4) (by simp) (.slice A5 n5 cap5)).other (p := ⟨g + 1, 0, none⟩) (by dsimp only; omega) (vI y0)).other (p := ⟨g + 1, 1, none⟩) (by dsimp only; omega) (vI y1)).other (p := ⟨g + 1, 2, none⟩) (by dsimp only; omega) (vI y2)).other (p := ⟨g + 1, 3, none⟩) (by dsimp only; omega) (vI y3)).other (p := ⟨g + 1, 4, none⟩) (by dsimp only; omega) (vI y4)).other (p := ⟨g + 1, 5, none⟩) (by dsimp only; omega) (vI y5)).other (p := ⟨g + 1, 6, none⟩) (by dsimp only; omega) (vI y6)).other (p := ⟨g + 1, 7, none⟩) (by dsimp only; omega) (vI y7)), ((((((((((((((HB0.out.2).other (p := ⟨g, 0, none⟩) (by dsimp only; omega) (.int .i64 k5)).other (p := ⟨g, 1, none⟩) (by dsimp only; omega) (.int .i64 c5)).other (p := ⟨g, 2, none⟩) (by dsimp only; omega) (.bool wr5)).other (p := ⟨g, 3, none⟩) (by dsimp only; omega) (.int .i64 lb5)).other (p := ⟨g, 4, none⟩) (by dsimp only; omega) (.slice A5 n5 cap5)).set (i := 0) (by simp) (vI y0)).set (i := 1) (by simp) (vI y1)).set (i := 2) (by simp) (vI y2)).set (i := 3) (by simp) (vI y3)).set (i := 4) (by simp) (vI y4)).set (i := 5) (by simp) (vI y5)).set (i := 6) (by simp) (vI y6)).set (i := 7) (by simp) (vI y7))⟩
          exact ⟨h.1.drew, h.2.drew⟩
        have HT := Lib.hid (show But (fun b => b = g ∨ b = g + 1) W6 ((((((((((((((W6.setCell ⟨g, 0, none⟩ (.int .i64 k5)).setCell ⟨g, 1, none⟩ (.int .i64 c5)).setCell ⟨g, 2, none⟩ (.bool wr5)).setCell ⟨g, 3, none⟩ (.int .i64 lb5)).setCell ⟨g, 4, none⟩ (.slice A5 n5 cap5)).setCell ⟨g + 1, 0, none⟩ (vI y0)).setCell ⟨g + 1, 1, none⟩ (vI y1)).setCell ⟨g + 1, 2, none⟩ (vI y2)).setCell ⟨g + 1, 3, none⟩ (vI y3)).setCell ⟨g + 1, 4, none⟩ (vI y4)).setCell ⟨g + 1, 5, none⟩ (vI y5)).setCell ⟨g + 1, 6, none⟩ (vI y6)).setCell ⟨g + 1, 7, none⟩ (vI y7)).drew) from ((((((((((((((HBB.out.setCell (p := ⟨g, 0, none⟩) (.inl rfl) (.int .i64 k5)).setCell (p := ⟨g, 1, none⟩) (.inl rfl) (.int .i64 c5)).setCell (p := ⟨g, 2, none⟩) (.inl rfl) (.bool wr5)).setCell (p := ⟨g, 3, none⟩) (.inl rfl) (.int .i64 lb5)).setCell (p := ⟨g, 4, none⟩) (.inl rfl) (.slice A5 n5 cap5)).setCell (p := ⟨g + 1, 0, none⟩) (.inr rfl) (vI y0)).setCell (p := ⟨g + 1, 1, none⟩) (.inr rfl) (vI y1)).setCell (p := ⟨g + 1, 2, none⟩) (.inr rfl) (vI y2)).setCell (p := ⟨g + 1, 3, none⟩) (.inr rfl) (vI y3)).setCell (p := ⟨g + 1, 4, none⟩) (.inr rfl) (vI y4)).setCell (p := ⟨g + 1, 5, none⟩) (.inr rfl) (vI y5)).setCell (p := ⟨g + 1, 6, none⟩) (.inr rfl) (vI y6)).setCell (p := ⟨g + 1, 7, none⟩) (.inr rfl) (vI y7))).drew)
        have BB := Lib.hid (BL6.out.trans (HT.out.below BL6.out.size (fun k e => by rcases e with e | e <;> omega)))
        have HFF := Lib.hid (HF6.out.but (HT.out.sub (fun k e => by rcases e with e | e <;> (subst e; unfold Upto; omega))))
        clear u0 u1 u2 u3 u4 q0 q1 q2 q3 q4 q5 q6 q7 z0 z1 z2 z3 z4 z5 z6 z7 x0 x1 x2 x3 x4 uf vf HB0 HBB HT HQ
        generalize ((((((((((((((W6.setCell ⟨g, 0, none⟩ (.int .i64 k5)).setCell ⟨g, 1, none⟩ (.int .i64 c5)).setCell ⟨g, 2, none⟩ (.bool wr5)).setCell ⟨g, 3, none⟩ (.int .i64 lb5)).setCell ⟨g, 4, none⟩ (.slice A5 n5 cap5)).setCell ⟨g + 1, 0, none⟩ (vI y0)).setCell ⟨g + 1, 1, none⟩ (vI y1)).setCell ⟨g + 1, 2, none⟩ (vI y2)).setCell ⟨g + 1, 3, none⟩ (vI y3)).setCell ⟨g + 1, 4, none⟩ (vI y4)).setCell ⟨g + 1, 5, none⟩ (vI y5)).setCell ⟨g + 1, 6, none⟩ (vI y6)).setCell ⟨g + 1, 7, none⟩ (vI y7)).drew) = WF at *
        have u0 := HF.1.cell 0 _ rfl; have u1 := HF.1.cell 1 _ rfl; have u2 := HF.1.cell 2 _ rfl; have u3 := HF.1.cell 3 _ rfl; have u4 := HF.1.cell 4 _ rfl
        have q0 := HF.2.cell 0 _ rfl; have q1 := HF.2.cell 1 _ rfl; have q2 := HF.2.cell 2 _ rfl; have q3 := HF.2.cell 3 _ rfl; have q4 := HF.2.cell 4 _ rfl; have q5 := HF.2.cell 5 _ rfl; have q6 := HF.2.cell 6 _ rfl; have q7 := HF.2.cell 7 _ rfl
        go_wp2
        refine bodyPost_ret (v := .tuple #[.agg #[.int .i64 k5, .int .i64 c5, .bool wr5, .int .i64 lb5, .slice A5 n5 cap5], .agg #[vI y0, vI y1, vI y2, vI y3, vI y4, vI y5, vI y6, vI y7], vI 0]) (by simp [results, Try.results10, go_sem, u0, u1, u2, u3, u4, q0, q1, q2, q3, q4, q5, q6, q7]) rfl ?_
        rw [HE.out]
        exact ⟨⟨_, rfl, HFF.out.fewer (Sub.upto hww4)⟩, BB.out⟩
  · clear c0 c1 c2 c3 c4 c5 c6 c7
    have hz2 : (wrongR l f != 0) = true := by simpa using hz
    have HE := Lib.hid (show unfE l f [a0, a1, a2, a3, a4, a5, a6, a7] = (zeroT, List.replicate 8 0, wrongR l f) by unfold unfE; rw [if_pos (by simpa using hz)])
    go_wp2
    have HBB := Lib.hid (But.refl (fun b => b = g ∨ b = g + 1) w1)
    have HF : VBx w.heap.size (((((((((((((w1.setCell ⟨g, 0, none⟩ (.int .i64 0)).setCell ⟨g, 1, none⟩ (.int .i64 0)).setCell ⟨g, 2, none⟩ (.bool false)).setCell ⟨g, 3, none⟩ (.int .i64 0)).setCell ⟨g, 4, none⟩ (.slice none 0 0)).setCell ⟨g + 1, 0, none⟩ (.int .i64 0)).setCell ⟨g + 1, 1, none⟩ (.int .i64 0)).setCell ⟨g + 1, 2, none⟩ (.int .i64 0)).setCell ⟨g + 1, 3, none⟩ (.int .i64 0)).setCell ⟨g + 1, 4, none⟩ (.int .i64 0)).setCell ⟨g + 1, 5, none⟩ (.int .i64 0)).setCell ⟨g + 1, 6, none⟩ (.int .i64 0)).setCell ⟨g + 1, 7, none⟩ (.int .i64 0)) g [.int .i64 0, .int .i64 0, .bool false, .int .i64 0, .slice none 0 0] [.int .i64 0, .int .i64 0, .int .i64 0, .int .i64 0, .int .i64 0, .int .i64 0, .int .i64 0, .int .i64 0] := ⟨(((((((((((((HB0.out.1.set (i := 0) (by simp) (.int .i64 0)).set (i := 1) (by simp) (.int .i64 0)).set (i := 2) (by simp) (.bool false)).set (i := 3) (by simp) (.int .i64 0)).set (i := 4) (by simp) (.slice none 0 0)).other (p := ⟨g + 1, 0, none⟩) (by dsimp only; omega) (.int .i64 0)).other (p := ⟨g + 1, 1, none⟩) (by dsimp only; omega) (.int .i64 0)).other (p := ⟨g + 1, 2, none⟩) (by dsimp only; omega) (.int .i64 0)).other (p := ⟨g + 1, 3, none⟩) (by dsimp only; omega) (.int .i64 0)).other (p := ⟨g + 1, 4, none⟩) (by dsimp only; omega) (.int .i64 0)).other (p := ⟨g + 1, 5, none⟩) (by dsimp only; omega) (.int .i64 0)).other (p := ⟨g + 1, 6, none⟩) (by dsimp only; omega) (.int .i64 0)).other (p := ⟨g + 1, 7, none⟩) (by dsimp only; omega) (.int .i64 0)), (((((((((((((HB0.out.2.other (p := ⟨g, 0, none⟩) (by dsimp only; omega) (.int .i64 0)).other (p := ⟨g, 1, none⟩) (by dsimp only; omega) (.int .i64 0)).other (p := ⟨g, 2, none⟩) (by dsimp only; omega) (.bool false)).other (p := ⟨g, 3, none⟩) (by dsimp only; omega) (.int .i64 0)).other (p := ⟨g, 4, none⟩) (by dsimp only; omega) (.slice none 0 0)).set (i := 0) (by simp) (.int .i64 0)).set (i := 1) (by simp) (.int .i64 0)).set (i := 2) (by simp) (.int .i64 0)).set (i := 3) (by simp) (.int .i64 0)).set (i := 4) (by simp) (.int .i64 0)).set (i := 5) (by simp) (.int .i64 0)).set (i := 6) (by simp) (.int .i64 0)).set (i := 7) (by simp) (.int .i64 0))⟩
    have HT : But (fun b => b = g ∨ b = g + 1) w1 (((((((((((((w1.setCell ⟨g, 0, none⟩ (.int .i64 0)).setCell ⟨g, 1, none⟩ (.int .i64 0)).setCell ⟨g, 2, none⟩ (.bool false)).setCell ⟨g, 3, none⟩ (.int .i64 0)).setCell ⟨g, 4, none⟩ (.slice none 0 0)).setCell ⟨g + 1, 0, none⟩ (.int .i64 0)).setCell ⟨g + 1, 1, none⟩ (.int .i64 0)).setCell ⟨g + 1, 2, none⟩ (.int .i64 0)).setCell ⟨g + 1, 3, none⟩ (.int .i64 0)).setCell ⟨g + 1, 4, none⟩ (.int .i64 0)).setCell ⟨g + 1, 5, none⟩ (.int .i64 0)).setCell ⟨g + 1, 6, none⟩ (.int .i64 0)).setCell ⟨g + 1, 7, none⟩ (.int .i64 0)) := (((((((((((((HBB.out.setCell (p := ⟨g, 0, none⟩) (.inl rfl) (.int .i64 0)).setCell (p := ⟨g, 1, none⟩) (.inl rfl) (.int .i64 0)).setCell (p := ⟨g, 2, none⟩) (.inl rfl) (.bool false)).setCell (p := ⟨g, 3, none⟩) (.inl rfl) (.int .i64 0)).setCell (p := ⟨g, 4, none⟩) (.inl rfl) (.slice none 0 0)).setCell (p := ⟨g + 1, 0, none⟩) (.inr rfl) (.int .i64 0)).setCell (p := ⟨g + 1, 1, none⟩) (.inr rfl) (.int .i64 0)).setCell (p := ⟨g + 1, 2, none⟩) (.inr rfl) (.int .i64 0)).setCell (p := ⟨g + 1, 3, none⟩) (.inr rfl) (.int .i64 0)).setCell (p := ⟨g + 1, 4, none⟩) (.inr rfl) (.int .i64 0)).setCell (p := ⟨g + 1, 5, none⟩) (.inr rfl) (.int .i64 0)).setCell (p := ⟨g + 1, 6, none⟩) (.inr rfl) (.int .i64 0)).setCell (p := ⟨g + 1, 7, none⟩) (.inr rfl) (.int .i64 0))
    have BB := Lib.hid (BL1.out.trans (HT.below BL1.out.size (fun k e => by rcases e with e | e <;> omega)))
    clear HT HBB u0 u1 u2 u3 u4 q0 q1 q2 q3 q4 q5 q6 q7 uf vf
    generalize (((((((((((((w1.setCell ⟨g, 0, none⟩ (.int .i64 0)).setCell ⟨g, 1, none⟩ (.int .i64 0)).setCell ⟨g, 2, none⟩ (.bool false)).setCell ⟨g, 3, none⟩ (.int .i64 0)).setCell ⟨g, 4, none⟩ (.slice none 0 0)).setCell ⟨g + 1, 0, none⟩ (.int .i64 0)).setCell ⟨g + 1, 1, none⟩ (.int .i64 0)).setCell ⟨g + 1, 2, none⟩ (.int .i64 0)).setCell ⟨g + 1, 3, none⟩ (.int .i64 0)).setCell ⟨g + 1, 4, none⟩ (.int .i64 0)).setCell ⟨g + 1, 5, none⟩ (.int .i64 0)).setCell ⟨g + 1, 6, none⟩ (.int .i64 0)).setCell ⟨g + 1, 7, none⟩ (.int .i64 0)) = WF at *
    have u0 := HF.1.cell 0 _ rfl; have u1 := HF.1.cell 1 _ rfl; have u2 := HF.1.cell 2 _ rfl; have u3 := HF.1.cell 3 _ rfl; have u4 := HF.1.cell 4 _ rfl
    have q0 := HF.2.cell 0 _ rfl; have q1 := HF.2.cell 1 _ rfl; have q2 := HF.2.cell 2 _ rfl; have q3 := HF.2.cell 3 _ rfl; have q4 := HF.2.cell 4 _ rfl; have q5 := HF.2.cell 5 _ rfl; have q6 := HF.2.cell 6 _ rfl; have q7 := HF.2.cell 7 _ rfl
    refine bodyPost_ret (v := .tuple #[.agg [.int .i64 0, .int .i64 0, .bool false, .int .i64 0, .slice none 0 0].toArray, .agg [.int .i64 0, .int .i64 0, .int .i64 0, .int .i64 0, .int .i64 0, .int .i64 0, .int .i64 0, .int .i64 0].toArray, vI (wrongR l f)]) (by simp [results, Try.results10, go_sem, u0, u1, u2, u3, u4, q0, q1, q2, q3, q4, q5, q6, q7]) rfl ?_
    rw [HE.out]
    exact ⟨⟨_, rfl, FrT.leaf ⟨by decide, by decide⟩ ⟨by decide, by decide⟩ ⟨by decide, by decide⟩⟩, BB.out⟩
end Go.Proofs.Ytdelngmbpjgphaa
