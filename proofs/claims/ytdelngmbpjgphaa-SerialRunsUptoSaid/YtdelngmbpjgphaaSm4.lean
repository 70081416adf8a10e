/- The walks of the reference's MWrong and MRun. -/
import Derived.Test.YtdelngmbpjgphaaSm3a
import Derived.Test.YtdelngmbpjgphaaSm3b
import Derived.Test.YtdelngmbpjgphaaSm3c
import Derived.Test.YtdelngmbpjgphaaSm3d
import Derived.Test.YtdelngmbpjgphaaSm3e
import Derived.Test.YtdelngmbpjgphaaSr5
namespace Go.Proofs.Ytdelngmbpjgphaa
open Go.RowKit
set_option linter.unusedVariables false
theorem pmk_cons (F : Nat) (k : Int) (s : ByteArray) (a b : Ex) (body els rest : List St) (hrest : PMk F rest) (hbody : PMk F body) (hels : PMk F els) : PMk F (.mk k s a b body els :: rest) := by
  by_cases h1 : k ≤ 2 ∨ 7 < k
  · exact pmk_a F k s a b body els rest hrest hbody hels h1
  by_cases h2 : 3 ≤ k ∧ k ≤ 3
  · exact pmk_b F k s a b body els rest hrest hbody hels h2
  by_cases h3 : 4 ≤ k ∧ k ≤ 5
  · exact pmk_d F k s a b body els rest hrest hbody hels h3
  by_cases h4 : 6 ≤ k ∧ k ≤ 6
  · exact pmk_c F k s a b body els rest hrest hbody hels h4
  · exact pmk_e F k s a b body els rest hrest hbody hels (by omega)
theorem pmk_all' (F N : Nat) : ∀ l : List St, SizeOf.sizeOf l ≤ N → PMk F l := by
  induction N with
  | zero => intro l h; cases l with
    | nil => exact pmk_nil F
    | cons s r => simp at h
  | succ N ih =>
    intro l hl
    cases l with
    | nil => exact pmk_nil F
    | cons s r =>
      obtain ⟨k, nm, a, b, body, els⟩ := s
      simp at hl
      exact pmk_cons F k nm a b body els r (ih _ (by omega)) (ih _ (by omega)) (ih _ (by omega))
theorem pmk_all (F : Nat) (l : List St) : PMk F l := pmk_all' F _ l (Nat.le_refl _)
set_option maxHeartbeats 400000 in
theorem mwrong_any (l : List St) (f : Int) (w : World) (S : Blocks) (v : Value) (hS : Sub S (Upto w.heap.size)) (r : RdSts w S l v) (hwt : St.wts l ≤ 1048576) :
    Calls Try.prog 17 #[v, vI f] w fun e w' => e = .returned (vI (wrongR l f)) ∧ Below w.heap.size w w' := by
  have C := Lib.hid (lfree_any l w S v hS r hwt)
  have HW := Lib.hid (show wrongR l f = if lfree l [] ≠ [] then 4 else if f < 0 ∨ 2000 < f then 2 else 0 from rfl)
  clear r hS
  go_enter Try.func17, Try.ntmps17
  go_wp2_with fail
  refine C.out.mono ?_
  rintro e w1 ⟨x, rfl, hx, hb⟩
  obtain ⟨A, c, rfl, -⟩ := hx.form
  clear hx
  by_cases hl : lfree l [] = []
  · have hl0 : (lfree l []).length = 0 := by rw [hl]; rfl
    rw [hl0]
    rw [if_neg (by simpa using hl)] at HW
    by_cases h0 : f < 0
    · rw [if_pos (.inl h0)] at HW
      go_wp2
      go_ret
      exact ⟨by rw [HW.out]; rfl, hb⟩
    · by_cases h2 : 2000 < f
      · rw [if_pos (.inr h2)] at HW
        go_wp2
        go_ret
        exact ⟨by rw [HW.out]; rfl, hb⟩
      · rw [if_neg (by omega)] at HW
        go_wp2
        go_ret
        exact ⟨by rw [HW.out]; rfl, hb⟩
  · have hl0 : 0 < (lfree l []).length := len_pos hl
    have hl1 : (0 : Int) < ((lfree l []).length : Int) := by omega
    have hl2 : (((lfree l []).length : Int) != 0) = true := by simp; exact hl
    rw [if_pos hl] at HW
    go_wp2
    go_ret
    exact ⟨by rw [HW.out]; rfl, hb⟩
set_option maxHeartbeats 2000000 in
set_option maxRecDepth 100000 in
theorem MRun_any (l : List St) (f : Int) (h : List Int) (w : World) (S : Blocks) (v : Value) (hS : Sub S (Upto w.heap.size)) (r : RdSts w S l v) (hwt : St.wts l ≤ 1048576) (hl8 : h.length = 8) (hin : ∀ x ∈ h, inI x) :
    Calls Try.prog 14 #[v, .agg (h.map vI).toArray, vI f] w fun e w' => (∃ x, e = .returned (.tuple #[.agg ((runE l f h).1.h.map vI).toArray, vI ((runE l f h).1.st : Int), x, vI (runE l f h).2]) ∧ RdAccs w' (Plus Nowhere w.heap.size w'.heap.size) (runE l f h).1.tr x) ∧ Below w.heap.size w w' := by
  obtain ⟨a0, a1, a2, a3, a4, a5, a6, a7, rfl⟩ := list8 hl8
  have bA : Below w.heap.size w ((w.alloc (.cells #[vI a0, vI a1, vI a2, vI a3, vI a4, vI a5, vI a6, vI a7] 38)).alloc (.cells #[.int .i64 0, .int .i64 0, .int .i64 0, .int .i64 0, .int .i64 0, .int .i64 0, .int .i64 0, .int .i64 0] 38)) := ((Below.refl _ _).alloc (Nat.le_refl _) _).alloc (by simp) _
  have B0 := (Blk.made w [vI a0, vI a1, vI a2, vI a3, vI a4, vI a5, vI a6, vI a7] 38 (base := 0) (Nat.zero_le _)).below (w' := ((w.alloc (.cells #[vI a0, vI a1, vI a2, vI a3, vI a4, vI a5, vI a6, vI a7] 38)).alloc (.cells #[.int .i64 0, .int .i64 0, .int .i64 0, .int .i64 0, .int .i64 0, .int .i64 0, .int .i64 0, .int .i64 0] 38))) ((Below.refl _ _).alloc (Nat.le_refl _) _)
  have B1 := Blk.made (w.alloc (.cells #[vI a0, vI a1, vI a2, vI a3, vI a4, vI a5, vI a6, vI a7] 38)) [.int .i64 0, .int .i64 0, .int .i64 0, .int .i64 0, .int .i64 0, .int .i64 0, .int .i64 0, .int .i64 0] 38 (base := w.heap.size) (by simp)
  rw [World.size_alloc] at B1
  have BL := Lib.hid bA
  have H0 := Lib.hid B0
  have H1 := Lib.hid B1
  have R := Lib.hid (r.go RdSt.keeps bA hS (Sub.refl _))
  have HS := Lib.hid hS
  have HIN := Lib.hid hin
  clear r hS bA B0 B1 hin hl8
  simp only [List.map]
  go_enter Try.func14, Try.ntmps14
  go_upto_region 1 with (fail)
  generalize ((w.alloc (.cells #[vI a0, vI a1, vI a2, vI a3, vI a4, vI a5, vI a6, vI a7] 38)).alloc (.cells #[.int .i64 0, .int .i64 0, .int .i64 0, .int .i64 0, .int .i64 0, .int .i64 0, .int .i64 0, .int .i64 0] 38)) = W0 at *
  go_wp2_with fail
  refine (mwrong_any l f W0 S v (HS.out.trans (Sub.upto BL.out.size)) R.out hwt).mono ?_
  rintro e w1 ⟨rfl, hb⟩
  have BL1 := Lib.hid (BL.out.trans (hb.mono BL.out.size))
  have H01 := Lib.hid (H0.out.below hb)
  have H11 := Lib.hid (H1.out.below hb)
  have R1 := Lib.hid (R.out.go RdSt.keeps hb (HS.out.trans (Sub.upto BL.out.size)) (Sub.refl _))
  clear hb BL H0 H1 R
  have hzl : w.heap.size + 1 < w1.heap.size := H11.out.lt
  by_cases hz : wrongR l f = 0
  · have hzz := wrongR_zero hz
    rw [hz]
    obtain ⟨F, hF⟩ : ∃ F : Nat, f = (F : Int) := ⟨f.toNat, by omega⟩
    subst hF
    have hF2 : F ≤ 2000 := by omega
    have c0 := H01.out.cell 0 _ rfl; have c1 := H01.out.cell 1 _ rfl; have c2 := H01.out.cell 2 _ rfl; have c3 := H01.out.cell 3 _ rfl; have c4 := H01.out.cell 4 _ rfl; have c5 := H01.out.cell 5 _ rfl; have c6 := H01.out.cell 6 _ rfl; have c7 := H01.out.cell 7 _ rfl
    have bB : Below w1.heap.size w1 (w1.alloc (.cells #[vI a0, vI a1, vI a2, vI a3, vI a4, vI a5, vI a6, vI a7, .int .i64 0, .slice none 0 0] 96)) := (Below.refl _ _).alloc (Nat.le_refl _) _
    have HP : HpAt w.heap.size (w1.alloc (.cells #[vI a0, vI a1, vI a2, vI a3, vI a4, vI a5, vI a6, vI a7, .int .i64 0, .slice none 0 0] 96)) w1.heap.size (Is w1.heap.size) [vI ((0 : Nat) : Int)] [a0, a1, a2, a3, a4, a5, a6, a7] [] :=
      ⟨.slice none 0 0, Blk.made w1 _ 96 BL1.out.size, rfl, HIN.out, OwnL.nil _ _ _, rfl, fun b hb2 => by have e : b = w1.heap.size := hb2; subst e; exact ⟨BL1.out.size, by simp⟩, fun k hk => by cases hk⟩
    have HPH := Lib.hid HP
    have H12 := Lib.hid (H11.out.below bB)
    have R2 := Lib.hid (R1.out.go RdSt.keeps bB (HS.out.trans (Sub.upto BL1.out.size)) (Sub.refl _))
    have BL2 := Lib.hid (BL1.out.trans (bB.mono BL1.out.size))
    clear HP bB
    go_upto_region 5 with (fail)
    generalize (w1.alloc (.cells #[vI a0, vI a1, vI a2, vI a3, vI a4, vI a5, vI a6, vI a7, .int .i64 0, .slice none 0 0] 96)) = W2 at *
    obtain ⟨d, hd⟩ : ∃ d, d = w1.heap.size := ⟨_, rfl⟩
    rw [← hd] at HPH
    rw [← hd]
    have hne : w.heap.size + 1 ≠ d := by omega
    have hd1 : w.heap.size ≤ d := by omega
    clear hd c0 c1 c2 c3 c4 c5 c6 c7
    have hat : MnAt w.heap.size W2 d (Is d) F ⟨[a0, a1, a2, a3, a4, a5, a6, a7], 0, []⟩ := ⟨HPH.out, by simp, by simp, hF2⟩
    have hlab := labelsL_le l
    have C := Lib.hid (fun res hr => pmk_all F l w.heap.size W2 d (Is d) ⟨[a0, a1, a2, a3, a4, a5, a6, a7], 0, []⟩ [] 0 S v (.slice none 0 0) hat HS.out R2.out (FrX.nil (by simp [maxLen])) (by simp) (by omega) hwt res hr)
    have HE := Lib.hid (show runE l (F : Int) [a0, a1, a2, a3, a4, a5, a6, a7] = match blR F l [] 0 ⟨[a0, a1, a2, a3, a4, a5, a6, a7], 0, []⟩ with | some m => (m, 0) | none => (⟨List.replicate 8 0, 0, []⟩, 5) by
      unfold runE
      rw [if_neg (by simpa using hz), Int.toNat_natCast]
      rfl)
    have n1 : ¬ Is d (w.heap.size + 1) := fun e => hne e
    clear hat
    cases hres : blR F l [] 0 ⟨[a0, a1, a2, a3, a4, a5, a6, a7], 0, []⟩ with
    | some m =>
      rw [hres] at HE
      go_wp2_with fail
      refine (C.out _ hres).mono ?_
      rintro e w4 ⟨rfl, ⟨X4, ha, hs⟩, hb⟩
      have HLEN := Lib.hid (show m.tr.length ≤ 2000 by have h1 := ha.2.1; have h2 := ha.2.2.1; omega)
      have H14 := Lib.hid (H12.out.but hb n1)
      have BL4 := Lib.hid (BL2.out.trans (hb.below BL2.out.size (fun k e => by have e2 : k = d := e; omega)))
      obtain ⟨hh, sn, tr⟩ := m
      have hp : HpAt w.heap.size w4 d X4 [vI (sn : Int)] hh tr := ha.1
      obtain ⟨b0, b1, b2, b3, b4, b5, b6, b7, rfl⟩ := list8 hp.len
      obtain ⟨o, ho, ow, hX, -⟩ := hp.row
      have ho : w4.cell? ⟨d, 9, none⟩ = some o := ho
      obtain ⟨A, c, rfl⟩ := ow.form
      have hbz : Below w4.heap.size w4 w4.drew := (Below.refl _ _).drew
      have hwz := BL2.out.size
      have hs2 : w.heap.size + 1 < W2.heap.size := H12.out.lt
      have HOW := Lib.hid (ow.but (((((((((((But.refl (Is (w.heap.size + 1)) w4).setCell (p := ⟨w.heap.size + 1, 0, none⟩) rfl (vI b0)).setCell (p := ⟨w.heap.size + 1, 1, none⟩) rfl (vI b1)).setCell (p := ⟨w.heap.size + 1, 2, none⟩) rfl (vI b2)).setCell (p := ⟨w.heap.size + 1, 3, none⟩) rfl (vI b3)).setCell (p := ⟨w.heap.size + 1, 4, none⟩) rfl (vI b4)).setCell (p := ⟨w.heap.size + 1, 5, none⟩) rfl (vI b5)).setCell (p := ⟨w.heap.size + 1, 6, none⟩) rfl (vI b6)).setCell (p := ⟨w.heap.size + 1, 7, none⟩) rfl (vI b7))).drew) (fun k hk e => by
        have e2 : k = w.heap.size + 1 := e
        rcases hs k (hX k hk).1 with e3 | e3
        · have e4 : k = d := e3; omega
        · omega))
      have st : w4.cell? ⟨d, 8, none⟩ = some (vI (sn : Int)) := HpAt.midAt hp (n := 0) rfl
      have g0 : w4.cell? ⟨d, 0, none⟩ = some (vI b0) := HpAt.cell hp (n := 0) (by decide); have g1 : w4.cell? ⟨d, 1, none⟩ = some (vI b1) := HpAt.cell hp (n := 1) (by decide); have g2 : w4.cell? ⟨d, 2, none⟩ = some (vI b2) := HpAt.cell hp (n := 2) (by decide); have g3 : w4.cell? ⟨d, 3, none⟩ = some (vI b3) := HpAt.cell hp (n := 3) (by decide); have g4 : w4.cell? ⟨d, 4, none⟩ = some (vI b4) := HpAt.cell hp (n := 4) (by decide); have g5 : w4.cell? ⟨d, 5, none⟩ = some (vI b5) := HpAt.cell hp (n := 5) (by decide); have g6 : w4.cell? ⟨d, 6, none⟩ = some (vI b6) := HpAt.cell hp (n := 6) (by decide); have g7 : w4.cell? ⟨d, 7, none⟩ = some (vI b7) := HpAt.cell hp (n := 7) (by decide)
      have k0 := H14.out.cell 0 _ rfl; have k1 := H14.out.cell 1 _ rfl; have k2 := H14.out.cell 2 _ rfl; have k3 := H14.out.cell 3 _ rfl; have k4 := H14.out.cell 4 _ rfl; have k5 := H14.out.cell 5 _ rfl; have k6 := H14.out.cell 6 _ rfl; have k7 := H14.out.cell 7 _ rfl
      have kf := H14.out.fr
      clear hp ow hX hs ha hb
      go_upto_region 7 with (fail)
      go_region
      have BT := Lib.hid (show Blk w.heap.size (((((((((w4.setCell ⟨w.heap.size + 1, 0, none⟩ (vI b0)).setCell ⟨w.heap.size + 1, 1, none⟩ (vI b1)).setCell ⟨w.heap.size + 1, 2, none⟩ (vI b2)).setCell ⟨w.heap.size + 1, 3, none⟩ (vI b3)).setCell ⟨w.heap.size + 1, 4, none⟩ (vI b4)).setCell ⟨w.heap.size + 1, 5, none⟩ (vI b5)).setCell ⟨w.heap.size + 1, 6, none⟩ (vI b6)).setCell ⟨w.heap.size + 1, 7, none⟩ (vI b7)).drew) (w.heap.size + 1) [vI b0, vI b1, vI b2, vI b3, vI b4, vI b5, vI b6, vI b7] from (((((((((H14.out.set (i := 0) (by simp) (vI b0)).set (i := 1) (by simp) (vI b1)).set (i := 2) (by simp) (vI b2)).set (i := 3) (by simp) (vI b3)).set (i := 4) (by simp) (vI b4)).set (i := 5) (by simp) (vI b5)).set (i := 6) (by simp) (vI b6)).set (i := 7) (by simp) (vI b7))).drew)
      have BB := Lib.hid (show Below w.heap.size w (((((((((w4.setCell ⟨w.heap.size + 1, 0, none⟩ (vI b0)).setCell ⟨w.heap.size + 1, 1, none⟩ (vI b1)).setCell ⟨w.heap.size + 1, 2, none⟩ (vI b2)).setCell ⟨w.heap.size + 1, 3, none⟩ (vI b3)).setCell ⟨w.heap.size + 1, 4, none⟩ (vI b4)).setCell ⟨w.heap.size + 1, 5, none⟩ (vI b5)).setCell ⟨w.heap.size + 1, 6, none⟩ (vI b6)).setCell ⟨w.heap.size + 1, 7, none⟩ (vI b7)).drew) from (((((((((BL4.out.setCell (p := ⟨w.heap.size + 1, 0, none⟩) (Nat.le_succ _) (vI b0)).setCell (p := ⟨w.heap.size + 1, 1, none⟩) (Nat.le_succ _) (vI b1)).setCell (p := ⟨w.heap.size + 1, 2, none⟩) (Nat.le_succ _) (vI b2)).setCell (p := ⟨w.heap.size + 1, 3, none⟩) (Nat.le_succ _) (vI b3)).setCell (p := ⟨w.heap.size + 1, 4, none⟩) (Nat.le_succ _) (vI b4)).setCell (p := ⟨w.heap.size + 1, 5, none⟩) (Nat.le_succ _) (vI b5)).setCell (p := ⟨w.heap.size + 1, 6, none⟩) (Nat.le_succ _) (vI b6)).setCell (p := ⟨w.heap.size + 1, 7, none⟩) (Nat.le_succ _) (vI b7))).drew)
      generalize (((((((((w4.setCell ⟨w.heap.size + 1, 0, none⟩ (vI b0)).setCell ⟨w.heap.size + 1, 1, none⟩ (vI b1)).setCell ⟨w.heap.size + 1, 2, none⟩ (vI b2)).setCell ⟨w.heap.size + 1, 3, none⟩ (vI b3)).setCell ⟨w.heap.size + 1, 4, none⟩ (vI b4)).setCell ⟨w.heap.size + 1, 5, none⟩ (vI b5)).setCell ⟨w.heap.size + 1, 6, none⟩ (vI b6)).setCell ⟨w.heap.size + 1, 7, none⟩ (vI b7)).drew) = WF at *
      have r0 := BT.out.cell 0 _ rfl; have r1 := BT.out.cell 1 _ rfl; have r2 := BT.out.cell 2 _ rfl; have r3 := BT.out.cell 3 _ rfl; have r4 := BT.out.cell 4 _ rfl; have r5 := BT.out.cell 5 _ rfl; have r6 := BT.out.cell 6 _ rfl; have r7 := BT.out.cell 7 _ rfl
      go_wp2
      refine bodyPost_ret (v := .tuple #[.agg #[vI b0, vI b1, vI b2, vI b3, vI b4, vI b5, vI b6, vI b7], vI (sn : Int), .slice A tr.length c, vI 0]) (by simp [results, Try.f14, go_sem, r0, r1, r2, r3, r4, r5, r6, r7]) rfl ⟨⟨.slice A tr.length c, ?_, ?_⟩, BB.out⟩
      · rw [HE.out]; rfl
      · rw [HE.out]
        exact HOW.out.toRd (bytes := 24) Flat.keeps (by have := HLEN.out; omega) (Sub.nowhere _) (fun b h1 h2 => .inr ⟨h1, h2⟩)
    | none =>
      rw [hres] at HE
      go_wp2_with fail
      refine (C.out _ hres).mono ?_
      rintro e w4 ⟨rfl, hb⟩
      have H14 := Lib.hid (H12.out.but hb n1)
      have BL4 := Lib.hid (BL2.out.trans (hb.below BL2.out.size (fun k e => by have e2 : k = d := e; omega)))
      have k0 := H14.out.cell 0 _ rfl; have k1 := H14.out.cell 1 _ rfl; have k2 := H14.out.cell 2 _ rfl; have k3 := H14.out.cell 3 _ rfl; have k4 := H14.out.cell 4 _ rfl; have k5 := H14.out.cell 5 _ rfl; have k6 := H14.out.cell 6 _ rfl; have k7 := H14.out.cell 7 _ rfl
      have kf := H14.out.fr
      clear hb
      go_wp2
      have BT := Lib.hid (show Blk w.heap.size (((((((((w4.setCell ⟨w.heap.size + 1, 0, none⟩ (.int .i64 0)).setCell ⟨w.heap.size + 1, 1, none⟩ (.int .i64 0)).setCell ⟨w.heap.size + 1, 2, none⟩ (.int .i64 0)).setCell ⟨w.heap.size + 1, 3, none⟩ (.int .i64 0)).setCell ⟨w.heap.size + 1, 4, none⟩ (.int .i64 0)).setCell ⟨w.heap.size + 1, 5, none⟩ (.int .i64 0)).setCell ⟨w.heap.size + 1, 6, none⟩ (.int .i64 0)).setCell ⟨w.heap.size + 1, 7, none⟩ (.int .i64 0))) (w.heap.size + 1) [.int .i64 0, .int .i64 0, .int .i64 0, .int .i64 0, .int .i64 0, .int .i64 0, .int .i64 0, .int .i64 0] from (((((((((H14.out.set (i := 0) (by simp) (.int .i64 0)).set (i := 1) (by simp) (.int .i64 0)).set (i := 2) (by simp) (.int .i64 0)).set (i := 3) (by simp) (.int .i64 0)).set (i := 4) (by simp) (.int .i64 0)).set (i := 5) (by simp) (.int .i64 0)).set (i := 6) (by simp) (.int .i64 0)).set (i := 7) (by simp) (.int .i64 0))))
      have BB := Lib.hid (show Below w.heap.size w (((((((((w4.setCell ⟨w.heap.size + 1, 0, none⟩ (.int .i64 0)).setCell ⟨w.heap.size + 1, 1, none⟩ (.int .i64 0)).setCell ⟨w.heap.size + 1, 2, none⟩ (.int .i64 0)).setCell ⟨w.heap.size + 1, 3, none⟩ (.int .i64 0)).setCell ⟨w.heap.size + 1, 4, none⟩ (.int .i64 0)).setCell ⟨w.heap.size + 1, 5, none⟩ (.int .i64 0)).setCell ⟨w.heap.size + 1, 6, none⟩ (.int .i64 0)).setCell ⟨w.heap.size + 1, 7, none⟩ (.int .i64 0))) from (((((((((BL4.out.setCell (p := ⟨w.heap.size + 1, 0, none⟩) (Nat.le_succ _) (.int .i64 0)).setCell (p := ⟨w.heap.size + 1, 1, none⟩) (Nat.le_succ _) (.int .i64 0)).setCell (p := ⟨w.heap.size + 1, 2, none⟩) (Nat.le_succ _) (.int .i64 0)).setCell (p := ⟨w.heap.size + 1, 3, none⟩) (Nat.le_succ _) (.int .i64 0)).setCell (p := ⟨w.heap.size + 1, 4, none⟩) (Nat.le_succ _) (.int .i64 0)).setCell (p := ⟨w.heap.size + 1, 5, none⟩) (Nat.le_succ _) (.int .i64 0)).setCell (p := ⟨w.heap.size + 1, 6, none⟩) (Nat.le_succ _) (.int .i64 0)).setCell (p := ⟨w.heap.size + 1, 7, none⟩) (Nat.le_succ _) (.int .i64 0))))
      generalize (((((((((w4.setCell ⟨w.heap.size + 1, 0, none⟩ (.int .i64 0)).setCell ⟨w.heap.size + 1, 1, none⟩ (.int .i64 0)).setCell ⟨w.heap.size + 1, 2, none⟩ (.int .i64 0)).setCell ⟨w.heap.size + 1, 3, none⟩ (.int .i64 0)).setCell ⟨w.heap.size + 1, 4, none⟩ (.int .i64 0)).setCell ⟨w.heap.size + 1, 5, none⟩ (.int .i64 0)).setCell ⟨w.heap.size + 1, 6, none⟩ (.int .i64 0)).setCell ⟨w.heap.size + 1, 7, none⟩ (.int .i64 0))) = WF at *
      have r0 := BT.out.cell 0 _ rfl; have r1 := BT.out.cell 1 _ rfl; have r2 := BT.out.cell 2 _ rfl; have r3 := BT.out.cell 3 _ rfl; have r4 := BT.out.cell 4 _ rfl; have r5 := BT.out.cell 5 _ rfl; have r6 := BT.out.cell 6 _ rfl; have r7 := BT.out.cell 7 _ rfl
      refine bodyPost_ret (v := .tuple #[.agg #[.int .i64 0, .int .i64 0, .int .i64 0, .int .i64 0, .int .i64 0, .int .i64 0, .int .i64 0, .int .i64 0], vI 0, .slice none 0 0, vI 5]) (by simp [results, Try.f14, go_sem, r0, r1, r2, r3, r4, r5, r6, r7]) rfl ⟨⟨.slice none 0 0, ?_, ?_⟩, BB.out⟩
      · rw [HE.out]; rfl
      · rw [HE.out]; exact RdL.nil (by simp [maxLen])
  · have k0 := H11.out.cell 0 _ rfl; have k1 := H11.out.cell 1 _ rfl; have k2 := H11.out.cell 2 _ rfl; have k3 := H11.out.cell 3 _ rfl; have k4 := H11.out.cell 4 _ rfl; have k5 := H11.out.cell 5 _ rfl; have k6 := H11.out.cell 6 _ rfl; have k7 := H11.out.cell 7 _ rfl
    have kf := H11.out.fr
    have HE := Lib.hid (show runE l f [a0, a1, a2, a3, a4, a5, a6, a7] = (⟨List.replicate 8 0, 0, []⟩, wrongR l f) by unfold runE; rw [if_pos (by simpa using hz)])
    go_wp2
    have BT := Lib.hid (show Blk w.heap.size (((((((((w1.setCell ⟨w.heap.size + 1, 0, none⟩ (.int .i64 0)).setCell ⟨w.heap.size + 1, 1, none⟩ (.int .i64 0)).setCell ⟨w.heap.size + 1, 2, none⟩ (.int .i64 0)).setCell ⟨w.heap.size + 1, 3, none⟩ (.int .i64 0)).setCell ⟨w.heap.size + 1, 4, none⟩ (.int .i64 0)).setCell ⟨w.heap.size + 1, 5, none⟩ (.int .i64 0)).setCell ⟨w.heap.size + 1, 6, none⟩ (.int .i64 0)).setCell ⟨w.heap.size + 1, 7, none⟩ (.int .i64 0))) (w.heap.size + 1) [.int .i64 0, .int .i64 0, .int .i64 0, .int .i64 0, .int .i64 0, .int .i64 0, .int .i64 0, .int .i64 0] from (((((((((H11.out.set (i := 0) (by simp) (.int .i64 0)).set (i := 1) (by simp) (.int .i64 0)).set (i := 2) (by simp) (.int .i64 0)).set (i := 3) (by simp) (.int .i64 0)).set (i := 4) (by simp) (.int .i64 0)).set (i := 5) (by simp) (.int .i64 0)).set (i := 6) (by simp) (.int .i64 0)).set (i := 7) (by simp) (.int .i64 0))))
    have BB := Lib.hid (show Below w.heap.size w (((((((((w1.setCell ⟨w.heap.size + 1, 0, none⟩ (.int .i64 0)).setCell ⟨w.heap.size + 1, 1, none⟩ (.int .i64 0)).setCell ⟨w.heap.size + 1, 2, none⟩ (.int .i64 0)).setCell ⟨w.heap.size + 1, 3, none⟩ (.int .i64 0)).setCell ⟨w.heap.size + 1, 4, none⟩ (.int .i64 0)).setCell ⟨w.heap.size + 1, 5, none⟩ (.int .i64 0)).setCell ⟨w.heap.size + 1, 6, none⟩ (.int .i64 0)).setCell ⟨w.heap.size + 1, 7, none⟩ (.int .i64 0))) from (((((((((BL1.out.setCell (p := ⟨w.heap.size + 1, 0, none⟩) (Nat.le_succ _) (.int .i64 0)).setCell (p := ⟨w.heap.size + 1, 1, none⟩) (Nat.le_succ _) (.int .i64 0)).setCell (p := ⟨w.heap.size + 1, 2, none⟩) (Nat.le_succ _) (.int .i64 0)).setCell (p := ⟨w.heap.size + 1, 3, none⟩) (Nat.le_succ _) (.int .i64 0)).setCell (p := ⟨w.heap.size + 1, 4, none⟩) (Nat.le_succ _) (.int .i64 0)).setCell (p := ⟨w.heap.size + 1, 5, none⟩) (Nat.le_succ _) (.int .i64 0)).setCell (p := ⟨w.heap.size + 1, 6, none⟩) (Nat.le_succ _) (.int .i64 0)).setCell (p := ⟨w.heap.size + 1, 7, none⟩) (Nat.le_succ _) (.int .i64 0))))
    generalize (((((((((w1.setCell ⟨w.heap.size + 1, 0, none⟩ (.int .i64 0)).setCell ⟨w.heap.size + 1, 1, none⟩ (.int .i64 0)).setCell ⟨w.heap.size + 1, 2, none⟩ (.int .i64 0)).setCell ⟨w.heap.size + 1, 3, none⟩ (.int .i64 0)).setCell ⟨w.heap.size + 1, 4, none⟩ (.int .i64 0)).setCell ⟨w.heap.size + 1, 5, none⟩ (.int .i64 0)).setCell ⟨w.heap.size + 1, 6, none⟩ (.int .i64 0)).setCell ⟨w.heap.size + 1, 7, none⟩ (.int .i64 0))) = WF at *
    have r0 := BT.out.cell 0 _ rfl; have r1 := BT.out.cell 1 _ rfl; have r2 := BT.out.cell 2 _ rfl; have r3 := BT.out.cell 3 _ rfl; have r4 := BT.out.cell 4 _ rfl; have r5 := BT.out.cell 5 _ rfl; have r6 := BT.out.cell 6 _ rfl; have r7 := BT.out.cell 7 _ rfl
    refine bodyPost_ret (v := .tuple #[.agg #[.int .i64 0, .int .i64 0, .int .i64 0, .int .i64 0, .int .i64 0, .int .i64 0, .int .i64 0, .int .i64 0], vI 0, .slice none 0 0, vI (wrongR l f)]) (by simp [results, Try.f14, go_sem, r0, r1, r2, r3, r4, r5, r6, r7]) rfl ⟨⟨.slice none 0 0, ?_, ?_⟩, BB.out⟩
    · rw [HE.out]; rfl
    · rw [HE.out]; exact RdL.nil (by simp [maxLen])
end Go.Proofs.Ytdelngmbpjgphaa
