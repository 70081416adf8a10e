/- slices.Index and Contains at edges. -/
import Derived.Test.YthbbecmffndgdabDoorPairRow
import Derived.Test.YthbbecmffndgdabDoorBlk
import Derived.Test.YthbbecmffndgdabDoorIntA
import Derived.BigQuiet
namespace Go.Proofs.YthbbecmffndgdabDoor
open Go.RowKit
set_option linter.unusedVariables false
theorem takeP_contains (l : List (Int × Int)) (x : Int × Int) (q : Nat) (h : q < l.length) : (l.take (q + 1)).contains x = ((l.take q).contains x || (x == l[q])) := by
  rw [List.take_succ_eq_append_getElem h]
  rw [Bool.eq_iff_iff, Bool.or_eq_true, List.contains_iff_mem, List.contains_iff_mem, List.mem_append, List.mem_singleton, beq_iff_eq]
set_option maxHeartbeats 800000 in
theorem indexE (l : List (Int × Int)) (x y : Int) (w : World) (S : Blocks) (v : Value) (hS : Sub S (Upto w.heap.size)) (r : RdP w S l v) :
    Calls Tryd.prog 56 #[v, .agg #[.int .i64 x, .int .i64 y]] w fun e w' => (∃ k : Int, e = .returned (.int .i64 k) ∧ -1 ≤ k ∧ k ≤ l.length ∧ decide (0 ≤ k) = l.contains (x, y)) ∧ Below w.heap.size w w' := by
  obtain ⟨A, cap, rfl, hl, hcm, hby⟩ := r.form
  unfold maxLen at hcm
  have R := Lib.hid r
  have HS := Lib.hid hS
  have b0 := Blk.made w [.int .i64 x, .int .i64 y] 48 (base := 0) (Nat.zero_le _)
  have bl : Below w.heap.size w (w.alloc (.cells #[.int .i64 x, .int .i64 y] 48)) := (Below.refl _ _).alloc (Nat.le_refl _) _
  have B0 := Lib.hid b0
  have BL := Lib.hid bl
  clear r hS b0 bl
  go_enter Tryd.func56, Tryd.ntmps56
  go_upto_region 1 with (fail)
  generalize (w.alloc (.cells #[.int .i64 x, .int .i64 y] 48)) = W0 at *
  go_wp2
  go_loopw [8] (fun t wr => ∃ q : Nat, q ≤ l.length ∧ t = .int .i64 q ∧ Hid ((l.take q).contains (x, y) = false) ∧ Hid (Blk 0 wr w.heap.size [.int .i64 x, .int .i64 y]) ∧ Below w.heap.size w wr) (fun t _ => l.length - (intOf t).toNat)
  case atStart => exact ⟨0, by omega, rfl, Lib.hid rfl, B0, BL.out⟩
  case round =>
    clear B0 BL
    obtain ⟨q, hq, rfl, HQ, B, hb⟩ := hrel
    have k0 := B.out.cell 0 _ rfl
    have k1 := B.out.cell 1 _ rfl
    by_cases hlt : q < l.length
    · obtain ⟨bb, off, rfl, _, hok, hc1, hc2⟩ := RdP.at1 (R.out.go Flat.keeps hb HS.out (Sub.refl _)) hlt
      obtain ⟨c, d, hcd⟩ : ∃ c d, l[q] = (c, d) := ⟨_, _, rfl⟩
      have HT := Lib.hid (takeP_contains l (x, y) q hlt)
      rw [hcd] at hc1 hc2 HT
      have HD := Lib.hid (fun n => B.out.drewN n)
      have HBD := Lib.hid (fun n => below_drewN hb n)
      simp only at hc1 hc2
      clear hok hcd hb B
      by_cases h12 : x = c ∧ y = d
      · obtain ⟨h1, h2⟩ := h12
        have HF := Lib.hid (show l.contains (x, y) = true from by
          have h : (l.take (q + 1)).contains (x, y) = true := by rw [HT.out, h1, h2]; simp
          rw [List.contains_iff_mem] at h ⊢
          exact List.mem_of_mem_take h)
        subst h1 h2
        clear HT
        go_wp2
        go_quiet (fail)
        go_wp2
        go_ret
        exact ⟨⟨(q : Int), rfl, by omega, by omega, by rw [HF.out]; simp⟩, HBD.out _⟩
      · have HQ2 := Lib.hid (show (l.take (q + 1)).contains (x, y) = false by
          rw [HT.out, HQ.out, Bool.false_or]
          cases he : ((x, y) == (c, d))
          · rfl
          · have := eq_of_beq he
            injection this with a b
            exact absurd ⟨a, b⟩ h12)
        clear HT
        by_cases h1 : x = c
        · have h2 : ¬ y = d := fun e => h12 ⟨h1, e⟩
          have hb2 : (y == d) = false := by simp [h2]
          subst h1
          clear h12
          go_wp2
          go_quiet (fail)
          go_wp2
          go_roundw
          case rel => exact ⟨q + 1, by omega, by go_num, HQ2, Lib.hid (HD.out _), HBD.out _⟩
          case measure => simp [intOf]; omega
        · have hb1 : (x == c) = false := by simp [h1]
          clear h12
          go_wp2
          go_quiet (fail)
          go_wp2
          go_roundw
          case rel => exact ⟨q + 1, by omega, by go_num, HQ2, Lib.hid (HD.out _), HBD.out _⟩
          case measure => simp [intOf]; omega
    · have hqe : q = l.length := by omega
      subst hqe
      have HF := Lib.hid (show l.contains (x, y) = false by have := HQ.out; rw [List.take_length] at this; exact this)
      clear HQ
      go_wp2
      go_ret
      exact ⟨⟨-1, rfl, by omega, by omega, by rw [HF.out]; rfl⟩, hb⟩
set_option maxHeartbeats 800000 in
theorem containsE (l : List (Int × Int)) (x y : Int) (w : World) (S : Blocks) (v : Value) (hS : Sub S (Upto w.heap.size)) (r : RdP w S l v) :
    Calls Tryd.prog 42 #[v, .agg #[.int .i64 x, .int .i64 y]] w fun e w' => e = .returned (.bool (l.contains (x, y))) ∧ Below w.heap.size w w' := by
  --(w.alloc (.cells #[.int .i64 x, .int .i64 y] 48)) = (w.alloc (.cells #[.int .i64 x, .int .i64 y] 48))
  have b0 := Blk.made w [.int .i64 x, .int .i64 y] 48 (base := 0) (Nat.zero_le _)
  have bl : Below w.heap.size w (w.alloc (.cells #[.int .i64 x, .int .i64 y] 48)) := (Below.refl _ _).alloc (Nat.le_refl _) _
  have k0 := b0.cell 0 _ rfl
  have k1 := b0.cell 1 _ rfl
  have BL := Lib.hid bl
  have C := Lib.hid (indexE l x y (w.alloc (.cells #[.int .i64 x, .int .i64 y] 48)) S v (hS.trans (Sub.upto bl.size)) (r.go Flat.keeps bl hS (Sub.refl _)))
  clear r hS b0 bl
  go_enter Tryd.func42, Tryd.ntmps42
  go_upto_region 1 with (fail)
  generalize (w.alloc (.cells #[.int .i64 x, .int .i64 y] 48)) = W0 at *
  go_wp2_with fail
  refine C.out.mono ?_
  rintro e w' ⟨⟨k, rfl, h1, h2, h3⟩, hb⟩
  have BZ := Lib.hid (BL.out.trans (hb.mono BL.out.size))
  have HK := Lib.hid h3
  clear hb k0 k1 h3
  go_wp2
  go_ret
  exact ⟨by rw [← HK.out]; rfl, BZ.out⟩
end Go.Proofs.YthbbecmffndgdabDoor
