/- The walk of phaser's do. -/
import Derived.Test.YthbbecmffndgdaaPh1
namespace Go.Proofs.Ythbbecmffndgdaa
open Go.RowKit
set_option linter.unusedVariables false
def DoOut (b : Nat) (s : PhS) (o : PhO) (w : World) (e : Ending) (w' : World) : Prop :=
  e = .returned (.agg #[.int .i64 (doP s o).2.1, .int .i64 (doP s o).2.2]) ∧ Blk 0 w' b (phCells (doP s o).1) ∧ But (Is b) w w'
theorem doOut {b : Nat} {s s' : PhS} {o : PhO} {w w' : World} {x y : Int} (h : doP s o = (s', x, y)) (r : Blk 0 w' b (phCells s')) (hb : But (Is b) w w') : DoOut b s o w (.returned (.agg #[.int .i64 x, .int .i64 y])) w' := by
  unfold DoOut
  rw [h]
  exact ⟨rfl, r, hb⟩
set_option maxHeartbeats 1000000 in
set_option maxRecDepth 100000 in
theorem do_k1e7 (s : PhS) (ok : PhOk s) (hph : s.ph < 9223372036854775807) (who by_ : Int) (hf : freeP s by_ = 7) (b : Nat) (w : World) (r : Blk 0 w b (phCells s)) :
    Calls Try.prog 28 #[.pointer (some ⟨b, 0, none⟩), .agg #[.int .i64 1, .int .i64 who, .int .i64 by_]] w (DoOut b s ⟨1, who, by_⟩ w) := by
  have HD := Lib.hid (show doP s ⟨1, who, by_⟩ = (s, 7, 0) by unfold doP errP whoP; simp [hf])
  have HR := Lib.hid r
  have HF := Lib.hid hf
  have hbw := r.lt
  clear r hf
  go_enter Try.func28, Try.ntmps28
  go_upto_region 6 with (fail)
  obtain ⟨ob, hob⟩ : ∃ ob, ob = w.heap.size := ⟨_, rfl⟩
  obtain ⟨rb, hrb⟩ : ∃ rb, rb = w.heap.size + 1 := ⟨_, rfl⟩
  have k1 := (Blk.made w [.int .i64 1, .int .i64 who, .int .i64 by_] 68 (base := 0) (Nat.zero_le _)).below ((Below.refl _ _).alloc (Nat.le_refl _) (.cells #[.int .i64 0, .int .i64 0] 33))
  have k2 := Blk.made (w.alloc (.cells #[.int .i64 1, .int .i64 who, .int .i64 by_] 68)) [.int .i64 0, .int .i64 0] 33 (base := 0) (Nat.zero_le _)
  have e2 : (w.alloc (.cells #[.int .i64 1, .int .i64 who, .int .i64 by_] 68)).heap.size = rb := by rw [hrb]; simp
  have HB := Lib.hid (((But.refl (Is b) w).alloc (.cells #[.int .i64 1, .int .i64 who, .int .i64 by_] 68)).alloc (.cells #[.int .i64 0, .int .i64 0] 33))
  have HP := Lib.hid (HR.out.but (T := Nowhere) (((But.refl Nowhere w).alloc (.cells #[.int .i64 1, .int .i64 who, .int .i64 by_] 68)).alloc (.cells #[.int .i64 0, .int .i64 0] 33)) (fun h => h))
  rw [e2] at k2
  rw [← hob] at k1
  rw [← hrb, ← hob]
  have hor : ob ≠ rb := by omega
  have hbo : b ≠ ob := by omega
  have hbr : b ≠ rb := by omega
  have hrw : w.heap.size ≤ rb := by omega
  have KO := Lib.hid k1
  have KR := Lib.hid k2
  clear hob hrb e2 k1 k2 HR hbw
  generalize (w.alloc (.cells #[.int .i64 1, .int .i64 who, .int .i64 by_] 68)).alloc (.cells #[.int .i64 0, .int .i64 0] 33) = W at *
  have c0 := KO.out.cell 0 _ rfl
  have c1 := KO.out.cell 1 _ rfl
  have c2 := KO.out.cell 2 _ rfl
  go_wp2_with (go_at_call 58; refine (free_any s ok by_ b _ HP.out).mono ?_; rintro e w' ⟨rfl, rfl⟩; rw [HF.out])
  go_quiet (fail)
  have KO1 := Lib.hid (KO.out.drewN nq)
  have KR1 := Lib.hid (KR.out.drewN nq)
  have HP1 := Lib.hid (HP.out.drewN nq)
  have HB1 := Lib.hid (HB.out.drewN nq)
  generalize W.drewN nq = W1 at *
  clear KO KR HP HB c0 c1 c2
  have c0 := KO1.out.cell 0 _ rfl
  have c1 := KO1.out.cell 1 _ rfl
  have c2 := KO1.out.cell 2 _ rfl
  have d0 := KR1.out.cell 0 _ rfl
  have d1 := KR1.out.cell 1 _ rfl
  have f0 := KR1.out.fr 0
  have f1 := KR1.out.fr 1
  have cp := phP_at ok HP1.out
  go_wp2
  have K3 := Lib.hid ((KR1.out.set (i := 0) (by simp) (.int .i64 7)).set (i := 1) (by simp) (.int .i64 0))
  have P3 := Lib.hid ((HP1.out.other (p := ⟨rb, 0, none⟩) hbr.symm (.int .i64 7)).other (p := ⟨rb, 1, none⟩) hbr.symm (.int .i64 0))
  have B3 := Lib.hid ((HB1.out.setNew (p := ⟨rb, 0, none⟩) (.inr hrw) (.int .i64 7)).setNew (p := ⟨rb, 1, none⟩) (.inr hrw) (.int .i64 0))
  generalize (W1.setCell ⟨rb, 0, none⟩ (.int .i64 7)).setCell ⟨rb, 1, none⟩ (.int .i64 0) = W3 at K3 P3 B3 ⊢
  have r0 := K3.out.cell 0 _ rfl
  have r1 := K3.out.cell 1 _ rfl
  refine bodyPost_ret (v := .agg #[.int .i64 7, .int .i64 0]) (by simp [results, Try.results28, go_sem, r0, r1]) rfl ?_
  exact doOut HD.out P3.out B3.out
set_option maxHeartbeats 1000000 in
set_option maxRecDepth 100000 in
theorem do_k1e8 (s : PhS) (ok : PhOk s) (hph : s.ph < 9223372036854775807) (who by_ : Int) (hf : freeP s by_ = 8) (b : Nat) (w : World) (r : Blk 0 w b (phCells s)) :
    Calls Try.prog 28 #[.pointer (some ⟨b, 0, none⟩), .agg #[.int .i64 1, .int .i64 who, .int .i64 by_]] w (DoOut b s ⟨1, who, by_⟩ w) := by
  have HD := Lib.hid (show doP s ⟨1, who, by_⟩ = (s, 8, 0) by unfold doP errP whoP; simp [hf])
  have HR := Lib.hid r
  have HF := Lib.hid hf
  have hbw := r.lt
  clear r hf
  go_enter Try.func28, Try.ntmps28
  go_upto_region 6 with (fail)
  obtain ⟨ob, hob⟩ : ∃ ob, ob = w.heap.size := ⟨_, rfl⟩
  obtain ⟨rb, hrb⟩ : ∃ rb, rb = w.heap.size + 1 := ⟨_, rfl⟩
  have k1 := (Blk.made w [.int .i64 1, .int .i64 who, .int .i64 by_] 68 (base := 0) (Nat.zero_le _)).below ((Below.refl _ _).alloc (Nat.le_refl _) (.cells #[.int .i64 0, .int .i64 0] 33))
  have k2 := Blk.made (w.alloc (.cells #[.int .i64 1, .int .i64 who, .int .i64 by_] 68)) [.int .i64 0, .int .i64 0] 33 (base := 0) (Nat.zero_le _)
  have e2 : (w.alloc (.cells #[.int .i64 1, .int .i64 who, .int .i64 by_] 68)).heap.size = rb := by rw [hrb]; simp
  have HB := Lib.hid (((But.refl (Is b) w).alloc (.cells #[.int .i64 1, .int .i64 who, .int .i64 by_] 68)).alloc (.cells #[.int .i64 0, .int .i64 0] 33))
  have HP := Lib.hid (HR.out.but (T := Nowhere) (((But.refl Nowhere w).alloc (.cells #[.int .i64 1, .int .i64 who, .int .i64 by_] 68)).alloc (.cells #[.int .i64 0, .int .i64 0] 33)) (fun h => h))
  rw [e2] at k2
  rw [← hob] at k1
  rw [← hrb, ← hob]
  have hor : ob ≠ rb := by omega
  have hbo : b ≠ ob := by omega
  have hbr : b ≠ rb := by omega
  have hrw : w.heap.size ≤ rb := by omega
  have KO := Lib.hid k1
  have KR := Lib.hid k2
  clear hob hrb e2 k1 k2 HR hbw
  generalize (w.alloc (.cells #[.int .i64 1, .int .i64 who, .int .i64 by_] 68)).alloc (.cells #[.int .i64 0, .int .i64 0] 33) = W at *
  have c0 := KO.out.cell 0 _ rfl
  have c1 := KO.out.cell 1 _ rfl
  have c2 := KO.out.cell 2 _ rfl
  go_wp2_with (go_at_call 58; refine (free_any s ok by_ b _ HP.out).mono ?_; rintro e w' ⟨rfl, rfl⟩; rw [HF.out])
  go_quiet (fail)
  have KO1 := Lib.hid (KO.out.drewN nq)
  have KR1 := Lib.hid (KR.out.drewN nq)
  have HP1 := Lib.hid (HP.out.drewN nq)
  have HB1 := Lib.hid (HB.out.drewN nq)
  generalize W.drewN nq = W1 at *
  clear KO KR HP HB c0 c1 c2
  have c0 := KO1.out.cell 0 _ rfl
  have c1 := KO1.out.cell 1 _ rfl
  have c2 := KO1.out.cell 2 _ rfl
  have d0 := KR1.out.cell 0 _ rfl
  have d1 := KR1.out.cell 1 _ rfl
  have f0 := KR1.out.fr 0
  have f1 := KR1.out.fr 1
  have cp := phP_at ok HP1.out
  go_wp2
  have K3 := Lib.hid ((KR1.out.set (i := 0) (by simp) (.int .i64 8)).set (i := 1) (by simp) (.int .i64 0))
  have P3 := Lib.hid ((HP1.out.other (p := ⟨rb, 0, none⟩) hbr.symm (.int .i64 8)).other (p := ⟨rb, 1, none⟩) hbr.symm (.int .i64 0))
  have B3 := Lib.hid ((HB1.out.setNew (p := ⟨rb, 0, none⟩) (.inr hrw) (.int .i64 8)).setNew (p := ⟨rb, 1, none⟩) (.inr hrw) (.int .i64 0))
  generalize (W1.setCell ⟨rb, 0, none⟩ (.int .i64 8)).setCell ⟨rb, 1, none⟩ (.int .i64 0) = W3 at K3 P3 B3 ⊢
  have r0 := K3.out.cell 0 _ rfl
  have r1 := K3.out.cell 1 _ rfl
  refine bodyPost_ret (v := .agg #[.int .i64 8, .int .i64 0]) (by simp [results, Try.results28, go_sem, r0, r1]) rfl ?_
  exact doOut HD.out P3.out B3.out
set_option maxHeartbeats 1000000 in
set_option maxRecDepth 100000 in
theorem do_k2e7 (s : PhS) (ok : PhOk s) (hph : s.ph < 9223372036854775807) (who by_ : Int) (hf : freeP s who = 7) (b : Nat) (w : World) (r : Blk 0 w b (phCells s)) :
    Calls Try.prog 28 #[.pointer (some ⟨b, 0, none⟩), .agg #[.int .i64 2, .int .i64 who, .int .i64 by_]] w (DoOut b s ⟨2, who, by_⟩ w) := by
  have HD := Lib.hid (show doP s ⟨2, who, by_⟩ = (s, 7, 0) by unfold doP errP whoP; simp [hf])
  have HR := Lib.hid r
  have HF := Lib.hid hf
  have hbw := r.lt
  clear r hf
  go_enter Try.func28, Try.ntmps28
  go_upto_region 6 with (fail)
  obtain ⟨ob, hob⟩ : ∃ ob, ob = w.heap.size := ⟨_, rfl⟩
  obtain ⟨rb, hrb⟩ : ∃ rb, rb = w.heap.size + 1 := ⟨_, rfl⟩
  have k1 := (Blk.made w [.int .i64 2, .int .i64 who, .int .i64 by_] 68 (base := 0) (Nat.zero_le _)).below ((Below.refl _ _).alloc (Nat.le_refl _) (.cells #[.int .i64 0, .int .i64 0] 33))
  have k2 := Blk.made (w.alloc (.cells #[.int .i64 2, .int .i64 who, .int .i64 by_] 68)) [.int .i64 0, .int .i64 0] 33 (base := 0) (Nat.zero_le _)
  have e2 : (w.alloc (.cells #[.int .i64 2, .int .i64 who, .int .i64 by_] 68)).heap.size = rb := by rw [hrb]; simp
  have HB := Lib.hid (((But.refl (Is b) w).alloc (.cells #[.int .i64 2, .int .i64 who, .int .i64 by_] 68)).alloc (.cells #[.int .i64 0, .int .i64 0] 33))
  have HP := Lib.hid (HR.out.but (T := Nowhere) (((But.refl Nowhere w).alloc (.cells #[.int .i64 2, .int .i64 who, .int .i64 by_] 68)).alloc (.cells #[.int .i64 0, .int .i64 0] 33)) (fun h => h))
  rw [e2] at k2
  rw [← hob] at k1
  rw [← hrb, ← hob]
  have hor : ob ≠ rb := by omega
  have hbo : b ≠ ob := by omega
  have hbr : b ≠ rb := by omega
  have hrw : w.heap.size ≤ rb := by omega
  have KO := Lib.hid k1
  have KR := Lib.hid k2
  clear hob hrb e2 k1 k2 HR hbw
  generalize (w.alloc (.cells #[.int .i64 2, .int .i64 who, .int .i64 by_] 68)).alloc (.cells #[.int .i64 0, .int .i64 0] 33) = W at *
  have c0 := KO.out.cell 0 _ rfl
  have c1 := KO.out.cell 1 _ rfl
  have c2 := KO.out.cell 2 _ rfl
  go_wp2_with (go_at_call 58; refine (free_any s ok who b _ HP.out).mono ?_; rintro e w' ⟨rfl, rfl⟩; rw [HF.out])
  go_quiet (fail)
  have KO1 := Lib.hid (KO.out.drewN nq)
  have KR1 := Lib.hid (KR.out.drewN nq)
  have HP1 := Lib.hid (HP.out.drewN nq)
  have HB1 := Lib.hid (HB.out.drewN nq)
  generalize W.drewN nq = W1 at *
  clear KO KR HP HB c0 c1 c2
  have c0 := KO1.out.cell 0 _ rfl
  have c1 := KO1.out.cell 1 _ rfl
  have c2 := KO1.out.cell 2 _ rfl
  have d0 := KR1.out.cell 0 _ rfl
  have d1 := KR1.out.cell 1 _ rfl
  have f0 := KR1.out.fr 0
  have f1 := KR1.out.fr 1
  have cp := phP_at ok HP1.out
  go_wp2
  have K3 := Lib.hid ((KR1.out.set (i := 0) (by simp) (.int .i64 7)).set (i := 1) (by simp) (.int .i64 0))
  have P3 := Lib.hid ((HP1.out.other (p := ⟨rb, 0, none⟩) hbr.symm (.int .i64 7)).other (p := ⟨rb, 1, none⟩) hbr.symm (.int .i64 0))
  have B3 := Lib.hid ((HB1.out.setNew (p := ⟨rb, 0, none⟩) (.inr hrw) (.int .i64 7)).setNew (p := ⟨rb, 1, none⟩) (.inr hrw) (.int .i64 0))
  generalize (W1.setCell ⟨rb, 0, none⟩ (.int .i64 7)).setCell ⟨rb, 1, none⟩ (.int .i64 0) = W3 at K3 P3 B3 ⊢
  have r0 := K3.out.cell 0 _ rfl
  have r1 := K3.out.cell 1 _ rfl
  refine bodyPost_ret (v := .agg #[.int .i64 7, .int .i64 0]) (by simp [results, Try.results28, go_sem, r0, r1]) rfl ?_
  exact doOut HD.out P3.out B3.out
set_option maxHeartbeats 1000000 in
set_option maxRecDepth 100000 in
theorem do_k2e8 (s : PhS) (ok : PhOk s) (hph : s.ph < 9223372036854775807) (who by_ : Int) (hf : freeP s who = 8) (b : Nat) (w : World) (r : Blk 0 w b (phCells s)) :
    Calls Try.prog 28 #[.pointer (some ⟨b, 0, none⟩), .agg #[.int .i64 2, .int .i64 who, .int .i64 by_]] w (DoOut b s ⟨2, who, by_⟩ w) := by
  have HD := Lib.hid (show doP s ⟨2, who, by_⟩ = (s, 8, 0) by unfold doP errP whoP; simp [hf])
  have HR := Lib.hid r
  have HF := Lib.hid hf
  have hbw := r.lt
  clear r hf
  go_enter Try.func28, Try.ntmps28
  go_upto_region 6 with (fail)
  obtain ⟨ob, hob⟩ : ∃ ob, ob = w.heap.size := ⟨_, rfl⟩
  obtain ⟨rb, hrb⟩ : ∃ rb, rb = w.heap.size + 1 := ⟨_, rfl⟩
  have k1 := (Blk.made w [.int .i64 2, .int .i64 who, .int .i64 by_] 68 (base := 0) (Nat.zero_le _)).below ((Below.refl _ _).alloc (Nat.le_refl _) (.cells #[.int .i64 0, .int .i64 0] 33))
  have k2 := Blk.made (w.alloc (.cells #[.int .i64 2, .int .i64 who, .int .i64 by_] 68)) [.int .i64 0, .int .i64 0] 33 (base := 0) (Nat.zero_le _)
  have e2 : (w.alloc (.cells #[.int .i64 2, .int .i64 who, .int .i64 by_] 68)).heap.size = rb := by rw [hrb]; simp
  have HB := Lib.hid (((But.refl (Is b) w).alloc (.cells #[.int .i64 2, .int .i64 who, .int .i64 by_] 68)).alloc (.cells #[.int .i64 0, .int .i64 0] 33))
  have HP := Lib.hid (HR.out.but (T := Nowhere) (((But.refl Nowhere w).alloc (.cells #[.int .i64 2, .int .i64 who, .int .i64 by_] 68)).alloc (.cells #[.int .i64 0, .int .i64 0] 33)) (fun h => h))
  rw [e2] at k2
  rw [← hob] at k1
  rw [← hrb, ← hob]
  have hor : ob ≠ rb := by omega
  have hbo : b ≠ ob := by omega
  have hbr : b ≠ rb := by omega
  have hrw : w.heap.size ≤ rb := by omega
  have KO := Lib.hid k1
  have KR := Lib.hid k2
  clear hob hrb e2 k1 k2 HR hbw
  generalize (w.alloc (.cells #[.int .i64 2, .int .i64 who, .int .i64 by_] 68)).alloc (.cells #[.int .i64 0, .int .i64 0] 33) = W at *
  have c0 := KO.out.cell 0 _ rfl
  have c1 := KO.out.cell 1 _ rfl
  have c2 := KO.out.cell 2 _ rfl
  go_wp2_with (go_at_call 58; refine (free_any s ok who b _ HP.out).mono ?_; rintro e w' ⟨rfl, rfl⟩; rw [HF.out])
  go_quiet (fail)
  have KO1 := Lib.hid (KO.out.drewN nq)
  have KR1 := Lib.hid (KR.out.drewN nq)
  have HP1 := Lib.hid (HP.out.drewN nq)
  have HB1 := Lib.hid (HB.out.drewN nq)
  generalize W.drewN nq = W1 at *
  clear KO KR HP HB c0 c1 c2
  have c0 := KO1.out.cell 0 _ rfl
  have c1 := KO1.out.cell 1 _ rfl
  have c2 := KO1.out.cell 2 _ rfl
  have d0 := KR1.out.cell 0 _ rfl
  have d1 := KR1.out.cell 1 _ rfl
  have f0 := KR1.out.fr 0
  have f1 := KR1.out.fr 1
  have cp := phP_at ok HP1.out
  go_wp2
  have K3 := Lib.hid ((KR1.out.set (i := 0) (by simp) (.int .i64 8)).set (i := 1) (by simp) (.int .i64 0))
  have P3 := Lib.hid ((HP1.out.other (p := ⟨rb, 0, none⟩) hbr.symm (.int .i64 8)).other (p := ⟨rb, 1, none⟩) hbr.symm (.int .i64 0))
  have B3 := Lib.hid ((HB1.out.setNew (p := ⟨rb, 0, none⟩) (.inr hrw) (.int .i64 8)).setNew (p := ⟨rb, 1, none⟩) (.inr hrw) (.int .i64 0))
  generalize (W1.setCell ⟨rb, 0, none⟩ (.int .i64 8)).setCell ⟨rb, 1, none⟩ (.int .i64 0) = W3 at K3 P3 B3 ⊢
  have r0 := K3.out.cell 0 _ rfl
  have r1 := K3.out.cell 1 _ rfl
  refine bodyPost_ret (v := .agg #[.int .i64 8, .int .i64 0]) (by simp [results, Try.results28, go_sem, r0, r1]) rfl ?_
  exact doOut HD.out P3.out B3.out
set_option maxHeartbeats 1000000 in
set_option maxRecDepth 100000 in
theorem do_k3e7 (s : PhS) (ok : PhOk s) (hph : s.ph < 9223372036854775807) (who by_ : Int) (hf : freeP s who = 7) (b : Nat) (w : World) (r : Blk 0 w b (phCells s)) :
    Calls Try.prog 28 #[.pointer (some ⟨b, 0, none⟩), .agg #[.int .i64 3, .int .i64 who, .int .i64 by_]] w (DoOut b s ⟨3, who, by_⟩ w) := by
  have HD := Lib.hid (show doP s ⟨3, who, by_⟩ = (s, 7, 0) by unfold doP errP whoP; simp [hf])
  have HR := Lib.hid r
  have HF := Lib.hid hf
  have hbw := r.lt
  clear r hf
  go_enter Try.func28, Try.ntmps28
  go_upto_region 6 with (fail)
  obtain ⟨ob, hob⟩ : ∃ ob, ob = w.heap.size := ⟨_, rfl⟩
  obtain ⟨rb, hrb⟩ : ∃ rb, rb = w.heap.size + 1 := ⟨_, rfl⟩
  have k1 := (Blk.made w [.int .i64 3, .int .i64 who, .int .i64 by_] 68 (base := 0) (Nat.zero_le _)).below ((Below.refl _ _).alloc (Nat.le_refl _) (.cells #[.int .i64 0, .int .i64 0] 33))
  have k2 := Blk.made (w.alloc (.cells #[.int .i64 3, .int .i64 who, .int .i64 by_] 68)) [.int .i64 0, .int .i64 0] 33 (base := 0) (Nat.zero_le _)
  have e2 : (w.alloc (.cells #[.int .i64 3, .int .i64 who, .int .i64 by_] 68)).heap.size = rb := by rw [hrb]; simp
  have HB := Lib.hid (((But.refl (Is b) w).alloc (.cells #[.int .i64 3, .int .i64 who, .int .i64 by_] 68)).alloc (.cells #[.int .i64 0, .int .i64 0] 33))
  have HP := Lib.hid (HR.out.but (T := Nowhere) (((But.refl Nowhere w).alloc (.cells #[.int .i64 3, .int .i64 who, .int .i64 by_] 68)).alloc (.cells #[.int .i64 0, .int .i64 0] 33)) (fun h => h))
  rw [e2] at k2
  rw [← hob] at k1
  rw [← hrb, ← hob]
  have hor : ob ≠ rb := by omega
  have hbo : b ≠ ob := by omega
  have hbr : b ≠ rb := by omega
  have hrw : w.heap.size ≤ rb := by omega
  have KO := Lib.hid k1
  have KR := Lib.hid k2
  clear hob hrb e2 k1 k2 HR hbw
  generalize (w.alloc (.cells #[.int .i64 3, .int .i64 who, .int .i64 by_] 68)).alloc (.cells #[.int .i64 0, .int .i64 0] 33) = W at *
  have c0 := KO.out.cell 0 _ rfl
  have c1 := KO.out.cell 1 _ rfl
  have c2 := KO.out.cell 2 _ rfl
  go_wp2_with (go_at_call 58; refine (free_any s ok who b _ HP.out).mono ?_; rintro e w' ⟨rfl, rfl⟩; rw [HF.out])
  go_quiet (fail)
  have KO1 := Lib.hid (KO.out.drewN nq)
  have KR1 := Lib.hid (KR.out.drewN nq)
  have HP1 := Lib.hid (HP.out.drewN nq)
  have HB1 := Lib.hid (HB.out.drewN nq)
  generalize W.drewN nq = W1 at *
  clear KO KR HP HB c0 c1 c2
  have c0 := KO1.out.cell 0 _ rfl
  have c1 := KO1.out.cell 1 _ rfl
  have c2 := KO1.out.cell 2 _ rfl
  have d0 := KR1.out.cell 0 _ rfl
  have d1 := KR1.out.cell 1 _ rfl
  have f0 := KR1.out.fr 0
  have f1 := KR1.out.fr 1
  have cp := phP_at ok HP1.out
  go_wp2
  have K3 := Lib.hid ((KR1.out.set (i := 0) (by simp) (.int .i64 7)).set (i := 1) (by simp) (.int .i64 0))
  have P3 := Lib.hid ((HP1.out.other (p := ⟨rb, 0, none⟩) hbr.symm (.int .i64 7)).other (p := ⟨rb, 1, none⟩) hbr.symm (.int .i64 0))
  have B3 := Lib.hid ((HB1.out.setNew (p := ⟨rb, 0, none⟩) (.inr hrw) (.int .i64 7)).setNew (p := ⟨rb, 1, none⟩) (.inr hrw) (.int .i64 0))
  generalize (W1.setCell ⟨rb, 0, none⟩ (.int .i64 7)).setCell ⟨rb, 1, none⟩ (.int .i64 0) = W3 at K3 P3 B3 ⊢
  have r0 := K3.out.cell 0 _ rfl
  have r1 := K3.out.cell 1 _ rfl
  refine bodyPost_ret (v := .agg #[.int .i64 7, .int .i64 0]) (by simp [results, Try.results28, go_sem, r0, r1]) rfl ?_
  exact doOut HD.out P3.out B3.out
set_option maxHeartbeats 1000000 in
set_option maxRecDepth 100000 in
theorem do_k3e8 (s : PhS) (ok : PhOk s) (hph : s.ph < 9223372036854775807) (who by_ : Int) (hf : freeP s who = 8) (b : Nat) (w : World) (r : Blk 0 w b (phCells s)) :
    Calls Try.prog 28 #[.pointer (some ⟨b, 0, none⟩), .agg #[.int .i64 3, .int .i64 who, .int .i64 by_]] w (DoOut b s ⟨3, who, by_⟩ w) := by
  have HD := Lib.hid (show doP s ⟨3, who, by_⟩ = (s, 8, 0) by unfold doP errP whoP; simp [hf])
  have HR := Lib.hid r
  have HF := Lib.hid hf
  have hbw := r.lt
  clear r hf
  go_enter Try.func28, Try.ntmps28
  go_upto_region 6 with (fail)
  obtain ⟨ob, hob⟩ : ∃ ob, ob = w.heap.size := ⟨_, rfl⟩
  obtain ⟨rb, hrb⟩ : ∃ rb, rb = w.heap.size + 1 := ⟨_, rfl⟩
  have k1 := (Blk.made w [.int .i64 3, .int .i64 who, .int .i64 by_] 68 (base := 0) (Nat.zero_le _)).below ((Below.refl _ _).alloc (Nat.le_refl _) (.cells #[.int .i64 0, .int .i64 0] 33))
  have k2 := Blk.made (w.alloc (.cells #[.int .i64 3, .int .i64 who, .int .i64 by_] 68)) [.int .i64 0, .int .i64 0] 33 (base := 0) (Nat.zero_le _)
  have e2 : (w.alloc (.cells #[.int .i64 3, .int .i64 who, .int .i64 by_] 68)).heap.size = rb := by rw [hrb]; simp
  have HB := Lib.hid (((But.refl (Is b) w).alloc (.cells #[.int .i64 3, .int .i64 who, .int .i64 by_] 68)).alloc (.cells #[.int .i64 0, .int .i64 0] 33))
  have HP := Lib.hid (HR.out.but (T := Nowhere) (((But.refl Nowhere w).alloc (.cells #[.int .i64 3, .int .i64 who, .int .i64 by_] 68)).alloc (.cells #[.int .i64 0, .int .i64 0] 33)) (fun h => h))
  rw [e2] at k2
  rw [← hob] at k1
  rw [← hrb, ← hob]
  have hor : ob ≠ rb := by omega
  have hbo : b ≠ ob := by omega
  have hbr : b ≠ rb := by omega
  have hrw : w.heap.size ≤ rb := by omega
  have KO := Lib.hid k1
  have KR := Lib.hid k2
  clear hob hrb e2 k1 k2 HR hbw
  generalize (w.alloc (.cells #[.int .i64 3, .int .i64 who, .int .i64 by_] 68)).alloc (.cells #[.int .i64 0, .int .i64 0] 33) = W at *
  have c0 := KO.out.cell 0 _ rfl
  have c1 := KO.out.cell 1 _ rfl
  have c2 := KO.out.cell 2 _ rfl
  go_wp2_with (go_at_call 58; refine (free_any s ok who b _ HP.out).mono ?_; rintro e w' ⟨rfl, rfl⟩; rw [HF.out])
  go_quiet (fail)
  have KO1 := Lib.hid (KO.out.drewN nq)
  have KR1 := Lib.hid (KR.out.drewN nq)
  have HP1 := Lib.hid (HP.out.drewN nq)
  have HB1 := Lib.hid (HB.out.drewN nq)
  generalize W.drewN nq = W1 at *
  clear KO KR HP HB c0 c1 c2
  have c0 := KO1.out.cell 0 _ rfl
  have c1 := KO1.out.cell 1 _ rfl
  have c2 := KO1.out.cell 2 _ rfl
  have d0 := KR1.out.cell 0 _ rfl
  have d1 := KR1.out.cell 1 _ rfl
  have f0 := KR1.out.fr 0
  have f1 := KR1.out.fr 1
  have cp := phP_at ok HP1.out
  go_wp2
  have K3 := Lib.hid ((KR1.out.set (i := 0) (by simp) (.int .i64 8)).set (i := 1) (by simp) (.int .i64 0))
  have P3 := Lib.hid ((HP1.out.other (p := ⟨rb, 0, none⟩) hbr.symm (.int .i64 8)).other (p := ⟨rb, 1, none⟩) hbr.symm (.int .i64 0))
  have B3 := Lib.hid ((HB1.out.setNew (p := ⟨rb, 0, none⟩) (.inr hrw) (.int .i64 8)).setNew (p := ⟨rb, 1, none⟩) (.inr hrw) (.int .i64 0))
  generalize (W1.setCell ⟨rb, 0, none⟩ (.int .i64 8)).setCell ⟨rb, 1, none⟩ (.int .i64 0) = W3 at K3 P3 B3 ⊢
  have r0 := K3.out.cell 0 _ rfl
  have r1 := K3.out.cell 1 _ rfl
  refine bodyPost_ret (v := .agg #[.int .i64 8, .int .i64 0]) (by simp [results, Try.results28, go_sem, r0, r1]) rfl ?_
  exact doOut HD.out P3.out B3.out
set_option maxHeartbeats 1000000 in
set_option maxRecDepth 100000 in
theorem do_k4e7 (s : PhS) (ok : PhOk s) (hph : s.ph < 9223372036854775807) (who by_ : Int) (hf : freeP s who = 7) (b : Nat) (w : World) (r : Blk 0 w b (phCells s)) :
    Calls Try.prog 28 #[.pointer (some ⟨b, 0, none⟩), .agg #[.int .i64 4, .int .i64 who, .int .i64 by_]] w (DoOut b s ⟨4, who, by_⟩ w) := by
  have HD := Lib.hid (show doP s ⟨4, who, by_⟩ = (s, 7, 0) by unfold doP errP whoP; simp [hf])
  have HR := Lib.hid r
  have HF := Lib.hid hf
  have hbw := r.lt
  clear r hf
  go_enter Try.func28, Try.ntmps28
  go_upto_region 6 with (fail)
  obtain ⟨ob, hob⟩ : ∃ ob, ob = w.heap.size := ⟨_, rfl⟩
  obtain ⟨rb, hrb⟩ : ∃ rb, rb = w.heap.size + 1 := ⟨_, rfl⟩
  have k1 := (Blk.made w [.int .i64 4, .int .i64 who, .int .i64 by_] 68 (base := 0) (Nat.zero_le _)).below ((Below.refl _ _).alloc (Nat.le_refl _) (.cells #[.int .i64 0, .int .i64 0] 33))
  have k2 := Blk.made (w.alloc (.cells #[.int .i64 4, .int .i64 who, .int .i64 by_] 68)) [.int .i64 0, .int .i64 0] 33 (base := 0) (Nat.zero_le _)
  have e2 : (w.alloc (.cells #[.int .i64 4, .int .i64 who, .int .i64 by_] 68)).heap.size = rb := by rw [hrb]; simp
  have HB := Lib.hid (((But.refl (Is b) w).alloc (.cells #[.int .i64 4, .int .i64 who, .int .i64 by_] 68)).alloc (.cells #[.int .i64 0, .int .i64 0] 33))
  have HP := Lib.hid (HR.out.but (T := Nowhere) (((But.refl Nowhere w).alloc (.cells #[.int .i64 4, .int .i64 who, .int .i64 by_] 68)).alloc (.cells #[.int .i64 0, .int .i64 0] 33)) (fun h => h))
  rw [e2] at k2
  rw [← hob] at k1
  rw [← hrb, ← hob]
  have hor : ob ≠ rb := by omega
  have hbo : b ≠ ob := by omega
  have hbr : b ≠ rb := by omega
  have hrw : w.heap.size ≤ rb := by omega
  have KO := Lib.hid k1
  have KR := Lib.hid k2
  clear hob hrb e2 k1 k2 HR hbw
  generalize (w.alloc (.cells #[.int .i64 4, .int .i64 who, .int .i64 by_] 68)).alloc (.cells #[.int .i64 0, .int .i64 0] 33) = W at *
  have c0 := KO.out.cell 0 _ rfl
  have c1 := KO.out.cell 1 _ rfl
  have c2 := KO.out.cell 2 _ rfl
  go_wp2_with (go_at_call 58; refine (free_any s ok who b _ HP.out).mono ?_; rintro e w' ⟨rfl, rfl⟩; rw [HF.out])
  go_quiet (fail)
  have KO1 := Lib.hid (KO.out.drewN nq)
  have KR1 := Lib.hid (KR.out.drewN nq)
  have HP1 := Lib.hid (HP.out.drewN nq)
  have HB1 := Lib.hid (HB.out.drewN nq)
  generalize W.drewN nq = W1 at *
  clear KO KR HP HB c0 c1 c2
  have c0 := KO1.out.cell 0 _ rfl
  have c1 := KO1.out.cell 1 _ rfl
  have c2 := KO1.out.cell 2 _ rfl
  have d0 := KR1.out.cell 0 _ rfl
  have d1 := KR1.out.cell 1 _ rfl
  have f0 := KR1.out.fr 0
  have f1 := KR1.out.fr 1
  have cp := phP_at ok HP1.out
  go_wp2
  have K3 := Lib.hid ((KR1.out.set (i := 0) (by simp) (.int .i64 7)).set (i := 1) (by simp) (.int .i64 0))
  have P3 := Lib.hid ((HP1.out.other (p := ⟨rb, 0, none⟩) hbr.symm (.int .i64 7)).other (p := ⟨rb, 1, none⟩) hbr.symm (.int .i64 0))
  have B3 := Lib.hid ((HB1.out.setNew (p := ⟨rb, 0, none⟩) (.inr hrw) (.int .i64 7)).setNew (p := ⟨rb, 1, none⟩) (.inr hrw) (.int .i64 0))
  generalize (W1.setCell ⟨rb, 0, none⟩ (.int .i64 7)).setCell ⟨rb, 1, none⟩ (.int .i64 0) = W3 at K3 P3 B3 ⊢
  have r0 := K3.out.cell 0 _ rfl
  have r1 := K3.out.cell 1 _ rfl
  refine bodyPost_ret (v := .agg #[.int .i64 7, .int .i64 0]) (by simp [results, Try.results28, go_sem, r0, r1]) rfl ?_
  exact doOut HD.out P3.out B3.out
set_option maxHeartbeats 1000000 in
set_option maxRecDepth 100000 in
theorem do_k4e8 (s : PhS) (ok : PhOk s) (hph : s.ph < 9223372036854775807) (who by_ : Int) (hf : freeP s who = 8) (b : Nat) (w : World) (r : Blk 0 w b (phCells s)) :
    Calls Try.prog 28 #[.pointer (some ⟨b, 0, none⟩), .agg #[.int .i64 4, .int .i64 who, .int .i64 by_]] w (DoOut b s ⟨4, who, by_⟩ w) := by
  have HD := Lib.hid (show doP s ⟨4, who, by_⟩ = (s, 8, (s.ph : Int)) by unfold doP errP whoP; simp [hf])
  have HR := Lib.hid r
  have HF := Lib.hid hf
  have hbw := r.lt
  clear r hf
  go_enter Try.func28, Try.ntmps28
  go_upto_region 6 with (fail)
  obtain ⟨ob, hob⟩ : ∃ ob, ob = w.heap.size := ⟨_, rfl⟩
  obtain ⟨rb, hrb⟩ : ∃ rb, rb = w.heap.size + 1 := ⟨_, rfl⟩
  have k1 := (Blk.made w [.int .i64 4, .int .i64 who, .int .i64 by_] 68 (base := 0) (Nat.zero_le _)).below ((Below.refl _ _).alloc (Nat.le_refl _) (.cells #[.int .i64 0, .int .i64 0] 33))
  have k2 := Blk.made (w.alloc (.cells #[.int .i64 4, .int .i64 who, .int .i64 by_] 68)) [.int .i64 0, .int .i64 0] 33 (base := 0) (Nat.zero_le _)
  have e2 : (w.alloc (.cells #[.int .i64 4, .int .i64 who, .int .i64 by_] 68)).heap.size = rb := by rw [hrb]; simp
  have HB := Lib.hid (((But.refl (Is b) w).alloc (.cells #[.int .i64 4, .int .i64 who, .int .i64 by_] 68)).alloc (.cells #[.int .i64 0, .int .i64 0] 33))
  have HP := Lib.hid (HR.out.but (T := Nowhere) (((But.refl Nowhere w).alloc (.cells #[.int .i64 4, .int .i64 who, .int .i64 by_] 68)).alloc (.cells #[.int .i64 0, .int .i64 0] 33)) (fun h => h))
  rw [e2] at k2
  rw [← hob] at k1
  rw [← hrb, ← hob]
  have hor : ob ≠ rb := by omega
  have hbo : b ≠ ob := by omega
  have hbr : b ≠ rb := by omega
  have hrw : w.heap.size ≤ rb := by omega
  have KO := Lib.hid k1
  have KR := Lib.hid k2
  clear hob hrb e2 k1 k2 HR hbw
  generalize (w.alloc (.cells #[.int .i64 4, .int .i64 who, .int .i64 by_] 68)).alloc (.cells #[.int .i64 0, .int .i64 0] 33) = W at *
  have c0 := KO.out.cell 0 _ rfl
  have c1 := KO.out.cell 1 _ rfl
  have c2 := KO.out.cell 2 _ rfl
  go_wp2_with (go_at_call 58; refine (free_any s ok who b _ HP.out).mono ?_; rintro e w' ⟨rfl, rfl⟩; rw [HF.out])
  go_quiet (fail)
  have KO1 := Lib.hid (KO.out.drewN nq)
  have KR1 := Lib.hid (KR.out.drewN nq)
  have HP1 := Lib.hid (HP.out.drewN nq)
  have HB1 := Lib.hid (HB.out.drewN nq)
  generalize W.drewN nq = W1 at *
  clear KO KR HP HB c0 c1 c2
  have c0 := KO1.out.cell 0 _ rfl
  have c1 := KO1.out.cell 1 _ rfl
  have c2 := KO1.out.cell 2 _ rfl
  have d0 := KR1.out.cell 0 _ rfl
  have d1 := KR1.out.cell 1 _ rfl
  have f0 := KR1.out.fr 0
  have f1 := KR1.out.fr 1
  have cp := phP_at ok HP1.out
  go_wp2
  have K3 := Lib.hid ((KR1.out.set (i := 0) (by simp) (.int .i64 8)).set (i := 1) (by simp) (.int .i64 (s.ph : Int)))
  have P3 := Lib.hid ((HP1.out.other (p := ⟨rb, 0, none⟩) hbr.symm (.int .i64 8)).other (p := ⟨rb, 1, none⟩) hbr.symm (.int .i64 (s.ph : Int)))
  have B3 := Lib.hid ((HB1.out.setNew (p := ⟨rb, 0, none⟩) (.inr hrw) (.int .i64 8)).setNew (p := ⟨rb, 1, none⟩) (.inr hrw) (.int .i64 (s.ph : Int)))
  generalize (W1.setCell ⟨rb, 0, none⟩ (.int .i64 8)).setCell ⟨rb, 1, none⟩ (.int .i64 (s.ph : Int)) = W3 at K3 P3 B3 ⊢
  have r0 := K3.out.cell 0 _ rfl
  have r1 := K3.out.cell 1 _ rfl
  refine bodyPost_ret (v := .agg #[.int .i64 8, .int .i64 (s.ph : Int)]) (by simp [results, Try.results28, go_sem, r0, r1]) rfl ?_
  exact doOut HD.out P3.out B3.out
set_option maxHeartbeats 1000000 in
set_option maxRecDepth 100000 in
theorem do_k1bad1 (s : PhS) (ok : PhOk s) (hph : s.ph < 9223372036854775807) (who by_ : Int) (hf : freeP s by_ = 0) (hn : in16 who = false) (b : Nat) (w : World) (r : Blk 0 w b (phCells s)) :
    Calls Try.prog 28 #[.pointer (some ⟨b, 0, none⟩), .agg #[.int .i64 1, .int .i64 who, .int .i64 by_]] w (DoOut b s ⟨1, who, by_⟩ w) := by
  have HD := Lib.hid (show doP s ⟨1, who, by_⟩ = (s, 2, 0) by unfold doP errP whoP; simp [hf, hn])
  have HR := Lib.hid r
  have HF := Lib.hid hf
  have hbw := r.lt
  clear r hf
  go_enter Try.func28, Try.ntmps28
  go_upto_region 6 with (fail)
  obtain ⟨ob, hob⟩ : ∃ ob, ob = w.heap.size := ⟨_, rfl⟩
  obtain ⟨rb, hrb⟩ : ∃ rb, rb = w.heap.size + 1 := ⟨_, rfl⟩
  have k1 := (Blk.made w [.int .i64 1, .int .i64 who, .int .i64 by_] 68 (base := 0) (Nat.zero_le _)).below ((Below.refl _ _).alloc (Nat.le_refl _) (.cells #[.int .i64 0, .int .i64 0] 33))
  have k2 := Blk.made (w.alloc (.cells #[.int .i64 1, .int .i64 who, .int .i64 by_] 68)) [.int .i64 0, .int .i64 0] 33 (base := 0) (Nat.zero_le _)
  have e2 : (w.alloc (.cells #[.int .i64 1, .int .i64 who, .int .i64 by_] 68)).heap.size = rb := by rw [hrb]; simp
  have HB := Lib.hid (((But.refl (Is b) w).alloc (.cells #[.int .i64 1, .int .i64 who, .int .i64 by_] 68)).alloc (.cells #[.int .i64 0, .int .i64 0] 33))
  have HP := Lib.hid (HR.out.but (T := Nowhere) (((But.refl Nowhere w).alloc (.cells #[.int .i64 1, .int .i64 who, .int .i64 by_] 68)).alloc (.cells #[.int .i64 0, .int .i64 0] 33)) (fun h => h))
  rw [e2] at k2
  rw [← hob] at k1
  rw [← hrb, ← hob]
  have hor : ob ≠ rb := by omega
  have hbo : b ≠ ob := by omega
  have hbr : b ≠ rb := by omega
  have hrw : w.heap.size ≤ rb := by omega
  have KO := Lib.hid k1
  have KR := Lib.hid k2
  clear hob hrb e2 k1 k2 HR hbw
  generalize (w.alloc (.cells #[.int .i64 1, .int .i64 who, .int .i64 by_] 68)).alloc (.cells #[.int .i64 0, .int .i64 0] 33) = W at *
  have c0 := KO.out.cell 0 _ rfl
  have c1 := KO.out.cell 1 _ rfl
  have c2 := KO.out.cell 2 _ rfl
  go_wp2_with (go_at_call 58; refine (free_any s ok by_ b _ HP.out).mono ?_; rintro e w' ⟨rfl, rfl⟩; rw [HF.out])
  go_quiet ((go_at_call 59; exact Calls.quiet_of_same ((phknown_any who _).mono fun e w' h => ⟨h.1, h.2.symm⟩)))
  have KO1 := Lib.hid (KO.out.drewN nq)
  have KR1 := Lib.hid (KR.out.drewN nq)
  have HP1 := Lib.hid (HP.out.drewN nq)
  have HB1 := Lib.hid (HB.out.drewN nq)
  generalize W.drewN nq = W1 at *
  clear KO KR HP HB c0 c1 c2
  have c0 := KO1.out.cell 0 _ rfl
  have c1 := KO1.out.cell 1 _ rfl
  have c2 := KO1.out.cell 2 _ rfl
  have d0 := KR1.out.cell 0 _ rfl
  have d1 := KR1.out.cell 1 _ rfl
  have f0 := KR1.out.fr 0
  have f1 := KR1.out.fr 1
  have cp := phP_at ok HP1.out
  go_wp2
  have K3 := Lib.hid ((KR1.out.set (i := 0) (by simp) (.int .i64 2)).set (i := 1) (by simp) (.int .i64 0))
  have P3 := Lib.hid ((HP1.out.other (p := ⟨rb, 0, none⟩) hbr.symm (.int .i64 2)).other (p := ⟨rb, 1, none⟩) hbr.symm (.int .i64 0))
  have B3 := Lib.hid ((HB1.out.setNew (p := ⟨rb, 0, none⟩) (.inr hrw) (.int .i64 2)).setNew (p := ⟨rb, 1, none⟩) (.inr hrw) (.int .i64 0))
  generalize (W1.setCell ⟨rb, 0, none⟩ (.int .i64 2)).setCell ⟨rb, 1, none⟩ (.int .i64 0) = W3 at K3 P3 B3 ⊢
  have r0 := K3.out.cell 0 _ rfl
  have r1 := K3.out.cell 1 _ rfl
  refine bodyPost_ret (v := .agg #[.int .i64 2, .int .i64 0]) (by simp [results, Try.results28, go_sem, r0, r1]) rfl ?_
  exact doOut HD.out P3.out B3.out
set_option maxHeartbeats 1000000 in
set_option maxRecDepth 100000 in
theorem do_k1bad2 (s : PhS) (ok : PhOk s) (hph : s.ph < 9223372036854775807) (who by_ : Int) (hf : freeP s by_ = 0) (hn : in16 who = true) (hi : atB s.I who = true) (b : Nat) (w : World) (r : Blk 0 w b (phCells s)) :
    Calls Try.prog 28 #[.pointer (some ⟨b, 0, none⟩), .agg #[.int .i64 1, .int .i64 who, .int .i64 by_]] w (DoOut b s ⟨1, who, by_⟩ w) := by
  have HD := Lib.hid (show doP s ⟨1, who, by_⟩ = (s, 2, 0) by unfold doP errP whoP; simp [hf, hn, hi])
  obtain ⟨k, rfl, hk⟩ := in16_nat hn
  have j0 : (0 : Int) ≤ (k : Int) := by omega
  have j1 : (k : Int) < 16 := by omega
  have HR := Lib.hid r
  have HF := Lib.hid hf
  have hbw := r.lt
  clear r hf
  go_enter Try.func28, Try.ntmps28
  go_upto_region 6 with (fail)
  obtain ⟨ob, hob⟩ : ∃ ob, ob = w.heap.size := ⟨_, rfl⟩
  obtain ⟨rb, hrb⟩ : ∃ rb, rb = w.heap.size + 1 := ⟨_, rfl⟩
  have k1 := (Blk.made w [.int .i64 1, .int .i64 (k : Int), .int .i64 by_] 68 (base := 0) (Nat.zero_le _)).below ((Below.refl _ _).alloc (Nat.le_refl _) (.cells #[.int .i64 0, .int .i64 0] 33))
  have k2 := Blk.made (w.alloc (.cells #[.int .i64 1, .int .i64 (k : Int), .int .i64 by_] 68)) [.int .i64 0, .int .i64 0] 33 (base := 0) (Nat.zero_le _)
  have e2 : (w.alloc (.cells #[.int .i64 1, .int .i64 (k : Int), .int .i64 by_] 68)).heap.size = rb := by rw [hrb]; simp
  have HB := Lib.hid (((But.refl (Is b) w).alloc (.cells #[.int .i64 1, .int .i64 (k : Int), .int .i64 by_] 68)).alloc (.cells #[.int .i64 0, .int .i64 0] 33))
  have HP := Lib.hid (HR.out.but (T := Nowhere) (((But.refl Nowhere w).alloc (.cells #[.int .i64 1, .int .i64 (k : Int), .int .i64 by_] 68)).alloc (.cells #[.int .i64 0, .int .i64 0] 33)) (fun h => h))
  rw [e2] at k2
  rw [← hob] at k1
  rw [← hrb, ← hob]
  have hor : ob ≠ rb := by omega
  have hbo : b ≠ ob := by omega
  have hbr : b ≠ rb := by omega
  have hrw : w.heap.size ≤ rb := by omega
  have KO := Lib.hid k1
  have KR := Lib.hid k2
  clear hob hrb e2 k1 k2 HR hbw
  generalize (w.alloc (.cells #[.int .i64 1, .int .i64 (k : Int), .int .i64 by_] 68)).alloc (.cells #[.int .i64 0, .int .i64 0] 33) = W at *
  have c0 := KO.out.cell 0 _ rfl
  have c1 := KO.out.cell 1 _ rfl
  have c2 := KO.out.cell 2 _ rfl
  go_wp2_with (go_at_call 58; refine (free_any s ok by_ b _ HP.out).mono ?_; rintro e w' ⟨rfl, rfl⟩; rw [HF.out])
  have ci : W.cell? ⟨b, k, none⟩ = some (.bool true) := by have := phI_at ok HP.out k hk; rwa [hi] at this
  have HIH := Lib.hid hi
  clear hi
  go_quiet ((go_at_call 59; exact Calls.quiet_of_same ((phknown_any (k : Int) _).mono fun e w' h => ⟨h.1, h.2.symm⟩)))
  have KO1 := Lib.hid (KO.out.drewN nq)
  have KR1 := Lib.hid (KR.out.drewN nq)
  have HP1 := Lib.hid (HP.out.drewN nq)
  have HB1 := Lib.hid (HB.out.drewN nq)
  generalize W.drewN nq = W1 at *
  clear KO KR HP HB c0 c1 c2 ci
  have c0 := KO1.out.cell 0 _ rfl
  have c1 := KO1.out.cell 1 _ rfl
  have c2 := KO1.out.cell 2 _ rfl
  have d0 := KR1.out.cell 0 _ rfl
  have d1 := KR1.out.cell 1 _ rfl
  have f0 := KR1.out.fr 0
  have f1 := KR1.out.fr 1
  have cp := phP_at ok HP1.out
  go_wp2
  have K3 := Lib.hid ((KR1.out.set (i := 0) (by simp) (.int .i64 2)).set (i := 1) (by simp) (.int .i64 0))
  have P3 := Lib.hid ((HP1.out.other (p := ⟨rb, 0, none⟩) hbr.symm (.int .i64 2)).other (p := ⟨rb, 1, none⟩) hbr.symm (.int .i64 0))
  have B3 := Lib.hid ((HB1.out.setNew (p := ⟨rb, 0, none⟩) (.inr hrw) (.int .i64 2)).setNew (p := ⟨rb, 1, none⟩) (.inr hrw) (.int .i64 0))
  generalize (W1.setCell ⟨rb, 0, none⟩ (.int .i64 2)).setCell ⟨rb, 1, none⟩ (.int .i64 0) = W3 at K3 P3 B3 ⊢
  have r0 := K3.out.cell 0 _ rfl
  have r1 := K3.out.cell 1 _ rfl
  refine bodyPost_ret (v := .agg #[.int .i64 2, .int .i64 0]) (by simp [results, Try.results28, go_sem, r0, r1]) rfl ?_
  exact doOut HD.out P3.out B3.out
set_option maxHeartbeats 1000000 in
set_option maxRecDepth 100000 in
theorem do_k1ok (s : PhS) (ok : PhOk s) (hph : s.ph < 9223372036854775807) (who by_ : Int) (hf : freeP s by_ = 0) (hn : in16 who = true) (hi : atB s.I who = false) (b : Nat) (w : World) (r : Blk 0 w b (phCells s)) :
    Calls Try.prog 28 #[.pointer (some ⟨b, 0, none⟩), .agg #[.int .i64 1, .int .i64 who, .int .i64 by_]] w (DoOut b s ⟨1, who, by_⟩ w) := by
  have HD := Lib.hid (show doP s ⟨1, who, by_⟩ = (⟨s.I.set who.toNat true, s.H, s.ph⟩, 0, (s.ph : Int)) by unfold doP errP whoP actP; simp [hf, hn, hi])
  obtain ⟨k, rfl, hk⟩ := in16_nat hn
  rw [Int.toNat_natCast] at HD
  have j0 : (0 : Int) ≤ (k : Int) := by omega
  have j1 : (k : Int) < 16 := by omega
  have HR := Lib.hid r
  have HF := Lib.hid hf
  have hbw := r.lt
  clear r hf
  go_enter Try.func28, Try.ntmps28
  go_upto_region 6 with (fail)
  obtain ⟨ob, hob⟩ : ∃ ob, ob = w.heap.size := ⟨_, rfl⟩
  obtain ⟨rb, hrb⟩ : ∃ rb, rb = w.heap.size + 1 := ⟨_, rfl⟩
  have k1 := (Blk.made w [.int .i64 1, .int .i64 (k : Int), .int .i64 by_] 68 (base := 0) (Nat.zero_le _)).below ((Below.refl _ _).alloc (Nat.le_refl _) (.cells #[.int .i64 0, .int .i64 0] 33))
  have k2 := Blk.made (w.alloc (.cells #[.int .i64 1, .int .i64 (k : Int), .int .i64 by_] 68)) [.int .i64 0, .int .i64 0] 33 (base := 0) (Nat.zero_le _)
  have e2 : (w.alloc (.cells #[.int .i64 1, .int .i64 (k : Int), .int .i64 by_] 68)).heap.size = rb := by rw [hrb]; simp
  have HB := Lib.hid (((But.refl (Is b) w).alloc (.cells #[.int .i64 1, .int .i64 (k : Int), .int .i64 by_] 68)).alloc (.cells #[.int .i64 0, .int .i64 0] 33))
  have HP := Lib.hid (HR.out.but (T := Nowhere) (((But.refl Nowhere w).alloc (.cells #[.int .i64 1, .int .i64 (k : Int), .int .i64 by_] 68)).alloc (.cells #[.int .i64 0, .int .i64 0] 33)) (fun h => h))
  rw [e2] at k2
  rw [← hob] at k1
  rw [← hrb, ← hob]
  have hor : ob ≠ rb := by omega
  have hbo : b ≠ ob := by omega
  have hbr : b ≠ rb := by omega
  have hrw : w.heap.size ≤ rb := by omega
  have KO := Lib.hid k1
  have KR := Lib.hid k2
  clear hob hrb e2 k1 k2 HR hbw
  generalize (w.alloc (.cells #[.int .i64 1, .int .i64 (k : Int), .int .i64 by_] 68)).alloc (.cells #[.int .i64 0, .int .i64 0] 33) = W at *
  have c0 := KO.out.cell 0 _ rfl
  have c1 := KO.out.cell 1 _ rfl
  have c2 := KO.out.cell 2 _ rfl
  go_wp2_with (go_at_call 58; refine (free_any s ok by_ b _ HP.out).mono ?_; rintro e w' ⟨rfl, rfl⟩; rw [HF.out])
  have ci : W.cell? ⟨b, k, none⟩ = some (.bool false) := by have := phI_at ok HP.out k hk; rwa [hi] at this
  have HIH := Lib.hid hi
  clear hi
  go_quiet ((go_at_call 59; exact Calls.quiet_of_same ((phknown_any (k : Int) _).mono fun e w' h => ⟨h.1, h.2.symm⟩)))
  have KO1 := Lib.hid (KO.out.drewN nq)
  have KR1 := Lib.hid (KR.out.drewN nq)
  have HP1 := Lib.hid (HP.out.drewN nq)
  have HB1 := Lib.hid (HB.out.drewN nq)
  generalize W.drewN nq = W1 at *
  clear KO KR HP HB c0 c1 c2 ci
  have c0 := KO1.out.cell 0 _ rfl
  have c1 := KO1.out.cell 1 _ rfl
  have c2 := KO1.out.cell 2 _ rfl
  have d0 := KR1.out.cell 0 _ rfl
  have d1 := KR1.out.cell 1 _ rfl
  have f0 := KR1.out.fr 0
  have f1 := KR1.out.fr 1
  have cp := phP_at ok HP1.out
  go_wp2
  have ci : W1.cell? ⟨b, k, none⟩ = some (.bool false) := by have := phI_at ok HP1.out k hk; rwa [HIH.out] at this
  have fi := HP1.out.fr k
  have p2 := HP1.out.set (i := k) (by rw [phLen ok]; omega) (.bool true)
  rw [phSetI ok k hk true] at p2
  have HP2 := Lib.hid p2.drew
  have KR2 := Lib.hid (KR1.out.other (p := ⟨b, k, none⟩) hbr (.bool true)).drew
  have KO2 := Lib.hid (KO1.out.other (p := ⟨b, k, none⟩) hbo (.bool true)).drew
  have HB2 := Lib.hid (HB1.out.setCell (p := ⟨b, k, none⟩) rfl (.bool true)).drew
  have ok2 : PhOk ⟨s.I.set k true, s.H, s.ph⟩ := ⟨by simp [ok.i], ok.h⟩
  clear p2
  go_region
  generalize (W1.setCell ⟨b, k, none⟩ (.bool true)).drew = W2 at *
  clear KO1 KR1 HP1 HB1 c0 c1 c2 d0 d1 f0 f1 cp ci fi
  have c0 := KO2.out.cell 0 _ rfl
  have d0 := KR2.out.cell 0 _ rfl
  have d1 := KR2.out.cell 1 _ rfl
  have f0 := KR2.out.fr 0
  have f1 := KR2.out.fr 1
  have cp := phP_at ok2 HP2.out
  go_wp2
  have K3 := Lib.hid ((KR2.out.set (i := 0) (by simp) (.int .i64 0)).set (i := 1) (by simp) (.int .i64 (s.ph : Int)))
  have P3 := Lib.hid ((HP2.out.other (p := ⟨rb, 0, none⟩) hbr.symm (.int .i64 0)).other (p := ⟨rb, 1, none⟩) hbr.symm (.int .i64 (s.ph : Int)))
  have B3 := Lib.hid ((HB2.out.setNew (p := ⟨rb, 0, none⟩) (.inr hrw) (.int .i64 0)).setNew (p := ⟨rb, 1, none⟩) (.inr hrw) (.int .i64 (s.ph : Int)))
  generalize (W2.setCell ⟨rb, 0, none⟩ (.int .i64 0)).setCell ⟨rb, 1, none⟩ (.int .i64 (s.ph : Int)) = W3 at K3 P3 B3 ⊢
  have r0 := K3.out.cell 0 _ rfl
  have r1 := K3.out.cell 1 _ rfl
  refine bodyPost_ret (v := .agg #[.int .i64 0, .int .i64 (s.ph : Int)]) (by simp [results, Try.results28, go_sem, r0, r1]) rfl ?_
  exact doOut HD.out P3.out B3.out
set_option maxHeartbeats 1000000 in
set_option maxRecDepth 100000 in
theorem do_k4ok (s : PhS) (ok : PhOk s) (hph : s.ph < 9223372036854775807) (who by_ : Int) (hf : freeP s who = 0) (b : Nat) (w : World) (r : Blk 0 w b (phCells s)) :
    Calls Try.prog 28 #[.pointer (some ⟨b, 0, none⟩), .agg #[.int .i64 4, .int .i64 who, .int .i64 by_]] w (DoOut b s ⟨4, who, by_⟩ w) := by
  have HD := Lib.hid (show doP s ⟨4, who, by_⟩ = (s, 0, (s.ph : Int)) by unfold doP errP whoP actP; simp [hf])
  have HR := Lib.hid r
  have HF := Lib.hid hf
  have hbw := r.lt
  clear r hf
  go_enter Try.func28, Try.ntmps28
  go_upto_region 6 with (fail)
  obtain ⟨ob, hob⟩ : ∃ ob, ob = w.heap.size := ⟨_, rfl⟩
  obtain ⟨rb, hrb⟩ : ∃ rb, rb = w.heap.size + 1 := ⟨_, rfl⟩
  have k1 := (Blk.made w [.int .i64 4, .int .i64 who, .int .i64 by_] 68 (base := 0) (Nat.zero_le _)).below ((Below.refl _ _).alloc (Nat.le_refl _) (.cells #[.int .i64 0, .int .i64 0] 33))
  have k2 := Blk.made (w.alloc (.cells #[.int .i64 4, .int .i64 who, .int .i64 by_] 68)) [.int .i64 0, .int .i64 0] 33 (base := 0) (Nat.zero_le _)
  have e2 : (w.alloc (.cells #[.int .i64 4, .int .i64 who, .int .i64 by_] 68)).heap.size = rb := by rw [hrb]; simp
  have HB := Lib.hid (((But.refl (Is b) w).alloc (.cells #[.int .i64 4, .int .i64 who, .int .i64 by_] 68)).alloc (.cells #[.int .i64 0, .int .i64 0] 33))
  have HP := Lib.hid (HR.out.but (T := Nowhere) (((But.refl Nowhere w).alloc (.cells #[.int .i64 4, .int .i64 who, .int .i64 by_] 68)).alloc (.cells #[.int .i64 0, .int .i64 0] 33)) (fun h => h))
  rw [e2] at k2
  rw [← hob] at k1
  rw [← hrb, ← hob]
  have hor : ob ≠ rb := by omega
  have hbo : b ≠ ob := by omega
  have hbr : b ≠ rb := by omega
  have hrw : w.heap.size ≤ rb := by omega
  have KO := Lib.hid k1
  have KR := Lib.hid k2
  clear hob hrb e2 k1 k2 HR hbw
  generalize (w.alloc (.cells #[.int .i64 4, .int .i64 who, .int .i64 by_] 68)).alloc (.cells #[.int .i64 0, .int .i64 0] 33) = W at *
  have c0 := KO.out.cell 0 _ rfl
  have c1 := KO.out.cell 1 _ rfl
  have c2 := KO.out.cell 2 _ rfl
  go_wp2_with (go_at_call 58; refine (free_any s ok who b _ HP.out).mono ?_; rintro e w' ⟨rfl, rfl⟩; rw [HF.out])
  go_quiet (fail)
  have KO1 := Lib.hid (KO.out.drewN nq)
  have KR1 := Lib.hid (KR.out.drewN nq)
  have HP1 := Lib.hid (HP.out.drewN nq)
  have HB1 := Lib.hid (HB.out.drewN nq)
  generalize W.drewN nq = W1 at *
  clear KO KR HP HB c0 c1 c2
  have c0 := KO1.out.cell 0 _ rfl
  have c1 := KO1.out.cell 1 _ rfl
  have c2 := KO1.out.cell 2 _ rfl
  have d0 := KR1.out.cell 0 _ rfl
  have d1 := KR1.out.cell 1 _ rfl
  have f0 := KR1.out.fr 0
  have f1 := KR1.out.fr 1
  have cp := phP_at ok HP1.out
  go_wp2
  have K3 := Lib.hid ((KR1.out.set (i := 0) (by simp) (.int .i64 0)).set (i := 1) (by simp) (.int .i64 (s.ph : Int)))
  have P3 := Lib.hid ((HP1.out.other (p := ⟨rb, 0, none⟩) hbr.symm (.int .i64 0)).other (p := ⟨rb, 1, none⟩) hbr.symm (.int .i64 (s.ph : Int)))
  have B3 := Lib.hid ((HB1.out.setNew (p := ⟨rb, 0, none⟩) (.inr hrw) (.int .i64 0)).setNew (p := ⟨rb, 1, none⟩) (.inr hrw) (.int .i64 (s.ph : Int)))
  generalize (W1.setCell ⟨rb, 0, none⟩ (.int .i64 0)).setCell ⟨rb, 1, none⟩ (.int .i64 (s.ph : Int)) = W3 at K3 P3 B3 ⊢
  have r0 := K3.out.cell 0 _ rfl
  have r1 := K3.out.cell 1 _ rfl
  refine bodyPost_ret (v := .agg #[.int .i64 0, .int .i64 (s.ph : Int)]) (by simp [results, Try.results28, go_sem, r0, r1]) rfl ?_
  exact doOut HD.out P3.out B3.out
set_option maxHeartbeats 1000000 in
set_option maxRecDepth 100000 in
theorem do_k2ok (s : PhS) (ok : PhOk s) (hph : s.ph < 9223372036854775807) (who by_ : Int) (hf : freeP s who = 0) (b : Nat) (w : World) (r : Blk 0 w b (phCells s)) :
    Calls Try.prog 28 #[.pointer (some ⟨b, 0, none⟩), .agg #[.int .i64 2, .int .i64 who, .int .i64 by_]] w (DoOut b s ⟨2, who, by_⟩ w) := by
  have hn : in16 who = true := by
    cases e : in16 who
    · unfold freeP at hf; rw [e] at hf; simp at hf
    · rfl
  have HD := Lib.hid (show doP s ⟨2, who, by_⟩ = (turnP ⟨s.I, s.H.set who.toNat true, s.ph⟩, 0, ((turnP ⟨s.I, s.H.set who.toNat true, s.ph⟩).ph : Int)) by unfold doP errP whoP actP; simp [hf, whoP])
  obtain ⟨k, rfl, hk⟩ := in16_nat hn
  rw [Int.toNat_natCast] at HD
  have j0 : (0 : Int) ≤ (k : Int) := by omega
  have j1 : (k : Int) < 16 := by omega
  have HR := Lib.hid r
  have HF := Lib.hid hf
  have hbw := r.lt
  clear r hf
  go_enter Try.func28, Try.ntmps28
  go_upto_region 6 with (fail)
  obtain ⟨ob, hob⟩ : ∃ ob, ob = w.heap.size := ⟨_, rfl⟩
  obtain ⟨rb, hrb⟩ : ∃ rb, rb = w.heap.size + 1 := ⟨_, rfl⟩
  have k1 := (Blk.made w [.int .i64 2, .int .i64 (k : Int), .int .i64 by_] 68 (base := 0) (Nat.zero_le _)).below ((Below.refl _ _).alloc (Nat.le_refl _) (.cells #[.int .i64 0, .int .i64 0] 33))
  have k2 := Blk.made (w.alloc (.cells #[.int .i64 2, .int .i64 (k : Int), .int .i64 by_] 68)) [.int .i64 0, .int .i64 0] 33 (base := 0) (Nat.zero_le _)
  have e2 : (w.alloc (.cells #[.int .i64 2, .int .i64 (k : Int), .int .i64 by_] 68)).heap.size = rb := by rw [hrb]; simp
  have HB := Lib.hid (((But.refl (Is b) w).alloc (.cells #[.int .i64 2, .int .i64 (k : Int), .int .i64 by_] 68)).alloc (.cells #[.int .i64 0, .int .i64 0] 33))
  have HP := Lib.hid (HR.out.but (T := Nowhere) (((But.refl Nowhere w).alloc (.cells #[.int .i64 2, .int .i64 (k : Int), .int .i64 by_] 68)).alloc (.cells #[.int .i64 0, .int .i64 0] 33)) (fun h => h))
  rw [e2] at k2
  rw [← hob] at k1
  rw [← hrb, ← hob]
  have hor : ob ≠ rb := by omega
  have hbo : b ≠ ob := by omega
  have hbr : b ≠ rb := by omega
  have hrw : w.heap.size ≤ rb := by omega
  have KO := Lib.hid k1
  have KR := Lib.hid k2
  clear hob hrb e2 k1 k2 HR hbw
  generalize (w.alloc (.cells #[.int .i64 2, .int .i64 (k : Int), .int .i64 by_] 68)).alloc (.cells #[.int .i64 0, .int .i64 0] 33) = W at *
  have c0 := KO.out.cell 0 _ rfl
  have c1 := KO.out.cell 1 _ rfl
  have c2 := KO.out.cell 2 _ rfl
  go_wp2_with (go_at_call 58; refine (free_any s ok (k : Int) b _ HP.out).mono ?_; rintro e w' ⟨rfl, rfl⟩; rw [HF.out])
  go_quiet (fail)
  have KO1 := Lib.hid (KO.out.drewN nq)
  have KR1 := Lib.hid (KR.out.drewN nq)
  have HP1 := Lib.hid (HP.out.drewN nq)
  have HB1 := Lib.hid (HB.out.drewN nq)
  generalize W.drewN nq = W1 at *
  clear KO KR HP HB c0 c1 c2
  have c0 := KO1.out.cell 0 _ rfl
  have c1 := KO1.out.cell 1 _ rfl
  have c2 := KO1.out.cell 2 _ rfl
  have d0 := KR1.out.cell 0 _ rfl
  have d1 := KR1.out.cell 1 _ rfl
  have f0 := KR1.out.fr 0
  have f1 := KR1.out.fr 1
  have hci : (W1.cell? ⟨b, 16 + k, none⟩).isSome = true := by rw [phH_at ok HP1.out k hk]; rfl
  obtain ⟨vi, ci⟩ := Option.isSome_iff_exists.1 hci
  have fi := HP1.out.fr (16 + k)
  have p2 := HP1.out.set (i := 16 + k) (by rw [phLen ok]; omega) (.bool true)
  rw [phSetH ok k hk true] at p2
  have HP2 := Lib.hid p2
  have KR2 := Lib.hid (KR1.out.other (p := ⟨b, 16 + k, none⟩) hbr (.bool true))
  have HB2 := Lib.hid (HB1.out.setCell (p := ⟨b, 16 + k, none⟩) rfl (.bool true))
  have HS2 := Lib.hid (show PhOk ⟨s.I, s.H.set k true, s.ph⟩ from ⟨by simp [ok.i], by simp [ok.h]⟩)
  clear p2 hci
  go_wp2_with fail
  refine (turn_any ⟨s.I, s.H.set k true, s.ph⟩ HS2.out hph b _ HP2.out).mono ?_
  rintro e w2 ⟨rfl, hp3, hb3⟩
  have HP3 := Lib.hid hp3
  have KR3 := Lib.hid (KR2.out.but hb3 (fun e => hbr e.symm))
  have HB3 := Lib.hid (HB2.out.trans hb3)
  have cp := phP_at (turnP_ok HS2.out) HP3.out
  clear hp3 hb3 KO1 KR1 HP1 HB1 KR2 HP2 HB2 c0 c1 c2 d0 d1 f0 f1 ci fi
  have d0 := KR3.out.cell 0 _ rfl
  have d1 := KR3.out.cell 1 _ rfl
  have f0 := KR3.out.fr 0
  have f1 := KR3.out.fr 1
  generalize turnP ⟨s.I, s.H.set k true, s.ph⟩ = s3 at *
  go_wp2
  have K3 := Lib.hid ((KR3.out.set (i := 0) (by simp) (.int .i64 0)).set (i := 1) (by simp) (.int .i64 (s3.ph : Int)))
  have P3 := Lib.hid ((HP3.out.other (p := ⟨rb, 0, none⟩) hbr.symm (.int .i64 0)).other (p := ⟨rb, 1, none⟩) hbr.symm (.int .i64 (s3.ph : Int)))
  have B3 := Lib.hid ((HB3.out.setNew (p := ⟨rb, 0, none⟩) (.inr hrw) (.int .i64 0)).setNew (p := ⟨rb, 1, none⟩) (.inr hrw) (.int .i64 (s3.ph : Int)))
  generalize (w2.setCell ⟨rb, 0, none⟩ (.int .i64 0)).setCell ⟨rb, 1, none⟩ (.int .i64 (s3.ph : Int)) = W3 at K3 P3 B3 ⊢
  have r0 := K3.out.cell 0 _ rfl
  have r1 := K3.out.cell 1 _ rfl
  refine bodyPost_ret (v := .agg #[.int .i64 0, .int .i64 (s3.ph : Int)]) (by simp [results, Try.results28, go_sem, r0, r1]) rfl ?_
  exact doOut HD.out P3.out B3.out
set_option maxHeartbeats 1000000 in
set_option maxRecDepth 100000 in
theorem do_k3ok (s : PhS) (ok : PhOk s) (hph : s.ph < 9223372036854775807) (who by_ : Int) (hf : freeP s who = 0) (b : Nat) (w : World) (r : Blk 0 w b (phCells s)) :
    Calls Try.prog 28 #[.pointer (some ⟨b, 0, none⟩), .agg #[.int .i64 3, .int .i64 who, .int .i64 by_]] w (DoOut b s ⟨3, who, by_⟩ w) := by
  have hn : in16 who = true := by
    cases e : in16 who
    · unfold freeP at hf; rw [e] at hf; simp at hf
    · rfl
  have HD := Lib.hid (show doP s ⟨3, who, by_⟩ = (turnP ⟨s.I.set who.toNat false, s.H, s.ph⟩, 0, ((turnP ⟨s.I.set who.toNat false, s.H, s.ph⟩).ph : Int)) by unfold doP errP whoP actP; simp [hf, whoP])
  obtain ⟨k, rfl, hk⟩ := in16_nat hn
  rw [Int.toNat_natCast] at HD
  have j0 : (0 : Int) ≤ (k : Int) := by omega
  have j1 : (k : Int) < 16 := by omega
  have HR := Lib.hid r
  have HF := Lib.hid hf
  have hbw := r.lt
  clear r hf
  go_enter Try.func28, Try.ntmps28
  go_upto_region 6 with (fail)
  obtain ⟨ob, hob⟩ : ∃ ob, ob = w.heap.size := ⟨_, rfl⟩
  obtain ⟨rb, hrb⟩ : ∃ rb, rb = w.heap.size + 1 := ⟨_, rfl⟩
  have k1 := (Blk.made w [.int .i64 3, .int .i64 (k : Int), .int .i64 by_] 68 (base := 0) (Nat.zero_le _)).below ((Below.refl _ _).alloc (Nat.le_refl _) (.cells #[.int .i64 0, .int .i64 0] 33))
  have k2 := Blk.made (w.alloc (.cells #[.int .i64 3, .int .i64 (k : Int), .int .i64 by_] 68)) [.int .i64 0, .int .i64 0] 33 (base := 0) (Nat.zero_le _)
  have e2 : (w.alloc (.cells #[.int .i64 3, .int .i64 (k : Int), .int .i64 by_] 68)).heap.size = rb := by rw [hrb]; simp
  have HB := Lib.hid (((But.refl (Is b) w).alloc (.cells #[.int .i64 3, .int .i64 (k : Int), .int .i64 by_] 68)).alloc (.cells #[.int .i64 0, .int .i64 0] 33))
  have HP := Lib.hid (HR.out.but (T := Nowhere) (((But.refl Nowhere w).alloc (.cells #[.int .i64 3, .int .i64 (k : Int), .int .i64 by_] 68)).alloc (.cells #[.int .i64 0, .int .i64 0] 33)) (fun h => h))
  rw [e2] at k2
  rw [← hob] at k1
  rw [← hrb, ← hob]
  have hor : ob ≠ rb := by omega
  have hbo : b ≠ ob := by omega
  have hbr : b ≠ rb := by omega
  have hrw : w.heap.size ≤ rb := by omega
  have KO := Lib.hid k1
  have KR := Lib.hid k2
  clear hob hrb e2 k1 k2 HR hbw
  generalize (w.alloc (.cells #[.int .i64 3, .int .i64 (k : Int), .int .i64 by_] 68)).alloc (.cells #[.int .i64 0, .int .i64 0] 33) = W at *
  have c0 := KO.out.cell 0 _ rfl
  have c1 := KO.out.cell 1 _ rfl
  have c2 := KO.out.cell 2 _ rfl
  go_wp2_with (go_at_call 58; refine (free_any s ok (k : Int) b _ HP.out).mono ?_; rintro e w' ⟨rfl, rfl⟩; rw [HF.out])
  go_quiet (fail)
  have KO1 := Lib.hid (KO.out.drewN nq)
  have KR1 := Lib.hid (KR.out.drewN nq)
  have HP1 := Lib.hid (HP.out.drewN nq)
  have HB1 := Lib.hid (HB.out.drewN nq)
  generalize W.drewN nq = W1 at *
  clear KO KR HP HB c0 c1 c2
  have c0 := KO1.out.cell 0 _ rfl
  have c1 := KO1.out.cell 1 _ rfl
  have c2 := KO1.out.cell 2 _ rfl
  have d0 := KR1.out.cell 0 _ rfl
  have d1 := KR1.out.cell 1 _ rfl
  have f0 := KR1.out.fr 0
  have f1 := KR1.out.fr 1
  have hci : (W1.cell? ⟨b, k, none⟩).isSome = true := by rw [phI_at ok HP1.out k hk]; rfl
  obtain ⟨vi, ci⟩ := Option.isSome_iff_exists.1 hci
  have fi := HP1.out.fr (k)
  have p2 := HP1.out.set (i := k) (by rw [phLen ok]; omega) (.bool false)
  rw [phSetI ok k hk false] at p2
  have HP2 := Lib.hid p2
  have KR2 := Lib.hid (KR1.out.other (p := ⟨b, k, none⟩) hbr (.bool false))
  have HB2 := Lib.hid (HB1.out.setCell (p := ⟨b, k, none⟩) rfl (.bool false))
  have HS2 := Lib.hid (show PhOk ⟨s.I.set k false, s.H, s.ph⟩ from ⟨by simp [ok.i], by simp [ok.h]⟩)
  clear p2 hci
  go_wp2_with fail
  refine (turn_any ⟨s.I.set k false, s.H, s.ph⟩ HS2.out hph b _ HP2.out).mono ?_
  rintro e w2 ⟨rfl, hp3, hb3⟩
  have HP3 := Lib.hid hp3
  have KR3 := Lib.hid (KR2.out.but hb3 (fun e => hbr e.symm))
  have HB3 := Lib.hid (HB2.out.trans hb3)
  have cp := phP_at (turnP_ok HS2.out) HP3.out
  clear hp3 hb3 KO1 KR1 HP1 HB1 KR2 HP2 HB2 c0 c1 c2 d0 d1 f0 f1 ci fi
  have d0 := KR3.out.cell 0 _ rfl
  have d1 := KR3.out.cell 1 _ rfl
  have f0 := KR3.out.fr 0
  have f1 := KR3.out.fr 1
  generalize turnP ⟨s.I.set k false, s.H, s.ph⟩ = s3 at *
  go_wp2
  have K3 := Lib.hid ((KR3.out.set (i := 0) (by simp) (.int .i64 0)).set (i := 1) (by simp) (.int .i64 (s3.ph : Int)))
  have P3 := Lib.hid ((HP3.out.other (p := ⟨rb, 0, none⟩) hbr.symm (.int .i64 0)).other (p := ⟨rb, 1, none⟩) hbr.symm (.int .i64 (s3.ph : Int)))
  have B3 := Lib.hid ((HB3.out.setNew (p := ⟨rb, 0, none⟩) (.inr hrw) (.int .i64 0)).setNew (p := ⟨rb, 1, none⟩) (.inr hrw) (.int .i64 (s3.ph : Int)))
  generalize (w2.setCell ⟨rb, 0, none⟩ (.int .i64 0)).setCell ⟨rb, 1, none⟩ (.int .i64 (s3.ph : Int)) = W3 at K3 P3 B3 ⊢
  have r0 := K3.out.cell 0 _ rfl
  have r1 := K3.out.cell 1 _ rfl
  refine bodyPost_ret (v := .agg #[.int .i64 0, .int .i64 (s3.ph : Int)]) (by simp [results, Try.results28, go_sem, r0, r1]) rfl ?_
  exact doOut HD.out P3.out B3.out
set_option maxHeartbeats 1000000 in
set_option maxRecDepth 100000 in
theorem do_kind (s : PhS) (k who by_ : Int) (hk : k < 1 ∨ 4 < k) (b : Nat) (w : World) (r : Blk 0 w b (phCells s)) :
    Calls Try.prog 28 #[.pointer (some ⟨b, 0, none⟩), .agg #[.int .i64 k, .int .i64 who, .int .i64 by_]] w (DoOut b s ⟨k, who, by_⟩ w) := by
  have HD := Lib.hid (show doP s ⟨k, who, by_⟩ = (s, 9, 0) by unfold doP; rw [if_pos hk])
  have HR := Lib.hid r
  clear r
  have fin : ∀ w', Below w.heap.size w w' → DoOut b s ⟨k, who, by_⟩ w (.returned (.agg #[.int .i64 9, .int .i64 0])) w' := fun w' h => doOut HD.out (HR.out.below h) (But.of_below h)
  have FINI := Lib.hid fin
  clear fin
  rcases hk with hk | hk
  all_goals
    go_enter Try.func28, Try.ntmps28
    go_wp2
    refine bodyPost_ret (v := .agg #[.int .i64 9, .int .i64 0]) (by simp [results, Try.results28, go_sem]) rfl ?_
    exact FINI.out _ (((Below.refl _ _).alloc (Nat.le_refl _) _).alloc (by simp) _)
theorem free_cases (s : PhS) (n : Int) : freeP s n = 7 ∨ freeP s n = 8 ∨ freeP s n = 0 := by
  unfold freeP
  split
  · split
    · exact .inr (.inl rfl)
    · exact .inr (.inr rfl)
  · exact .inl rfl
theorem do_any (s : PhS) (ok : PhOk s) (hph : s.ph < 9223372036854775807) (k who by_ : Int) (b : Nat) (w : World) (r : Blk 0 w b (phCells s)) :
    Calls Try.prog 28 #[.pointer (some ⟨b, 0, none⟩), .agg #[.int .i64 k, .int .i64 who, .int .i64 by_]] w (DoOut b s ⟨k, who, by_⟩ w) := by
  by_cases hk : k < 1 ∨ 4 < k
  · exact do_kind s k who by_ hk b w r
  · have h4 : k = 1 ∨ k = 2 ∨ k = 3 ∨ k = 4 := by omega
    rcases h4 with rfl | rfl | rfl | rfl
    · rcases free_cases s by_ with h | h | h
      · exact do_k1e7 s ok hph who by_ h b w r
      · exact do_k1e8 s ok hph who by_ h b w r
      · cases h1 : in16 who
        · exact do_k1bad1 s ok hph who by_ h h1 b w r
        · cases h2 : atB s.I who
          · exact do_k1ok s ok hph who by_ h h1 h2 b w r
          · exact do_k1bad2 s ok hph who by_ h h1 h2 b w r
    · rcases free_cases s who with h | h | h
      · exact do_k2e7 s ok hph who by_ h b w r
      · exact do_k2e8 s ok hph who by_ h b w r
      · exact do_k2ok s ok hph who by_ h b w r
    · rcases free_cases s who with h | h | h
      · exact do_k3e7 s ok hph who by_ h b w r
      · exact do_k3e8 s ok hph who by_ h b w r
      · exact do_k3ok s ok hph who by_ h b w r
    · rcases free_cases s who with h | h | h
      · exact do_k4e7 s ok hph who by_ h b w r
      · exact do_k4e8 s ok hph who by_ h b w r
      · exact do_k4ok s ok hph who by_ h b w r
end Go.Proofs.Ythbbecmffndgdaa
