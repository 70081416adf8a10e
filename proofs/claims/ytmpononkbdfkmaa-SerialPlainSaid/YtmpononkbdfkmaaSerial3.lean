/- serial.Cell and forkwrightref.MCell; the law's own walk. -/
import Derived.Test.YtmpononkbdfkmaaSerial2
namespace Go.Proofs.Ytmpononkbdfkmaa
open Go.RowKit
set_option linter.unusedVariables false

theorem tmod8 (n : Int) : n.tmod 8 = if 0 ≤ n then n % 8 else -((-n) % 8) := by
  split
  · exact Int.tmod_eq_emod_of_nonneg (by omega)
  · rw [← Int.neg_neg n, Int.neg_tmod, Int.neg_neg, Int.tmod_eq_emod_of_nonneg (by omega)]
theorem cell_num (n : Int) : (wrap64 (n.tmod 8 + 8)).tmod 8 = n % 8 := by
  have h := tmod8 n
  unfold wrap64
  rw [Int.tmod_eq_emod_of_nonneg (by split at h <;> omega)]
  split at h <;> omega
theorem mcell_num (n : Int) : wrap64 (bits BinOp.and IntKind.u64 (IntKind.u64.wrap n) 7) = n % 8 := by
  rw [IntKind.wrap_u64]
  have h := bits_and_u64_nat (n % 18446744073709551616).toNat 7 (by omega) (by omega)
  have e : (((n % 18446744073709551616).toNat : Nat) : Int) = n % 18446744073709551616 := by omega
  rw [e, show (7 : Nat) = 2 ^ 3 - 1 from rfl, Nat.and_two_pow_sub_one_eq_mod] at h
  have e7 : ((2 ^ 3 - 1 : Nat) : Int) = 7 := rfl
  rw [e7] at h
  rw [h]
  unfold wrap64
  omega
theorem cell_any (n : Int) (w : World) : Calls Try.prog 15 #[.int .i64 n] w fun e w' => e = .returned (.int .i64 (n % 8)) ∧ w = w' := by
  go_enter Try.func15, Try.ntmps15
  go_wp2
  go_ret
  exact ⟨by rw [cell_num]; rfl, rfl⟩
theorem mcell_any (n : Int) (w : World) : Calls Try.prog 16 #[.int .i64 n] w fun e w' => e = .returned (.int .i64 (n % 8)) ∧ w = w' := by
  go_enter Try.func16, Try.ntmps16
  go_wp2
  go_ret
  exact ⟨by rw [mcell_num]; rfl, rfl⟩

set_option maxHeartbeats 400000 in
theorem serialPlain_walk (n : Int) (l : List St) (w : World) (S : Blocks) (v : Value) (hS : Sub S (Upto w.heap.size)) (r : RdSts w S l v) :
    Calls Try.prog 3 #[.int .i64 n, v] w fun e w' => e = .returned (.bool true) ∧ Below w.heap.size w w' := by
  have H := Lib.hid (plain_all _ l (Nat.le_refl _))
  have r1 := Lib.hid r
  clear r
  go_enter Try.func3, Try.ntmps3
  go_wp2_with (first
    | (go_at_call 15; refine (cell_any _ _).mono ?_; rintro e w' ⟨rfl, rfl⟩)
    | (go_at_call 16; refine (mcell_any _ _).mono ?_; rintro e w' ⟨rfl, rfl⟩)
    | (go_at_call 18; refine (H.out.1 _ S _ hS r1.out).mono ?_; rintro e w1 ⟨u1, rfl, hu1, hb1⟩)
    | (go_at_call 19; refine (H.out.2 _ S _ (hS.lift hb1.size) (r1.out.go RdSt.keeps hb1 hS (Sub.refl _))).mono ?_; rintro e w2 ⟨u2, rfl, hu2, hb2⟩)
    | (go_at_call 17; refine (sameStmts_any (plainL l) _ u1 u2 (hu1.go RdSt.keeps hb2 (Sub.plus_upto (hS.lift hb1.size)) (Sub.plus_to hS (Nat.le_trans hb1.size hb2.size) hb2.size)) (hu2.sub RdSt.keeps (Sub.plus_upto (hS.lift (Nat.le_trans hb1.size hb2.size))))).mono ?_; rintro e w3 ⟨rfl, hb3⟩))
  go_ret
  exact ⟨rfl, (hb1.trans (hb2.mono hb1.size)).trans (hb3.mono (Nat.le_trans hb1.size hb2.size))⟩
end Go.Proofs.Ytmpononkbdfkmaa
