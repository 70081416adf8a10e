/- Texts merged: Lex1, LexLib. -/
import Derived.Test.YtijahadmaggncaaDoorLexSpec
import Derived.Shelf.Strings.Prefix
import Derived.Shelf.Small.Strs
import Derived.Test.YtijahadmaggncaaDoorBase
/- Walks of package lex's small functions. -/
namespace Go.Proofs.YtijahadmaggncaaDoor
open Go.RowKit
set_option linter.unusedVariables false
set_option maxHeartbeats 400000 in
theorem digit_any (c : UInt8) (w : World) : Calls Tryd.prog 71 #[.int .u8 (c.toNat : Int)] w fun e w' => e = .returned (.bool (digB c)) ∧ w = w' := by
  by_cases h1 : 48 ≤ c.toNat
  · by_cases h2 : c.toNat ≤ 57
    · have HB := Lib.hid (show digB c = true by simp [digB, h1, h2])
      have h1 : (48 : Int) ≤ (c.toNat : Int) := by omega
      have h2 : (c.toNat : Int) ≤ 57 := by omega
      go_enter Tryd.func71, Tryd.ntmps71
      go_wp2
      go_ret
      exact ⟨by rw [HB.out]; rfl, rfl⟩
    · have HB := Lib.hid (show digB c = false by unfold digB; rw [decide_eq_false h2]; simp)
      have h1 : (48 : Int) ≤ (c.toNat : Int) := by omega
      have h2 : ¬ (c.toNat : Int) ≤ 57 := by omega
      go_enter Tryd.func71, Tryd.ntmps71
      go_wp2
      go_ret
      exact ⟨by rw [HB.out]; rfl, rfl⟩
  · have HB := Lib.hid (show digB c = false by unfold digB; rw [decide_eq_false h1]; rfl)
    have h1 : ¬ (48 : Int) ≤ (c.toNat : Int) := by omega
    go_enter Tryd.func71, Tryd.ntmps71
    go_wp2
    go_ret
    exact ⟨by rw [HB.out]; rfl, rfl⟩
set_option maxHeartbeats 400000 in
theorem letter_any (c : UInt8) (w : World) : Calls Tryd.prog 73 #[.int .u8 (c.toNat : Int)] w fun e w' => e = .returned (.bool (letB c)) ∧ w = w' := by
  by_cases h1 : 97 ≤ c.toNat
  · by_cases h2 : c.toNat ≤ 122
    · have HB := Lib.hid (show letB c = true by simp [letB, h1, h2])
      have h1 : (97 : Int) ≤ (c.toNat : Int) := by omega
      have h2 : (c.toNat : Int) ≤ 122 := by omega
      go_enter Tryd.func73, Tryd.ntmps73
      go_wp2
      go_ret
      exact ⟨by rw [HB.out]; rfl, rfl⟩
    · have HB := Lib.hid (show letB c = false by unfold letB; rw [decide_eq_false h2]; simp)
      have h1 : (97 : Int) ≤ (c.toNat : Int) := by omega
      have h2 : ¬ (c.toNat : Int) ≤ 122 := by omega
      go_enter Tryd.func73, Tryd.ntmps73
      go_wp2
      go_ret
      exact ⟨by rw [HB.out]; rfl, rfl⟩
  · have HB := Lib.hid (show letB c = false by unfold letB; rw [decide_eq_false h1]; rfl)
    have h1 : ¬ (97 : Int) ≤ (c.toNat : Int) := by omega
    go_enter Tryd.func73, Tryd.ntmps73
    go_wp2
    go_ret
    exact ⟨by rw [HB.out]; rfl, rfl⟩
set_option maxHeartbeats 400000 in
theorem blank_any (c : UInt8) (w : World) : Calls Tryd.prog 41 #[.int .u8 (c.toNat : Int)] w fun e w' => e = .returned (.bool (blkB c)) ∧ w = w' := by
  obtain ⟨b1, h1⟩ : ∃ b, ((c.toNat : Int) == 32) = b := ⟨_, rfl⟩
  obtain ⟨b2, h2⟩ : ∃ b, ((c.toNat : Int) == 10) = b := ⟨_, rfl⟩
  obtain ⟨b3, h3⟩ : ∃ b, ((c.toNat : Int) == 9) = b := ⟨_, rfl⟩
  have HB := Lib.hid (show blkB c = (b1 || b2 || b3) by
    rw [← h1, ← h2, ← h3]
    unfold blkB
    congr 1
    · congr 1
      · rw [Bool.eq_iff_iff]; simp; omega
      · rw [Bool.eq_iff_iff]; simp; omega
    · rw [Bool.eq_iff_iff]; simp; omega)
  cases b1
  · cases b2
    · go_enter Tryd.func41, Tryd.ntmps41
      go_wp2
      go_ret
      exact ⟨by rw [HB.out]; cases b3 <;> rfl, rfl⟩
    · go_enter Tryd.func41, Tryd.ntmps41
      go_wp2
      go_ret
      exact ⟨by rw [HB.out]; rfl, rfl⟩
  · go_enter Tryd.func41, Tryd.ntmps41
    go_wp2
    go_ret
    exact ⟨by rw [HB.out]; rfl, rfl⟩
set_option maxHeartbeats 400000 in
theorem next1_any (c : UInt8) (w : World) : Calls Tryd.prog 74 #[.int .u8 (c.toNat : Int)] w fun e w' => e = .returned (.bool (nameB c)) ∧ w = w' := by
  cases hl : letB c
  · have HB := Lib.hid (show nameB c = digB c by unfold nameB; rw [hl]; rfl)
    go_enter Tryd.func74, Tryd.ntmps74
    go_wp2_with fail
    refine (letter_any c _).mono ?_
    rintro e w' ⟨rfl, rfl⟩
    rw [hl]
    go_wp2_with fail
    refine (digit_any c _).mono ?_
    rintro e w' ⟨rfl, rfl⟩
    go_wp2
    go_ret
    exact ⟨by rw [HB.out]; rfl, rfl⟩
  · have HB := Lib.hid (show nameB c = true by unfold nameB; rw [hl]; rfl)
    go_enter Tryd.func74, Tryd.ntmps74
    go_wp2_with fail
    refine (letter_any c _).mono ?_
    rintro e w' ⟨rfl, rfl⟩
    rw [hl]
    go_wp2_with fail
    go_ret
    exact ⟨by rw [HB.out]; rfl, rfl⟩
set_option maxHeartbeats 400000 in
theorem run_any (F : FuncId) (p : UInt8 → Bool) (hF : ∀ (args : Array Value) (w : World), (callFunc F args).run Tryd.prog w = .ok (.enter F args) w)
    (H : ∀ (c : UInt8) (w : World), Calls Tryd.prog F #[.int .u8 (c.toNat : Int)] w fun e w' => e = .returned (.bool (p c)) ∧ w = w')
    (s : ByteArray) (a : Nat) (ha : a ≤ s.size) (hs : s.size ≤ 9223372036854775807) (w : World) :
    Calls Tryd.prog 40 #[.string s, .int .i64 (a : Int), .func (.func F) #[] #[]] w fun e w' => e = .returned (.int .i64 ((runL p s.data.toList a : Nat) : Int)) ∧ w = w' := by
  have HH := Lib.hid H
  have HL := Lib.hid (show s.data.toList.length = s.size by simp)
  clear H
  go_enter Tryd.func40, Tryd.ntmps40
  go_wp2
  go_loop [1] (fun t => ∃ k : Nat, k ≤ s.size ∧ t = .int .i64 (k : Int) ∧ Hid (runL p s.data.toList a = runL p s.data.toList k)) (fun t => s.size - (intOf t).toNat)
  case atStart => exact ⟨a, ha, rfl, Lib.hid rfl⟩
  case round =>
    obtain ⟨k, hk, rfl, HR⟩ := hrel
    by_cases hlt : k < s.size
    · have hlt' : k < s.data.toList.length := by rw [HL.out]; exact hlt
      have hsk : s.data.toList[k] = s[k]'hlt := by rw [Array.getElem_toList]; rfl
      cases hp : p (s[k]'hlt)
      · have HS := Lib.hid (show runL p s.data.toList a = k by rw [HR.out, runL_stop hlt' (by rw [hsk]; exact hp)])
        clear hlt' hsk
        go_wp2_with fail
        refine (HH.out (s[k]'hlt) _).mono ?_
        rintro e w' ⟨rfl, rfl⟩
        rw [hp]
        go_wp2_with fail
        go_ret
        exact ⟨by rw [HS.out]; rfl, rfl⟩
      · have HS := Lib.hid (show runL p s.data.toList a = runL p s.data.toList (k + 1) by rw [HR.out, runL_step hlt' (by rw [hsk]; exact hp)])
        clear hlt' hsk
        go_wp2_with fail
        refine (HH.out (s[k]'hlt) _).mono ?_
        rintro e w' ⟨rfl, rfl⟩
        rw [hp]
        go_wp2_with fail
        go_round
        case rel => exact ⟨k + 1, by omega, by go_num, HS⟩
        case measure => simp [intOf]; omega
    · have HS := Lib.hid (show runL p s.data.toList a = k by rw [HR.out, runL_end (by rw [HL.out]; omega)])
      go_wp2_with fail
      go_ret
      exact ⟨by rw [HS.out]; rfl, rfl⟩
end Go.Proofs.YtijahadmaggncaaDoor
/- strings.HasPrefix and IndexByte at this dump, by the shelf's contracts. -/
namespace Go.Proofs.YtijahadmaggncaaDoor
open Go.Shelf Go.RowKit
set_option linter.unusedVariables false
def lays99_ren : Go.Shelf.Ren := ⟨fun | 99 => 75 | 206 => 111 | n => n, fun | 9 => 9 | 4 => 4 | 3 => 3 | n => n, fun | n => n⟩
theorem lays99 : Go.Proofs.Lays.n99 Tryd.prog lays99_ren where
  mixed := by kernel_rfl
  f99 := Tryd.func75.trans (congrArg some (by kernel_rfl))
  f206 := Tryd.func111.trans (congrArg some (by kernel_rfl))
  t3 := Tryd.underlying3
  a3 := Tryd.isAgg3
  z3 := Tryd.sizeOf3
  v3 := Tryd.zeroValue3
  t4 := Tryd.underlying4
  a4 := Tryd.isAgg4
  z4 := Tryd.sizeOf4
  v4 := Tryd.zeroValue4
  t9 := Tryd.underlying9
  a9 := Tryd.isAgg9
  z9 := Tryd.sizeOf9
  v9 := Tryd.zeroValue9
def lays137_ren : Go.Shelf.Ren := ⟨fun | 137 => 76 | 217 => 112 | 266 => 142 | n => n, fun | 9 => 9 | 5 => 5 | 3 => 3 | n => n, fun | n => n⟩
theorem lays137 : Go.Proofs.Lays.n137 Tryd.prog lays137_ren where
  mixed := by kernel_rfl
  f137 := Tryd.func76.trans (congrArg some (by kernel_rfl))
  f217 := Tryd.func112.trans (congrArg some (by kernel_rfl))
  f266 := Tryd.func142.trans (congrArg some (by kernel_rfl))
  t3 := Tryd.underlying3
  a3 := Tryd.isAgg3
  z3 := Tryd.sizeOf3
  v3 := Tryd.zeroValue3
  t5 := Tryd.underlying5
  a5 := Tryd.isAgg5
  z5 := Tryd.sizeOf5
  v5 := Tryd.zeroValue5
  t9 := Tryd.underlying9
  a9 := Tryd.isAgg9
  z9 := Tryd.sizeOf9
  v9 := Tryd.zeroValue9
theorem hasPrefix_n (s p : ByteArray) (w : World) : Calls Tryd.prog 75 #[.string s, .string p] w fun e w' => e = .returned (.bool (Lib.hasPrefix s.data.toList p.data.toList)) ∧ w = w' := (Any.strings_HasPrefix lays99 s p w).mono fun _ _ h => ⟨h.1, h.2.symm⟩
theorem indexByte_n (s : ByteArray) (c : Int) (w : World) : Calls Tryd.prog 76 #[.string s, .int .u8 c] w fun e w' => e = .returned (.int .i64 (Lib.indexByte s.data.toList c.toNat.toUInt8)) ∧ w = w' := (Any.strings_IndexByte lays137 s c w).mono fun _ _ h => ⟨h.1, h.2.symm⟩
end Go.Proofs.YtijahadmaggncaaDoor
