/- The walk of lex.Tokens. -/
import Derived.Test.YtijahadmaggncaaDoorLex2
import Derived.Test.YtijahadmaggncaaDoorFlat
namespace Go.Proofs.YtijahadmaggncaaDoor
open Go.RowKit
set_option linter.unusedVariables false
def encT (t : LTok) : List Value := [.int .i64 t.kind, .int .i64 (t.pos : Int), .string ⟨t.text.toArray⟩]
def okT (t : LTok) : Prop := inI t.kind ∧ t.pos ≤ 9223372036854775807 ∧ t.text.length ≤ 9223372036854775807
abbrev RdToks := RdL (Flat encT okT) 3 32
abbrev OwnToks := OwnL (Flat encT okT) 3
theorem infoTok : (Tryd.prog.info? 55).map (fun i => (i.zero, i.size, i.bytes)) = some (some (.agg #[.int .i64 0, .int .i64 0, .string .empty]), 3, 32) := by kernel_rfl
def TokOut (R : List LTok × Nat × Int) (w : World) (e : Ending) (w' : World) : Prop :=
  ∃ x, e = .returned (.tuple #[x, .int .i64 (R.2.1 : Int), .int .i64 R.2.2]) ∧ RdToks w' (Plus Nowhere w.heap.size w'.heap.size) R.1 x ∧ Below w.heap.size w w'
set_option maxHeartbeats 2000000 in
set_option maxRecDepth 100000 in
theorem tokens_any (s : ByteArray) (hs : s.size ≤ 4398046511103) (w : World) :
    Calls Tryd.prog 22 #[.string s] w (TokOut (lexR s.data.toList) w) := by
  obtain ⟨i0, hi, hz0, hz1, hz2⟩ := info_parts infoTok
  have hs' : s.size ≤ 9223372036854775807 := by omega
  have HLN := Lib.hid (data_len s)
  go_enter Tryd.func22, Tryd.ntmps22
  go_wp2_with fail
  refine (run_any 41 blkB (fun args w => by kernel_rfl) blank_any s 0 (by omega) hs' _).mono ?_
  rintro e w' ⟨rfl, rfl⟩
  have h0 := runL_le (p := blkB) (l := s.data.toList) (a := 0) (by omega)
  rw [HLN.out] at h0
  have HR := Lib.hid (show lexR s.data.toList = lexG s.data.toList (s.size + 1) (runL blkB s.data.toList 0) [] by unfold lexR; rw [HLN.out])
  generalize runL blkB s.data.toList 0 = a0 at HR h0 ⊢
  go_wp2_with fail
  go_loopw [5, 6] (fun o t wr => ∃ (a n : Nat) (out : List LTok), t = .int .i64 (a : Int) ∧ a ≤ s.size ∧ s.size < n + a ∧ out.length ≤ a ∧ Hid (lexR s.data.toList = lexG s.data.toList n a out) ∧ Hid (OwnToks 55 wr w.heap.size Nowhere out o) ∧ Below w.heap.size w wr) (fun _ t _ => s.size - (intOf t).toNat)
  case atStart => exact ⟨a0, s.size + 1, [], rfl, h0, by omega, Nat.zero_le _, HR, Lib.hid (OwnL.nil _ _ _), Below.refl _ _⟩
  case round =>
    clear HR h0
    obtain ⟨a, n, out, rfl, ha, hn, hol, HR, HO, hb⟩ := hrel
    by_cases hlt : a < s.size
    · obtain ⟨m, rfl⟩ : ∃ m, n = m + 1 := ⟨n - 1, by omega⟩
      cases ht : tokL (s.data.toList.drop a) with
      | none =>
        have HX := Lib.hid (show lexR s.data.toList = ([], a, 1) by rw [HR.out, lexG_bad (by rw [HLN.out]; exact hlt) ht])
        have HT := Lib.hid ht
        clear ht
        go_wp2_with fail
        refine (next_any s a hlt hs' _).mono ?_
        rintro e w1 ⟨h1, hb1⟩
        rw [HT.out] at h1
        obtain ⟨k, t, rfl⟩ := h1
        have hb2 := hb.trans (hb1.mono hb.size)
        have hsz := hb2.size
        clear hb1 hb
        go_wp2_with fail
        go_ret3
        refine ⟨_, by rw [HX.out]; rfl, by rw [HX.out]; exact RdL.nil (by unfold maxLen; omega), ?_⟩
        exact hb2.alloc hsz _
      | some kt =>
        obtain ⟨k, t⟩ := kt
        obtain ⟨t1, t2, t3, t4⟩ := tokL_some ht
        have HX := Lib.hid (show lexR s.data.toList = lexG s.data.toList m (runL blkB s.data.toList (a + t.length)) (out ++ [⟨k, a, t⟩]) by rw [HR.out, lexG_step (by rw [HLN.out]; exact hlt) ht])
        have HT := Lib.hid ht
        rw [List.length_drop, HLN.out] at t3
        obtain ⟨x, hx⟩ : ∃ x, x = s.extract a (a + t.length) := ⟨_, rfl⟩
        have hxs : x.size = t.length := by rw [hx, ByteArray.size_extract]; omega
        have hxt : x = ⟨t.toArray⟩ := by
          rw [hx]
          apply of_list
          rw [Lib.extract_data, Nat.add_sub_cancel_left]; exact t2.symm
        have HXT := Lib.hid hxt
        have HXX := Lib.hid hx
        have HXS := Lib.hid hxs
        have hr1 : a + t.length ≤ s.size := by omega
        have hr2 := runL_le (p := blkB) (l := s.data.toList) (a := a + t.length) (by rw [HLN.out]; exact hr1)
        have hr3 := runL_ge (p := blkB) (l := s.data.toList) (a := a + t.length)
        rw [HLN.out] at hr2
        have hrun := fun w => run_any 41 blkB (fun args w => by kernel_rfl) blank_any s (a + t.length) hr1 hs' w
        have hcast : ((a + t.length : Nat) : Int) = (a : Int) + (x.size : Int) := by rw [hxs]; omega
        rw [hcast] at hrun
        have HRUN := Lib.hid hrun
        have hki : inI k := by unfold inI; omega
        have hxa : a + x.size ≤ s.size := by omega
        clear ht t2 hx hxs hxt hcast hrun
        go_wp2_with fail
        refine (next_any s a hlt hs' _).mono ?_
        rintro e w1 ⟨h1, hb1⟩
        rw [HT.out] at h1
        obtain rfl := h1
        rw [← HXX.out]
        have hb2 := hb.trans (hb1.mono hb.size)
        have ho1 := HO.out.keep Flat.keeps hb1
        have D1 := Lib.hid (Blk.made w1 [.int .i64 k, .int .i64 (a : Int), .string x] 55 (base := 0) (Nat.zero_le _))
        have O1 := Lib.hid (ho1.keep Flat.keeps ((Below.refl _ _).alloc (Nat.le_refl _) (.cells #[.int .i64 k, .int .i64 (a : Int), .string x] 55)))
        have B1 : Below w.heap.size w (w1.alloc (.cells #[.int .i64 k, .int .i64 (a : Int), .string x] 55)) := hb2.alloc hb2.size _
        have HNO := Lib.hid (show ∀ g, u5.ownBlock = some g → g ≠ w1.heap.size from fun g hg e => absurd (ho1.lt g hg).2 (by omega))
        obtain ⟨d, hd⟩ : ∃ d, d = w1.heap.size := ⟨_, rfl⟩
        rw [← hd] at HNO D1
        clear hb1 hb hb2 ho1 HO
        go_upto_region 8 with (fail)
        rw [← hd]
        clear hd
        generalize w1.alloc (.cells #[.int .i64 k, .int .i64 (a : Int), .string x] 55) = W1 at *
        have c0 := D1.out.cell 0 _ rfl
        have c1 := D1.out.cell 1 _ rfl
        have c2 := D1.out.cell 2 _ rfl
        have hsz := B1.size
        have HL1 := Lib.hid (show out.length + 1 ≤ maxLen by unfold maxLen; omega)
        have HL2 := Lib.hid (show (out.length + 1) * 32 ≤ 140737488355328 by omega)
        have HFL := Lib.hid (show Flat encT okT W1 Nowhere ⟨k, a, t⟩ [.int .i64 k, .int .i64 (a : Int), .string x] from ⟨by rw [HXT.out]; rfl, hki, by show a ≤ _; omega, by show t.length ≤ _; omega⟩)
        go_wp2_with (at_builtin; refine wpList_append_one rfl _ _ 53 rfl i0 _ Tryd.underlying53 hi hz0 hz1 hz2 rfl (by decide) Flat.keeps O1.out (x := (⟨k, a, t⟩ : LTok)) (cs := [.int .i64 k, .int .i64 (a : Int), .string x]) (Tx := Nowhere) HFL.out rfl rfl rfl (Sub.nowhere _) (Sub.nowhere _) not_nowhere (by simp [Value.oneCell']) HL1.out HL2.out hsz ?_)
        intro v2 w2 ho2 hg2 _
        have D2 := Lib.hid (D1.out.but (But.of_grown hg2) (fun e => HNO.out _ e rfl))
        have B2 := B1.grown hg2 hsz (fun g hg => (O1.out.lt g hg).1)
        have O2 := Lib.hid ho2
        clear ho2 hg2 O1 D1 B1 c0 c1 c2 HFL
        have c2 := D2.out.cell 2 _ rfl
        go_wp2_with fail
        with_reducible refine (HRUN.out _).mono ?_
        rintro e w' ⟨rfl, rfl⟩
        go_wp2_with fail
        go_roundw
        case rel => exact ⟨_, m, _, rfl, hr2, by omega, by simp; omega, HX, O2, B2⟩
        case measure => simp [intOf]; omega
    · have hae : a = s.size := by omega
      subst hae
      obtain ⟨m, rfl⟩ : ∃ m, n = m + 1 := ⟨n - 1, by omega⟩
      have HX := Lib.hid (show lexR s.data.toList = (out, 0, 0) by rw [HR.out, lexG_end (by rw [HLN.out]; exact Nat.le_refl _)])
      have HRD := Lib.hid (HO.out.toRd (bytes := 32) (S' := Plus Nowhere w.heap.size wr.heap.size) Flat.keeps (by omega) (Sub.nowhere _) (fun b h1 h2 => .inr ⟨h1, h2⟩))
      clear HO
      go_wp2_with fail
      go_ret3
      exact ⟨_, by rw [HX.out]; rfl, by rw [HX.out]; exact HRD.out, hb⟩
end Go.Proofs.YtijahadmaggncaaDoor
