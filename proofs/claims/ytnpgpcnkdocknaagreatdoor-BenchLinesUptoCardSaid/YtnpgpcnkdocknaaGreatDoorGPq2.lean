/- Texts merged: Lex3, Lex4, RdEW, EtRd, StrB, AppStep, Pq1, Pq2. -/
import Derived.Test.YtnpgpcnkdocknaaGreatDoorLex2
import Derived.Test.YtnpgpcnkdocknaaGreatDoorGBlk
import Derived.Test.YtnpgpcnkdocknaaGreatDoorGPqSpec
import Derived.Laws.Strings
import Derived.Deep.AppendLies
import Derived.WalkLawsBesides
namespace Go.Proofs.YtnpgpcnkdocknaaGreatDoor
open Go.RowKit
set_option linter.unusedVariables false
def encT (t : LTok) : List Value := [.int .i64 t.kind, .int .i64 (t.pos : Int), .string ⟨t.text.toArray⟩]
def okT (t : LTok) : Prop := inI t.kind ∧ t.pos ≤ 9223372036854775807 ∧ t.text.length ≤ 9223372036854775807
abbrev RdToks := RdL (Flat encT okT) 3 32
abbrev OwnToks := OwnL (Flat encT okT) 3
theorem infoTok : (Tryz.prog.info? 49).map (fun i => (i.zero, i.size, i.bytes)) = some (some (.agg #[.int .i64 0, .int .i64 0, .string .empty]), 3, 32) := by kernel_rfl
def TokOut (R : List LTok × Nat × Int) (w : World) (e : Ending) (w' : World) : Prop :=
 ∃ x, e = .returned (.tuple #[x, .int .i64 (R.2.1 : Int), .int .i64 R.2.2]) ∧ RdToks w' (Plus Nowhere w.heap.size w'.heap.size) R.1 x ∧ Below w.heap.size w w'
set_option maxHeartbeats 2000000 in
set_option maxRecDepth 100000 in
theorem tokens_any (s : ByteArray) (hs : s.size ≤ 4398046511103) (w : World) :
    Calls Tryz.prog 21 #[.string s] w (TokOut (lexR s.data.toList) w) := by
 obtain ⟨i0, hi, hz0, hz1, hz2⟩ := info_parts infoTok
 have hs' : s.size ≤ 9223372036854775807 := by omega
 have HLN := hid (data_len s)
 go_enter Tryz.func21, Tryz.ntmps21
 go_wp2_with fail
 refine (run_any 39 blkB (fun args w => by kernel_rfl) blank_any s 0 (by omega) hs' _).mono ?_
 rintro e w' ⟨rfl, rfl⟩
 have h0 := runL_le (p := blkB) (l := s.data.toList) (a := 0) (by omega)
 rw [HLN.out] at h0
 have HR := hid (show lexR s.data.toList = lexG s.data.toList (s.size + 1) (runL blkB s.data.toList 0) [] by unfold lexR; rw [HLN.out])
 generalize runL blkB s.data.toList 0 = a0 at HR h0 ⊢
 go_wp2_with fail
 go_loopw [5, 6] (fun o t wr => ∃ (a n : Nat) (out : List LTok), t = .int .i64 (a : Int) ∧ a ≤ s.size ∧ s.size < n + a ∧ out.length ≤ a ∧ Hid (lexR s.data.toList = lexG s.data.toList n a out) ∧ Hid (OwnToks 49 wr w.heap.size Nowhere out o) ∧ Below w.heap.size w wr) (fun _ t _ => s.size - (intOf t).toNat)
 case atStart => exact ⟨a0, s.size + 1, [], rfl, h0, by omega, Nat.zero_le _, HR, hid (OwnL.nil _ _ _), Below.refl _ _⟩
 case round =>
  clear HR h0
  obtain ⟨a, n, out, rfl, ha, hn, hol, HR, HO, hb⟩ := hrel
  by_cases hlt : a < s.size
  ·obtain ⟨m, rfl⟩ : ∃ m, n = m + 1 := ⟨n - 1, by omega⟩
   cases ht : tokL (s.data.toList.drop a) with
   | none =>
    have HX := hid (show lexR s.data.toList = ([], a, 1) by rw [HR.out, lexG_bad (by rw [HLN.out]; exact hlt) ht])
    have HT := hid ht
    clear ht
    go_wp2_with fail
    refine (next_any s a hlt hs' _).mono ?_
    rintro e w1 ⟨h1, hb1⟩
    rw [HT.out] at h1
    obtain ⟨k, t, rfl⟩ := h1
    have hb2 := hb.trans (hb1.mono hb.size)
    have hsz := hb2.size
    clear hb1 hb
    go_wp2_with fail
    go_ret3
    refine ⟨_, by rw [HX.out]; rfl, by rw [HX.out]; exact RdL.nil (by unfold maxLen; omega), ?_⟩
    exact hb2.alloc hsz _
   | some kt =>
    obtain ⟨k, t⟩ := kt
    obtain ⟨t1, t2, t3, t4⟩ := tokL_some ht
    have HX := hid (show lexR s.data.toList = lexG s.data.toList m (runL blkB s.data.toList (a + t.length)) (out ++ [⟨k, a, t⟩]) by rw [HR.out, lexG_step (by rw [HLN.out]; exact hlt) ht])
    have HT := hid ht
    rw [List.length_drop, HLN.out] at t3
    obtain ⟨x, hx⟩ : ∃ x, x = s.extract a (a + t.length) := ⟨_, rfl⟩
    have hxs : x.size = t.length := by rw [hx, ByteArray.size_extract]; omega
    have hxt : x = ⟨t.toArray⟩ := by
     rw [hx]
     apply of_list
     rw [Lib.extract_data, Nat.add_sub_cancel_left]; exact t2.symm
    have HXT := hid hxt
    have HXX := hid hx
    have HXS := hid hxs
    have hr1 : a + t.length ≤ s.size := by omega
    have hr2 := runL_le (p := blkB) (l := s.data.toList) (a := a + t.length) (by rw [HLN.out]; exact hr1)
    have hr3 := runL_ge (p := blkB) (l := s.data.toList) (a := a + t.length)
    rw [HLN.out] at hr2
    have hrun := fun w => run_any 39 blkB (fun args w => by kernel_rfl) blank_any s (a + t.length) hr1 hs' w
    have hcast : ((a + t.length : Nat) : Int) = (a : Int) + (x.size : Int) := by rw [hxs]; omega
    rw [hcast] at hrun
    have HRUN := hid hrun
    have hki : inI k := by unfold inI; omega
    have hxa : a + x.size ≤ s.size := by omega
    clear ht t2 hx hxs hxt hcast hrun
    go_wp2_with fail
    refine (next_any s a hlt hs' _).mono ?_
    rintro e w1 ⟨h1, hb1⟩
    rw [HT.out] at h1
    obtain rfl := h1
    rw [← HXX.out]
    have hb2 := hb.trans (hb1.mono hb.size)
    have ho1 := HO.out.keep Flat.keeps hb1
    have D1 := hid (Blk.made w1 [.int .i64 k, .int .i64 (a : Int), .string x] 49 (base := 0) (Nat.zero_le _))
    have O1 := hid (ho1.keep Flat.keeps ((Below.refl _ _).alloc (Nat.le_refl _) (.cells #[.int .i64 k, .int .i64 (a : Int), .string x] 49)))
    have B1 : Below w.heap.size w (w1.alloc (.cells #[.int .i64 k, .int .i64 (a : Int), .string x] 49)) := hb2.alloc hb2.size _
    have HNO := hid (show ∀ g, u5.ownBlock = some g → g ≠ w1.heap.size from fun g hg e => absurd (ho1.lt g hg).2 (by omega))
    obtain ⟨d, hd⟩ : ∃ d, d = w1.heap.size := ⟨_, rfl⟩
    rw [← hd] at HNO D1
    clear hb1 hb hb2 ho1 HO
    go_upto_region 8 with (fail)
    rw [← hd]
    clear hd
    generalize w1.alloc (.cells #[.int .i64 k, .int .i64 (a : Int), .string x] 49) = W1 at *
    have c0 := D1.out.cell 0 _ rfl
    have c1 := D1.out.cell 1 _ rfl
    have c2 := D1.out.cell 2 _ rfl
    have hsz := B1.size
    have HL1 := hid (show out.length + 1 ≤ maxLen by unfold maxLen; omega)
    have HL2 := hid (show (out.length + 1) * 32 ≤ 140737488355328 by omega)
    have HFL := hid (show Flat encT okT W1 Nowhere ⟨k, a, t⟩ [.int .i64 k, .int .i64 (a : Int), .string x] from ⟨by rw [HXT.out]; rfl, hki, by show a ≤ _; omega, by show t.length ≤ _; omega⟩)
    go_wp2_with (at_builtin; refine wpList_append_one rfl _ _ 40 rfl i0 _ Tryz.underlying40 hi hz0 hz1 hz2 rfl (by decide) Flat.keeps O1.out (x := (⟨k, a, t⟩ : LTok)) (cs := [.int .i64 k, .int .i64 (a : Int), .string x]) (Tx := Nowhere) HFL.out rfl rfl rfl (Sub.nowhere _) (Sub.nowhere _) not_nowhere (by simp [Value.oneCell']) HL1.out HL2.out hsz ?_)
    intro v2 w2 ho2 hg2 _
    have D2 := hid (D1.out.but (But.of_grown hg2) (fun e => HNO.out _ e rfl))
    have B2 := B1.grown hg2 hsz (fun g hg => (O1.out.lt g hg).1)
    have O2 := hid ho2
    clear ho2 hg2 O1 D1 B1 c0 c1 c2 HFL
    have c2 := D2.out.cell 2 _ rfl
    go_wp2_with fail
    with_reducible refine (HRUN.out _).mono ?_
    rintro e w' ⟨rfl, rfl⟩
    go_wp2_with fail
    go_roundw
    case rel => exact ⟨_, m, _, rfl, hr2, by omega, by simp; omega, HX, O2, B2⟩
    case measure => simp [intOf]; omega
  ·have hae : a = s.size := by omega
   subst hae
   obtain ⟨m, rfl⟩ : ∃ m, n = m + 1 := ⟨n - 1, by omega⟩
   have HX := hid (show lexR s.data.toList = (out, 0, 0) by rw [HR.out, lexG_end (by rw [HLN.out]; exact Nat.le_refl _)])
   have HRD := hid (HO.out.toRd (bytes := 32) (S' := Plus Nowhere w.heap.size wr.heap.size) Flat.keeps (by omega) (Sub.nowhere _) (fun b h1 h2 => .inr ⟨h1, h2⟩))
   clear HO
   go_wp2_with fail
   go_ret3
   exact ⟨_, by rw [HX.out]; rfl, by rw [HX.out]; exact HRD.out, hb⟩
theorem kept_eq (s : ByteArray) : keptB s = ((s.toList == [108, 101, 116]) || (s.toList == [108, 111, 97, 100]) || (s.toList == [115, 116, 111, 114, 101]) || (s.toList == [97, 115, 121, 110, 99]) || (s.toList == [102, 105, 110, 105, 115, 104]) || (s.toList == [105, 102]) || (s.toList == [101, 108, 115, 101]) || (s.toList == [102, 111, 114]) || (s.toList == [116, 111])) := by
 simp [keptB, wordsL, Bool.or_assoc]
set_option maxHeartbeats 1000000 in
theorem kept_any (s : ByteArray) (w : World) : Calls Tryz.prog 92 #[.string s] w fun e w' => e = .returned (.bool (keptB s)) ∧ w = w' := by
 have HK := hid (kept_eq s)
 cases h0 : (s.toList == [108, 101, 116])
 ·skip
  cases h1 : (s.toList == [108, 111, 97, 100])
  ·skip
   cases h2 : (s.toList == [115, 116, 111, 114, 101])
   ·skip
    cases h3 : (s.toList == [97, 115, 121, 110, 99])
    ·skip
     cases h4 : (s.toList == [102, 105, 110, 105, 115, 104])
     ·skip
      cases h5 : (s.toList == [105, 102])
      ·skip
       cases h6 : (s.toList == [101, 108, 115, 101])
       ·skip
        cases h7 : (s.toList == [102, 111, 114])
        ·skip
         cases h8 : (s.toList == [116, 111])
         ·have HZ := hid (show keptB s = false by rw [HK.out]; simp only [h0, h1, h2, h3, h4, h5, h6, h7, h8]; rfl)
          go_enter Tryz.func92, Tryz.ntmps92
          go_wp2
          go_ret
          exact ⟨by rw [HZ.out]; rfl, rfl⟩
         ·have HZ := hid (show keptB s = true by rw [HK.out]; simp only [h0, h1, h2, h3, h4, h5, h6, h7, h8]; simp)
          go_enter Tryz.func92, Tryz.ntmps92
          go_wp2
          go_ret
          exact ⟨by rw [HZ.out]; rfl, rfl⟩
        ·have HZ := hid (show keptB s = true by rw [HK.out]; simp only [h0, h1, h2, h3, h4, h5, h6, h7]; simp)
         go_enter Tryz.func92, Tryz.ntmps92
         go_wp2
         go_ret
         exact ⟨by rw [HZ.out]; rfl, rfl⟩
       ·have HZ := hid (show keptB s = true by rw [HK.out]; simp only [h0, h1, h2, h3, h4, h5, h6]; simp)
        go_enter Tryz.func92, Tryz.ntmps92
        go_wp2
        go_ret
        exact ⟨by rw [HZ.out]; rfl, rfl⟩
      ·have HZ := hid (show keptB s = true by rw [HK.out]; simp only [h0, h1, h2, h3, h4, h5]; simp)
       go_enter Tryz.func92, Tryz.ntmps92
       go_wp2
       go_ret
       exact ⟨by rw [HZ.out]; rfl, rfl⟩
     ·have HZ := hid (show keptB s = true by rw [HK.out]; simp only [h0, h1, h2, h3, h4]; simp)
      go_enter Tryz.func92, Tryz.ntmps92
      go_wp2
      go_ret
      exact ⟨by rw [HZ.out]; rfl, rfl⟩
    ·have HZ := hid (show keptB s = true by rw [HK.out]; simp only [h0, h1, h2, h3]; simp)
     go_enter Tryz.func92, Tryz.ntmps92
     go_wp2
     go_ret
     exact ⟨by rw [HZ.out]; rfl, rfl⟩
   ·have HZ := hid (show keptB s = true by rw [HK.out]; simp only [h0, h1, h2]; simp)
    go_enter Tryz.func92, Tryz.ntmps92
    go_wp2
    go_ret
    exact ⟨by rw [HZ.out]; rfl, rfl⟩
  ·have HZ := hid (show keptB s = true by rw [HK.out]; simp only [h0, h1]; simp)
   go_enter Tryz.func92, Tryz.ntmps92
   go_wp2
   go_ret
   exact ⟨by rw [HZ.out]; rfl, rfl⟩
 ·have HZ := hid (show keptB s = true by rw [HK.out]; simp only [h0]; simp)
  go_enter Tryz.func92, Tryz.ntmps92
  go_wp2
  go_ret
  exact ⟨by rw [HZ.out]; rfl, rfl⟩
def wordsB : List ByteArray := wordsL.map fun l => ⟨l.toArray⟩
theorem kept_take (s : ByteArray) (k : Nat) (h : k < wordsB.length) : ((wordsB.take (k + 1)).any fun x => s.toList == x.toList) = (((wordsB.take k).any fun x => s.toList == x.toList) || (s.toList == wordsB[k].toList)) := by
 rw [List.take_succ_eq_append_getElem h, List.any_append]; simp
theorem kept_all (s : ByteArray) : (wordsB.any fun x => s.toList == x.toList) = keptB s := by
 unfold keptB wordsB
 rw [List.any_map]
 congr 1
 funext l
 show (s.toList == ByteArray.toList ⟨l.toArray⟩) = _
 rw [ByteArray.toList_eq ⟨l.toArray⟩]
set_option maxHeartbeats 1000000 in
set_option maxRecDepth 100000 in
theorem kkept_any (s : ByteArray) (w : World) : Calls Tryz.prog 30 #[.string s] w fun e w' => e = .returned (.bool (keptB s)) ∧ Below w.heap.size w w' := by
 have HA := hid (kept_all s)
 go_enter Tryz.func30, Tryz.ntmps30
 go_wp2
 have B1 : Below w.heap.size w (w.alloc (.cells #[.string { data := #[108, 101, 116] }, .string { data := #[108, 111, 97, 100] }, .string { data := #[115, 116, 111, 114, 101] }, .string { data := #[97, 115, 121, 110, 99] }, .string { data := #[102, 105, 110, 105, 115, 104] }, .string { data := #[105, 102] }, .string { data := #[101, 108, 115, 101] }, .string { data := #[102, 111, 114] }, .string { data := #[116, 111] }] 9)) := (Below.refl _ _).alloc (Nat.le_refl _) _
 have K1 := hid (show Blk 0 (w.alloc (.cells #[.string { data := #[108, 101, 116] }, .string { data := #[108, 111, 97, 100] }, .string { data := #[115, 116, 111, 114, 101] }, .string { data := #[97, 115, 121, 110, 99] }, .string { data := #[102, 105, 110, 105, 115, 104] }, .string { data := #[105, 102] }, .string { data := #[101, 108, 115, 101] }, .string { data := #[102, 111, 114] }, .string { data := #[116, 111] }] 9)) w.heap.size (wordsB.map Value.string) from Blk.made w [.string { data := #[108, 101, 116] }, .string { data := #[108, 111, 97, 100] }, .string { data := #[115, 116, 111, 114, 101] }, .string { data := #[97, 115, 121, 110, 99] }, .string { data := #[102, 105, 110, 105, 115, 104] }, .string { data := #[105, 102] }, .string { data := #[101, 108, 115, 101] }, .string { data := #[102, 111, 114] }, .string { data := #[116, 111] }] 9 (Nat.zero_le _))
 obtain ⟨d, hd⟩ : ∃ d, d = w.heap.size := ⟨_, rfl⟩
 rw [← hd] at K1 ⊢
 clear hd
 generalize w.alloc (.cells #[.string { data := #[108, 101, 116] }, .string { data := #[108, 111, 97, 100] }, .string { data := #[115, 116, 111, 114, 101] }, .string { data := #[97, 115, 121, 110, 99] }, .string { data := #[102, 105, 110, 105, 115, 104] }, .string { data := #[105, 102] }, .string { data := #[101, 108, 115, 101] }, .string { data := #[102, 111, 114] }, .string { data := #[116, 111] }] 9) = W1 at *
 go_loop [7] (fun t => ∃ k : Nat, k ≤ 9 ∧ t = .int .i64 (k : Int) ∧ Hid (((wordsB.take k).any fun x => s.toList == x.toList) = false)) (fun t => 9 - (intOf t).toNat)
 case atStart => exact ⟨0, by omega, rfl, hid rfl⟩
 case round =>
  obtain ⟨k, hk, rfl, HK⟩ := hrel
  by_cases hlt : k < 9
  ·have hkl : k < wordsB.length := hlt
   have HT := hid (kept_take s k hkl)
   have hc := K1.out.mapAt (List.getElem?_eq_getElem hkl)
   generalize wordsB[k] = x at hc HT
   cases hx : (s.toList == x.toList)
   ·have HK2 := hid (show ((wordsB.take (k + 1)).any fun x => s.toList == x.toList) = false by rw [HT.out, HK.out, hx]; rfl)
    clear HT
    go_wp2
    go_round
    case rel => exact ⟨k + 1, by omega, by go_num, HK2⟩
    case measure => simp [intOf]; omega
   ·have HZ := hid (show keptB s = true by
      have h1 : ((wordsB.take (k + 1)).any fun x => s.toList == x.toList) = true := by rw [HT.out, hx]; simp
      rw [← HA.out, List.any_eq_true]
      obtain ⟨y, hy, h2⟩ := List.any_eq_true.1 h1
      exact ⟨y, List.mem_of_mem_take hy, h2⟩)
    clear HT
    go_wp2
    go_ret
    exact ⟨by rw [HZ.out]; rfl, B1⟩
  ·have hk9 : k = 9 := by omega
   subst hk9
   have HZ := hid (show keptB s = false by rw [← HA.out]; have h := HK.out; rwa [List.take_of_length_le (show wordsB.length ≤ 9 from Nat.le_refl _)] at h)
   go_wp2
   go_ret
   exact ⟨by rw [HZ.out]; rfl, B1⟩
def classesL : List (List UInt8) := [[32, 10, 9], [48, 49, 50, 51, 52, 53, 54, 55, 56, 57], [97, 98, 99, 100, 101, 102, 103, 104, 105, 106, 107, 108, 109, 110, 111, 112, 113, 114, 115, 116, 117, 118, 119, 120, 121, 122], [123, 125, 91, 93, 40, 41, 59, 61, 60, 43, 45, 42, 47, 37]]
def classesB : List ByteArray := classesL.map fun l => ⟨l.toArray⟩
def jclN (c : UInt8) : Nat := classesL.findIdx fun l => l.contains c
theorem jcl_let (c : UInt8) : decide (jclN c = 2) = letB c := by
 have key : ∀ n : Fin 256, decide (jclN (UInt8.ofNat n.val) = 2) = letB (UInt8.ofNat n.val) := by decide +kernel
 have h := key ⟨c.toNat, c.toNat_lt⟩
 simpa using h
theorem jcl_dig (c : UInt8) : decide (jclN c = 1) = digB c := by
 have key : ∀ n : Fin 256, decide (jclN (UInt8.ofNat n.val) = 1) = digB (UInt8.ofNat n.val) := by decide +kernel
 have h := key ⟨c.toNat, c.toNat_lt⟩
 simpa using h
theorem jcl_le (c : UInt8) : jclN c ≤ 4 := List.findIdx_le_length
theorem classB_get (k : Nat) (h : k < 4) : classesB[k]? = some ⟨((classesL[k]?).getD []).toArray⟩ := by
 unfold classesB
 rw [List.getElem?_map, List.getElem?_eq_getElem (show k < classesL.length from h)]; rfl
set_option maxHeartbeats 1000000 in
set_option maxRecDepth 100000 in
theorem jclass_any (c : UInt8) (w : World) : Calls Tryz.prog 28 #[.int .u8 (c.toNat : Int)] w fun e w' => e = .returned (.int .i64 (jclN c : Nat)) ∧ Below w.heap.size w w' := by
 go_enter Tryz.func28, Tryz.ntmps28
 go_wp2
 have B1 : Below w.heap.size w (w.alloc (.cells #[.string { data := #[32, 10, 9] }, .string { data := #[48, 49, 50, 51, 52, 53, 54, 55, 56, 57] }, .string { data := #[97, 98, 99, 100, 101, 102, 103, 104, 105, 106, 107, 108, 109, 110, 111, 112, 113, 114, 115, 116, 117, 118, 119, 120, 121, 122] }, .string { data := #[123, 125, 91, 93, 40, 41, 59, 61, 60, 43, 45, 42, 47, 37] }] 9)) := (Below.refl _ _).alloc (Nat.le_refl _) _
 have K1 := hid (show Blk 0 (w.alloc (.cells #[.string { data := #[32, 10, 9] }, .string { data := #[48, 49, 50, 51, 52, 53, 54, 55, 56, 57] }, .string { data := #[97, 98, 99, 100, 101, 102, 103, 104, 105, 106, 107, 108, 109, 110, 111, 112, 113, 114, 115, 116, 117, 118, 119, 120, 121, 122] }, .string { data := #[123, 125, 91, 93, 40, 41, 59, 61, 60, 43, 45, 42, 47, 37] }] 9)) w.heap.size (classesB.map Value.string) from Blk.made w [.string { data := #[32, 10, 9] }, .string { data := #[48, 49, 50, 51, 52, 53, 54, 55, 56, 57] }, .string { data := #[97, 98, 99, 100, 101, 102, 103, 104, 105, 106, 107, 108, 109, 110, 111, 112, 113, 114, 115, 116, 117, 118, 119, 120, 121, 122] }, .string { data := #[123, 125, 91, 93, 40, 41, 59, 61, 60, 43, 45, 42, 47, 37] }] 9 (Nat.zero_le _))
 obtain ⟨d, hd⟩ : ∃ d, d = w.heap.size := ⟨_, rfl⟩
 rw [← hd] at K1 ⊢
 clear hd
 generalize w.alloc (.cells #[.string { data := #[32, 10, 9] }, .string { data := #[48, 49, 50, 51, 52, 53, 54, 55, 56, 57] }, .string { data := #[97, 98, 99, 100, 101, 102, 103, 104, 105, 106, 107, 108, 109, 110, 111, 112, 113, 114, 115, 116, 117, 118, 119, 120, 121, 122] }, .string { data := #[123, 125, 91, 93, 40, 41, 59, 61, 60, 43, 45, 42, 47, 37] }] 9) = W1 at *
 go_loop [8] (fun t => ∃ k : Nat, k ≤ 4 ∧ t = .int .i64 (k : Int) ∧ Hid (∀ i, i < k → ((classesL[i]?).getD []).contains c = false)) (fun t => 4 - (intOf t).toNat)
 case atStart => exact ⟨0, by omega, rfl, hid (fun i h => by omega)⟩
 case round =>
  obtain ⟨k, hk, rfl, HK⟩ := hrel
  by_cases hlt : k < 4
  ·have hc := K1.out.mapAt (classB_get k hlt)
   obtain ⟨l, hl⟩ : ∃ l, l = (classesL[k]?).getD [] := ⟨_, rfl⟩
   rw [← hl] at hc
   have HLK := hid hl
   have hll : l.length ≤ 26 := by
    rw [hl]
    have key : ∀ k : Fin 4, ((classesL[k.val]?).getD []).length ≤ 26 := by decide
    exact key ⟨k, hlt⟩
   clear hl
   obtain ⟨x, hx⟩ : ∃ x : ByteArray, x = ⟨l.toArray⟩ := ⟨_, rfl⟩
   have HXL := hid (show x.data.toList = l by rw [hx])
   have hxs : x.size ≤ 26 := by rw [hx]; exact hll
   have HXS := hid (show x.size = l.length by rw [hx]; rfl)
   rw [← hx] at hc
   clear hx hll
   go_wp2
   go_loop [15] (fun t => ∃ i : Nat, i ≤ x.size ∧ t = .int .i64 (i : Int) ∧ Hid ((l.take i).contains c = false)) (fun t => x.size - (intOf t).toNat)
   case atStart => exact ⟨0, by omega, rfl, hid rfl⟩
   case round =>
    obtain ⟨i, hi, rfl, HI⟩ := hrel
    by_cases hlt2 : i < x.size
    ·have hil : i < l.length := by rw [← HXS.out]; exact hlt2
     have hg : x[i]'hlt2 = l[i] := by
      have e : x.data.toList[i]'(by rw [HXL.out]; exact hil) = l[i] := by simp only [HXL.out]
      rw [← e, Array.getElem_toList]; rfl
     have HT := hid (show (l.take (i + 1)).contains c = ((l.take i).contains c || (c == x[i]'hlt2)) by
      rw [List.take_succ_eq_append_getElem hil, List.contains_append, hg]
      congr 1
      rw [List.contains_cons, List.contains_nil, Bool.or_false])
     by_cases he : x[i]'hlt2 = c
     ·have he' : (((x[i]'hlt2).toNat : Int) == (c.toNat : Int)) = true := by rw [he]; simp
      have HZ := hid (show jclN c = k by
       have hkl : k < classesL.length := hlt
       have h1 : (l.take (i + 1)).contains c = true := by rw [HT.out, he]; simp
       have h2 : l.contains c = true := by
        rw [List.contains_iff_mem] at h1 ⊢
        exact List.mem_of_mem_take h1
       unfold jclN
       rw [List.findIdx_eq hkl]
       refine ⟨?_, fun j hj => ?_⟩
       ·have := HLK.out
        rw [List.getElem?_eq_getElem hkl, Option.getD_some] at this
        rw [← this]; exact h2
       ·have := HK.out j hj
        rw [List.getElem?_eq_getElem (show j < classesL.length by omega), Option.getD_some] at this
        exact this)
      clear he HT hg hil
      go_wp2
      go_ret
      exact ⟨by rw [HZ.out]; rfl, B1⟩
     ·have hne : (x[i]'hlt2).toNat ≠ c.toNat := fun h => he (UInt8.toNat_inj.1 h)
      have he' : (((x[i]'hlt2).toNat : Int) == (c.toNat : Int)) = false := by simpa using (fun h => hne (by omega))
      have HI2 := hid (show (l.take (i + 1)).contains c = false by
       rw [HT.out, HI.out, Bool.false_or]
       simpa using fun h => he h.symm)
      clear he hne HT hg hil
      go_wp2
      go_round
      case rel => exact ⟨i + 1, by omega, by go_num, HI2⟩
      case measure => simp [intOf]; omega
    ·have hie : i = x.size := by omega
     subst hie
     have HK2 := hid (show ∀ j, j < k + 1 → ((classesL[j]?).getD []).contains c = false by
      intro j hj
      rcases Nat.lt_or_ge j k with h | h
      ·exact HK.out j h
      ·have : j = k := by omega
       subst this
       rw [← HLK.out]
       have h := HI.out
       rwa [HXS.out, List.take_length] at h)
     clear HI
     go_wp2
     go_round
     case rel => exact ⟨k + 1, by omega, by go_num, HK2⟩
     case measure => simp [intOf]; omega
  ·have hk4 : k = 4 := by omega
   subst hk4
   have HZ := hid (show jclN c = 4 by
    unfold jclN
    refine List.findIdx_eq_length.2 ?_
    intro y hy
    obtain ⟨j, hj, e⟩ := List.getElem_of_mem hy
    have := HK.out j hj
    rw [List.getElem?_eq_getElem hj, Option.getD_some, e] at this
    exact this)
   go_wp2
   go_ret
   exact ⟨by rw [HZ.out]; rfl, B1⟩
def okAt (l : List UInt8) (i : Nat) : Bool := letB ((l[i]?).getD 0) || (digB ((l[i]?).getD 0) && !decide (i = 0))
theorem name_at (l : List UInt8) : nameL l = (!l.isEmpty && (List.range l.length).all (okAt l)) := by
 cases l with
 | nil => rfl
 | cons c r =>
  rw [Bool.eq_iff_iff]
  unfold nameL
  simp only [List.isEmpty_cons, Bool.not_false, Bool.true_and, Bool.and_eq_true, List.all_eq_true, List.mem_range]
  constructor
  ·rintro ⟨h1, h2⟩ i hi
   unfold okAt
   cases i with
   | zero => simp [h1]
   | succ i =>
    have hi' : i < r.length := by simpa using hi
    have := h2 r[i] (List.getElem_mem hi')
    unfold nameB at this
    simpa [List.getElem?_eq_getElem hi'] using this
  ·intro h
   refine ⟨?_, fun x hx => ?_⟩
   ·have := h 0 (by simp)
    unfold okAt at this
    simpa using this
   ·obtain ⟨i, hi, rfl⟩ := List.getElem_of_mem hx
    have := h (i + 1) (by simpa using hi)
    unfold okAt at this
    unfold nameB
    simpa [List.getElem?_eq_getElem hi] using this
set_option maxHeartbeats 1000000 in
set_option maxRecDepth 100000 in
theorem kname_any (s : ByteArray) (hs : s.size ≤ 9223372036854775807) (w : World) : Calls Tryz.prog 55 #[.string s] w fun e w' => e = .returned (.bool (knameB s)) ∧ Below w.heap.size w w' := by
 have HN := hid (name_at s.data.toList)
 have HLN := hid (data_len s)
 go_enter Tryz.func55, Tryz.ntmps55
 go_wp2
 go_loopw [7] (fun t wr => ∃ i : Nat, i ≤ s.size ∧ t = .int .i64 (i : Int) ∧ Hid (∀ j, j < i → okAt s.data.toList j = true) ∧ Below w.heap.size w wr) (fun t _ => s.size - (intOf t).toNat)
 case atStart => exact ⟨0, by omega, rfl, hid (fun j h => by omega), Below.refl _ _⟩
 case round =>
  obtain ⟨i, hi, rfl, HI, hb⟩ := hrel
  by_cases hlt : i < s.size
  ·have hg : (s.data.toList[i]?).getD 0 = s[i]'hlt := by
     rw [List.getElem?_eq_getElem (by rw [HLN.out]; exact hlt), Option.getD_some, Array.getElem_toList]; rfl
   obtain ⟨n, hn⟩ : ∃ n, n = jclN (s[i]'hlt) := ⟨_, rfl⟩
   have HO := hid (show okAt s.data.toList i = (decide (n = 2) || (decide (n = 1) && !decide (i = 0))) by
    unfold okAt; rw [hg, hn, jcl_let, jcl_dig])
   have HNN := hid hn
   clear hg hn
   have bad : okAt s.data.toList i = false → knameB s = false := by
    intro h
    unfold knameB
    rw [HN.out]
    have : (List.range s.data.toList.length).all (okAt s.data.toList) = false := by
     cases e : (List.range s.data.toList.length).all (okAt s.data.toList)
     ·rfl
     ·have := List.all_eq_true.1 e i (List.mem_range.2 (by rw [HLN.out]; exact hlt))
      rw [h] at this; cases this
    rw [this]; simp
   have good : okAt s.data.toList i = true → ∀ j, j < i + 1 → okAt s.data.toList j = true := by
    intro h j hj
    rcases Nat.lt_or_ge j i with h2 | h2
    ·exact HI.out j h2
    ·have : j = i := by omega
     subst this; exact h
   have BAD := hid bad
   have GOOD := hid good
   clear bad good
   by_cases h2 : n = 2
   ·have HG := hid (GOOD.out (by rw [HO.out, decide_eq_true h2]; rfl))
    have t1 : ((n : Int) == 2) = true := by simp; omega
    have t2 : ((n : Int) != 2) = false := by simp; omega
    clear h2
    go_wp2_with fail
    refine (jclass_any (s[i]'hlt) _).mono ?_
    rintro e w1 ⟨rfl, hb1⟩
    rw [← HNN.out]
    have hb2 := hb.trans (hb1.mono hb.size)
    go_wp2_with fail
    go_roundw
    case rel => exact ⟨i + 1, by omega, by go_num, HG, hb2⟩
    case measure => simp [intOf]; omega
   ·have t1 : ((n : Int) == 2) = false := by simp; omega
    have t2 : ((n : Int) != 2) = true := by simp; omega
    by_cases h1 : n = 1
    ·have t3 : ((n : Int) == 1) = true := by simp; omega
     have t4 : ((n : Int) != 1) = false := by simp; omega
     by_cases h0 : i = 0
     ·have HZ := hid (BAD.out (by rw [HO.out, decide_eq_false h2, decide_eq_true h0]; simp))
      have t5 : ((i : Int) == 0) = true := by simp; omega
      clear h0 h1 h2
      go_wp2_with fail
      refine (jclass_any (s[i]'hlt) _).mono ?_
      rintro e w1 ⟨rfl, hb1⟩
      rw [← HNN.out]
      have hb2 := hb.trans (hb1.mono hb.size)
      go_wp2_with fail
      go_ret
      exact ⟨by rw [HZ.out]; rfl, hb2⟩
     ·have HG := hid (GOOD.out (by rw [HO.out, decide_eq_true h1, decide_eq_false h0]; simp))
      have t5 : ((i : Int) == 0) = false := by simp; omega
      clear h0 h1 h2
      go_wp2_with fail
      refine (jclass_any (s[i]'hlt) _).mono ?_
      rintro e w1 ⟨rfl, hb1⟩
      rw [← HNN.out]
      have hb2 := hb.trans (hb1.mono hb.size)
      go_wp2_with fail
      go_roundw
      case rel => exact ⟨i + 1, by omega, by go_num, HG, hb2⟩
      case measure => simp [intOf]; omega
    ·have HZ := hid (BAD.out (by rw [HO.out, decide_eq_false h2, decide_eq_false h1]; simp))
     have t3 : ((n : Int) == 1) = false := by simp; omega
     have t4 : ((n : Int) != 1) = true := by simp; omega
     clear h1 h2
     go_wp2_with fail
     refine (jclass_any (s[i]'hlt) _).mono ?_
     rintro e w1 ⟨rfl, hb1⟩
     rw [← HNN.out]
     have hb2 := hb.trans (hb1.mono hb.size)
     go_wp2_with fail
     go_ret
     exact ⟨by rw [HZ.out]; rfl, hb2⟩
  ·have hie : i = s.size := by omega
   subst hie
   have hall : (List.range s.data.toList.length).all (okAt s.data.toList) = true := by
    rw [List.all_eq_true]
    intro j hj
    exact HI.out j (by have := List.mem_range.1 hj; rw [HLN.out] at this; exact this)
   have HK := hid (show knameB s = (!s.toList.isEmpty && !keptB s) by
    unfold knameB; rw [HN.out, hall, Bool.and_true, ByteArray.toList_eq])
   clear hall HI
   cases he : s.toList.isEmpty
   ·have he2 : (!s.toList.isEmpty) = true := by rw [he]; rfl
    have HZ := hid (show knameB s = !keptB s by rw [HK.out, he]; rfl)
    go_wp2_with fail
    refine (kkept_any s _).mono ?_
    rintro e w1 ⟨rfl, hb1⟩
    have hb2 := hb.trans (hb1.mono hb.size)
    go_wp2_with fail
    go_ret
    exact ⟨by rw [HZ.out]; rfl, hb2⟩
   ·have he2 : (!s.toList.isEmpty) = false := by rw [he]; rfl
    have HZ := hid (show knameB s = false by rw [HK.out, he]; rfl)
    go_wp2_with fail
    go_ret
    exact ⟨by rw [HZ.out]; rfl, hb⟩
abbrev exV (k n : Int) (s : ByteArray) (v : Value) : Value := .agg #[.int .i64 k, .int .i64 n, .string s, v]
def RdE (w : World) (S : Blocks) (e : Ex) (V : Value) : Prop := ∃ k n s args v, e = .mk k n s args ∧ V = exV k n s v ∧ inI k ∧ inI n ∧ s.size ≤ 140737488355328 ∧ RdExs w S args v
theorem RdE.keep {w w' : World} {S S' : Blocks} {t : Ex} {V : Value} (h : RdE w S t V) (hS : Sub S S') (hk : Same S w w') : RdE w' S' t V := by
 obtain ⟨k, n, s, args, v, e1, e2, h1, h2, h3, h4⟩ := h
 exact ⟨k, n, s, args, v, e1, e2, h1, h2, h3, h4.keep RdEx.keeps hS hk⟩
theorem RdE.go {B : Nat} {w w' : World} {S : Blocks} {t : Ex} {V : Value} (h : RdE w S t V) (hb : Below B w w') (hS : Sub S (Upto B)) : RdE w' S t V := h.keep (Sub.refl _) (same_of_below hb hS)
theorem RdE.slice {w : World} {S : Blocks} {t : Ex} {k n : Int} {s : ByteArray} {v : Value} (h : RdE w S t (exV k n s v)) : ∃ A n cap, v = .slice A n cap := by
 obtain ⟨k', n', s', args, v', _, e, _, _, _, h4⟩ := h
 obtain ⟨A, cap, rfl, _⟩ := h4.form
 injection e with e
 simp only [Array.mk.injEq, List.cons.injEq, and_true] at e
 exact ⟨_, _, _, e.2.2.2⟩
theorem RdExs.arg {w : World} {S : Blocks} {l : List Ex} {A : Option Addr} {n cap : Nat} (h : RdExs w S l (.slice A n cap)) {q : Nat} (hq : q < l.length) :
    ∃ b off k c s v, A = some ⟨b, off, none⟩ ∧ S b ∧ w.cell? ⟨b, off + q * 4, none⟩ = some (.int .i64 k) ∧ w.cell? ⟨b, off + q * 4 + 1, none⟩ = some (.int .i64 c) ∧ w.cell? ⟨b, off + q * 4 + 2, none⟩ = some (.string s) ∧
     w.cell? ⟨b, off + q * 4 + 3, none⟩ = some v ∧ RdE w S l[q] (exV k c s v) := by
 obtain ⟨b, off, cs, hA, hb, _, hc, hr⟩ := RdL.at_ h hq
 generalize l[q] = t at hr
 obtain ⟨k, c, s, args⟩ := t
 obtain ⟨h1, h2, h3, v, rfl, h4⟩ := RdEx.open_ hr
 exact ⟨b, off, k, c, s, v, hA, hb, hc 0 _ rfl, by rw [Nat.add_assoc]; exact hc 1 _ rfl, by rw [Nat.add_assoc]; exact hc 2 _ rfl, by rw [Nat.add_assoc]; exact hc 3 _ rfl, k, c, s, args, v, rfl, rfl, h1, h2, h3, h4⟩
abbrev noS : Str := ⟨#[]⟩
def mkE (k : Int) (a b : Ex) : Ex := .mk k 0 noS [a, b]
def FrE (w : World) (t : Ex) (V : Value) : Prop := ∃ S, Sub S (Upto w.heap.size) ∧ RdE w S t V
section
variable {w w' : World} {t a b : Ex} {V : Value}
theorem FrE.drew (h : FrE w t V) : FrE w.drew t V := by
 obtain ⟨S, hS, r⟩ := h
 exact ⟨S, hS, r.go (Below.refl _ _).drew hS⟩
theorem FrE.via (hb : Below w.heap.size w w') (h : FrE w t V) : FrE w' t V := by
 obtain ⟨S, hS, r⟩ := h
 exact ⟨S, hS.trans (Sub.upto hb.size), r.go hb hS⟩
theorem FrE.alloc {o : Obj} (h : FrE w t V) : FrE (w.alloc o) t V := h.via ((Below.refl _ _).alloc (Nat.le_refl _) _)
theorem FrE.of {S : Blocks} (h : RdE w S t V) (hS : Sub S (Upto w.heap.size)) : FrE w t V := ⟨S, hS, h⟩
theorem FrE.form (h : FrE w t V) : ∃ A cap, V = .agg #[.int .i64 t.kind, .int .i64 t.num, .string t.name, .slice A t.args.length cap] := by
 obtain ⟨S, hS, k, n, s, args, v, rfl, rfl, _, _, _, h4⟩ := h
 obtain ⟨A, cap, rfl, _⟩ := h4.form
 exact ⟨A, cap, rfl⟩
theorem FrE.leaf (w : World) {k n : Int} {s : Str} (hk : inI k) (hn : inI n) (hs : s.size ≤ 140737488355328) {A : Option Addr} : FrE w (.mk k n s []) (.agg #[.int .i64 k, .int .i64 n, .string s, .slice A 0 0]) :=
 ⟨Nowhere, Sub.nowhere _, k, n, s, [], _, rfl, rfl, hk, hn, hs, RdL.nil (by simp [maxLen])⟩
theorem RdE.form {S : Blocks} (h : RdE w S t V) : ∃ A cap, V = .agg #[.int .i64 t.kind, .int .i64 t.num, .string t.name, .slice A t.args.length cap] := by
 obtain ⟨k, n, s, args, v, rfl, rfl, _, _, _, h4⟩ := h
 obtain ⟨A, cap, rfl, _⟩ := h4.form
 exact ⟨A, cap, rfl⟩
theorem RdE.leaf (w : World) (S : Blocks) {k n : Int} {s : Str} (hk : inI k) (hn : inI n) (hs : s.size ≤ 140737488355328) {A : Option Addr} : RdE w S (.mk k n s []) (.agg #[.int .i64 k, .int .i64 n, .string s, .slice A 0 0]) :=
 ⟨k, n, s, [], _, rfl, rfl, hk, hn, hs, RdL.nil (by simp [maxLen])⟩
theorem RdE.toX {S : Blocks} {k n : Int} {s : Str} {v : Value} (h : RdE w S t (exV k n s v)) : RdEx w S t [.int .i64 k, .int .i64 n, .string s, v] := by
 obtain ⟨k', n', s', args, v', rfl, e, h1, h2, h3, h4⟩ := h
 injection e with e
 simp only [Array.mk.injEq, List.cons.injEq, Value.int.injEq, true_and, Value.string.injEq, and_true] at e
 obtain ⟨rfl, rfl, rfl, rfl⟩ := e
 exact RdEx.shut h1 h2 h3 h4
theorem RdE.two {S : Blocks} {k : Int} {z : Nat} {k1 n1 k2 n2 : Int} {s1 s2 : Str} {v1 v2 : Value} (hk : inI k) (r1 : RdE w S a (exV k1 n1 s1 v1)) (r2 : RdE w S b (exV k2 n2 s2 v2)) (hz : S z)
    (hc : ∀ (q : Nat) v, [.int .i64 k1, .int .i64 n1, .string s1, v1, .int .i64 k2, .int .i64 n2, .string s2, v2][q]? = some v → w.cell? ⟨z, q, none⟩ = some v) :
    RdE w S (mkE k a b) (.agg #[.int .i64 k, .int .i64 0, .string noS, .slice (some ⟨z, 0, none⟩) 2 2]) := by
 have x1 := r1.toX
 have x2 := r2.toX
 refine ⟨k, 0, noS, [a, b], _, rfl, rfl, hk, by decide, by decide, ?_⟩
 refine ⟨some ⟨z, 0, none⟩, 2, [[.int .i64 k1, .int .i64 n1, .string s1, v1], [.int .i64 k2, .int .i64 n2, .string s2, v2]], rfl, Nat.le_refl _, by simp [maxLen], by simp, rfl, ⟨by simp, fun _ => ⟨z, 0, rfl, hz, fun i cs hi j v hv => ?_⟩⟩, fun i e cs hi hc => ?_⟩
 ·match i, hi with
  | 0, hi =>
   simp at hi; subst hi
   have hj : j < 4 := by have := (List.getElem?_eq_some_iff.1 hv).1; simpa using this
   match j, hj, hv with
   | 0, _, hv => simp at hv; subst hv; exact hc 0 _ rfl
   | 1, _, hv => simp at hv; subst hv; exact hc 1 _ rfl
   | 2, _, hv => simp at hv; subst hv; exact hc 2 _ rfl
   | 3, _, hv => simp at hv; subst hv; exact hc 3 _ rfl
  | 1, hi =>
   simp at hi; subst hi
   have hj : j < 4 := by have := (List.getElem?_eq_some_iff.1 hv).1; simpa using this
   match j, hj, hv with
   | 0, _, hv => simp at hv; subst hv; exact hc 4 _ rfl
   | 1, _, hv => simp at hv; subst hv; exact hc 5 _ rfl
   | 2, _, hv => simp at hv; subst hv; exact hc 6 _ rfl
   | 3, _, hv => simp at hv; subst hv; exact hc 7 _ rfl
 ·match i, hi, hc with
  | 0, hi, hc => simp at hi hc; subst hi hc; exact x1
  | 1, hi, hc => simp at hi hc; subst hi hc; exact x2
end
def encS (s : Str) : List Value := [.string s]
def okS (s : Str) : Prop := s.size ≤ 140737488355328
abbrev RdSs := RdL (Flat encS okS) 1 16
abbrev OwnSs := OwnL (Flat encS okS) 1
theorem RdSs.at1 {w : World} {S : Blocks} {l : List Str} {A : Option Addr} {n cap : Nat} (h : RdSs w S l (.slice A n cap)) {q : Nat} (hq : q < l.length) :
    ∃ b off, A = some ⟨b, off, none⟩ ∧ S b ∧ okS l[q] ∧ w.cell? ⟨b, off + q, none⟩ = some (.string l[q]) :=
 RdL.one (f := fun (x : Str) => Value.string x) (ok := okS) h hq
theorem oneS {w : World} {S : Blocks} : ∀ (e : Str) (cs : List Value), Flat encS okS w S e cs → ∀ u ∈ cs, u.oneCell' = true := by
 rintro e _ ⟨rfl, _⟩ u hu
 simp only [encS, List.mem_singleton] at hu
 subst hu; rfl
theorem infoStr : (Tryz.prog.info? 9).map (fun i => (i.zero, i.size, i.bytes)) = some (some (.string ⟨#[]⟩), 1, 16) := by kernel_rfl
theorem str_ne {a b : Str} (h : ¬ a = b) : (a.toList == b.toList) = false := by
 rw [beq_eq_false_iff_ne]
 intro e
 rw [ByteArray.toList_eq, ByteArray.toList_eq] at e
 exact h (ByteArray.ext (Array.toList_inj.mp e))
theorem str_eq {a b : Str} (h : a = b) : (a.toList == b.toList) = true := by rw [h]; simp
section
variable {P : Program} {α : Type} {rd : World → Blocks → α → List Value → Prop} {size bytes : Nat} {E : TypeId} {w : World} {base : Nat} {S Tx U : Blocks} {l m : List α} {v : Value} {A : Option Addr} {n c : Nat}
theorem step_append_list {ops : Array Oper} {o : Oper} {a : Act} {K : Act → World → Prop} {Q : Exit → Act → World → Prop} {Z : Prop} (hgd : o.guard = none) (s y : Operand) (t : TypeId) (ho : o.op = .call { callee := .builtin .append, args := #[s, y], argTypes := #[t, t] })
    (hs : a.eval s = v) (hy : a.eval y = .slice A n c)
    (i : TypeInfo) (z : Value) (ht : P.underlying t = some (.slice E)) (hi : P.info? E = some i) (hz : i.zero = some z) (hsize : i.size = size) (hby : i.bytes = bytes) (hzs : z.cells.size = size) (hsz : 0 < size)
    (hr : Keeps rd) (hx : RdL (fun w' _ e cs => rd w' Tx e cs) size bytes w U m (.slice A n c)) (hown : OwnL rd size E w base S l v) (t1 : Sub Tx S) (t2 : Sub Tx (Upto w.heap.size)) (t3 : ∀ k, v.ownBlock = some k → ¬ Tx k)
    (h1 : ∀ e cs, rd w Tx e cs → ∀ u ∈ cs, u.oneCell' = true) (h63 : l.length + m.length ≤ maxLen) (hbytes : (l.length + m.length) * bytes ≤ 140737488355328) (hbase : base ≤ w.heap.size)
    (h : ∀ v' w', OwnL rd size E w' base S (l ++ m) v' → w.grownBy w' v.ownBlock → (v'.ownBlock = v.ownBlock ∨ v'.ownBlock = some w.heap.size) → K (a.put o.dst v') w') :
    if Region.wanted o (yielded ops a.tmps) = true then Oper.wp P o a w K Q else Z := by
 have hw : Region.wanted o (yielded ops a.tmps) = true := by simp [Region.wanted, hgd]
 rw [if_pos hw]
 exact wp_append_list s y t ho i z ht hi hz hsize hby hzs hsz hr hown hx hs hy t1 t2 t3 h1 h63 hbytes hbase h
end
theorem frozen_of_heap {w w' : World} {b o : Nat} {sp : Option Nat} (h : w'.heap[b]? = w.heap[b]?) : w'.frozen? ⟨b, o, sp⟩ = w.frozen? ⟨b, o, sp⟩ := by
 simp only [World.frozen?, h]
theorem rd_one {α : Type} {enc : α → List Value} {ok : α → Prop} {size bytes : Nat} {w : World} {S : Blocks} {g : Nat} {x : α} (hlen : (enc x).length = size) (h : ∀ (j : Nat) v, (enc x)[j]? = some v → w.cell? ⟨g, j, none⟩ = some v) (hx : ok x) (hg : S g) (hb : bytes ≤ 140737488355328) : RdL (Flat enc ok) size bytes w S [x] (.slice (some ⟨g, 0, none⟩) 1 1) :=
 ⟨_, 1, [enc x], rfl, Nat.le_refl _, by simp [maxLen], by simpa using hb, rfl, ⟨by simpa using hlen, fun _ => ⟨g, 0, rfl, hg, fun i cs hi j v hv => by
  match i, hi with
  | 0, hi => simp at hi; subst hi; simpa using h j v hv⟩⟩, fun i e cs hi hc => by
  match i, hi, hc with
  | 0, hi, hc => simp at hi hc; subst hi hc; exact ⟨rfl, hx⟩⟩
theorem cells_newAt (w : World) (vs : List Value) (E : TypeId) {g : Nat} (h : w.heap.size = g) : ∀ (j : Nat) v, vs[j]? = some v → (w.alloc (.cells vs.toArray E)).drew.cell? ⟨g, j, none⟩ = some v := by
 subst h
 intro j v hv
 have h := heap_alloc_new w (.cells vs.toArray E)
 show (w.alloc (.cells vs.toArray E)).cell? ⟨w.heap.size, j, none⟩ = some v
 unfold World.cell?
 simp only [h]
 simpa using hv
section
variable {α : Type} {rd : World → Blocks → α → List Value → Prop} {size bytes : Nat} {w : World} {S : Blocks} {l : List α}
theorem RdL.drop {A : Option Addr} {n cap k : Nat} (h : RdL rd size bytes w S l (.slice A n cap)) (hk : k ≤ l.length) :
    RdL rd size bytes w S (l.drop k) (.slice (A.map fun a => a.add (k * size)) (n - k) (cap - k)) := by
 obtain ⟨A', cap', css, h1, h2, h3, h4, h5, h6, h7⟩ := h
 injection h1 with e1 e2 e3
 subst e1 e2 e3
 refine ⟨_, _, css.drop k, by rw [List.length_drop], by rw [List.length_drop]; omega, by omega, ?_, by simp [h5], ⟨fun cs hcs => h6.1 cs (List.mem_of_mem_drop hcs), fun hne => ?_⟩, fun i e cs hi hc => ?_⟩
 ·rw [List.length_drop]; exact Nat.le_trans (Nat.mul_le_mul_right _ (by omega)) h4
 ·obtain ⟨b, off, hA, hb, hc⟩ := h6.2 (by intro h; subst h; simp at hne)
  subst hA
  refine ⟨b, off + k * size, by simp only [Option.map_some, Addr.add]; split <;> simp_all, hb, fun i cs hi j v hv => ?_⟩
  rw [List.getElem?_drop] at hi
  have := hc (k + i) cs hi j v hv
  rw [Nat.add_mul] at this
  rw [show off + k * size + (i * size + j) = off + (k * size + i * size + j) by omega]
  exact this
 ·rw [List.getElem?_drop] at hi hc
  exact h7 _ e cs hi hc
theorem RdL.any {A A' : Option Addr} {cap cap' : Nat} (h : RdL rd size bytes w S [] (.slice A 0 cap)) (hc : cap' ≤ maxLen) : RdL rd size bytes w S [] (.slice A' 0 cap') := RdL.nil hc
end
def tokOk (t : LTok) : Prop := lexOk t ∧ t.text.length ≤ 1048576
structure En where
 e : Int
 lo : Nat
def Tk (en : En) (p : Nat) : Blocks := fun k => en.lo ≤ k ∧ k < p
theorem Tk.sub {en : En} {p : Nat} : Sub (Tk en p) (Upto p) := fun k hk => hk.2
def PsAt (p : Nat) (en : En) (w : World) (ts : List LTok) : Prop := ∃ v, Blk 0 w p [v, .int .i64 en.e] ∧ RdToks w (Tk en p) ts v ∧ ∀ t ∈ ts, tokOk t
def Rn (lo y : Nat) (w : World) : Blocks := fun k => lo ≤ k ∧ k < w.heap.size ∧ k ≠ y
def rdE (lo y : Nat) (w : World) (t : Ex) (V : Value) : Prop := RdE w (Rn lo y w) t V
def misV (z : Int) : Value := .iface 59 (.agg #[.int .i64 z])
def POut {α : Type} (p : Nat) (en : En) (w : World) (rd : World → α → Value → Prop) (o : PR α) (e : Ending) (w' : World) : Prop :=
 match o with
 | .ok a r => ∃ x, e = .returned x ∧ rd w' a x ∧ PsAt p en w' r ∧ But (Is p) w w'
 | .no r => e = .panicked [{ v := misV (placeG en.e r), recovered := false }] ∧ But (Is p) w w'
section
variable {p : Nat} {en : En} {w w' w2 : World} {ts : List LTok}
theorem PsAt.lt (h : PsAt p en w ts) : p < w.heap.size := by obtain ⟨v, h, _⟩ := h; exact h.lt
theorem PsAt.below (h : PsAt p en w ts) (hb : Below w.heap.size w w') : PsAt p en w' ts := by
 have hlt := h.lt
 obtain ⟨v, h, r, o⟩ := h
 exact ⟨v, h.below hb, r.go Flat.keeps (hb.mono (Nat.le_of_lt hlt)) Tk.sub (Sub.refl _), o⟩
theorem Rn.same {lo y z : Nat} (h : But (Is z) w w') (hz : z < lo ∨ z = y) : Same (Rn lo y w) w w' := h.same (fun k hk => hk.2.1) (fun k hk e => by unfold Is at e; have := hk.1; have := hk.2.2; omega)
theorem Rn.sub {lo y : Nat} (h : w.heap.size ≤ w'.heap.size) : Sub (Rn lo y w) (Rn lo y w') := fun k hk => ⟨hk.1, Nat.lt_of_lt_of_le hk.2.1 h, hk.2.2⟩
theorem Rn.upto {lo y : Nat} : Sub (Rn lo y w) (Upto w.heap.size) := fun k hk => hk.2.1
theorem Rn.to {lo y lo' y' : Nat} (hl : lo' ≤ lo) (hy : y' < lo ∨ w.heap.size ≤ y' ∨ y' = y) : Sub (Rn lo y w) (Rn lo' y' w) := fun k hk => ⟨Nat.le_trans hl hk.1, hk.2.1, by have := hk.1; have := hk.2.1; have := hk.2.2; omega⟩
theorem rdE.but {lo y z : Nat} {t : Ex} {V : Value} (h : rdE lo y w t V) (hb : But (Is z) w w') (hz : z < lo ∨ z = y) : rdE lo y w' t V := RdE.keep h (Rn.sub hb.size) (Rn.same hb hz)
theorem rdE.below {lo y : Nat} {t : Ex} {V : Value} (h : rdE lo y w t V) (hb : Below w.heap.size w w') : rdE lo y w' t V := RdE.keep h (Rn.sub hb.size) (same_of_below hb Rn.upto)
theorem rdE.to {lo y lo' y' : Nat} {t : Ex} {V : Value} (h : rdE lo y w t V) (hl : lo' ≤ lo) (hy : y' < lo ∨ w.heap.size ≤ y' ∨ y' = y) : rdE lo' y' w t V := RdE.keep h (Rn.to hl hy) (Same.refl _ _)
theorem rdE.form {lo y : Nat} {t : Ex} {V : Value} (h : rdE lo y w t V) : ∃ A cap, V = .agg #[.int .i64 t.kind, .int .i64 t.num, .string t.name, .slice A t.args.length cap] := RdE.form h
theorem rdE.two {lo y : Nat} {U : Value} {X : Ex} (hl : lo ≤ w.heap.size) (hy : y < w.heap.size) (hs : w.heap.size ≤ w'.heap.size) (h : RdE w' (Plus (Rn lo y w) w.heap.size w'.heap.size) X U) : rdE lo y w' X U :=
 RdE.keep h (fun k hk => hk.elim (fun h => ⟨h.1, Nat.lt_of_lt_of_le h.2.1 hs, h.2.2⟩) (fun h => ⟨Nat.le_trans hl h.1, h.2, by have := h.1; omega⟩)) (Same.refl _ _)
theorem But.of_b {T : Blocks} (hb : Below w.heap.size w w') : But T w w' := But.of_below hb
theorem PsAt.open_ (h : PsAt p en w ts) : ∃ A cap, w.cell? ⟨p, 0, none⟩ = some (.slice A ts.length cap) ∧ w.cell? ⟨p, 1, none⟩ = some (.int .i64 en.e) ∧ w.frozen? ⟨p, 0, none⟩ = false ∧ ts.length ≤ cap ∧ cap ≤ 9223372036854775807 := by
 obtain ⟨v, h, r, _⟩ := h
 obtain ⟨A, cap, rfl, h1, h2, _⟩ := r.form
 exact ⟨A, cap, h.cell 0 _ rfl, h.cell 1 _ rfl, h.fr 0, h1, h2⟩
theorem PsAt.but {z : Nat} (h : PsAt p en w ts) (hb : But (Is z) w w') (hz : p < z) : PsAt p en w' ts := by
 have hlt := h.lt
 obtain ⟨v, h, r, o⟩ := h
 exact ⟨v, h.but hb (fun e => by unfold Is at e; omega), r.keep Flat.keeps (Sub.refl _) (hb.same (fun k hk => Nat.lt_trans hk.2 hlt) (fun k hk e => by unfold Is at e; have := hk.2; omega)), o⟩
theorem PsAt.but_lo {z : Nat} (h : PsAt p en w ts) (hb : But (Is z) w w') (hz : z < en.lo) (hp : z ≠ p) : PsAt p en w' ts := by
 have hlt := h.lt
 obtain ⟨v, h, r, o⟩ := h
 exact ⟨v, h.but hb (fun e => hp e.symm), r.keep Flat.keeps (Sub.refl _) (hb.same (fun k hk => Nat.lt_trans hk.2 hlt) (fun k hk e => by unfold Is at e; have := hk.1; omega)), o⟩
theorem PsAt.toks (h : PsAt p en w ts) : ∀ t ∈ ts, tokOk t := by obtain ⟨v, _, _, o⟩ := h; exact o
theorem PsAt.head {t : LTok} {r : List LTok} (h : PsAt p en w (t :: r)) : ∃ b off cap, w.cell? ⟨p, 0, none⟩ = some (.slice (some ⟨b, off, none⟩) (r.length + 1) cap) ∧ w.cell? ⟨p, 1, none⟩ = some (.int .i64 en.e) ∧ w.frozen? ⟨p, 0, none⟩ = false ∧ r.length + 1 ≤ cap ∧ cap ≤ 9223372036854775807 ∧
    w.cell? ⟨b, off, none⟩ = some (.int .i64 t.kind) ∧ w.cell? ⟨b, off + 1, none⟩ = some (.int .i64 t.pos) ∧ w.cell? ⟨b, off + 2, none⟩ = some (.string t.str) ∧ okT t ∧
    ∀ A', (cap ≠ 1 → A' = some ⟨b, off + 3, none⟩) → PsAt p en (w.setCell ⟨p, 0, none⟩ (.slice A' r.length (cap - 1))) r := by
 obtain ⟨v, h, rr, oo⟩ := h
 obtain ⟨A, cap, rfl, h1, h2, h3⟩ := rr.form
 obtain ⟨b, off, rfl, hb, hok, hc⟩ := RdL.flat rr (q := 0) (by simp)
 refine ⟨b, off, cap, h.cell 0 _ rfl, h.cell 1 _ rfl, h.fr 0, h1, h2, ?_, ?_, ?_, hok, ?_⟩
 ·have := hc 0 _ rfl; simpa using this
 ·have := hc 1 _ rfl; simpa using this
 ·have := hc 2 _ rfl; simpa using this
 ·intro A' hA
  have hd := rr.drop (k := 1) (by simp)
  refine ⟨_, h.set (i := 0) (by simp) _, ?_, fun t ht => oo t (List.mem_cons_of_mem _ ht)⟩
  have hd2 : RdToks w (Tk en p) r (.slice A' r.length (cap - 1)) := by
   by_cases hc1 : cap = 1
   ·have hr : r = [] := by
      simp only [List.length_cons] at h1
      exact List.length_eq_zero_iff.1 (by omega)
    subst hr
    exact RdL.nil (by unfold maxLen; omega)
   ·rw [hA hc1]
    simpa [Addr.add] using hd
  exact hd2.stored Flat.keeps (fun hk => Nat.lt_irrefl _ hk.2) _
end
set_option maxHeartbeats 400000 in
theorem pfail_any {p : Nat} {en : En} {ts : List LTok} {w : World} (h : PsAt p en w ts) :
    Calls Tryz.prog 24 #[.pointer (some ⟨p, 0, none⟩)] w fun e w' => e = .panicked [{ v := misV (placeG en.e ts), recovered := false }] ∧ w' = w := by
 cases ts with
 | nil =>
  obtain ⟨A, cap, c0, c1, f0, hl, hm⟩ := h.open_
  clear h
  go_enter Tryz.func24, Tryz.ntmps24
  go_wp2
  exact ⟨rfl, rfl, rfl⟩
 | cons t r =>
  obtain ⟨b, off, cap, c0, c1, f0, hl, hm, k0, k1, k2, hok, _⟩ := h.head
  clear h
  have hr0 : ¬ (r.length + 1 = 0) := by omega
  go_enter Tryz.func24, Tryz.ntmps24
  go_wp2
  exact ⟨rfl, rfl, rfl⟩
set_option maxHeartbeats 400000 in
theorem pis_any {p : Nat} {en : En} {ts : List LTok} {w : World} (s : Str) (h : PsAt p en w ts) :
    Calls Tryz.prog 69 #[.pointer (some ⟨p, 0, none⟩), .string s] w fun e w' => e = .returned (.bool (isT s ts)) ∧ w' = w := by
 cases ts with
 | nil =>
  obtain ⟨A, cap, c0, c1, f0, hl, hm⟩ := h.open_
  clear h
  go_enter Tryz.func69, Tryz.ntmps69
  go_wp2
  go_ret
  exact ⟨rfl, rfl⟩
 | cons t r =>
  obtain ⟨b, off, cap, c0, c1, f0, hl, hm, k0, k1, k2, hok, _⟩ := h.head
  clear h
  have HI := hid (show isT s (t :: r) = (t.str.toList == s.toList) from rfl)
  generalize t.str = y at *
  go_enter Tryz.func69, Tryz.ntmps69
  go_wp2
  go_ret
  exact ⟨by rw [HI.out]; rfl, rfl⟩
set_option maxHeartbeats 400000 in
theorem ptake_any {p : Nat} {en : En} {t : LTok} {r : List LTok} {w : World} (h : PsAt p en w (t :: r)) :
    Calls Tryz.prog 70 #[.pointer (some ⟨p, 0, none⟩)] w fun e w' => e = .returned (.string t.str) ∧ PsAt p en w' r ∧ But (Is p) w w' := by
 have hlt := h.lt
 obtain ⟨b, off, cap, c0, c1, f0, hl, hm, k0, k1, k2, hok, hN⟩ := h.head
 have HN := hid hN
 have HOK := hid hok
 clear h hN hok
 go_enter Tryz.func70, Tryz.ntmps70
 go_wp2
 ·go_ret
  have h2 := HN.out (some ⟨b, off, none⟩) (fun h => absurd (by first | assumption | (symm; assumption)) h)
  have e1 : cap = 1 := by first | assumption | (symm; assumption)
  rw [e1] at h2
  exact ⟨rfl, h2.below ((Below.refl _ _).alloc (Nat.le_refl _) _), ((But.refl _ _).setCell (show Is p p from rfl) _).alloc _⟩
 ·go_ret
  have h2 := HN.out (some ⟨b, off + 3, none⟩) (fun _ => rfl)
  exact ⟨rfl, h2.below ((Below.refl _ _).alloc (Nat.le_refl _) _), ((But.refl _ _).setCell (show Is p p from rfl) _).alloc _⟩
theorem isT_true {s : Str} {ts : List LTok} (h : isT s ts = true) : ∃ t r, ts = t :: r ∧ t.str.toList = s.toList := by
 cases ts with
 | nil => cases h
 | cons t r => exact ⟨t, r, rfl, by simpa [isT] using h⟩
set_option maxHeartbeats 1000000 in
set_option maxRecDepth 100000 in
theorem pany_any {p : Nat} {en : En} {ts : List LTok} {w : World} {l : List Str} {S : Blocks} {v : Value} (h : PsAt p en w ts) (r : RdSs w S l v) :
    Calls Tryz.prog 41 #[.pointer (some ⟨p, 0, none⟩), v] w fun e w' => e = .returned (.string (anyG l ts)) ∧ w' = w := by
 obtain ⟨A, cap, rfl, hl, hcm, hby⟩ := r.form
 unfold maxLen at hcm
 have R := hid r
 have H := hid h
 obtain ⟨Z, hZ⟩ : ∃ Z, Z = anyG l ts := ⟨_, rfl⟩
 rw [← hZ]
 have HZ := hid hZ
 clear r h hZ
 go_enter Tryz.func41, Tryz.ntmps41
 go_wp2
 go_loop [9] (fun t => ∃ k : Nat, k ≤ l.length ∧ t = .int .i64 (k : Int) ∧ Hid (Z = anyG (l.drop k) ts)) (fun t => l.length - (intOf t).toNat)
 case atStart => exact ⟨0, by omega, rfl, HZ⟩
 case round =>
  obtain ⟨k, hk, rfl, HK⟩ := hrel
  by_cases hlt : k < l.length
  ·obtain ⟨b0, off, rfl, hb0, hok, hc⟩ := R.out.at1 hlt
   have HD := hid (show l.drop k = l[k] :: l.drop (k + 1) from List.drop_eq_getElem_cons hlt)
   generalize l[k] = x at hc hok HD
   have HI := hid (pis_any x H.out)
   cases hx : isT x ts
   ·have HK2 := hid (show Z = anyG (l.drop (k + 1)) ts by rw [HK.out, HD.out, anyG, if_neg (by rw [hx]; simp)])
    rw [hx] at HI
    clear HK HD hx
    go_wp2_with (go_at_call 69; refine HI.out.mono ?_)
    go_round
    case rel => exact ⟨k + 1, by omega, by go_num, HK2⟩
    case measure => simp [intOf]; omega
   ·have HK2 := hid (show Z = x by rw [HK.out, HD.out, anyG, if_pos hx])
    rw [hx] at HI
    clear HK HD hx
    go_wp2_with (go_at_call 69; refine HI.out.mono ?_)
    go_ret
    exact ⟨by rw [HK2.out]; rfl, rfl⟩
  ·have hkl : k = l.length := by omega
   subst hkl
   have HK2 := hid (show Z = ⟨#[]⟩ by rw [HK.out, List.drop_length]; rfl)
   go_wp2_with fail
   go_ret
   exact ⟨by rw [HK2.out]; rfl, rfl⟩
def WordsAt (p : Nat) (w : World) (l : List Str) (v : Value) : Prop := ∃ S, (∀ k, S k → k ≠ p ∧ k < w.heap.size) ∧ RdSs w S l v
theorem WordsAt.go {p : Nat} {w w' : World} {l : List Str} {v : Value} (h : WordsAt p w l v) (hb : But (Is p) w w') : WordsAt p w' l v := by
 obtain ⟨S, hS, r⟩ := h
 exact ⟨S, fun k hk => ⟨(hS k hk).1, Nat.lt_of_lt_of_le (hS k hk).2 hb.size⟩, r.keep Flat.keeps (Sub.refl _) (hb.same (fun k hk => (hS k hk).2) (fun k hk e => (hS k hk).1 e))⟩
def anyV (_ : World) (_ : Unit) (_ : Value) : Prop := True
def strV (_ : World) (s : Str) (x : Value) : Prop := x = .string s
set_option maxHeartbeats 1000000 in
set_option maxRecDepth 100000 in
theorem pwant_any {p : Nat} {en : En} {ts : List LTok} {w : World} {l : List Str} {v : Value} (h : PsAt p en w ts) (r : WordsAt p w l v) :
    Calls Tryz.prog 43 #[.pointer (some ⟨p, 0, none⟩), v] w (POut p en w anyV (wantG l ts)) := by
 have hf : ∃ A cap, v = .slice A l.length cap ∧ l.length ≤ 9223372036854775807 := by
  obtain ⟨S, hS, r⟩ := r
  obtain ⟨A, cap, rfl, h1, h2, _⟩ := r.form
  unfold maxLen at h2
  exact ⟨A, cap, rfl, by omega⟩
 obtain ⟨A, cap, rfl, hl⟩ := hf
 have R := hid r
 have H := hid h
 obtain ⟨Z, hZ⟩ : ∃ Z, Z = wantG l ts := ⟨_, rfl⟩
 rw [← hZ]
 have HZ := hid hZ
 clear r h hZ
 go_enter Tryz.func43, Tryz.ntmps43
 go_wp2
 go_loopw [8] (fun t wr => ∃ (k : Nat) (q : List LTok), k ≤ l.length ∧ t = .int .i64 (k : Int) ∧ Hid (Z = wantG (l.drop k) q) ∧ Hid (PsAt p en wr q) ∧ Hid (But (Is p) w wr)) (fun t _ => l.length - (intOf t).toNat)
 case atStart => exact ⟨0, ts, by omega, rfl, HZ, H, hid (But.refl _ _)⟩
 case round =>
  obtain ⟨k, q, hk, rfl, HK, HP, HB⟩ := hrel
  clear H
  by_cases hlt : k < l.length
  ·obtain ⟨S, hS, r⟩ := R.out.go HB.out
   obtain ⟨b0, off, rfl, hb0, hok, hc⟩ := r.at1 hlt
   have HD := hid (show l.drop k = l[k] :: l.drop (k + 1) from List.drop_eq_getElem_cons hlt)
   generalize l[k] = x at hc hok HD
   have HI := hid (pis_any x HP.out)
   clear r hS hb0
   cases hx : isT x q
   ·have HK2 := hid (show Z = .no q by rw [HK.out, HD.out, wantG, if_neg (by rw [hx]; simp)])
    rw [hx] at HI
    clear HK HD hx
    go_wp2_with (first | (go_at_call 69; refine HI.out.mono ?_; rintro e wa ⟨rfl, rfl⟩) | (go_at_call 24; refine (pfail_any HP.out).mono ?_; rintro e wa ⟨rfl, rfl⟩))
    rw [HK2.out]
    exact ⟨rfl, rfl, HB.out⟩
   ·obtain ⟨t, q2, rfl, _⟩ := isT_true hx
    have HK2 := hid (show Z = wantG (l.drop (k + 1)) q2 by rw [HK.out, HD.out, wantG, if_pos hx]; rfl)
    rw [hx] at HI
    clear HK HD hx
    go_wp2_with (first | (go_at_call 69; refine HI.out.mono ?_; rintro e wa ⟨rfl, rfl⟩) | (go_at_call 70; refine (ptake_any HP.out).mono ?_; rintro e w1 ⟨rfl, h1, hb1⟩))
    have H1 := hid h1
    have B1 := hid (HB.out.trans hb1)
    clear h1 hb1
    go_roundw
    case rel => exact ⟨k + 1, q2, by omega, by go_num, HK2, H1, B1⟩
    case measure => simp [intOf]; omega
  ·have hkl : k = l.length := by omega
   subst hkl
   have HK2 := hid (show Z = .ok () q by rw [HK.out, List.drop_length]; rfl)
   go_wp2_with fail
   rw [HK2.out]
   go_end0
   exact ⟨_, rfl, trivial, HP.out, HB.out⟩
set_option maxHeartbeats 1000000 in
set_option maxRecDepth 100000 in
theorem pname_r {p : Nat} {en : En} {ts : List LTok} {w : World} (h : PsAt p en w ts) :
    Calls Tryz.prog 71 #[.pointer (some ⟨p, 0, none⟩)] w (POut p en w strV (nameG ts)) := by
 cases ts with
 | nil =>
  have H := hid h
  obtain ⟨A, cap, c0, c1, f0, hl, hm⟩ := h.open_
  clear h
  go_enter Tryz.func71, Tryz.ntmps71
  go_wp2_with (go_at_call 24; refine (pfail_any H.out).mono ?_; rintro e wa ⟨rfl, rfl⟩)
  exact ⟨rfl, rfl, But.refl _ _⟩
 | cons t r =>
  have H := hid h
  obtain ⟨b, off, cap, c0, c1, f0, hl, hm, k0, k1, k2, hok, _⟩ := h.head
  have hr0 : ¬ (r.length + 1 = 0) := by omega
  have hr1 : (((r.length : Int) + 1) == 0) = false := by simp; omega
  obtain ⟨Z, hZ⟩ : ∃ Z, Z = nameG (t :: r) := ⟨_, rfl⟩
  rw [← hZ]
  have HKE := hid (kept_any t.str)
  have HT := hid (ptake_any h)
  clear h
  by_cases hk : t.kind = 2
  ·have hk2 : (t.kind != 2) = false := by simpa using hk
   cases hx : keptB t.str
   ·have HZ := hid (show Z = .ok t.str r by rw [hZ, nameG, if_pos ⟨hk, hx⟩])
    have HP := hid (fun W => by have := HKE.out W; rw [hx] at this; exact this)
    clear hZ hx HKE hk
    generalize t.str = y at *
    go_enter Tryz.func71, Tryz.ntmps71
    go_wp2_with (first | (go_at_call 92; refine (HP.out _).mono ?_; rintro e wa ⟨rfl, rfl⟩) | (go_at_call 70; refine HT.out.mono ?_; rintro e w1 ⟨rfl, h1, hb1⟩))
    have H1 := hid h1
    have B1 := hid hb1
    clear h1 hb1
    go_wp2_with fail
    go_ret
    rw [HZ.out]
    exact ⟨_, rfl, rfl, H1.out, B1.out⟩
   ·have HZ := hid (show Z = .no (t :: r) by rw [hZ, nameG, if_neg (by rw [hx]; simp)])
    have HP := hid (fun W => by have := HKE.out W; rw [hx] at this; exact this)
    have HF := hid (pfail_any H.out)
    clear hZ hx HKE hk
    generalize t.str = y at *
    go_enter Tryz.func71, Tryz.ntmps71
    go_wp2_with (first | (go_at_call 92; refine (HP.out _).mono ?_; rintro e wa ⟨rfl, rfl⟩) | (go_at_call 24; refine HF.out.mono ?_; rintro e wa ⟨rfl, rfl⟩))
    rw [HZ.out]
    exact ⟨rfl, rfl, But.refl _ _⟩
  ·have hk2 : (t.kind != 2) = true := by simpa using hk
   have HZ := hid (show Z = .no (t :: r) by rw [hZ, nameG, if_neg (by intro h; exact hk h.1)])
   have HF := hid (pfail_any H.out)
   clear hZ HKE hk
   go_enter Tryz.func71, Tryz.ntmps71
   go_wp2_with (go_at_call 24; refine HF.out.mono ?_; rintro e wa ⟨rfl, rfl⟩)
   rw [HZ.out]
   exact ⟨rfl, rfl, But.refl _ _⟩
set_option maxHeartbeats 1000000 in
theorem psign_any (s : Str) (w : World) : Calls Tryz.prog 95 #[.string s] w fun e w' => e = .returned (.int .i64 (signK s)) ∧ w = w' := by
 have HK := hid (show signK s = _ from rfl)
 unfold signK at HK ⊢
 obtain ⟨x, hx⟩ : ∃ x, x = signK s := ⟨_, rfl⟩
 clear HK
 rw [show (if s.toList == [43] then (3 : Int) else if s.toList == [45] then 4 else if s.toList == [42] then 5 else if s.toList == [47] then 6 else if s.toList == [37] then 7 else if s.toList == [60] then 8 else 9) = x from hx.symm]
 have HX := hid hx
 clear hx
 unfold signK at HX
 go_enter Tryz.func95, Tryz.ntmps95
 go_wp2
 all_goals
  go_ret
  refine ⟨?_, rfl⟩
  rw [HX.out]
  simp_all
end Go.Proofs.YtnpgpcnkdocknaaGreatDoor
