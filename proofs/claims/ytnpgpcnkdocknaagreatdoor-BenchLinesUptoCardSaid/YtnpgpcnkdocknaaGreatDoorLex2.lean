/- Walks of lex.number and lex.next. -/
import Derived.Test.YtnpgpcnkdocknaaGreatDoorGBlk
import Derived.WalkLawsBesides
namespace Go.Proofs.YtnpgpcnkdocknaaGreatDoor
open Go.RowKit
set_option linter.unusedVariables false
set_option maxHeartbeats 400000 in
theorem number_any (t : ByteArray) (h0 : 0 < t.size) (w : World) : Calls Tryz.prog 64 #[.string t] w fun e w' => e = .returned (.bool (numS t)) ∧ w = w' := by
 obtain ⟨x, hx⟩ : ∃ x, x = (Op.bytesLess t.toList mostL || t.toList == mostL) := ⟨_, rfl⟩
 have hh : ((t.data.toList.head?).getD 0) = t[0]'h0 := by
  rw [List.head?_eq_getElem?, List.getElem?_eq_getElem (by simpa using h0), Option.getD_some, Array.getElem_toList]; rfl
 have HB := hid (show numS t = ((decide (t.size = 1) || !decide ((t[0]'h0).toNat = 48)) && (decide (t.size < 19) || (decide (t.size = 19) && x))) by
  unfold numS; rw [hx, hh])
 have HX := hid hx.symm
 clear hx hh
 by_cases h1 : t.size = 1
 ·have HZ := hid (show numS t = true by rw [HB.out, decide_eq_true h1, decide_eq_true (show t.size < 19 by omega)]; rfl)
  have h1' : ((t.size : Int) == 1) = true := by simp; omega
  have h19 : (t.size : Int) < 19 := by omega
  clear h1
  go_enter Tryz.func64, Tryz.ntmps64
  go_wp2
  go_ret
  exact ⟨by rw [HZ.out]; rfl, rfl⟩
 ·have h1' : ((t.size : Int) == 1) = false := by simp; omega
  by_cases h2 : (t[0]'h0).toNat = 48
  ·have HZ := hid (show numS t = false by rw [HB.out, decide_eq_true h2, decide_eq_false h1]; rfl)
   have h2' : (((t[0]'h0).toNat : Int) == 48) = true := by simp; omega
   have h2'' : (((t[0]'h0).toNat : Int) != 48) = false := by simp; omega
   clear h1 h2
   go_enter Tryz.func64, Tryz.ntmps64
   go_wp2
   go_ret
   exact ⟨by rw [HZ.out]; rfl, rfl⟩
  ·have h2' : (((t[0]'h0).toNat : Int) == 48) = false := by simp; omega
   have h2'' : (((t[0]'h0).toNat : Int) != 48) = true := by simp; omega
   by_cases h3 : t.size < 19
   ·have HZ := hid (show numS t = true by rw [HB.out, decide_eq_false h2, decide_eq_true h3]; simp)
    have h19 : (t.size : Int) < 19 := by omega
    clear h1 h2 h3
    go_enter Tryz.func64, Tryz.ntmps64
    go_wp2
    go_ret
    exact ⟨by rw [HZ.out]; rfl, rfl⟩
   ·have h19 : ¬ (t.size : Int) < 19 := by omega
    by_cases h4 : t.size = 19
    ·have HZ := hid (show numS t = x by rw [HB.out, decide_eq_false h2, decide_eq_false h3, decide_eq_true h4]; simp)
     have h4' : ((t.size : Int) == 19) = true := by simp; omega
     clear h1 h2 h3 h4
     go_enter Tryz.func64, Tryz.ntmps64
     go_wp2
     go_ret
     exact ⟨by rw [HZ.out, ← HX.out]; rfl, rfl⟩
    ·have HZ := hid (show numS t = false by rw [HB.out, decide_eq_false h3, decide_eq_false h4]; simp)
     have h4' : ((t.size : Int) == 19) = false := by simp; omega
     clear h1 h2 h3 h4
     go_enter Tryz.func64, Tryz.ntmps64
     go_wp2
     go_ret
     exact ⟨by rw [HZ.out]; rfl, rfl⟩
theorem data_len (s : ByteArray) : s.data.toList.length = s.size := by simp
theorem drop_cons (s : ByteArray) (a : Nat) (h : a < s.size) : s.data.toList.drop a = s[a]'h :: s.data.toList.drop (a + 1) := by
 rw [List.drop_eq_getElem_cons (by simpa using h)]
 congr 1
theorem of_list (b : ByteArray) (l : List UInt8) (h : b.data.toList = l) : b = ⟨l.toArray⟩ := by
 subst h; cases b; simp
theorem takeX (s : ByteArray) (p : UInt8 → Bool) (a r : Nat) (h : r = a + ((s.data.toList.drop a).takeWhile p).length) : s.extract a r = ⟨((s.data.toList.drop a).takeWhile p).toArray⟩ := by
 apply of_list
 rw [Lib.extract_data, h, Nat.add_sub_cancel_left]
 exact (List.prefix_iff_eq_take.1 (List.takeWhile_prefix p)).symm
def NextOut (s : ByteArray) (a : Nat) (w : World) (e : Ending) (w' : World) : Prop :=
 (match tokL (s.data.toList.drop a) with
 | some (k, t) => e = .returned (.tuple #[.agg #[.int .i64 k, .int .i64 (a : Int), .string (s.extract a (a + t.length))], .bool true])
 | none => ∃ k t, e = .returned (.tuple #[.agg #[.int .i64 k, .int .i64 (a : Int), .string t], .bool false])) ∧ Below w.heap.size w w'
theorem next_num {s x : ByteArray} {a r : Nat} {t : List UInt8} {w W : World} (HT : tokL (s.data.toList.drop a) = if numS x then some (1, t) else none) (HL : a + t.length = r) (HX : x = s.extract a r) (hb : Below w.heap.size w W) :
    NextOut s a w (.returned (.tuple #[.agg #[.int .i64 1, .int .i64 (a : Int), .string x], .bool (numS x)])) W := by
 refine ⟨?_, hb⟩
 rw [HT]
 cases hn : numS x
 ·exact ⟨1, x, rfl⟩
 ·show Ending.returned _ = Ending.returned _
  rw [HL, ← HX]
theorem next_ok {s x : ByteArray} {a : Nat} {k : Int} {t : List UInt8} {w W : World} (HT : tokL (s.data.toList.drop a) = some (k, t)) (HX : x = s.extract a (a + t.length)) (hb : Below w.heap.size w W) :
    NextOut s a w (.returned (.tuple #[.agg #[.int .i64 k, .int .i64 (a : Int), .string x], .bool true])) W := by
 refine ⟨?_, hb⟩
 rw [HT]
 show Ending.returned _ = Ending.returned _
 rw [← HX]
theorem next_no {s x : ByteArray} {a : Nat} {k : Int} {w W : World} (HT : tokL (s.data.toList.drop a) = none) (hb : Below w.heap.size w W) :
    NextOut s a w (.returned (.tuple #[.agg #[.int .i64 k, .int .i64 (a : Int), .string x], .bool false])) W := by
 refine ⟨?_, hb⟩
 rw [HT]
 exact ⟨k, x, rfl⟩
theorem toEnd (s : ByteArray) (a : Nat) : (s.extract a s.size).data.toList = s.data.toList.drop a := by
 rw [Lib.extract_data, List.take_of_length_le]
 rw [List.length_drop, data_len]; exact Nat.le_refl _
theorem sgn_ge (c : UInt8) : decide (0 ≤ Lib.indexByte signsL c) = sgnB c := by
 have key : ∀ l : List UInt8, decide (0 ≤ Lib.indexByte l c) = l.contains c := by
  intro l
  induction l with
  | nil => rfl
  | cons b l ih =>
   have hge := Lib.indexByte_ge l c
   unfold Lib.indexByte
   rw [List.contains_cons, ← ih]
   by_cases hb : b = c
   ·subst hb; simp
   ·have hb1 : (b == c) = false := by simpa using hb
    have hb2 : (c == b) = false := by simpa using fun e => hb e.symm
    rw [hb1, hb2, if_neg (by simp), Bool.false_or]
    by_cases h1 : Lib.indexByte l c = -1
    ·rw [h1]; rfl
    ·rw [if_neg (by simpa using h1)]
     exact decide_eq_decide.2 (by omega)
 exact key signsL
set_option maxHeartbeats 1000000 in
set_option maxRecDepth 100000 in
theorem next_dig (s : ByteArray) (a : Nat) (ha : a < s.size) (hs : s.size ≤ 9223372036854775807) (w : World) (hdg : digB (s[a]'ha) = true) :
    Calls Tryz.prog 40 #[.string s, .int .i64 (a : Int)] w (NextOut s a w) := by
 have hpc := hdg
 have hd := drop_cons s a ha
 have hr := runL_ge (p := digB) (l := s.data.toList) (a := a)
 have hr2 := runL_le (p := digB) (l := s.data.toList) (a := a) (by rw [data_len]; omega)
 rw [data_len] at hr2
 have hpos : a < runL digB s.data.toList a := by
  rw [runL_step (by rw [data_len]; exact ha) (by rw [← hpc]; congr 1)]
  exact Nat.lt_of_lt_of_le (Nat.lt_succ_self _) runL_ge
 obtain ⟨r, hrr⟩ : ∃ r, r = runL digB s.data.toList a := ⟨_, rfl⟩
 have HR := hid hrr
 rw [← hrr] at hr hr2 hpos
 have a0 : (0 : Int) ≤ (a : Int) := by omega
 have a1 : (a : Int) ≤ (r : Int) := by omega
 have a2 : (r : Int) ≤ (s.size : Int) := by omega
 have HL := hid (show a + ((s.data.toList.drop a).takeWhile digB).length = r by rw [HR.out]; rfl)
 have HT := hid (show tokL (s.data.toList.drop a) = (if numS (s.extract a r) then some (1, (s.data.toList.drop a).takeWhile digB) else none) by
  rw [takeX s digB a r HL.out.symm, hd, tokL_cons, hdg, if_pos rfl])
 have HD := hid hdg
 clear hrr hd hdg hpc
 go_enter Tryz.func40, Tryz.ntmps40
 go_wp2_with fail
 obtain ⟨rb, hrb⟩ : ∃ rb, rb = w.heap.size := ⟨_, rfl⟩
 obtain ⟨tb, htb⟩ : ∃ tb, tb = w.heap.size + 1 := ⟨_, rfl⟩
 have k1 := ((Blk.made w [.int .i64 0, .int .i64 0, .string ⟨#[]⟩] 49 (base := 0) (Nat.zero_le _)).below ((Below.refl _ _).alloc (Nat.le_refl _) (.cells #[.int .i64 0, .int .i64 (a : Int), .string ⟨#[]⟩] 49)))
 have k2 := Blk.made (w.alloc (.cells #[.int .i64 0, .int .i64 0, .string ⟨#[]⟩] 49)) [.int .i64 0, .int .i64 (a : Int), .string ⟨#[]⟩] 49 (base := 0) (Nat.zero_le _)
 have B1 : Below w.heap.size w ((w.alloc (.cells #[.int .i64 0, .int .i64 0, .string ⟨#[]⟩] 49)).alloc (.cells #[.int .i64 0, .int .i64 (a : Int), .string ⟨#[]⟩] 49)) := ((Below.refl _ _).alloc (Nat.le_refl _) _).alloc (by simp) _
 have e2 : (w.alloc (.cells #[.int .i64 0, .int .i64 0, .string ⟨#[]⟩] 49)).heap.size = tb := by rw [htb]; simp
 rw [e2] at k2
 rw [← hrb] at k1
 rw [← htb, ← hrb]
 have hne : rb ≠ tb := by omega
 have hrw : w.heap.size ≤ rb := by omega
 have htw : w.heap.size ≤ tb := by omega
 have K1 := hid k1
 have K2 := hid k2
 clear hrb htb e2 k1 k2
 generalize (w.alloc (.cells #[.int .i64 0, .int .i64 0, .string ⟨#[]⟩] 49)).alloc (.cells #[.int .i64 0, .int .i64 (a : Int), .string ⟨#[]⟩] 49) = W at *
 refine (digit_any (s[a]'ha) _).mono ?_
 rintro e w' ⟨rfl, rfl⟩
 rw [HD.out]
 go_upto_region 5 with (fail)
 go_cut [] (fun wx => Hid (Blk 0 wx rb [.int .i64 0, .int .i64 0, .string ⟨#[]⟩]) ∧ Hid (Blk 0 wx tb [.int .i64 1, .int .i64 (a : Int), .string (s.extract a r)]) ∧ Below w.heap.size w wx)
 case first =>
  have c0 := K2.out.cell 0 _ rfl
  have c2 := K2.out.cell 2 _ rfl
  have f0 := K2.out.fr 0
  have f2 := K2.out.fr 2
  go_region_with (go_at_call 38; refine (run_any 63 digB (fun args w => by kernel_rfl) digit_any s a (by omega) hs _).mono ?_; rintro e w' ⟨rfl, rfl⟩; rw [← HR.out])
  all_goals
   have K3 := hid (((K1.out.other (p := ⟨tb, 0, none⟩) hne.symm (.int .i64 1)).other (p := ⟨tb, 2, none⟩) hne.symm (.string (s.extract a r))).drew)
   have K4 := hid (((K2.out.set (i := 0) (by simp) (.int .i64 1)).set (i := 2) (by simp) (.string (s.extract a r))).drew)
   have B3 := ((B1.setCell (p := ⟨tb, 0, none⟩) htw (.int .i64 1)).setCell (p := ⟨tb, 2, none⟩) htw (.string (s.extract a r))).drew
   clear K1 K2 B1 c0 c2 f0 f2
   go_wp2
   go_meet
   go_light
   exact ⟨K3, K4, B3⟩
 case rest =>
  clear K1 K2 B1
  obtain ⟨K1, K2, B1⟩ := hcut
  have hx : 0 < (s.extract a r).size := by rw [ByteArray.size_extract]; omega
  obtain ⟨x, hxx⟩ : ∃ x, x = s.extract a r := ⟨_, rfl⟩
  have HX := hid hxx
  rw [← hxx] at hx K2 HT
  clear hxx
  have c0 := K2.out.cell 0 _ rfl
  have c1 := K2.out.cell 1 _ rfl
  have c2 := K2.out.cell 2 _ rfl
  have d0 := K1.out.cell 0 _ rfl
  have d1 := K1.out.cell 1 _ rfl
  have d2 := K1.out.cell 2 _ rfl
  have f0 := K1.out.fr 0
  have f1 := K1.out.fr 1
  have f2 := K1.out.fr 2
  go_wp2
  go_region_with (go_at_call 64; refine (number_any x hx _).mono ?_; rintro e w' ⟨rfl, rfl⟩)
  all_goals
   have K3 := hid ((((K1.out.set (i := 0) (by simp) (.int .i64 1)).set (i := 1) (by simp) (.int .i64 (a : Int))).set (i := 2) (by simp) (.string x)).drew)
   have B3 := (((B1.setCell (p := ⟨rb, 0, none⟩) hrw (.int .i64 1)).setCell (p := ⟨rb, 1, none⟩) hrw (.int .i64 (a : Int))).setCell (p := ⟨rb, 2, none⟩) hrw (.string x)).drew
   generalize (((wc.setCell ⟨rb, 0, none⟩ (.int .i64 1)).setCell ⟨rb, 1, none⟩ (.int .i64 (a : Int))).setCell ⟨rb, 2, none⟩ (.string x)).drew = W3 at K3 B3 ⊢
   clear K1 K2 B1 c0 c1 c2 d0 d1 d2 f0 f1 f2
   have r0 := K3.out.cell 0 _ rfl
   have r1 := K3.out.cell 1 _ rfl
   have r2 := K3.out.cell 2 _ rfl
   go_wp2
   refine bodyPost_ret (v := .tuple #[.agg #[.int .i64 1, .int .i64 (a : Int), .string x], .bool (numS x)]) (by simp [results, Tryz.results40, go_sem, r0, r1, r2]) rfl ?_
   exact next_num HT.out HL.out HX.out B3
set_option maxHeartbeats 1000000 in
set_option maxRecDepth 100000 in
theorem next_let (s : ByteArray) (a : Nat) (ha : a < s.size) (hs : s.size ≤ 9223372036854775807) (w : World) (hdg : digB (s[a]'ha) = false) (hlt : letB (s[a]'ha) = true) :
    Calls Tryz.prog 40 #[.string s, .int .i64 (a : Int)] w (NextOut s a w) := by
 have hpc : nameB (s[a]'ha) = true := by unfold nameB; rw [hlt]; rfl
 have hd := drop_cons s a ha
 have hr := runL_ge (p := nameB) (l := s.data.toList) (a := a)
 have hr2 := runL_le (p := nameB) (l := s.data.toList) (a := a) (by rw [data_len]; omega)
 rw [data_len] at hr2
 have hpos : a < runL nameB s.data.toList a := by
  rw [runL_step (by rw [data_len]; exact ha) (by rw [← hpc]; congr 1)]
  exact Nat.lt_of_lt_of_le (Nat.lt_succ_self _) runL_ge
 obtain ⟨r, hrr⟩ : ∃ r, r = runL nameB s.data.toList a := ⟨_, rfl⟩
 have HR := hid hrr
 rw [← hrr] at hr hr2 hpos
 have a0 : (0 : Int) ≤ (a : Int) := by omega
 have a1 : (a : Int) ≤ (r : Int) := by omega
 have a2 : (r : Int) ≤ (s.size : Int) := by omega
 have HL := hid (show a + ((s.data.toList.drop a).takeWhile nameB).length = r by rw [HR.out]; rfl)
 have HT := hid (show tokL (s.data.toList.drop a) = some (2, (s.data.toList.drop a).takeWhile nameB) by
  rw [hd, tokL_cons, hdg, hlt]; rfl)
 have HD := hid hdg
 have HLT := hid hlt
 clear hrr hd hdg hlt hpc
 go_enter Tryz.func40, Tryz.ntmps40
 go_wp2_with fail
 obtain ⟨rb, hrb⟩ : ∃ rb, rb = w.heap.size := ⟨_, rfl⟩
 obtain ⟨tb, htb⟩ : ∃ tb, tb = w.heap.size + 1 := ⟨_, rfl⟩
 have k1 := ((Blk.made w [.int .i64 0, .int .i64 0, .string ⟨#[]⟩] 49 (base := 0) (Nat.zero_le _)).below ((Below.refl _ _).alloc (Nat.le_refl _) (.cells #[.int .i64 0, .int .i64 (a : Int), .string ⟨#[]⟩] 49)))
 have k2 := Blk.made (w.alloc (.cells #[.int .i64 0, .int .i64 0, .string ⟨#[]⟩] 49)) [.int .i64 0, .int .i64 (a : Int), .string ⟨#[]⟩] 49 (base := 0) (Nat.zero_le _)
 have B1 : Below w.heap.size w ((w.alloc (.cells #[.int .i64 0, .int .i64 0, .string ⟨#[]⟩] 49)).alloc (.cells #[.int .i64 0, .int .i64 (a : Int), .string ⟨#[]⟩] 49)) := ((Below.refl _ _).alloc (Nat.le_refl _) _).alloc (by simp) _
 have e2 : (w.alloc (.cells #[.int .i64 0, .int .i64 0, .string ⟨#[]⟩] 49)).heap.size = tb := by rw [htb]; simp
 rw [e2] at k2
 rw [← hrb] at k1
 rw [← htb, ← hrb]
 have hne : rb ≠ tb := by omega
 have hrw : w.heap.size ≤ rb := by omega
 have htw : w.heap.size ≤ tb := by omega
 have K1 := hid k1
 have K2 := hid k2
 clear hrb htb e2 k1 k2
 generalize (w.alloc (.cells #[.int .i64 0, .int .i64 0, .string ⟨#[]⟩] 49)).alloc (.cells #[.int .i64 0, .int .i64 (a : Int), .string ⟨#[]⟩] 49) = W at *
 refine (digit_any (s[a]'ha) _).mono ?_
 rintro e w' ⟨rfl, rfl⟩
 rw [HD.out]
 go_wp2_with fail
 refine (letter_any (s[a]'ha) _).mono ?_
 rintro e w' ⟨rfl, rfl⟩
 rw [HLT.out]
 go_upto_region 8 with (fail)
 have c0 := K2.out.cell 0 _ rfl
 have c2 := K2.out.cell 2 _ rfl
 have f0 := K2.out.fr 0
 have f2 := K2.out.fr 2
 go_region_with (go_at_call 38; refine (run_any 66 nameB (fun args w => by kernel_rfl) next1_any s a (by omega) hs _).mono ?_; rintro e w' ⟨rfl, rfl⟩; rw [← HR.out])
 all_goals
  have K3 := hid (((K1.out.other (p := ⟨tb, 0, none⟩) hne.symm (.int .i64 2)).other (p := ⟨tb, 2, none⟩) hne.symm (.string (s.extract a r))).drew)
  have K4 := hid (((K2.out.set (i := 0) (by simp) (.int .i64 2)).set (i := 2) (by simp) (.string (s.extract a r))).drew)
  have B3 := ((B1.setCell (p := ⟨tb, 0, none⟩) htw (.int .i64 2)).setCell (p := ⟨tb, 2, none⟩) htw (.string (s.extract a r))).drew
  clear K1 K2 B1 c0 c2 f0 f2
  generalize ((W.setCell ⟨tb, 0, none⟩ (.int .i64 2)).setCell ⟨tb, 2, none⟩ (.string (s.extract a r))).drew = wc at K3 K4 B3 ⊢
  have K1 := K3
  have K2 := K4
  have B1 := B3
  clear K3 K4 B3
  obtain ⟨x, hxx⟩ : ∃ x, x = s.extract a r := ⟨_, rfl⟩
  have HX := hid hxx
  rw [← hxx] at K2
  clear hxx
  have c0 := K2.out.cell 0 _ rfl
  have c1 := K2.out.cell 1 _ rfl
  have c2 := K2.out.cell 2 _ rfl
  have d0 := K1.out.cell 0 _ rfl
  have d1 := K1.out.cell 1 _ rfl
  have d2 := K1.out.cell 2 _ rfl
  have f0 := K1.out.fr 0
  have f1 := K1.out.fr 1
  have f2 := K1.out.fr 2
  go_wp2
  have K3 := hid ((((K1.out.set (i := 0) (by simp) (.int .i64 2)).set (i := 1) (by simp) (.int .i64 (a : Int))).set (i := 2) (by simp) (.string x)))
  have B3 := (((B1.setCell (p := ⟨rb, 0, none⟩) hrw (.int .i64 2)).setCell (p := ⟨rb, 1, none⟩) hrw (.int .i64 (a : Int))).setCell (p := ⟨rb, 2, none⟩) hrw (.string x))
  generalize (((wc.setCell ⟨rb, 0, none⟩ (.int .i64 2)).setCell ⟨rb, 1, none⟩ (.int .i64 (a : Int))).setCell ⟨rb, 2, none⟩ (.string x)) = W3 at K3 B3 ⊢
  clear K1 K2 B1 c0 c1 c2 d0 d1 d2 f0 f1 f2
  have r0 := K3.out.cell 0 _ rfl
  have r1 := K3.out.cell 1 _ rfl
  have r2 := K3.out.cell 2 _ rfl
  skip
  refine bodyPost_ret (v := .tuple #[.agg #[.int .i64 2, .int .i64 (a : Int), .string x], .bool true]) (by simp [results, Tryz.results40, go_sem, r0, r1, r2]) rfl ?_
  exact next_ok HT.out (by rw [HL.out]; exact HX.out) B3
set_option maxHeartbeats 1000000 in
set_option maxRecDepth 100000 in
theorem next_two (s : ByteArray) (a : Nat) (ha : a < s.size) (hs : s.size ≤ 9223372036854775807) (w : World) (hdg : digB (s[a]'ha) = false) (hlt : letB (s[a]'ha) = false) (hpf : Lib.hasPrefix (s.data.toList.drop a) [61, 61] = true) :
    Calls Tryz.prog 40 #[.string s, .int .i64 (a : Int)] w (NextOut s a w) := by
 have hd := drop_cons s a ha
 have HT := hid (show tokL (s.data.toList.drop a) = some (3, [61, 61]) by
  rw [hd] at hpf ⊢
  rw [tokL_cons, hdg, hlt, hpf]; rfl)
 obtain ⟨t1, t2, t3, _⟩ := tokL_some HT.out
 have hx : (⟨#[61, 61]⟩ : ByteArray) = s.extract a (a + 2) := (of_list _ _ (by rw [Lib.extract_data, Nat.add_sub_cancel_left]; exact t2.symm)).symm
 have HX := hid hx
 have HPF := hid (show Lib.hasPrefix (s.extract a s.size).data.toList (⟨#[61, 61]⟩ : ByteArray).data.toList = true by rw [toEnd]; exact hpf)
 have a0 : (0 : Int) ≤ (a : Int) := by omega
 have a1 : (a : Int) ≤ (s.size : Int) := by omega
 have HD := hid hdg
 have HLT := hid hlt
 clear hd hdg hlt hpf hx t1 t2 t3
 go_enter Tryz.func40, Tryz.ntmps40
 go_wp2_with fail
 obtain ⟨rb, hrb⟩ : ∃ rb, rb = w.heap.size := ⟨_, rfl⟩
 obtain ⟨tb, htb⟩ : ∃ tb, tb = w.heap.size + 1 := ⟨_, rfl⟩
 have k1 := ((Blk.made w [.int .i64 0, .int .i64 0, .string ⟨#[]⟩] 49 (base := 0) (Nat.zero_le _)).below ((Below.refl _ _).alloc (Nat.le_refl _) (.cells #[.int .i64 0, .int .i64 (a : Int), .string ⟨#[]⟩] 49)))
 have k2 := Blk.made (w.alloc (.cells #[.int .i64 0, .int .i64 0, .string ⟨#[]⟩] 49)) [.int .i64 0, .int .i64 (a : Int), .string ⟨#[]⟩] 49 (base := 0) (Nat.zero_le _)
 have B1 : Below w.heap.size w ((w.alloc (.cells #[.int .i64 0, .int .i64 0, .string ⟨#[]⟩] 49)).alloc (.cells #[.int .i64 0, .int .i64 (a : Int), .string ⟨#[]⟩] 49)) := ((Below.refl _ _).alloc (Nat.le_refl _) _).alloc (by simp) _
 have e2 : (w.alloc (.cells #[.int .i64 0, .int .i64 0, .string ⟨#[]⟩] 49)).heap.size = tb := by rw [htb]; simp
 rw [e2] at k2
 rw [← hrb] at k1
 rw [← htb, ← hrb]
 have hne : rb ≠ tb := by omega
 have hrw : w.heap.size ≤ rb := by omega
 have htw : w.heap.size ≤ tb := by omega
 have K1 := hid k1
 have K2 := hid k2
 clear hrb htb e2 k1 k2
 generalize (w.alloc (.cells #[.int .i64 0, .int .i64 0, .string ⟨#[]⟩] 49)).alloc (.cells #[.int .i64 0, .int .i64 (a : Int), .string ⟨#[]⟩] 49) = W at *
 refine (digit_any (s[a]'ha) _).mono ?_
 rintro e w' ⟨rfl, rfl⟩
 rw [HD.out]
 go_wp2_with fail
 refine (letter_any (s[a]'ha) _).mono ?_
 rintro e w' ⟨rfl, rfl⟩
 rw [HLT.out]
 go_wp2_with fail
 refine (hasPrefix_n _ _ _).mono ?_
 rintro e w' ⟨rfl, rfl⟩
 rw [HPF.out]
 have c0 := K2.out.cell 0 _ rfl
 have c1 := K2.out.cell 1 _ rfl
 have c2 := K2.out.cell 2 _ rfl
 have f0' := K2.out.fr 0
 have f2' := K2.out.fr 2
 have d0 := K1.out.cell 0 _ rfl
 have d1 := K1.out.cell 1 _ rfl
 have d2 := K1.out.cell 2 _ rfl
 have f0 := K1.out.fr 0
 have f1 := K1.out.fr 1
 have f2 := K1.out.fr 2
 go_wp2
 have K3 := hid (((((K1.out.other (p := ⟨tb, 0, none⟩) hne.symm (.int .i64 3)).other (p := ⟨tb, 2, none⟩) hne.symm (.string ⟨#[61, 61]⟩)).set (i := 0) (by simp) (.int .i64 3)).set (i := 1) (by simp) (.int .i64 (a : Int))).set (i := 2) (by simp) (.string ⟨#[61, 61]⟩))
 have B3 := ((((B1.setCell (p := ⟨tb, 0, none⟩) htw (.int .i64 3)).setCell (p := ⟨tb, 2, none⟩) htw (.string ⟨#[61, 61]⟩)).setCell (p := ⟨rb, 0, none⟩) hrw (.int .i64 3)).setCell (p := ⟨rb, 1, none⟩) hrw (.int .i64 (a : Int))).setCell (p := ⟨rb, 2, none⟩) hrw (.string ⟨#[61, 61]⟩)
 generalize ((((W.setCell ⟨tb, 0, none⟩ (.int .i64 3)).setCell ⟨tb, 2, none⟩ (.string ⟨#[61, 61]⟩)).setCell ⟨rb, 0, none⟩ (.int .i64 3)).setCell ⟨rb, 1, none⟩ (.int .i64 (a : Int))).setCell ⟨rb, 2, none⟩ (.string ⟨#[61, 61]⟩) = W3 at K3 B3 ⊢
 clear K1 K2 B1 c0 c1 c2 d0 d1 d2 f0 f1 f2 f0' f2'
 have r0 := K3.out.cell 0 _ rfl
 have r1 := K3.out.cell 1 _ rfl
 have r2 := K3.out.cell 2 _ rfl
 refine bodyPost_ret (v := .tuple #[.agg #[.int .i64 3, .int .i64 (a : Int), .string ⟨#[61, 61]⟩], .bool true]) (by simp [results, Tryz.results40, go_sem, r0, r1, r2]) rfl ?_
 exact next_ok HT.out HX.out B3
set_option maxHeartbeats 1000000 in
set_option maxRecDepth 100000 in
theorem next_sgn (s : ByteArray) (a : Nat) (ha : a < s.size) (hs : s.size ≤ 9223372036854775807) (w : World) (hdg : digB (s[a]'ha) = false) (hlt : letB (s[a]'ha) = false) (hpf : Lib.hasPrefix (s.data.toList.drop a) [61, 61] = false) (hsg : sgnB (s[a]'ha) = true) :
    Calls Tryz.prog 40 #[.string s, .int .i64 (a : Int)] w (NextOut s a w) := by
 have hd := drop_cons s a ha
 have HPF := hid (show Lib.hasPrefix (s.extract a s.size).data.toList (⟨#[61, 61]⟩ : ByteArray).data.toList = false by rw [toEnd]; exact hpf)
 have hge := sgn_ge (s[a]'ha)
 have hcc : ((((s[a]'ha).toNat : Int)).toNat.toUInt8) = s[a]'ha := by simp
 have a0 : (0 : Int) ≤ (a : Int) := by omega
 have a1 : (a : Int) ≤ (s.size : Int) := by omega
 have HCC := hid hcc
 have HT := hid (show tokL (s.data.toList.drop a) = some (3, [s[a]'ha]) by
  rw [hd] at hpf ⊢
  rw [tokL_cons, hdg, hlt, hpf, hsg]; rfl)
 obtain ⟨t1, t2, t3, _⟩ := tokL_some HT.out
 have HX := hid (show s.extract a (a + 1) = s.extract a (a + [s[a]'ha].length) from rfl)
 have HG := hid (show (0 : Int) ≤ Lib.indexByte signsL (s[a]'ha) by rw [hsg] at hge; simpa using hge)
 have a2 : (a : Int) + 1 ≤ (s.size : Int) := by omega
 have a3 : (a : Int) ≤ (a : Int) + 1 := by omega
 have HD := hid hdg
 have HLT := hid hlt
 clear hd hdg hlt hpf hge hcc t1 t2 t3 hsg
 go_enter Tryz.func40, Tryz.ntmps40
 go_wp2_with fail
 obtain ⟨rb, hrb⟩ : ∃ rb, rb = w.heap.size := ⟨_, rfl⟩
 obtain ⟨tb, htb⟩ : ∃ tb, tb = w.heap.size + 1 := ⟨_, rfl⟩
 have k1 := ((Blk.made w [.int .i64 0, .int .i64 0, .string ⟨#[]⟩] 49 (base := 0) (Nat.zero_le _)).below ((Below.refl _ _).alloc (Nat.le_refl _) (.cells #[.int .i64 0, .int .i64 (a : Int), .string ⟨#[]⟩] 49)))
 have k2 := Blk.made (w.alloc (.cells #[.int .i64 0, .int .i64 0, .string ⟨#[]⟩] 49)) [.int .i64 0, .int .i64 (a : Int), .string ⟨#[]⟩] 49 (base := 0) (Nat.zero_le _)
 have B1 : Below w.heap.size w ((w.alloc (.cells #[.int .i64 0, .int .i64 0, .string ⟨#[]⟩] 49)).alloc (.cells #[.int .i64 0, .int .i64 (a : Int), .string ⟨#[]⟩] 49)) := ((Below.refl _ _).alloc (Nat.le_refl _) _).alloc (by simp) _
 have e2 : (w.alloc (.cells #[.int .i64 0, .int .i64 0, .string ⟨#[]⟩] 49)).heap.size = tb := by rw [htb]; simp
 rw [e2] at k2
 rw [← hrb] at k1
 rw [← htb, ← hrb]
 have hne : rb ≠ tb := by omega
 have hrw : w.heap.size ≤ rb := by omega
 have htw : w.heap.size ≤ tb := by omega
 have K1 := hid k1
 have K2 := hid k2
 clear hrb htb e2 k1 k2
 generalize (w.alloc (.cells #[.int .i64 0, .int .i64 0, .string ⟨#[]⟩] 49)).alloc (.cells #[.int .i64 0, .int .i64 (a : Int), .string ⟨#[]⟩] 49) = W at *
 refine (digit_any (s[a]'ha) _).mono ?_
 rintro e w' ⟨rfl, rfl⟩
 rw [HD.out]
 go_wp2_with fail
 refine (letter_any (s[a]'ha) _).mono ?_
 rintro e w' ⟨rfl, rfl⟩
 rw [HLT.out]
 go_wp2_with fail
 refine (hasPrefix_n _ _ _).mono ?_
 rintro e w' ⟨rfl, rfl⟩
 rw [HPF.out]
 go_wp2_with fail
 refine (indexByte_n _ _ _).mono ?_
 rintro e w' ⟨rfl, rfl⟩
 rw [HCC.out]
 obtain ⟨g, hg⟩ : ∃ g, g = Lib.indexByte signsL (s[a]'ha) := ⟨_, rfl⟩
 have hg0 : 0 ≤ g := by rw [hg]; exact HG.out
 have hg1 : Lib.indexByte ({ data := #[123, 125, 91, 93, 40, 41, 59, 61, 60, 43, 45, 42, 47, 37] } : ByteArray).data.toList (s[a]'ha) = g := hg.symm
 rw [hg1]
 clear hg hg1
 have hwr : IntKind.i64.wrap ((a : Int) + 1) = (a : Int) + 1 := IntWalk.i64_in _ (by omega)
 have htn : ((a : Int) + 1).toNat = a + 1 := by omega
 go_upto_region 12 with (fail)
 have c0 := K2.out.cell 0 _ rfl
 have c2 := K2.out.cell 2 _ rfl
 have f0 := K2.out.fr 0
 have f2 := K2.out.fr 2
 go_region
 all_goals
  have K3 := hid (((K1.out.other (p := ⟨tb, 0, none⟩) hne.symm (.int .i64 3)).other (p := ⟨tb, 2, none⟩) hne.symm (.string (s.extract a (a + 1)))).drew)
  have K4 := hid (((K2.out.set (i := 0) (by simp) (.int .i64 3)).set (i := 2) (by simp) (.string (s.extract a (a + 1)))).drew)
  have B3 := ((B1.setCell (p := ⟨tb, 0, none⟩) htw (.int .i64 3)).setCell (p := ⟨tb, 2, none⟩) htw (.string (s.extract a (a + 1)))).drew
  clear K1 K2 B1 c0 c2 f0 f2
  generalize ((W.setCell ⟨tb, 0, none⟩ (.int .i64 3)).setCell ⟨tb, 2, none⟩ (.string (s.extract a (a + 1)))).drew = wc at K3 K4 B3 ⊢
  have K1 := K3
  have K2 := K4
  have B1 := B3
  clear K3 K4 B3
  clear hwr htn
  obtain ⟨x, hxx⟩ : ∃ x, x = s.extract a (a + 1) := ⟨_, rfl⟩
  have HXX := hid hxx
  rw [← hxx] at K2
  clear hxx
  have c0 := K2.out.cell 0 _ rfl
  have c1 := K2.out.cell 1 _ rfl
  have c2 := K2.out.cell 2 _ rfl
  have d0 := K1.out.cell 0 _ rfl
  have d1 := K1.out.cell 1 _ rfl
  have d2 := K1.out.cell 2 _ rfl
  have f0 := K1.out.fr 0
  have f1 := K1.out.fr 1
  have f2 := K1.out.fr 2
  go_wp2
  have K3 := hid ((((K1.out.set (i := 0) (by simp) (.int .i64 3)).set (i := 1) (by simp) (.int .i64 (a : Int))).set (i := 2) (by simp) (.string x)))
  have B3 := (((B1.setCell (p := ⟨rb, 0, none⟩) hrw (.int .i64 3)).setCell (p := ⟨rb, 1, none⟩) hrw (.int .i64 (a : Int))).setCell (p := ⟨rb, 2, none⟩) hrw (.string x))
  generalize (((wc.setCell ⟨rb, 0, none⟩ (.int .i64 3)).setCell ⟨rb, 1, none⟩ (.int .i64 (a : Int))).setCell ⟨rb, 2, none⟩ (.string x)) = W3 at K3 B3 ⊢
  clear K1 K2 B1 c0 c1 c2 d0 d1 d2 f0 f1 f2
  have r0 := K3.out.cell 0 _ rfl
  have r1 := K3.out.cell 1 _ rfl
  have r2 := K3.out.cell 2 _ rfl
  skip
  refine bodyPost_ret (v := .tuple #[.agg #[.int .i64 3, .int .i64 (a : Int), .string x], .bool true]) (by simp [results, Tryz.results40, go_sem, r0, r1, r2]) rfl ?_
  exact next_ok HT.out (by rw [HXX.out]; exact HX.out) B3
set_option maxHeartbeats 1000000 in
set_option maxRecDepth 100000 in
theorem next_none (s : ByteArray) (a : Nat) (ha : a < s.size) (hs : s.size ≤ 9223372036854775807) (w : World) (hdg : digB (s[a]'ha) = false) (hlt : letB (s[a]'ha) = false) (hpf : Lib.hasPrefix (s.data.toList.drop a) [61, 61] = false) (hsg : sgnB (s[a]'ha) = false) :
    Calls Tryz.prog 40 #[.string s, .int .i64 (a : Int)] w (NextOut s a w) := by
 have hd := drop_cons s a ha
 have HPF := hid (show Lib.hasPrefix (s.extract a s.size).data.toList (⟨#[61, 61]⟩ : ByteArray).data.toList = false by rw [toEnd]; exact hpf)
 have hge := sgn_ge (s[a]'ha)
 have hcc : ((((s[a]'ha).toNat : Int)).toNat.toUInt8) = s[a]'ha := by simp
 have a0 : (0 : Int) ≤ (a : Int) := by omega
 have a1 : (a : Int) ≤ (s.size : Int) := by omega
 have HCC := hid hcc
 have HT := hid (show tokL (s.data.toList.drop a) = none by
  rw [hd] at hpf ⊢
  rw [tokL_cons, hdg, hlt, hpf, hsg]; rfl)
 have HG := hid (show Lib.indexByte signsL (s[a]'ha) < 0 by rw [hsg] at hge; simpa using hge)
 have HD := hid hdg
 have HLT := hid hlt
 clear hd hdg hlt hpf hge hcc hsg
 go_enter Tryz.func40, Tryz.ntmps40
 go_wp2_with fail
 obtain ⟨rb, hrb⟩ : ∃ rb, rb = w.heap.size := ⟨_, rfl⟩
 obtain ⟨tb, htb⟩ : ∃ tb, tb = w.heap.size + 1 := ⟨_, rfl⟩
 have k1 := ((Blk.made w [.int .i64 0, .int .i64 0, .string ⟨#[]⟩] 49 (base := 0) (Nat.zero_le _)).below ((Below.refl _ _).alloc (Nat.le_refl _) (.cells #[.int .i64 0, .int .i64 (a : Int), .string ⟨#[]⟩] 49)))
 have k2 := Blk.made (w.alloc (.cells #[.int .i64 0, .int .i64 0, .string ⟨#[]⟩] 49)) [.int .i64 0, .int .i64 (a : Int), .string ⟨#[]⟩] 49 (base := 0) (Nat.zero_le _)
 have B1 : Below w.heap.size w ((w.alloc (.cells #[.int .i64 0, .int .i64 0, .string ⟨#[]⟩] 49)).alloc (.cells #[.int .i64 0, .int .i64 (a : Int), .string ⟨#[]⟩] 49)) := ((Below.refl _ _).alloc (Nat.le_refl _) _).alloc (by simp) _
 have e2 : (w.alloc (.cells #[.int .i64 0, .int .i64 0, .string ⟨#[]⟩] 49)).heap.size = tb := by rw [htb]; simp
 rw [e2] at k2
 rw [← hrb] at k1
 rw [← htb, ← hrb]
 have hne : rb ≠ tb := by omega
 have hrw : w.heap.size ≤ rb := by omega
 have htw : w.heap.size ≤ tb := by omega
 have K1 := hid k1
 have K2 := hid k2
 clear hrb htb e2 k1 k2
 generalize (w.alloc (.cells #[.int .i64 0, .int .i64 0, .string ⟨#[]⟩] 49)).alloc (.cells #[.int .i64 0, .int .i64 (a : Int), .string ⟨#[]⟩] 49) = W at *
 refine (digit_any (s[a]'ha) _).mono ?_
 rintro e w' ⟨rfl, rfl⟩
 rw [HD.out]
 go_wp2_with fail
 refine (letter_any (s[a]'ha) _).mono ?_
 rintro e w' ⟨rfl, rfl⟩
 rw [HLT.out]
 go_wp2_with fail
 refine (hasPrefix_n _ _ _).mono ?_
 rintro e w' ⟨rfl, rfl⟩
 rw [HPF.out]
 go_wp2_with fail
 refine (indexByte_n _ _ _).mono ?_
 rintro e w' ⟨rfl, rfl⟩
 rw [HCC.out]
 obtain ⟨g, hg⟩ : ∃ g, g = Lib.indexByte signsL (s[a]'ha) := ⟨_, rfl⟩
 have hg0 : g < 0 := by rw [hg]; exact HG.out
 have hg1 : Lib.indexByte ({ data := #[123, 125, 91, 93, 40, 41, 59, 61, 60, 43, 45, 42, 47, 37] } : ByteArray).data.toList (s[a]'ha) = g := hg.symm
 rw [hg1]
 clear hg hg1
 have c0 := K2.out.cell 0 _ rfl
 have c1 := K2.out.cell 1 _ rfl
 have c2 := K2.out.cell 2 _ rfl
 have d0 := K1.out.cell 0 _ rfl
 have d1 := K1.out.cell 1 _ rfl
 have d2 := K1.out.cell 2 _ rfl
 have f0 := K1.out.fr 0
 have f1 := K1.out.fr 1
 have f2 := K1.out.fr 2
 go_wp2
 have K3 := hid (((K1.out.set (i := 0) (by simp) (.int .i64 0)).set (i := 1) (by simp) (.int .i64 (a : Int))).set (i := 2) (by simp) (.string ⟨#[]⟩))
 have B3 := ((B1.setCell (p := ⟨rb, 0, none⟩) hrw (.int .i64 0)).setCell (p := ⟨rb, 1, none⟩) hrw (.int .i64 (a : Int))).setCell (p := ⟨rb, 2, none⟩) hrw (.string ⟨#[]⟩)
 generalize ((W.setCell ⟨rb, 0, none⟩ (.int .i64 0)).setCell ⟨rb, 1, none⟩ (.int .i64 (a : Int))).setCell ⟨rb, 2, none⟩ (.string ⟨#[]⟩) = W3 at K3 B3 ⊢
 clear K1 K2 B1 c0 c1 c2 d0 d1 d2 f0 f1 f2
 have r0 := K3.out.cell 0 _ rfl
 have r1 := K3.out.cell 1 _ rfl
 have r2 := K3.out.cell 2 _ rfl
 refine bodyPost_ret (v := .tuple #[.agg #[.int .i64 0, .int .i64 (a : Int), .string ⟨#[]⟩], .bool false]) (by simp [results, Tryz.results40, go_sem, r0, r1, r2]) rfl ?_
 exact next_no HT.out B3
theorem next_any (s : ByteArray) (a : Nat) (ha : a < s.size) (hs : s.size ≤ 9223372036854775807) (w : World) :
    Calls Tryz.prog 40 #[.string s, .int .i64 (a : Int)] w (NextOut s a w) := by
 cases h1 : digB (s[a]'ha)
 ·cases h2 : letB (s[a]'ha)
  ·cases h3 : Lib.hasPrefix (s.data.toList.drop a) [61, 61]
   ·cases h4 : sgnB (s[a]'ha)
    ·exact next_none s a ha hs w h1 h2 h3 h4
    ·exact next_sgn s a ha hs w h1 h2 h3 h4
   ·exact next_two s a ha hs w h1 h2 h3
  ·exact next_let s a ha hs w h1 h2
 ·exact next_dig s a ha hs w h1
end Go.Proofs.YtnpgpcnkdocknaaGreatDoor
