/- The walk of JTokens. -/
import Derived.Test.YtijahadmaggncaaDoorGJt1
import Derived.Test.YtijahadmaggncaaDoorAppZ
namespace Go.Proofs.YtijahadmaggncaaDoor
open Go.RowKit
set_option linter.unusedVariables false
set_option maxHeartbeats 16000000 in
set_option maxRecDepth 100000 in
theorem jtokens_any (s : ByteArray) (hs : s.size ≤ 4398046511103) (w : World) (hN0 : Nums w) :
    Calls Tryd.prog 26 #[.string s] w (TokOut (jG s.data.toList 0 [] none) w) := by
  obtain ⟨i0, hi, hz0, hz1, hz2⟩ := info_parts infoTok
  have HLN := Lib.hid (data_len s)
  have HN := Lib.hid hN0
  clear hN0
  obtain ⟨R, hR⟩ : ∃ R, R = jG s.data.toList 0 [] none := ⟨_, rfl⟩
  rw [← hR]
  have HR0 := Lib.hid hR
  clear hR
  go_enter Tryd.func26, Tryd.ntmps26
  go_wp2_with fail
  go_loopw [5, 6, 15] (fun o b u wr => ∃ (i : Nat) (out : List LTok) (op : Option LTok), u = .int .i64 (i : Int) ∧ b = .bool op.isSome ∧ i ≤ s.size ∧ out.length + op.toList.length ≤ i ∧ (∀ t, op = some t → t.pos ≤ i ∧ t.text.length ≤ i) ∧ Hid (R = jG (s.data.toList.drop i) i out op) ∧ Hid (OwnToks 55 wr w.heap.size Nowhere (rowsJ out op) o) ∧ Below w.heap.size w wr) (fun _ _ u _ => s.size - (intOf u).toNat)
  case atStart => exact ⟨0, [], none, rfl, rfl, Nat.zero_le _, Nat.le_refl _, (fun t h => by cases h), HR0, Lib.hid (OwnL.nil _ _ _), Below.refl _ _⟩
  case round =>
    clear HR0
    obtain ⟨i, out, op, rfl, rfl, hi1, hol, hop, HR, HO, hb⟩ := hrel
    have hsz := hb.size
    by_cases hlt : i < s.size
    · have HG := Lib.hid (show s.data.toList.drop i = s[i]'hlt :: s.data.toList.drop (i + 1) by
        rw [List.drop_eq_getElem_cons (by rw [HLN.out]; exact hlt), Array.getElem_toList]; rfl)
      rw [HG.out] at HR
      obtain ⟨k, hk⟩ : ∃ k, k = jcN (s[i]'hlt) := ⟨_, rfl⟩
      have HC := Lib.hid (fun W => jclass_j (s[i]'hlt) W)
      have hkle : k ≤ 4 := by rw [hk]; exact jc_le _
      rw [← hk] at HC
      have HK := Lib.hid hk.symm
      clear hk
      go_wp2_with (go_at_call 48; refine (HC.out _).mono ?_)
      rintro e w1 ⟨rfl, hb1⟩
      have B1 := hb.trans (hb1.mono hsz)
      have hsz1 := B1.size
      have O1 := Lib.hid (HO.out.keep Flat.keeps hb1)
      have N1 := Lib.hid (HN.out.go B1)
      clear hb hb1 HO HC hsz
      cases op with
      | none =>
        · skip
          rw [show rowsJ out none = out from List.append_nil _] at O1
          replace hol : out.length ≤ i := by simpa using hol
          clear hop
          obtain ⟨A0, cap0, rfl⟩ := O1.out.form
          by_cases hk4 : k = 4
          · have hk4' : ((k : Int) == 4) = true := by rw [hk4]; rfl
            have HX := Lib.hid (show R = ([], i, 1) by rw [HR.out, jG_none, HK.out, if_pos hk4])
            clear hk4
            go_wp2_with fail
            go_ret3
            exact ⟨_, by rw [HX.out]; rfl, by rw [HX.out]; exact RdL.nil (by unfold maxLen; omega), B1⟩
          · have hk4' : ((k : Int) == 4) = false := by simpa using (fun h => hk4 (by omega))
            by_cases hk0 : k = 0
            · have HX := Lib.hid (show R = jG (s.data.toList.drop (i + 1)) (i + 1) out none by rw [HR.out, jG_none, HK.out, if_neg hk4, if_pos hk0])
              have hk0' : ¬ (0 : Int) < (k : Int) := by omega
              clear hk0 hk4
              go_wp2_with fail
              go_roundw
              case rel => exact ⟨i + 1, out, none, by go_num, rfl, by omega, by simpa using Nat.le_succ_of_le hol, (fun t h => by cases h), HX, Lib.hid (by rw [show rowsJ out none = out from List.append_nil _]; exact O1.out), B1⟩
              case measure => simp [intOf]; omega
            · have HX := Lib.hid (show R = jG (s.data.toList.drop (i + 1)) (i + 1) out (some ⟨(k : Int), i, [s[i]'hlt]⟩) by rw [HR.out, jG_none, HK.out, if_neg hk4, if_neg hk0])
              have hk0' : (0 : Int) < (k : Int) := by omega
              clear hk0 hk4
              have hxx : (s.extract i (i + 1)) = ⟨[s[i]'hlt].toArray⟩ := by
                apply of_list
                rw [Lib.extract_data, Nat.add_sub_cancel_left, HG.out]; rfl
              have HXX := Lib.hid hxx
              clear hxx
              have HFL := Lib.hid (show ∀ W, Flat encT okT W Nowhere ⟨(k : Int), i, [s[i]'hlt]⟩ [.int .i64 (k : Int), .int .i64 (i : Int), .string (s.extract i (i + 1))] from fun W => ⟨by rw [HXX.out]; rfl, by unfold inI; simp only; omega, by show i ≤ _; omega, by show 1 ≤ _; omega⟩)
              have HL1 := Lib.hid (show out.length + 1 ≤ maxLen by unfold maxLen; omega)
              have HL2 := Lib.hid (show (out.length + 1) * 32 ≤ 140737488355328 by omega)
              go_wp2_with (at_builtin; refine wpList_append_one rfl _ _ 53 rfl i0 _ Tryd.underlying53 hi hz0 hz1 hz2 rfl (by decide) Flat.keeps O1.out (x := (⟨(k : Int), i, [s[i]'hlt]⟩ : LTok)) (cs := [.int .i64 (k : Int), .int .i64 (i : Int), .string (s.extract i (i + 1))]) (Tx := Nowhere) (HFL.out _) rfl rfl rfl (Sub.nowhere _) (Sub.nowhere _) not_nowhere (by simp [Value.oneCell']) HL1.out HL2.out hsz1 ?_)
              intro v2 w2 ho2 hg2 _
              have B9 := B1.grown hg2 hsz1 (fun g hg => (O1.out.lt g hg).1)
              have O9 := Lib.hid ho2
              clear ho2 hg2
              go_wp2_with fail
              go_roundw
              case rel => exact ⟨i + 1, out, some ⟨(k : Int), i, [s[i]'hlt]⟩, by go_num, rfl, by omega, by simp only [Option.toList_some, List.length_singleton]; omega, (fun t h => by injection h with h; subst h; exact ⟨by show i ≤ _; omega, by show 1 ≤ _; omega⟩), HX, O9, B9⟩
              case measure => simp [intOf]; omega
      | some t =>
        · skip
          rw [show rowsJ out (some t) = out ++ [t] from rfl] at O1
          replace hol : out.length + 1 ≤ i := by simpa using hol
          obtain ⟨hp1, hp2⟩ := hop t rfl
          clear hop
          obtain ⟨g, cap, rfl, hgb, hgl, hfz, hok, e0, e1, e2⟩ := toks_own O1.out
          have HNUM := Lib.hid (fun W (hW : Nums W) => jnumber_any t (by omega) W hW)
          obtain ⟨bj, hbj⟩ : ∃ b, b = jnumT t := ⟨_, rfl⟩
          rw [← hbj] at HNUM
          have HBJ := Lib.hid hbj.symm
          clear hbj
          by_cases hk4 : k = 4
          · skip
            have hk4' : ((k : Int) == 4) = true := by rw [hk4]; rfl
            have HX := Lib.hid (show R = if bj then ([], i, 1) else ([], t.pos, 1) by rw [HR.out, jG_some, HK.out, if_pos hk4, HBJ.out])
            clear hk4
            go_wp2_with (go_at_call 49; refine (HNUM.out _ N1.out).mono ?_)
            rintro e w3 ⟨rfl, hb3⟩
            have B3 := B1.trans (hb3.mono hsz1)
            replace e1 := (hb3.cell (p := ⟨g, out.length * 3 + 1, none⟩) hgl).trans e1
            clear hb3
            cases bj with
            | true =>
              go_wp2_with fail
              go_ret3
              exact ⟨_, by rw [HX.out]; rfl, by rw [HX.out]; exact RdL.nil (by unfold maxLen; omega), B3⟩
            | false =>
              go_wp2_with fail
              go_quiet (fail)
              go_wp2_with fail
              go_ret3
              exact ⟨_, by rw [HX.out]; rfl, by rw [HX.out]; exact RdL.nil (by unfold maxLen; omega), B3.trans ⟨rfl, rfl, rfl, Nat.le_refl _, fun _ _ => rfl⟩⟩
          · skip
            have hk4' : ((k : Int) == 4) = false := by simpa using (fun h => hk4 (by omega))
            obtain ⟨y, hy⟩ : ∃ y : ByteArray, y = ⟨t.text.toArray⟩ := ⟨_, rfl⟩
            have HY := Lib.hid (show y.data.toList = t.text by rw [hy])
            have hys : y.size ≤ i := by rw [hy]; exact hp2
            rw [← hy] at e2
            replace HNUM := Lib.hid (show ∀ W, Nums W → Calls Tryd.prog 49 #[.agg #[.int .i64 t.kind, .int .i64 (t.pos : Int), .string y]] W fun e w' => e = .returned (.bool bj) ∧ Below W.heap.size W w' by rw [hy]; exact HNUM.out)
            clear hy
            have HM := Lib.hid (show jmore t (s[i]'hlt) = (((t.kind == 1) && ((k : Int) == 1)) || ((t.kind == 2) && (((k : Int) == 1) || ((k : Int) == 2))) || ((y.toList == [61]) && (((s[i]'hlt).toNat : Int) == 61))) by
              unfold jmore
              rw [HK.out, ByteArray.toList_eq y, HY.out]
              congr 1
              · congr 1
                · congr 1
                  rw [Bool.eq_iff_iff]; simp; omega
                · congr 1
                  congr 1
                  · rw [Bool.eq_iff_iff]; simp; omega
                  · rw [Bool.eq_iff_iff]; simp; omega
              · congr 1
                rw [Bool.eq_iff_iff]; simp; omega)
            obtain ⟨mo, hmo⟩ : ∃ b, b = jmore t (s[i]'hlt) := ⟨_, rfl⟩
            rw [← hmo] at HM
            have HMO := Lib.hid hmo.symm
            clear hmo
            have D2 := Lib.hid (Blk.made w1 [.int .i64 t.kind, .int .i64 (t.pos : Int), .string y] 55 (base := 0) (Nat.zero_le _))
            have hbel : Below w1.heap.size w1 (w1.alloc (.cells #[.int .i64 t.kind, .int .i64 (t.pos : Int), .string y] 55)) := (Below.refl _ _).alloc (Nat.le_refl _) _
            have O2 := Lib.hid (O1.out.keep Flat.keeps hbel)
            have B2 := B1.trans (hbel.mono hsz1)
            have N2 := Lib.hid (N1.out.go hbel)
            have HFZ := Lib.hid (fun o => (hbel.frozen (p := ⟨g, o, none⟩) hgl).trans (hfz o))
            have f2 := (hbel.cell (p := ⟨g, out.length * 3 + 2, none⟩) hgl).trans e2
            have hgl2 := Nat.lt_of_lt_of_le hgl hbel.size
            have hsz2 := B2.size
            obtain ⟨d, hd⟩ : ∃ d, d = w1.heap.size := ⟨_, rfl⟩
            have HGD := Lib.hid (show g ≠ d by omega)
            rw [← hd] at D2
            clear hbel O1 N1 B1 hfz
            go_upto_region 15 with (fail)
            rw [← hd]
            clear hd hsz1 hgl e0 e1 e2
            generalize w1.alloc (.cells #[.int .i64 t.kind, .int .i64 (t.pos : Int), .string y] 55) = W2 at *
            have c0 := D2.out.cell 0 _ rfl
            have c1 := D2.out.cell 1 _ rfl
            have c2 := D2.out.cell 2 _ rfl
            go_cut [80] (fun x80 wx => x80 = .bool mo ∧ wx = W2)
            case first =>
              cases h1 : (t.kind == 1)
              · cases h3 : (t.kind == 2)
                · skip
                  cases h5 : (y.toList == [61])
                  · skip
                    go_wp2_with fail
                    go_meet
                    exact ⟨by rw [HM.out]; simp only [h1, h3, h5]; rfl, rfl⟩
                  · cases h6 : (((s[i]'hlt).toNat : Int) == 61)
                    · skip
                      go_wp2_with fail
                      go_meet
                      exact ⟨by rw [HM.out]; simp only [h1, h3, h5, h6]; rfl, rfl⟩
                    · skip
                      go_wp2_with fail
                      go_meet
                      exact ⟨by rw [HM.out]; simp only [h1, h3, h5, h6]; rfl, rfl⟩
                · cases h2 : ((k : Int) == 1)
                  · cases h4 : ((k : Int) == 2)
                    · skip
                      cases h5 : (y.toList == [61])
                      · skip
                        go_wp2_with fail
                        go_meet
                        exact ⟨by rw [HM.out]; simp only [h1, h3, h2, h4, h5]; rfl, rfl⟩
                      · cases h6 : (((s[i]'hlt).toNat : Int) == 61)
                        · skip
                          go_wp2_with fail
                          go_meet
                          exact ⟨by rw [HM.out]; simp only [h1, h3, h2, h4, h5, h6]; rfl, rfl⟩
                        · skip
                          go_wp2_with fail
                          go_meet
                          exact ⟨by rw [HM.out]; simp only [h1, h3, h2, h4, h5, h6]; rfl, rfl⟩
                    · skip
                      go_wp2_with fail
                      go_meet
                      exact ⟨by rw [HM.out]; simp only [h1, h3, h2, h4]; rfl, rfl⟩
                  · skip
                    go_wp2_with fail
                    go_meet
                    exact ⟨by rw [HM.out]; simp only [h1, h3, h2]; rfl, rfl⟩
              · have h3 : (t.kind == 2) = false := by have := h1; simp at this; rw [this]; rfl
                cases h2 : ((k : Int) == 1)
                · skip
                  cases h5 : (y.toList == [61])
                  · skip
                    go_wp2_with fail
                    go_meet
                    exact ⟨by rw [HM.out]; simp only [h1, h3, h2, h5]; rfl, rfl⟩
                  · cases h6 : (((s[i]'hlt).toNat : Int) == 61)
                    · skip
                      go_wp2_with fail
                      go_meet
                      exact ⟨by rw [HM.out]; simp only [h1, h3, h2, h5, h6]; rfl, rfl⟩
                    · skip
                      go_wp2_with fail
                      go_meet
                      exact ⟨by rw [HM.out]; simp only [h1, h3, h2, h5, h6]; rfl, rfl⟩
                · skip
                  go_wp2_with fail
                  go_meet
                  exact ⟨by rw [HM.out]; simp only [h1, h3, h2]; rfl, rfl⟩
            case rest =>
              obtain ⟨rfl, rfl⟩ := hcut
              clear HM
              cases mo with
              | false =>
                · skip
                  go_wp2_with (go_at_call 49; refine (HNUM.out _ N2.out).mono ?_)
                  rintro e w4 ⟨rfl, hb4⟩
                  have B4 := B2.trans (hb4.mono hsz2)
                  have hsz4 := B4.size
                  have O4 := Lib.hid (O2.out.keep Flat.keeps hb4)
                  have D4 := Lib.hid (D2.out.below hb4)
                  clear hb4 O2 D2 B2 c0 c1 c2 f2 N2 HFZ hgl2
                  have c1 := D4.out.cell 1 _ rfl
                  cases bj with
                  | false =>
                    · skip
                      have HX := Lib.hid (show R = ([], t.pos, 1) by rw [HR.out, jG_some, HK.out, if_neg hk4, HMO.out, if_neg (by simp), HBJ.out, if_neg (by simp)])
                      clear hk4
                      go_wp2_with fail
                      go_quiet (fail)
                      go_wp2_with fail
                      go_ret3
                      exact ⟨_, by rw [HX.out]; rfl, by rw [HX.out]; exact RdL.nil (by unfold maxLen; omega), B4.trans ⟨rfl, rfl, rfl, Nat.le_refl _, fun _ _ => rfl⟩⟩
                  | true =>
                    by_cases hk0 : k = 0
                    · have HX := Lib.hid (show R = jG (s.data.toList.drop (i + 1)) (i + 1) (out ++ [t]) none by rw [HR.out, jG_some, HK.out, if_neg hk4, HMO.out, if_neg (by simp), HBJ.out, if_pos rfl, if_pos hk0])
                      have hk0' : ¬ (0 : Int) < (k : Int) := by omega
                      clear hk0 hk4
                      go_wp2_with fail
                      go_roundw
                      case rel => exact ⟨i + 1, out ++ [t], none, by go_num, rfl, by omega, by simp only [List.length_append, List.length_singleton, Option.toList_none, List.length_nil]; omega, (fun t h => by cases h), HX, Lib.hid (by rw [show rowsJ (out ++ [t]) none = out ++ [t] from List.append_nil _]; exact O4.out), B4⟩
                      case measure => simp [intOf]; omega
                    · have HX := Lib.hid (show R = jG (s.data.toList.drop (i + 1)) (i + 1) (out ++ [t]) (some ⟨(k : Int), i, [s[i]'hlt]⟩) by rw [HR.out, jG_some, HK.out, if_neg hk4, HMO.out, if_neg (by simp), HBJ.out, if_pos rfl, if_neg hk0])
                      have hk0' : (0 : Int) < (k : Int) := by omega
                      clear hk0 hk4
                      have hxx : (s.extract i (i + 1)) = ⟨[s[i]'hlt].toArray⟩ := by
                        apply of_list
                        rw [Lib.extract_data, Nat.add_sub_cancel_left, HG.out]; rfl
                      have HXX := Lib.hid hxx
                      clear hxx
                      have HFL := Lib.hid (show ∀ W, Flat encT okT W Nowhere ⟨(k : Int), i, [s[i]'hlt]⟩ [.int .i64 (k : Int), .int .i64 (i : Int), .string (s.extract i (i + 1))] from fun W => ⟨by rw [HXX.out]; rfl, by unfold inI; simp only; omega, by show i ≤ _; omega, by show 1 ≤ _; omega⟩)
                      have HL1 := Lib.hid (show (out ++ [t]).length + 1 ≤ maxLen by unfold maxLen; simp only [List.length_append, List.length_singleton]; omega)
                      have HL2 := Lib.hid (show ((out ++ [t]).length + 1) * 32 ≤ 140737488355328 by simp only [List.length_append, List.length_singleton]; omega)
                      go_wp2_with (at_builtin; refine wpList_append_one rfl _ _ 53 rfl i0 _ Tryd.underlying53 hi hz0 hz1 hz2 rfl (by decide) Flat.keeps O4.out (x := (⟨(k : Int), i, [s[i]'hlt]⟩ : LTok)) (cs := [.int .i64 (k : Int), .int .i64 (i : Int), .string (s.extract i (i + 1))]) (Tx := Nowhere) (HFL.out _) rfl rfl rfl (Sub.nowhere _) (Sub.nowhere _) not_nowhere (by simp [Value.oneCell']) HL1.out HL2.out hsz4 ?_)
                      intro v2 w2 ho2 hg2 _
                      have B9 := B4.grown hg2 hsz4 (fun g hg => (O4.out.lt g hg).1)
                      have O9 := Lib.hid ho2
                      clear ho2 hg2
                      go_wp2_with fail
                      go_roundw
                      case rel => exact ⟨i + 1, (out ++ [t]), some ⟨(k : Int), i, [s[i]'hlt]⟩, by go_num, rfl, by omega, by simp only [Option.toList_some, List.length_singleton]; simp only [List.length_append, List.length_singleton]; omega, (fun t h => by injection h with h; subst h; exact ⟨by show i ≤ _; omega, by show 1 ≤ _; omega⟩), HX, Lib.hid (by rw [show rowsJ (out ++ [t]) (some ⟨(k : Int), i, [s[i]'hlt]⟩) = out ++ [t, ⟨(k : Int), i, [s[i]'hlt]⟩] from by unfold rowsJ; simp]; exact O9.out), B9⟩
                      case measure => simp [intOf]; omega
              | true =>
                · skip
                  clear c0 c1 c2 HNUM
                  have hfz2 := HFZ.out (out.length * 3 + 2)
                  have hy1 : y.size + 1 ≤ 9223372036854775807 := by omega
                  have hxs : (s.extract i (i + 1)).size = 1 := by rw [ByteArray.size_extract]; omega
                  have hxx : (s.extract i (i + 1)) = ⟨[s[i]'hlt].toArray⟩ := by
                    apply of_list
                    rw [Lib.extract_data, Nat.add_sub_cancel_left, HG.out]; rfl
                  have HXX := Lib.hid hxx
                  clear hxx
                  obtain ⟨z, hz⟩ : ∃ z, z = y ++ s.extract i (i + 1) := ⟨_, rfl⟩
                  have HZ := Lib.hid (show z.data.toList = (jadd t (s[i]'hlt)).text by
                    rw [hz, ByteArray.data_append, Array.toList_append, HY.out, HXX.out]; rfl)
                  have HZZ := Lib.hid hz.symm
                  clear hz
                  have hql : out.length < (out ++ [t]).length := by simp
                  have hzs : z.size ≤ i + 1 := by rw [← HZZ.out, ByteArray.size_append, hxs]; omega
                  have HO3 := Lib.hid (show OwnToks 55 (wc.setCell ⟨g, out.length * 3 + 2, none⟩ (.string z)).drew w.heap.size Nowhere (out ++ [jadd t (s[i]'hlt)]) (.slice (some ⟨g, 0, none⟩) (out.length + 1) cap) by
                    have h := OwnL.setJ O2.out (fun e => rfl) (q := out.length) (j := 2) hql (by decide) (jadd t (s[i]'hlt)) (.string z) (by
                      rw [List.getElem_concat_length rfl]
                      show [_, _, _] = List.set [_, _, _] 2 _
                      rw [show (⟨(jadd t (s[i]'hlt)).text.toArray⟩ : ByteArray) = z from (of_list _ _ HZ.out).symm]
                      rfl) ⟨hok.1, hok.2.1, by
                        have := HZ.out
                        rw [← this, ← Lib.size_eq]; omega⟩
                    rw [show (out ++ [t]).set out.length (jadd t (s[i]'hlt)) = out ++ [jadd t (s[i]'hlt)] by rw [List.set_append_right _ _ (Nat.le_refl _), Nat.sub_self]; rfl] at h
                    exact h.keep Flat.keeps (Below.refl _ _).drew)
                  have HB3 := Lib.hid (show Below w.heap.size w (wc.setCell ⟨g, out.length * 3 + 2, none⟩ (.string z)).drew from (B2.setCell (p := ⟨g, out.length * 3 + 2, none⟩) hgb _).drew)
                  have HC3 := Lib.hid (show (wc.setCell ⟨g, out.length * 3 + 2, none⟩ (.string z)).drew.cell? ⟨g, out.length * 3 + 2, none⟩ = some (.string z) from World.cell?_setCell_same' _ _ _ (by rw [f2]; rfl))
                  go_wp2_with fail
                  go_region
                  rw [HZZ.out]
                  generalize (wc.setCell ⟨g, out.length * 3 + 2, none⟩ (.string z)).drew = W3 at *
                  have f3 := HC3.out
                  clear f2 HC3 O2 D2 B2 N2 HFZ hgl2 hfz2
                  cases h61 : (z.toList == [61, 61])
                  · have HX := Lib.hid (show R = jG (s.data.toList.drop (i + 1)) (i + 1) out (some (jadd t (s[i]'hlt))) by
                      rw [HR.out, jG_some, HK.out, if_neg hk4, HMO.out, if_pos rfl, if_neg]
                      rw [← HZ.out, ← ByteArray.toList_eq z]
                      simpa using h61)
                    have HZ2 := Lib.hid (show (jadd t (s[i]'hlt)).text.length ≤ i + 1 by rw [← HZ.out, ← Lib.size_eq]; exact hzs)
                    clear hk4
                    go_wp2_with fail
                    go_roundw
                    case rel => exact ⟨i + 1, out, some (jadd t (s[i]'hlt)), by go_num, by first | rfl | (rw [h61]; rfl), by omega, by simp only [Option.toList_some, List.length_singleton]; omega, (fun t h => by injection h with h; subst h; exact ⟨by show _ ≤ _; exact Nat.le_succ_of_le hp1, HZ2.out⟩), HX, HO3, HB3.out⟩
                    case measure => simp [intOf]; omega
                  · have HX := Lib.hid (show R = jG (s.data.toList.drop (i + 1)) (i + 1) (out ++ [jadd t (s[i]'hlt)]) none by
                      rw [HR.out, jG_some, HK.out, if_neg hk4, HMO.out, if_pos rfl, if_pos]
                      rw [← HZ.out, ← ByteArray.toList_eq z]
                      simpa using h61)
                    clear hk4
                    go_wp2_with fail
                    go_roundw
                    case rel => exact ⟨i + 1, out ++ [jadd t (s[i]'hlt)], none, by go_num, by first | rfl | (rw [h61]; rfl), by omega, by simp only [List.length_append, List.length_singleton, Option.toList_none, List.length_nil]; omega, (fun t h => by cases h), HX, Lib.hid (by rw [show rowsJ (out ++ [jadd t (s[i]'hlt)]) none = out ++ [jadd t (s[i]'hlt)] from List.append_nil _]; exact HO3.out), HB3.out⟩
                    case measure => simp [intOf]; omega
    · have hin : i = s.size := by omega
      have HD := Lib.hid (show s.data.toList.drop i = [] from List.drop_eq_nil_of_le (by rw [HLN.out]; omega))
      rw [HD.out] at HR
      clear hin
      cases op with
      | none =>
        · skip
          rw [show rowsJ out none = out from List.append_nil _] at HO
          replace hol : out.length ≤ i := by simpa using hol
          clear hop
          obtain ⟨A0, cap0, rfl⟩ := HO.out.form
          have HX := Lib.hid (show R = (out, 0, 0) by rw [HR.out, jG_nil_none])
          have HRD := Lib.hid (HO.out.toRd (bytes := 32) (S' := Plus Nowhere w.heap.size wr.heap.size) Flat.keeps (by omega) (Sub.nowhere _) (fun b h1 h2 => .inr ⟨h1, h2⟩))
          clear HO
          go_wp2_with fail
          go_ret3
          exact ⟨_, by rw [HX.out]; rfl, by rw [HX.out]; exact HRD.out, hb⟩
      | some t =>
        · skip
          rw [show rowsJ out (some t) = out ++ [t] from rfl] at HO
          replace hol : out.length + 1 ≤ i := by simpa using hol
          obtain ⟨hp1, hp2⟩ := hop t rfl
          clear hop
          have HRD := Lib.hid (fun W (h : Below wr.heap.size wr W) => (HO.out.keep Flat.keeps h).toRd (bytes := 32) (S' := Plus Nowhere w.heap.size W.heap.size) Flat.keeps (by simp only [List.length_append, List.length_singleton]; omega) (Sub.nowhere _) (fun b h1 h2 => .inr ⟨h1, h2⟩))
          obtain ⟨g, cap, rfl, hgb, hgl, hfz, hok, e0, e1, e2⟩ := toks_own HO.out
          have HNUM := Lib.hid (fun W (hW : Nums W) => jnumber_any t (by omega) W hW)
          have HX0 := Lib.hid (show R = if jnumT t then (out ++ [t], 0, 0) else ([], t.pos, 1) by rw [HR.out, jG_nil_some])
          generalize jnumT t = bj at HNUM HX0
          have N1 := Lib.hid (HN.out.go hb)
          go_wp2_with (go_at_call 49; refine (HNUM.out _ N1.out).mono ?_)
          rintro e w3 ⟨rfl, hb3⟩
          have B3 := hb.trans (hb3.mono hsz)
          have HRD3 := Lib.hid (HRD.out _ hb3)
          replace e1 := (hb3.cell (p := ⟨g, out.length * 3 + 1, none⟩) hgl).trans e1
          clear hb3 HO HRD
          cases bj with
          | true =>
            go_wp2_with fail
            go_ret3
            exact ⟨_, by rw [HX0.out]; rfl, by rw [HX0.out]; exact HRD3.out, B3⟩
          | false =>
            go_wp2_with fail
            go_quiet (fail)
            go_wp2_with fail
            go_ret3
            exact ⟨_, by rw [HX0.out]; rfl, by rw [HX0.out]; exact RdL.nil (by unfold maxLen; omega), B3.trans ⟨rfl, rfl, rfl, Nat.le_refl _, fun _ _ => rfl⟩⟩
theorem jtokens_lex (s : ByteArray) (hs : s.size ≤ 4398046511103) (w : World) (hN0 : Nums w) :
    Calls Tryd.prog 26 #[.string s] w (TokOut (lexR s.data.toList) w) := by
  rw [← jG_eq]; exact jtokens_any s hs w hN0
end Go.Proofs.YtijahadmaggncaaDoor
