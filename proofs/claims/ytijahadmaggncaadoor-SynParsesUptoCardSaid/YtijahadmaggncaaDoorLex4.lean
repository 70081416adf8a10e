/- Walks of syn.Kept, KKept, jclass, KName, syn.Name, and of forkwrightlaw.SynWords. -/
import Derived.Test.YtijahadmaggncaaDoorLex3
namespace Go.Proofs.YtijahadmaggncaaDoor
open Go.RowKit
set_option linter.unusedVariables false
/-- the language's own words -/
theorem kept_eq (s : ByteArray) : keptB s = ((s.toList == [108, 101, 116]) || (s.toList == [108, 111, 97, 100]) || (s.toList == [115, 116, 111, 114, 101]) || (s.toList == [97, 115, 121, 110, 99]) || (s.toList == [102, 105, 110, 105, 115, 104]) || (s.toList == [105, 102]) || (s.toList == [101, 108, 115, 101]) || (s.toList == [102, 111, 114]) || (s.toList == [116, 111])) := by
  simp [keptB, wordsL, Bool.or_assoc]
set_option maxHeartbeats 1000000 in
theorem kept_any (s : ByteArray) (w : World) : Calls Tryd.prog 113 #[.string s] w fun e w' => e = .returned (.bool (keptB s)) ∧ w = w' := by
  have HK := Lib.hid (kept_eq s)
  cases h0 : (s.toList == [108, 101, 116])
  · skip
    cases h1 : (s.toList == [108, 111, 97, 100])
    · skip
      cases h2 : (s.toList == [115, 116, 111, 114, 101])
      · skip
        cases h3 : (s.toList == [97, 115, 121, 110, 99])
        · skip
          cases h4 : (s.toList == [102, 105, 110, 105, 115, 104])
          · skip
            cases h5 : (s.toList == [105, 102])
            · skip
              cases h6 : (s.toList == [101, 108, 115, 101])
              · skip
                cases h7 : (s.toList == [102, 111, 114])
                · skip
                  cases h8 : (s.toList == [116, 111])
                  · have HZ := Lib.hid (show keptB s = false by rw [HK.out]; simp only [h0, h1, h2, h3, h4, h5, h6, h7, h8]; rfl)
                    go_enter Tryd.func113, Tryd.ntmps113
                    go_wp2
                    go_ret
                    exact ⟨by rw [HZ.out]; rfl, rfl⟩
                  · have HZ := Lib.hid (show keptB s = true by rw [HK.out]; simp only [h0, h1, h2, h3, h4, h5, h6, h7, h8]; simp)
                    go_enter Tryd.func113, Tryd.ntmps113
                    go_wp2
                    go_ret
                    exact ⟨by rw [HZ.out]; rfl, rfl⟩
                · have HZ := Lib.hid (show keptB s = true by rw [HK.out]; simp only [h0, h1, h2, h3, h4, h5, h6, h7]; simp)
                  go_enter Tryd.func113, Tryd.ntmps113
                  go_wp2
                  go_ret
                  exact ⟨by rw [HZ.out]; rfl, rfl⟩
              · have HZ := Lib.hid (show keptB s = true by rw [HK.out]; simp only [h0, h1, h2, h3, h4, h5, h6]; simp)
                go_enter Tryd.func113, Tryd.ntmps113
                go_wp2
                go_ret
                exact ⟨by rw [HZ.out]; rfl, rfl⟩
            · have HZ := Lib.hid (show keptB s = true by rw [HK.out]; simp only [h0, h1, h2, h3, h4, h5]; simp)
              go_enter Tryd.func113, Tryd.ntmps113
              go_wp2
              go_ret
              exact ⟨by rw [HZ.out]; rfl, rfl⟩
          · have HZ := Lib.hid (show keptB s = true by rw [HK.out]; simp only [h0, h1, h2, h3, h4]; simp)
            go_enter Tryd.func113, Tryd.ntmps113
            go_wp2
            go_ret
            exact ⟨by rw [HZ.out]; rfl, rfl⟩
        · have HZ := Lib.hid (show keptB s = true by rw [HK.out]; simp only [h0, h1, h2, h3]; simp)
          go_enter Tryd.func113, Tryd.ntmps113
          go_wp2
          go_ret
          exact ⟨by rw [HZ.out]; rfl, rfl⟩
      · have HZ := Lib.hid (show keptB s = true by rw [HK.out]; simp only [h0, h1, h2]; simp)
        go_enter Tryd.func113, Tryd.ntmps113
        go_wp2
        go_ret
        exact ⟨by rw [HZ.out]; rfl, rfl⟩
    · have HZ := Lib.hid (show keptB s = true by rw [HK.out]; simp only [h0, h1]; simp)
      go_enter Tryd.func113, Tryd.ntmps113
      go_wp2
      go_ret
      exact ⟨by rw [HZ.out]; rfl, rfl⟩
  · have HZ := Lib.hid (show keptB s = true by rw [HK.out]; simp only [h0]; simp)
    go_enter Tryd.func113, Tryd.ntmps113
    go_wp2
    go_ret
    exact ⟨by rw [HZ.out]; rfl, rfl⟩
def wordsB : List ByteArray := wordsL.map fun l => ⟨l.toArray⟩
theorem kept_take (s : ByteArray) (k : Nat) (h : k < wordsB.length) : ((wordsB.take (k + 1)).any fun x => s.toList == x.toList) = (((wordsB.take k).any fun x => s.toList == x.toList) || (s.toList == wordsB[k].toList)) := by
  rw [List.take_succ_eq_append_getElem h, List.any_append]; simp
theorem kept_all (s : ByteArray) : (wordsB.any fun x => s.toList == x.toList) = keptB s := by
  unfold keptB wordsB
  rw [List.any_map]
  congr 1
  funext l
  show (s.toList == ByteArray.toList ⟨l.toArray⟩) = _
  rw [ByteArray.toList_eq ⟨l.toArray⟩]
set_option maxHeartbeats 1000000 in
set_option maxRecDepth 100000 in
theorem kkept_any (s : ByteArray) (w : World) : Calls Tryd.prog 50 #[.string s] w fun e w' => e = .returned (.bool (keptB s)) ∧ Below w.heap.size w w' := by
  have HA := Lib.hid (kept_all s)
  go_enter Tryd.func50, Tryd.ntmps50
  go_wp2
  have B1 : Below w.heap.size w (w.alloc (.cells #[.string { data := #[108, 101, 116] }, .string { data := #[108, 111, 97, 100] }, .string { data := #[115, 116, 111, 114, 101] }, .string { data := #[97, 115, 121, 110, 99] }, .string { data := #[102, 105, 110, 105, 115, 104] }, .string { data := #[105, 102] }, .string { data := #[101, 108, 115, 101] }, .string { data := #[102, 111, 114] }, .string { data := #[116, 111] }] 9)) := (Below.refl _ _).alloc (Nat.le_refl _) _
  have K1 := Lib.hid (show Blk 0 (w.alloc (.cells #[.string { data := #[108, 101, 116] }, .string { data := #[108, 111, 97, 100] }, .string { data := #[115, 116, 111, 114, 101] }, .string { data := #[97, 115, 121, 110, 99] }, .string { data := #[102, 105, 110, 105, 115, 104] }, .string { data := #[105, 102] }, .string { data := #[101, 108, 115, 101] }, .string { data := #[102, 111, 114] }, .string { data := #[116, 111] }] 9)) w.heap.size (wordsB.map Value.string) from Blk.made w [.string { data := #[108, 101, 116] }, .string { data := #[108, 111, 97, 100] }, .string { data := #[115, 116, 111, 114, 101] }, .string { data := #[97, 115, 121, 110, 99] }, .string { data := #[102, 105, 110, 105, 115, 104] }, .string { data := #[105, 102] }, .string { data := #[101, 108, 115, 101] }, .string { data := #[102, 111, 114] }, .string { data := #[116, 111] }] 9 (Nat.zero_le _))
  obtain ⟨d, hd⟩ : ∃ d, d = w.heap.size := ⟨_, rfl⟩
  rw [← hd] at K1 ⊢
  clear hd
  generalize w.alloc (.cells #[.string { data := #[108, 101, 116] }, .string { data := #[108, 111, 97, 100] }, .string { data := #[115, 116, 111, 114, 101] }, .string { data := #[97, 115, 121, 110, 99] }, .string { data := #[102, 105, 110, 105, 115, 104] }, .string { data := #[105, 102] }, .string { data := #[101, 108, 115, 101] }, .string { data := #[102, 111, 114] }, .string { data := #[116, 111] }] 9) = W1 at *
  go_loop [7] (fun t => ∃ k : Nat, k ≤ 9 ∧ t = .int .i64 (k : Int) ∧ Hid (((wordsB.take k).any fun x => s.toList == x.toList) = false)) (fun t => 9 - (intOf t).toNat)
  case atStart => exact ⟨0, by omega, rfl, Lib.hid rfl⟩
  case round =>
    obtain ⟨k, hk, rfl, HK⟩ := hrel
    by_cases hlt : k < 9
    · have hkl : k < wordsB.length := hlt
      have HT := Lib.hid (kept_take s k hkl)
      have hc := K1.out.mapAt (List.getElem?_eq_getElem hkl)
      generalize wordsB[k] = x at hc HT
      cases hx : (s.toList == x.toList)
      · have HK2 := Lib.hid (show ((wordsB.take (k + 1)).any fun x => s.toList == x.toList) = false by rw [HT.out, HK.out, hx]; rfl)
        clear HT
        go_wp2
        go_round
        case rel => exact ⟨k + 1, by omega, by go_num, HK2⟩
        case measure => simp [intOf]; omega
      · have HZ := Lib.hid (show keptB s = true by
          have h1 : ((wordsB.take (k + 1)).any fun x => s.toList == x.toList) = true := by rw [HT.out, hx]; simp
          rw [← HA.out, List.any_eq_true]
          obtain ⟨y, hy, h2⟩ := List.any_eq_true.1 h1
          exact ⟨y, List.mem_of_mem_take hy, h2⟩)
        clear HT
        go_wp2
        go_ret
        exact ⟨by rw [HZ.out]; rfl, B1⟩
    · have hk9 : k = 9 := by omega
      subst hk9
      have HZ := Lib.hid (show keptB s = false by rw [← HA.out]; have h := HK.out; rwa [List.take_of_length_le (show wordsB.length ≤ 9 from Nat.le_refl _)] at h)
      go_wp2
      go_ret
      exact ⟨by rw [HZ.out]; rfl, B1⟩
def classesL : List (List UInt8) := [[32, 10, 9], [48, 49, 50, 51, 52, 53, 54, 55, 56, 57], [97, 98, 99, 100, 101, 102, 103, 104, 105, 106, 107, 108, 109, 110, 111, 112, 113, 114, 115, 116, 117, 118, 119, 120, 121, 122], [123, 125, 91, 93, 40, 41, 59, 61, 60, 43, 45, 42, 47, 37]]
def classesB : List ByteArray := classesL.map fun l => ⟨l.toArray⟩
/-- the class of a byte -/
def jclN (c : UInt8) : Nat := classesL.findIdx fun l => l.contains c
theorem jcl_let (c : UInt8) : decide (jclN c = 2) = letB c := by
  have key : ∀ n : Fin 256, decide (jclN (UInt8.ofNat n.val) = 2) = letB (UInt8.ofNat n.val) := by decide +kernel
  have h := key ⟨c.toNat, c.toNat_lt⟩
  simpa using h
theorem jcl_dig (c : UInt8) : decide (jclN c = 1) = digB c := by
  have key : ∀ n : Fin 256, decide (jclN (UInt8.ofNat n.val) = 1) = digB (UInt8.ofNat n.val) := by decide +kernel
  have h := key ⟨c.toNat, c.toNat_lt⟩
  simpa using h
theorem jcl_le (c : UInt8) : jclN c ≤ 4 := List.findIdx_le_length
theorem classB_get (k : Nat) (h : k < 4) : classesB[k]? = some ⟨((classesL[k]?).getD []).toArray⟩ := by
  unfold classesB
  rw [List.getElem?_map, List.getElem?_eq_getElem (show k < classesL.length from h)]; rfl
set_option maxHeartbeats 1000000 in
set_option maxRecDepth 100000 in
theorem jclass_any (c : UInt8) (w : World) : Calls Tryd.prog 48 #[.int .u8 (c.toNat : Int)] w fun e w' => e = .returned (.int .i64 (jclN c : Nat)) ∧ Below w.heap.size w w' := by
  go_enter Tryd.func48, Tryd.ntmps48
  go_wp2
  have B1 : Below w.heap.size w (w.alloc (.cells #[.string { data := #[32, 10, 9] }, .string { data := #[48, 49, 50, 51, 52, 53, 54, 55, 56, 57] }, .string { data := #[97, 98, 99, 100, 101, 102, 103, 104, 105, 106, 107, 108, 109, 110, 111, 112, 113, 114, 115, 116, 117, 118, 119, 120, 121, 122] }, .string { data := #[123, 125, 91, 93, 40, 41, 59, 61, 60, 43, 45, 42, 47, 37] }] 9)) := (Below.refl _ _).alloc (Nat.le_refl _) _
  have K1 := Lib.hid (show Blk 0 (w.alloc (.cells #[.string { data := #[32, 10, 9] }, .string { data := #[48, 49, 50, 51, 52, 53, 54, 55, 56, 57] }, .string { data := #[97, 98, 99, 100, 101, 102, 103, 104, 105, 106, 107, 108, 109, 110, 111, 112, 113, 114, 115, 116, 117, 118, 119, 120, 121, 122] }, .string { data := #[123, 125, 91, 93, 40, 41, 59, 61, 60, 43, 45, 42, 47, 37] }] 9)) w.heap.size (classesB.map Value.string) from Blk.made w [.string { data := #[32, 10, 9] }, .string { data := #[48, 49, 50, 51, 52, 53, 54, 55, 56, 57] }, .string { data := #[97, 98, 99, 100, 101, 102, 103, 104, 105, 106, 107, 108, 109, 110, 111, 112, 113, 114, 115, 116, 117, 118, 119, 120, 121, 122] }, .string { data := #[123, 125, 91, 93, 40, 41, 59, 61, 60, 43, 45, 42, 47, 37] }] 9 (Nat.zero_le _))
  obtain ⟨d, hd⟩ : ∃ d, d = w.heap.size := ⟨_, rfl⟩
  rw [← hd] at K1 ⊢
  clear hd
  generalize w.alloc (.cells #[.string { data := #[32, 10, 9] }, .string { data := #[48, 49, 50, 51, 52, 53, 54, 55, 56, 57] }, .string { data := #[97, 98, 99, 100, 101, 102, 103, 104, 105, 106, 107, 108, 109, 110, 111, 112, 113, 114, 115, 116, 117, 118, 119, 120, 121, 122] }, .string { data := #[123, 125, 91, 93, 40, 41, 59, 61, 60, 43, 45, 42, 47, 37] }] 9) = W1 at *
  go_loop [8] (fun t => ∃ k : Nat, k ≤ 4 ∧ t = .int .i64 (k : Int) ∧ Hid (∀ i, i < k → ((classesL[i]?).getD []).contains c = false)) (fun t => 4 - (intOf t).toNat)
  case atStart => exact ⟨0, by omega, rfl, Lib.hid (fun i h => by omega)⟩
  case round =>
    obtain ⟨k, hk, rfl, HK⟩ := hrel
    by_cases hlt : k < 4
    · have hc := K1.out.mapAt (classB_get k hlt)
      obtain ⟨l, hl⟩ : ∃ l, l = (classesL[k]?).getD [] := ⟨_, rfl⟩
      rw [← hl] at hc
      have HLK := Lib.hid hl
      have hll : l.length ≤ 26 := by
        rw [hl]
        have key : ∀ k : Fin 4, ((classesL[k.val]?).getD []).length ≤ 26 := by decide
        exact key ⟨k, hlt⟩
      clear hl
      obtain ⟨x, hx⟩ : ∃ x : ByteArray, x = ⟨l.toArray⟩ := ⟨_, rfl⟩
      have HXL := Lib.hid (show x.data.toList = l by rw [hx])
      have hxs : x.size ≤ 26 := by rw [hx]; exact hll
      have HXS := Lib.hid (show x.size = l.length by rw [hx]; rfl)
      rw [← hx] at hc
      clear hx hll
      go_wp2
      go_loop [15] (fun t => ∃ i : Nat, i ≤ x.size ∧ t = .int .i64 (i : Int) ∧ Hid ((l.take i).contains c = false)) (fun t => x.size - (intOf t).toNat)
      case atStart => exact ⟨0, by omega, rfl, Lib.hid rfl⟩
      case round =>
        obtain ⟨i, hi, rfl, HI⟩ := hrel
        by_cases hlt2 : i < x.size
        · have hil : i < l.length := by rw [← HXS.out]; exact hlt2
          have hg : x[i]'hlt2 = l[i] := by
            have e : x.data.toList[i]'(by rw [HXL.out]; exact hil) = l[i] := by simp only [HXL.out]
            rw [← e, Array.getElem_toList]; rfl
          have HT := Lib.hid (show (l.take (i + 1)).contains c = ((l.take i).contains c || (c == x[i]'hlt2)) by
            rw [List.take_succ_eq_append_getElem hil, List.contains_append, hg]
            congr 1
            rw [List.contains_cons, List.contains_nil, Bool.or_false])
          by_cases he : x[i]'hlt2 = c
          · have he' : (((x[i]'hlt2).toNat : Int) == (c.toNat : Int)) = true := by rw [he]; simp
            have HZ := Lib.hid (show jclN c = k by
              have hkl : k < classesL.length := hlt
              have h1 : (l.take (i + 1)).contains c = true := by rw [HT.out, he]; simp
              have h2 : l.contains c = true := by
                rw [List.contains_iff_mem] at h1 ⊢
                exact List.mem_of_mem_take h1
              unfold jclN
              rw [List.findIdx_eq hkl]
              refine ⟨?_, fun j hj => ?_⟩
              · have := HLK.out
                rw [List.getElem?_eq_getElem hkl, Option.getD_some] at this
                rw [← this]; exact h2
              · have := HK.out j hj
                rw [List.getElem?_eq_getElem (show j < classesL.length by omega), Option.getD_some] at this
                exact this)
            clear he HT hg hil
            go_wp2
            go_ret
            exact ⟨by rw [HZ.out]; rfl, B1⟩
          · have hne : (x[i]'hlt2).toNat ≠ c.toNat := fun h => he (UInt8.toNat_inj.1 h)
            have he' : (((x[i]'hlt2).toNat : Int) == (c.toNat : Int)) = false := by simpa using (fun h => hne (by omega))
            have HI2 := Lib.hid (show (l.take (i + 1)).contains c = false by
              rw [HT.out, HI.out, Bool.false_or]
              simpa using fun h => he h.symm)
            clear he hne HT hg hil
            go_wp2
            go_round
            case rel => exact ⟨i + 1, by omega, by go_num, HI2⟩
            case measure => simp [intOf]; omega
        · have hie : i = x.size := by omega
          subst hie
          have HK2 := Lib.hid (show ∀ j, j < k + 1 → ((classesL[j]?).getD []).contains c = false by
            intro j hj
            rcases Nat.lt_or_ge j k with h | h
            · exact HK.out j h
            · have : j = k := by omega
              subst this
              rw [← HLK.out]
              have h := HI.out
              rwa [HXS.out, List.take_length] at h)
          clear HI
          go_wp2
          go_round
          case rel => exact ⟨k + 1, by omega, by go_num, HK2⟩
          case measure => simp [intOf]; omega
    · have hk4 : k = 4 := by omega
      subst hk4
      have HZ := Lib.hid (show jclN c = 4 by
        unfold jclN
        refine List.findIdx_eq_length.2 ?_
        intro y hy
        obtain ⟨j, hj, e⟩ := List.getElem_of_mem hy
        have := HK.out j hj
        rw [List.getElem?_eq_getElem hj, Option.getD_some, e] at this
        exact this)
      go_wp2
      go_ret
      exact ⟨by rw [HZ.out]; rfl, B1⟩
/-- is place i of a name as it must be? -/
def okAt (l : List UInt8) (i : Nat) : Bool := letB ((l[i]?).getD 0) || (digB ((l[i]?).getD 0) && !decide (i = 0))
theorem name_at (l : List UInt8) : nameL l = (!l.isEmpty && (List.range l.length).all (okAt l)) := by
  cases l with
  | nil => rfl
  | cons c r =>
    rw [Bool.eq_iff_iff]
    unfold nameL
    simp only [List.isEmpty_cons, Bool.not_false, Bool.true_and, Bool.and_eq_true, List.all_eq_true, List.mem_range]
    constructor
    · rintro ⟨h1, h2⟩ i hi
      unfold okAt
      cases i with
      | zero => simp [h1]
      | succ i =>
        have hi' : i < r.length := by simpa using hi
        have := h2 r[i] (List.getElem_mem hi')
        unfold nameB at this
        simpa [List.getElem?_eq_getElem hi'] using this
    · intro h
      refine ⟨?_, fun x hx => ?_⟩
      · have := h 0 (by simp)
        unfold okAt at this
        simpa using this
      · obtain ⟨i, hi, rfl⟩ := List.getElem_of_mem hx
        have := h (i + 1) (by simpa using hi)
        unfold okAt at this
        unfold nameB
        simpa [List.getElem?_eq_getElem hi] using this
set_option maxHeartbeats 1000000 in
set_option maxRecDepth 100000 in
theorem kname_any (s : ByteArray) (hs : s.size ≤ 9223372036854775807) (w : World) : Calls Tryd.prog 68 #[.string s] w fun e w' => e = .returned (.bool (knameB s)) ∧ Below w.heap.size w w' := by
  have HN := Lib.hid (name_at s.data.toList)
  have HLN := Lib.hid (data_len s)
  go_enter Tryd.func68, Tryd.ntmps68
  go_wp2
  go_loopw [7] (fun t wr => ∃ i : Nat, i ≤ s.size ∧ t = .int .i64 (i : Int) ∧ Hid (∀ j, j < i → okAt s.data.toList j = true) ∧ Below w.heap.size w wr) (fun t _ => s.size - (intOf t).toNat)
  case atStart => exact ⟨0, by omega, rfl, Lib.hid (fun j h => by omega), Below.refl _ _⟩
  case round =>
    obtain ⟨i, hi, rfl, HI, hb⟩ := hrel
    by_cases hlt : i < s.size
    · have hg : (s.data.toList[i]?).getD 0 = s[i]'hlt := by
        rw [List.getElem?_eq_getElem (by rw [HLN.out]; exact hlt), Option.getD_some, Array.getElem_toList]; rfl
      obtain ⟨n, hn⟩ : ∃ n, n = jclN (s[i]'hlt) := ⟨_, rfl⟩
      have HO := Lib.hid (show okAt s.data.toList i = (decide (n = 2) || (decide (n = 1) && !decide (i = 0))) by
        unfold okAt; rw [hg, hn, jcl_let, jcl_dig])
      have HNN := Lib.hid hn
      clear hg hn
      have bad : okAt s.data.toList i = false → knameB s = false := by
        intro h
        unfold knameB
        rw [HN.out]
        have : (List.range s.data.toList.length).all (okAt s.data.toList) = false := by
          cases e : (List.range s.data.toList.length).all (okAt s.data.toList)
          · rfl
          · have := List.all_eq_true.1 e i (List.mem_range.2 (by rw [HLN.out]; exact hlt))
            rw [h] at this; cases this
        rw [this]; simp
      have good : okAt s.data.toList i = true → ∀ j, j < i + 1 → okAt s.data.toList j = true := by
        intro h j hj
        rcases Nat.lt_or_ge j i with h2 | h2
        · exact HI.out j h2
        · have : j = i := by omega
          subst this; exact h
      have BAD := Lib.hid bad
      have GOOD := Lib.hid good
      clear bad good
      by_cases h2 : n = 2
      · have HG := Lib.hid (GOOD.out (by rw [HO.out, decide_eq_true h2]; rfl))
        have t1 : ((n : Int) == 2) = true := by simp; omega
        have t2 : ((n : Int) != 2) = false := by simp; omega
        clear h2
        go_wp2_with fail
        refine (jclass_any (s[i]'hlt) _).mono ?_
        rintro e w1 ⟨rfl, hb1⟩
        rw [← HNN.out]
        have hb2 := hb.trans (hb1.mono hb.size)
        go_wp2_with fail
        go_roundw
        case rel => exact ⟨i + 1, by omega, by go_num, HG, hb2⟩
        case measure => simp [intOf]; omega
      · have t1 : ((n : Int) == 2) = false := by simp; omega
        have t2 : ((n : Int) != 2) = true := by simp; omega
        by_cases h1 : n = 1
        · have t3 : ((n : Int) == 1) = true := by simp; omega
          have t4 : ((n : Int) != 1) = false := by simp; omega
          by_cases h0 : i = 0
          · have HZ := Lib.hid (BAD.out (by rw [HO.out, decide_eq_false h2, decide_eq_true h0]; simp))
            have t5 : ((i : Int) == 0) = true := by simp; omega
            clear h0 h1 h2
            go_wp2_with fail
            refine (jclass_any (s[i]'hlt) _).mono ?_
            rintro e w1 ⟨rfl, hb1⟩
            rw [← HNN.out]
            have hb2 := hb.trans (hb1.mono hb.size)
            go_wp2_with fail
            go_ret
            exact ⟨by rw [HZ.out]; rfl, hb2⟩
          · have HG := Lib.hid (GOOD.out (by rw [HO.out, decide_eq_true h1, decide_eq_false h0]; simp))
            have t5 : ((i : Int) == 0) = false := by simp; omega
            clear h0 h1 h2
            go_wp2_with fail
            refine (jclass_any (s[i]'hlt) _).mono ?_
            rintro e w1 ⟨rfl, hb1⟩
            rw [← HNN.out]
            have hb2 := hb.trans (hb1.mono hb.size)
            go_wp2_with fail
            go_roundw
            case rel => exact ⟨i + 1, by omega, by go_num, HG, hb2⟩
            case measure => simp [intOf]; omega
        · have HZ := Lib.hid (BAD.out (by rw [HO.out, decide_eq_false h2, decide_eq_false h1]; simp))
          have t3 : ((n : Int) == 1) = false := by simp; omega
          have t4 : ((n : Int) != 1) = true := by simp; omega
          clear h1 h2
          go_wp2_with fail
          refine (jclass_any (s[i]'hlt) _).mono ?_
          rintro e w1 ⟨rfl, hb1⟩
          rw [← HNN.out]
          have hb2 := hb.trans (hb1.mono hb.size)
          go_wp2_with fail
          go_ret
          exact ⟨by rw [HZ.out]; rfl, hb2⟩
    · have hie : i = s.size := by omega
      subst hie
      have hall : (List.range s.data.toList.length).all (okAt s.data.toList) = true := by
        rw [List.all_eq_true]
        intro j hj
        exact HI.out j (by have := List.mem_range.1 hj; rw [HLN.out] at this; exact this)
      have HK := Lib.hid (show knameB s = (!s.toList.isEmpty && !keptB s) by
        unfold knameB; rw [HN.out, hall, Bool.and_true, ByteArray.toList_eq])
      clear hall HI
      cases he : s.toList.isEmpty
      · have he2 : (!s.toList.isEmpty) = true := by rw [he]; rfl
        have HZ := Lib.hid (show knameB s = !keptB s by rw [HK.out, he]; rfl)
        go_wp2_with fail
        refine (kkept_any s _).mono ?_
        rintro e w1 ⟨rfl, hb1⟩
        have hb2 := hb.trans (hb1.mono hb.size)
        go_wp2_with fail
        go_ret
        exact ⟨by rw [HZ.out]; rfl, hb2⟩
      · have he2 : (!s.toList.isEmpty) = false := by rw [he]; rfl
        have HZ := Lib.hid (show knameB s = false by rw [HK.out, he]; rfl)
        go_wp2_with fail
        go_ret
        exact ⟨by rw [HZ.out]; rfl, hb⟩
end Go.Proofs.YtijahadmaggncaaDoor
