/- The walks of syn.Name and of forkwrightlaw.SynWords. -/
import Derived.Test.YtijahadmaggncaaDoorLex4
namespace Go.Proofs.YtijahadmaggncaaDoor
open Go.RowKit
set_option linter.unusedVariables false
theorem nameOf_one (l : List UInt8) (t : LTok) (p : Nat) (e : Int) : nameOf l ([t], p, e) = (decide (e = 0) && decide (t.kind = 2) && (t.text == l)) := rfl
theorem kname_of (s : ByteArray) : knameB s = (nameOf s.data.toList (lexR s.data.toList) && !keptB s) := by unfold knameB; rw [name_eq]
set_option maxHeartbeats 1000000 in
set_option maxRecDepth 100000 in
theorem name_any (s : ByteArray) (hs : s.size ≤ 4398046511103) (w : World) : Calls Tryd.prog 107 #[.string s] w fun e w' => e = .returned (.bool (knameB s)) ∧ Below w.heap.size w w' := by
  have HK := Lib.hid (kname_of s)
  obtain ⟨R, hR⟩ : ∃ R, R = lexR s.data.toList := ⟨_, rfl⟩
  rw [← hR] at HK
  have HT := Lib.hid (fun w => tokens_any s hs w)
  rw [← hR] at HT
  clear hR
  obtain ⟨L, p, er⟩ := R
  by_cases her : er = 0
  · subst her
    by_cases hl : L.length = 1
    · obtain ⟨t, rfl⟩ : ∃ t, L = [t] := List.length_eq_one_iff.1 hl
      clear hl
      by_cases hk : t.kind = 2
      · cases hx : (t.text == s.data.toList)
        · have HZ := Lib.hid (show knameB s = false by rw [HK.out, nameOf_one, hx]; simp)
          have HX := Lib.hid hx
          have HKD := Lib.hid hk
          clear hx hk
          go_enter Tryd.func107, Tryd.ntmps107
          go_wp2_with fail
          refine (HT.out _).mono ?_
          rintro e w1 ⟨v, rfl, hr, hb⟩
          obtain ⟨A, cap, rfl, hcap, _⟩ := hr.form
          obtain ⟨b, off, rfl, hbS, hok, hc⟩ := RdL.flat hr (q := 0) (by simp)
          have c0 : w1.cell? ⟨b, off, none⟩ = some (.int .i64 2) := by have := hc 0 _ rfl; simpa [HKD.out] using this
          have c2 : w1.cell? ⟨b, off + 2, none⟩ = some (.string ⟨t.text.toArray⟩) := by have := hc 2 _ rfl; simpa using this
          have hcmp : (t.text == s.toList) = false := by rw [ByteArray.toList_eq]; exact HX.out
          clear hc hr hok
          go_wp2_with fail
          go_ret
          exact ⟨by rw [HZ.out]; rfl, hb⟩
        · have HZ := Lib.hid (show knameB s = !keptB s by rw [HK.out, nameOf_one, hx]; simp [hk])
          have HX := Lib.hid hx
          have HKD := Lib.hid hk
          clear hx hk
          go_enter Tryd.func107, Tryd.ntmps107
          go_wp2_with fail
          refine (HT.out _).mono ?_
          rintro e w1 ⟨v, rfl, hr, hb⟩
          obtain ⟨A, cap, rfl, hcap, _⟩ := hr.form
          obtain ⟨b, off, rfl, hbS, hok, hc⟩ := RdL.flat hr (q := 0) (by simp)
          have c0 : w1.cell? ⟨b, off, none⟩ = some (.int .i64 2) := by have := hc 0 _ rfl; simpa [HKD.out] using this
          have c2 : w1.cell? ⟨b, off + 2, none⟩ = some (.string ⟨t.text.toArray⟩) := by have := hc 2 _ rfl; simpa using this
          have hcmp : (t.text == s.toList) = true := by rw [ByteArray.toList_eq]; exact HX.out
          clear hc hr hok
          go_wp2_with fail
          refine (kept_any s _).mono ?_
          rintro e w' ⟨rfl, rfl⟩
          go_wp2_with fail
          go_ret
          exact ⟨by rw [HZ.out]; rfl, hb⟩
      · have HZ := Lib.hid (show knameB s = false by rw [HK.out, nameOf_one]; simp [hk])
        have hk' : (t.kind == 2) = false := by simpa using hk
        clear hk
        go_enter Tryd.func107, Tryd.ntmps107
        go_wp2_with fail
        refine (HT.out _).mono ?_
        rintro e w1 ⟨v, rfl, hr, hb⟩
        obtain ⟨A, cap, rfl, hcap, _⟩ := hr.form
        obtain ⟨b, off, rfl, hbS, hok, hc⟩ := RdL.flat hr (q := 0) (by simp)
        have c0 : w1.cell? ⟨b, off, none⟩ = some (.int .i64 t.kind) := by have := hc 0 _ rfl; simpa using this
        clear hc hr hok
        go_wp2_with fail
        go_ret
        exact ⟨by rw [HZ.out]; rfl, hb⟩
    · have HZ := Lib.hid (show knameB s = false by
        rw [HK.out]
        unfold nameOf
        split
        · rename_i h; injection h with h1 h2; subst h1; exact absurd rfl hl
        · rfl)
      have hl' : ((L.length : Int) == 1) = false := by simp; omega
      clear hl
      go_enter Tryd.func107, Tryd.ntmps107
      go_wp2_with fail
      refine (HT.out _).mono ?_
      rintro e w1 ⟨v, rfl, hr, hb⟩
      obtain ⟨A, cap, rfl, hcap, _⟩ := hr.form
      clear hr
      go_wp2_with fail
      go_ret
      exact ⟨by rw [HZ.out]; rfl, hb⟩
  · have HZ := Lib.hid (show knameB s = false by
      rw [HK.out]
      unfold nameOf
      split
      · rename_i h; injection h with h1 h2; injection h2 with h2 h3; subst h3; simp [her]
      · rfl)
    have her' : (er == 0) = false := by simpa using her
    clear her
    go_enter Tryd.func107, Tryd.ntmps107
    go_wp2_with fail
    refine (HT.out _).mono ?_
    rintro e w1 ⟨v, rfl, hr, hb⟩
    clear hr
    go_wp2_with fail
    go_ret
    exact ⟨by rw [HZ.out]; rfl, hb⟩
end Go.Proofs.YtijahadmaggncaaDoor
