/- The parser of syn.Parse: want, name, sign, two. -/
import Derived.Test.YtijahadmaggncaaDoorPq1
namespace Go.Proofs.YtijahadmaggncaaDoor
open Go.RowKit
set_option linter.unusedVariables false
/-- a row of words in blocks that are not the parser's -/
def WordsAt (p : Nat) (w : World) (l : List Str) (v : Value) : Prop := ∃ S, (∀ k, S k → k ≠ p ∧ k < w.heap.size) ∧ RdSs w S l v
theorem WordsAt.go {p : Nat} {w w' : World} {l : List Str} {v : Value} (h : WordsAt p w l v) (hb : But (Is p) w w') : WordsAt p w' l v := by
  obtain ⟨S, hS, r⟩ := h
  exact ⟨S, fun k hk => ⟨(hS k hk).1, Nat.lt_of_lt_of_le (hS k hk).2 hb.size⟩, r.keep Flat.keeps (Sub.refl _) (hb.same (fun k hk => (hS k hk).2) (fun k hk e => (hS k hk).1 e))⟩
def anyV (_ : World) (_ : Unit) (_ : Value) : Prop := True
def strV (_ : World) (s : Str) (x : Value) : Prop := x = .string s
set_option maxHeartbeats 1000000 in
set_option maxRecDepth 100000 in
theorem pwant_any {p : Nat} {en : En} {ts : List LTok} {w : World} {l : List Str} {v : Value} (h : PsAt p en w ts) (r : WordsAt p w l v) :
    Calls Tryd.prog 45 #[.pointer (some ⟨p, 0, none⟩), v] w (POut p en w anyV (wantG l ts)) := by
  have hf : ∃ A cap, v = .slice A l.length cap ∧ l.length ≤ 9223372036854775807 := by
    obtain ⟨S, hS, r⟩ := r
    obtain ⟨A, cap, rfl, h1, h2, _⟩ := r.form
    unfold maxLen at h2
    exact ⟨A, cap, rfl, by omega⟩
  obtain ⟨A, cap, rfl, hl⟩ := hf
  have R := Lib.hid r
  have H := Lib.hid h
  obtain ⟨Z, hZ⟩ : ∃ Z, Z = wantG l ts := ⟨_, rfl⟩
  rw [← hZ]
  have HZ := Lib.hid hZ
  clear r h hZ
  go_enter Tryd.func45, Tryd.ntmps45
  go_wp2
  go_loopw [8] (fun t wr => ∃ (k : Nat) (q : List LTok), k ≤ l.length ∧ t = .int .i64 (k : Int) ∧ Hid (Z = wantG (l.drop k) q) ∧ Hid (PsAt p en wr q) ∧ Hid (But (Is p) w wr)) (fun t _ => l.length - (intOf t).toNat)
  case atStart => exact ⟨0, ts, by omega, rfl, HZ, H, Lib.hid (But.refl _ _)⟩
  case round =>
    obtain ⟨k, q, hk, rfl, HK, HP, HB⟩ := hrel
    clear H
    by_cases hlt : k < l.length
    · obtain ⟨S, hS, r⟩ := R.out.go HB.out
      obtain ⟨b0, off, rfl, hb0, hok, hc⟩ := r.at1 hlt
      have HD := Lib.hid (show l.drop k = l[k] :: l.drop (k + 1) from List.drop_eq_getElem_cons hlt)
      generalize l[k] = x at hc hok HD
      have HI := Lib.hid (pis_any x HP.out)
      clear r hS hb0
      cases hx : isT x q
      · have HK2 := Lib.hid (show Z = .no q by rw [HK.out, HD.out, wantG, if_neg (by rw [hx]; simp)])
        rw [hx] at HI
        clear HK HD hx
        go_wp2_with (first | (go_at_call 77; refine HI.out.mono ?_; rintro e wa ⟨rfl, rfl⟩) | (go_at_call 25; refine (pfail_any HP.out).mono ?_; rintro e wa ⟨rfl, rfl⟩))
        rw [HK2.out]
        exact ⟨rfl, rfl, HB.out⟩
      · obtain ⟨t, q2, rfl, _⟩ := isT_true hx
        have HK2 := Lib.hid (show Z = wantG (l.drop (k + 1)) q2 by rw [HK.out, HD.out, wantG, if_pos hx]; rfl)
        rw [hx] at HI
        clear HK HD hx
        go_wp2_with (first | (go_at_call 77; refine HI.out.mono ?_; rintro e wa ⟨rfl, rfl⟩) | (go_at_call 78; refine (ptake_any HP.out).mono ?_; rintro e w1 ⟨rfl, h1, hb1⟩))
        have H1 := Lib.hid h1
        have B1 := Lib.hid (HB.out.trans hb1)
        clear h1 hb1
        go_roundw
        case rel => exact ⟨k + 1, q2, by omega, by go_num, HK2, H1, B1⟩
        case measure => simp [intOf]; omega
    · have hkl : k = l.length := by omega
      subst hkl
      have HK2 := Lib.hid (show Z = .ok () q by rw [HK.out, List.drop_length]; rfl)
      go_wp2_with fail
      rw [HK2.out]
      go_end0
      exact ⟨_, rfl, trivial, HP.out, HB.out⟩
set_option maxHeartbeats 1000000 in
set_option maxRecDepth 100000 in
theorem pname_r {p : Nat} {en : En} {ts : List LTok} {w : World} (h : PsAt p en w ts) :
    Calls Tryd.prog 79 #[.pointer (some ⟨p, 0, none⟩)] w (POut p en w strV (nameG ts)) := by
  cases ts with
  | nil =>
    have H := Lib.hid h
    obtain ⟨A, cap, c0, c1, f0, hl, hm⟩ := h.open_
    clear h
    go_enter Tryd.func79, Tryd.ntmps79
    go_wp2_with (go_at_call 25; refine (pfail_any H.out).mono ?_; rintro e wa ⟨rfl, rfl⟩)
    exact ⟨rfl, rfl, But.refl _ _⟩
  | cons t r =>
    have H := Lib.hid h
    obtain ⟨b, off, cap, c0, c1, f0, hl, hm, k0, k1, k2, hok, _⟩ := h.head
    have hr0 : ¬ (r.length + 1 = 0) := by omega
    have hr1 : (((r.length : Int) + 1) == 0) = false := by simp; omega
    obtain ⟨Z, hZ⟩ : ∃ Z, Z = nameG (t :: r) := ⟨_, rfl⟩
    rw [← hZ]
    have HKE := Lib.hid (kept_any t.str)
    have HT := Lib.hid (ptake_any h)
    clear h
    by_cases hk : t.kind = 2
    · have hk2 : (t.kind != 2) = false := by simpa using hk
      cases hx : keptB t.str
      · have HZ := Lib.hid (show Z = .ok t.str r by rw [hZ, nameG, if_pos ⟨hk, hx⟩])
        have HP := Lib.hid (fun W => by have := HKE.out W; rw [hx] at this; exact this)
        clear hZ hx HKE hk
        generalize t.str = y at *
        go_enter Tryd.func79, Tryd.ntmps79
        go_wp2_with (first | (go_at_call 113; refine (HP.out _).mono ?_; rintro e wa ⟨rfl, rfl⟩) | (go_at_call 78; refine HT.out.mono ?_; rintro e w1 ⟨rfl, h1, hb1⟩))
        have H1 := Lib.hid h1
        have B1 := Lib.hid hb1
        clear h1 hb1
        go_wp2_with fail
        go_ret
        rw [HZ.out]
        exact ⟨_, rfl, rfl, H1.out, B1.out⟩
      · have HZ := Lib.hid (show Z = .no (t :: r) by rw [hZ, nameG, if_neg (by rw [hx]; simp)])
        have HP := Lib.hid (fun W => by have := HKE.out W; rw [hx] at this; exact this)
        have HF := Lib.hid (pfail_any H.out)
        clear hZ hx HKE hk
        generalize t.str = y at *
        go_enter Tryd.func79, Tryd.ntmps79
        go_wp2_with (first | (go_at_call 113; refine (HP.out _).mono ?_; rintro e wa ⟨rfl, rfl⟩) | (go_at_call 25; refine HF.out.mono ?_; rintro e wa ⟨rfl, rfl⟩))
        rw [HZ.out]
        exact ⟨rfl, rfl, But.refl _ _⟩
    · have hk2 : (t.kind != 2) = true := by simpa using hk
      have HZ := Lib.hid (show Z = .no (t :: r) by rw [hZ, nameG, if_neg (by intro h; exact hk h.1)])
      have HF := Lib.hid (pfail_any H.out)
      clear hZ HKE hk
      go_enter Tryd.func79, Tryd.ntmps79
      go_wp2_with (go_at_call 25; refine HF.out.mono ?_; rintro e wa ⟨rfl, rfl⟩)
      rw [HZ.out]
      exact ⟨rfl, rfl, But.refl _ _⟩
set_option maxHeartbeats 1000000 in
theorem psign_any (s : Str) (w : World) : Calls Tryd.prog 116 #[.string s] w fun e w' => e = .returned (.int .i64 (signK s)) ∧ w = w' := by
  have HK := Lib.hid (show signK s = _ from rfl)
  unfold signK at HK ⊢
  obtain ⟨x, hx⟩ : ∃ x, x = signK s := ⟨_, rfl⟩
  clear HK
  rw [show (if s.toList == [43] then (3 : Int) else if s.toList == [45] then 4 else if s.toList == [42] then 5 else if s.toList == [47] then 6 else if s.toList == [37] then 7 else if s.toList == [60] then 8 else 9) = x from hx.symm]
  have HX := Lib.hid hx
  clear hx
  unfold signK at HX
  go_enter Tryd.func116, Tryd.ntmps116
  go_wp2
  all_goals
    go_ret
    refine ⟨?_, rfl⟩
    rw [HX.out]
    simp_all
end Go.Proofs.YtijahadmaggncaaDoor
