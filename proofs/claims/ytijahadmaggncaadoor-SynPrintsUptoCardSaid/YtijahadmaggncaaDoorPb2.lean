/- The walks of the printer's String and put. -/
import Derived.Test.YtijahadmaggncaaDoorPb1
import Derived.Test.YtijahadmaggncaaDoorKpSpec
namespace Go.Proofs.YtijahadmaggncaaDoor
open Go.RowKit
set_option linter.unusedVariables false
def putB (acc : List UInt8) (s : Str) : List UInt8 := (if acc.length = 0 then acc else acc ++ [32]) ++ s.data.toList
def putL (acc : List UInt8) (ls : List Str) : List UInt8 := ls.foldl putB acc
theorem putB_len (acc : List UInt8) (s : Str) : (putB acc s).length ≤ acc.length + (s.size + 1) := by
  unfold putB
  have h : s.data.toList.length = s.size := Array.length_toList
  split <;> simp only [List.length_append, h, List.length_singleton] <;> omega
theorem putL_len (ls : List Str) : ∀ acc : List UInt8, (putL acc ls).length ≤ acc.length + tsz ls := by
  induction ls with
  | nil => intro acc; simp [putL, tsz]
  | cons s r ih =>
    intro acc
    have h1 := ih (putB acc s)
    have h2 := putB_len acc s
    show (putL (putB acc s) r).length ≤ _
    have h3 : tsz (s :: r) = s.size + 1 + tsz r := by simp [tsz]
    omega
theorem putL_app (acc : List UInt8) (a b : List Str) : putL acc (a ++ b) = putL (putL acc a) b := by unfold putL; rw [List.foldl_append]
theorem tsz_take (ls : List Str) (q : Nat) : tsz (ls.take q) ≤ tsz ls := by
  conv => rhs; rw [← List.take_append_drop q ls, tsz_app]
  omega
theorem tsz_at (ls : List Str) {q : Nat} (hq : q < ls.length) : tsz (ls.take q) + (ls[q].size + 1) ≤ tsz ls := by
  have h := tsz_take ls (q + 1)
  rw [List.take_succ_eq_append_getElem hq, tsz_app, tsz_one] at h
  exact h
set_option maxHeartbeats 1000000 in
set_option maxRecDepth 100000 in
/-- tokens laid in a box of strings -/
theorem put_any {base p b : Nat} {w : World} {acc : List UInt8} {bad : Bool} (ls : List Str) (h : PrAt base p w acc bad) (hx : BoxIs w b (ls.map Value.string).toArray 9) (hbp : b ≠ p) (hb : base ≤ w.heap.size) (hl : acc.length + tsz ls ≤ 140737488355328) :
    Calls Tryd.prog 63 #[.pointer (some ⟨p, 0, none⟩), .slice (some ⟨b, 0, none⟩) ls.length ls.length] w fun e w' => (∃ x, e = .returned x) ∧ PrAt base p w' (putL acc ls) bad ∧ PrGo base p w w' := by
  have H := Lib.hid h
  have HX := Lib.hid hx
  have htl := tsz_len ls
  clear h hx
  go_enter Tryd.func63, Tryd.ntmps63
  go_wp2_with fail
  go_loopw [8] (fun t8 wr => ∃ q : Nat, q ≤ ls.length ∧ t8 = .int .i64 q ∧ Hid (PrAt base p wr (putL acc (ls.take q)) bad) ∧ Hid (PrGo base p w wr)) (fun t8 _ => ls.length - (intOf t8).toNat)
  case atStart => exact ⟨0, by omega, rfl, Lib.hid (by simpa [putL] using H.out), Lib.hid (PrGo.refl _ _ _)⟩
  case round =>
    obtain ⟨q, hq, rfl, HP, HG⟩ := hrel
    by_cases hlt : q < ls.length
    · have hbx := HX.out.go HG.out hbp (by decide)
      have e0 : wr.cell? ⟨b, q, none⟩ = some (.string ls[q]) := by rw [hbx.cell q]; simp [hlt]
      have hbl := hbx.lt
      have hpl := HP.out.lt
      have hbw : base ≤ wr.heap.size := Nat.le_trans hb HG.out.size
      have hts := tsz_at ls hlt
      have HA := Lib.hid (show putL acc (ls.take (q + 1)) = putB (putL acc (ls.take q)) ls[q] by rw [List.take_succ_eq_append_getElem hlt, putL_app]; rfl)
      have hal := putL_len (ls.take q) acc
      obtain ⟨s, hs⟩ : ∃ s, s = ls[q] := ⟨_, rfl⟩
      rw [← hs] at e0 hts HA
      obtain ⟨ac, hac⟩ : ∃ ac, ac = putL acc (ls.take q) := ⟨_, rfl⟩
      rw [← hac] at HP HA hal
      clear hbx hs hac
      go_wp2_with (go_at_call 104; refine (plen_any HP.out).mono ?_)
      rintro e w1 ⟨rfl, rfl⟩
      by_cases h0 : ac.length = 0
      · skip
        have HA2 := Lib.hid (show putL acc (ls.take (q + 1)) = ac ++ s.data.toList by rw [HA.out]; unfold putB; rw [if_pos h0])
        rw [h0]
        go_wp2_with (go_at_call 106; refine (pws_any s HP.out (by omega) hbw).mono ?_)
        rintro e w2 ⟨⟨x, rfl⟩, h2, g2⟩
        have H2 := Lib.hid h2
        have G2 := Lib.hid (HG.out.trans g2)
        clear h2 g2 e0
        go_wp2_with fail
        go_roundw
        case rel => exact ⟨q + 1, by omega, by go_num, Lib.hid (by rw [HA2.out]; exact H2.out), Lib.hid G2.out⟩
        case measure => simp [intOf]; omega
      · have e1 : (0 : Int) < (ac.length : Int) := by omega
        have e2 : 0 < ac.length := by omega
        have HA2 := Lib.hid (show putL acc (ls.take (q + 1)) = (ac ++ [32]) ++ s.data.toList by rw [HA.out]; unfold putB; rw [if_neg h0])
        go_wp2_with (go_at_call 105; refine (pwb_any 32 HP.out (by omega) hbw).mono ?_)
        rintro e w2 ⟨rfl, h2, g2⟩
        have H2 := Lib.hid h2
        have G2 := Lib.hid (HG.out.trans g2)
        have hz2 := g2.size
        clear h2 g2 e0
        go_wp2_with (go_at_call 106; refine (pws_any s H2.out (by simp; omega) (by omega)).mono ?_)
        rintro e w3 ⟨⟨x, rfl⟩, h3, g3⟩
        have H3 := Lib.hid h3
        have G3 := Lib.hid (G2.out.trans g3)
        clear h3 g3
        go_wp2_with fail
        go_roundw
        case rel => exact ⟨q + 1, by omega, by go_num, Lib.hid (by rw [HA2.out]; exact H3.out), Lib.hid G3.out⟩
        case measure => simp [intOf]; omega
    · have hql : q = ls.length := by omega
      subst hql
      rw [List.take_of_length_le (Nat.le_refl _)] at HP
      go_wp2
      go_end0
      exact ⟨⟨_, rfl⟩, HP.out, HG.out⟩
set_option maxHeartbeats 1000000 in
set_option maxRecDepth 100000 in
/-- the same, put off to the end -/
theorem put_d (u : FrameMode) {base p b : Nat} {w : World} {acc : List UInt8} {bad : Bool} (ls : List Str) (h : PrAt base p w acc bad) (hx : BoxIs w b (ls.map Value.string).toArray 9) (hbp : b ≠ p) (hb : base ≤ w.heap.size) (hl : acc.length + tsz ls ≤ 140737488355328) :
    CallsD Tryd.prog 63 #[.pointer (some ⟨p, 0, none⟩), .slice (some ⟨b, 0, none⟩) ls.length ls.length] u w fun e u' w' => u' = u ∧ ( (∃ x, e = .returned x) ∧ PrAt base p w' (putL acc ls) bad ∧ PrGo base p w w') := by
  have H := Lib.hid h
  have HX := Lib.hid hx
  have htl := tsz_len ls
  clear h hx
  go_enter_d Tryd.func63, Tryd.ntmps63
  go_wp2_with fail
  go_loopw [8] (fun t8 wr => ∃ q : Nat, q ≤ ls.length ∧ t8 = .int .i64 q ∧ Hid (PrAt base p wr (putL acc (ls.take q)) bad) ∧ Hid (PrGo base p w wr)) (fun t8 _ => ls.length - (intOf t8).toNat)
  case atStart => exact ⟨0, by omega, rfl, Lib.hid (by simpa [putL] using H.out), Lib.hid (PrGo.refl _ _ _)⟩
  case round =>
    obtain ⟨q, hq, rfl, HP, HG⟩ := hrel
    by_cases hlt : q < ls.length
    · have hbx := HX.out.go HG.out hbp (by decide)
      have e0 : wr.cell? ⟨b, q, none⟩ = some (.string ls[q]) := by rw [hbx.cell q]; simp [hlt]
      have hbl := hbx.lt
      have hpl := HP.out.lt
      have hbw : base ≤ wr.heap.size := Nat.le_trans hb HG.out.size
      have hts := tsz_at ls hlt
      have HA := Lib.hid (show putL acc (ls.take (q + 1)) = putB (putL acc (ls.take q)) ls[q] by rw [List.take_succ_eq_append_getElem hlt, putL_app]; rfl)
      have hal := putL_len (ls.take q) acc
      obtain ⟨s, hs⟩ : ∃ s, s = ls[q] := ⟨_, rfl⟩
      rw [← hs] at e0 hts HA
      obtain ⟨ac, hac⟩ : ∃ ac, ac = putL acc (ls.take q) := ⟨_, rfl⟩
      rw [← hac] at HP HA hal
      clear hbx hs hac
      go_wp2_with (go_at_call 104; refine (plen_any HP.out).mono ?_)
      rintro e w1 ⟨rfl, rfl⟩
      by_cases h0 : ac.length = 0
      · skip
        have HA2 := Lib.hid (show putL acc (ls.take (q + 1)) = ac ++ s.data.toList by rw [HA.out]; unfold putB; rw [if_pos h0])
        rw [h0]
        go_wp2_with (go_at_call 106; refine (pws_any s HP.out (by omega) hbw).mono ?_)
        rintro e w2 ⟨⟨x, rfl⟩, h2, g2⟩
        have H2 := Lib.hid h2
        have G2 := Lib.hid (HG.out.trans g2)
        clear h2 g2 e0
        go_wp2_with fail
        go_roundw
        case rel => exact ⟨q + 1, by omega, by go_num, Lib.hid (by rw [HA2.out]; exact H2.out), Lib.hid G2.out⟩
        case measure => simp [intOf]; omega
      · have e1 : (0 : Int) < (ac.length : Int) := by omega
        have e2 : 0 < ac.length := by omega
        have HA2 := Lib.hid (show putL acc (ls.take (q + 1)) = (ac ++ [32]) ++ s.data.toList by rw [HA.out]; unfold putB; rw [if_neg h0])
        go_wp2_with (go_at_call 105; refine (pwb_any 32 HP.out (by omega) hbw).mono ?_)
        rintro e w2 ⟨rfl, h2, g2⟩
        have H2 := Lib.hid h2
        have G2 := Lib.hid (HG.out.trans g2)
        have hz2 := g2.size
        clear h2 g2 e0
        go_wp2_with (go_at_call 106; refine (pws_any s H2.out (by simp; omega) (by omega)).mono ?_)
        rintro e w3 ⟨⟨x, rfl⟩, h3, g3⟩
        have H3 := Lib.hid h3
        have G3 := Lib.hid (G2.out.trans g3)
        clear h3 g3
        go_wp2_with fail
        go_roundw
        case rel => exact ⟨q + 1, by omega, by go_num, Lib.hid (by rw [HA2.out]; exact H3.out), Lib.hid G3.out⟩
        case measure => simp [intOf]; omega
    · have hql : q = ls.length := by omega
      subst hql
      rw [List.take_of_length_le (Nat.le_refl _)] at HP
      go_wp2
      go_end0
      exact ⟨⟨_, rfl⟩, HP.out, HG.out⟩
/-- a box made for it -/
theorem put_new {base p : Nat} {w : World} {acc : List UInt8} {bad : Bool} (ls : List Str) (h : PrAt base p w acc bad) (hb : base ≤ w.heap.size) (hl : acc.length + tsz ls ≤ 140737488355328) :
    Calls Tryd.prog 63 #[.pointer (some ⟨p, 0, none⟩), .slice (some ⟨w.heap.size, 0, none⟩) ls.length ls.length] (w.alloc (.cells (ls.map Value.string).toArray 9)) fun e w' => (∃ x, e = .returned x) ∧ PrAt base p w' (putL acc ls) bad ∧ PrGo base p w w' := by
  have hbl : Below w.heap.size w (w.alloc (.cells (ls.map Value.string).toArray 9)) := (Below.refl _ _).alloc (Nat.le_refl _) _
  refine (put_any ls (h.below hbl) (BoxIs.made w _ 9) (by have := h.lt; omega) (by simp; omega) hl).mono ?_
  rintro e w' ⟨he, h1, h2⟩
  exact ⟨he, h1, (PrGo.of_below hbl hb).trans h2⟩
end Go.Proofs.YtijahadmaggncaaDoor
