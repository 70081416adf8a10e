/- The walks of scope.Labels and of the reference's LLabels. -/
import Derived.Test.YtnpgpcnkdocknaaDoorGGrSpec
import Derived.Deep.CondSized
import Derived.BigQuiet
import Derived.BigRegion
namespace Go.Proofs.YtnpgpcnkdocknaaDoor
open Go.RowKit
set_option linter.unusedVariables false
theorem vi_1 {n : Nat} : Value.int .i64 ((n : Int) + 1) = Value.int .i64 ((n + 1 : Nat) : Int) := by simp
theorem vi_2 {n m : Nat} : Value.int .i64 ((n : Int) + (m : Int)) = Value.int .i64 ((n + m : Nat) : Int) := by simp
theorem vi_3 {n m k : Nat} : Value.int .i64 ((n : Int) + (m : Int) + (k : Int)) = Value.int .i64 ((n + m + k : Nat) : Int) := by simp
theorem vi_4 {n m k : Nat} : Value.int .i64 ((n : Int) + ((m : Int) + (k : Int))) = Value.int .i64 ((n + (m + k) : Nat) : Int) := by simp
theorem w64_1 {n : Nat} (h : n ≤ 1048577) : wrap64 ((n : Int) + 1) = (n : Int) + 1 := IntWalk.wrap64_in _ (by omega)
theorem i64_1 {n : Nat} (h : n ≤ 1048577) : IntKind.i64.wrap ((n : Int) + 1) = (n : Int) + 1 := IntWalk.i64_in _ (by omega)
theorem w64_2 {n m : Nat} (h : n + m ≤ 1048577) : wrap64 ((n : Int) + (m : Int)) = (n : Int) + (m : Int) := IntWalk.wrap64_in _ (by omega)
theorem i64_2 {n m : Nat} (h : n + m ≤ 1048577) : IntKind.i64.wrap ((n : Int) + (m : Int)) = (n : Int) + (m : Int) := IntWalk.i64_in _ (by omega)
theorem w64_3 {n m k : Nat} (h : n + m + k ≤ 1048577) : wrap64 ((n : Int) + (m : Int) + (k : Int)) = (n : Int) + (m : Int) + (k : Int) := IntWalk.wrap64_in _ (by omega)
theorem i64_3 {n m k : Nat} (h : n + m + k ≤ 1048577) : IntKind.i64.wrap ((n : Int) + (m : Int) + (k : Int)) = (n : Int) + (m : Int) + (k : Int) := IntWalk.i64_in _ (by omega)
theorem i64_4 {n m k : Nat} (h : n + m + k ≤ 1048577) : IntKind.i64.wrap ((n : Int) + ((m : Int) + (k : Int))) = (n : Int) + ((m : Int) + (k : Int)) := IntWalk.i64_in _ (by omega)
set_option maxHeartbeats 4000000 in
set_option maxRecDepth 100000 in
theorem lab_one (l : List St) (h : ∀ k s a b body els, St.mk k s a b body els ∈ l → LBs 11 body ∧ LBs 11 els) : LBs 11 l := by
  intro w S v hS r hwl
  obtain ⟨A, cap, rfl, hl, hcm, hby⟩ := r.form
  unfold maxLen at hcm
  have H := Lib.hid h
  have R := Lib.hid r
  have HS := Lib.hid hS
  clear h r hS
  go_enter Tryd.func11, Tryd.ntmps11
  go_wp2_with fail
  go_loopw [3, 8] (fun n t wr => ∃ q : Nat, q ≤ l.length ∧ t = .int .i64 q ∧ n = .int .i64 (labelsL (l.take q) : Int) ∧ Below w.heap.size w wr) (fun _ t _ => l.length - (intOf t).toNat)
  case atStart => exact ⟨0, by omega, rfl, (by rw [List.take_zero, labelsL]; rfl), Below.refl _ _⟩
  case round =>
    obtain ⟨q, hq, rfl, rfl, hbel⟩ := hrel
    by_cases hlt : q < l.length
    · obtain ⟨b0, off, cs, rfl, hb, hcl, hcell, hrd⟩ := (R.out.go RdSt.keeps hbel HS.out (Sub.refl _)).at_ hlt
      have hb : b0 < w.heap.size := HS.out _ hb
      have hwr := hbel.size
      have hb0 : b0 < wr.heap.size := by omega
      have hmem := List.getElem_mem hlt
      have htk : l.take (q + 1) = l.take q ++ [l[q]] := by rw [List.take_succ_eq_append_getElem hlt]
      have hwq := wts_take l hlt
      obtain ⟨st, hst⟩ : ∃ st, l[q] = st := ⟨_, rfl⟩
      rw [hst] at hrd hmem htk hwq
      obtain ⟨k, s, a, b, body, els⟩ := st
      obtain ⟨k1, n1, s1, A1, m1, p1, k2, n2, s2, A2, m2, p2, A3, p3, A4, p4, rfl, hk, hs, ra, rb, rv, rv'⟩ := hrd.cells
      have e0 : wr.cell? ⟨b0, off + q * 12, none⟩ = some _ := hcell 0 _ rfl
      have e1 : wr.cell? ⟨b0, off + q * 12 + 1, none⟩ = some _ := hcell 1 _ rfl; have e2 : wr.cell? ⟨b0, off + q * 12 + 2, none⟩ = some _ := hcell 2 _ rfl; have e3 : wr.cell? ⟨b0, off + q * 12 + 3, none⟩ = some _ := hcell 3 _ rfl; have e4 : wr.cell? ⟨b0, off + q * 12 + 4, none⟩ = some _ := hcell 4 _ rfl; have e5 : wr.cell? ⟨b0, off + q * 12 + 5, none⟩ = some _ := hcell 5 _ rfl; have e6 : wr.cell? ⟨b0, off + q * 12 + 6, none⟩ = some _ := hcell 6 _ rfl; have e7 : wr.cell? ⟨b0, off + q * 12 + 7, none⟩ = some _ := hcell 7 _ rfl; have e8 : wr.cell? ⟨b0, off + q * 12 + 8, none⟩ = some _ := hcell 8 _ rfl; have e9 : wr.cell? ⟨b0, off + q * 12 + 9, none⟩ = some _ := hcell 9 _ rfl; have e10 : wr.cell? ⟨b0, off + q * 12 + 10, none⟩ = some _ := hcell 10 _ rfl; have e11 : wr.cell? ⟨b0, off + q * 12 + 11, none⟩ = some _ := hcell 11 _ rfl
      have HN := Lib.hid (show labelsL (l.take (q + 1)) = labelsL (l.take q) + labelsS (.mk k s a b body els) by rw [htk, labelsL_snoc])
      have hlq := labelsL_le (l.take q)
      have hlb := labelsL_le body
      have hle := labelsL_le els
      rw [St.wt] at hwq
      have HIB := Lib.hid (H.out _ _ _ _ _ _ hmem)
      have hx3 : St.wts body ≤ 1048576 := by omega
      have hx4 : St.wts els ≤ 1048576 := by omega
      have hy : labelsL (l.take q) + labelsL body + labelsL els + 1 ≤ 1048577 := by omega
      have hb1 : Below wr.heap.size wr (wr.alloc (.cells #[.int .i64 k, .string s, .int .i64 k1, .int .i64 n1, .string s1, .slice A1 m1 p1, .int .i64 k2, .int .i64 n2, .string s2, .slice A2 m2 p2, .slice A3 body.length p3, .slice A4 els.length p4] 39)) := (Below.refl _ _).alloc (Nat.le_refl _) _
      have HBW := Lib.hid (hbel.trans (hb1.mono hbel.size))
      have hsu : Sub S (Upto wr.heap.size) := HS.out.trans (Sub.upto hbel.size)
      have BX := Lib.hid (Blk.made wr [.int .i64 k, .string s, .int .i64 k1, .int .i64 n1, .string s1, .slice A1 m1 p1, .int .i64 k2, .int .i64 n2, .string s2, .slice A2 m2 p2, .slice A3 body.length p3, .slice A4 els.length p4] 39 (base := 0) (Nat.zero_le _))
      have R1 := Lib.hid (rv.go RdSt.keeps hb1 hsu (Sub.refl _))
      have R2 := Lib.hid (rv'.go RdSt.keeps hb1 hsu (Sub.refl _))
      have hwz0 : wr.heap.size < ((wr.alloc (.cells #[.int .i64 k, .string s, .int .i64 k1, .int .i64 n1, .string s1, .slice A1 m1 p1, .int .i64 k2, .int .i64 n2, .string s2, .slice A2 m2 p2, .slice A3 body.length p3, .slice A4 els.length p4] 39))).heap.size := by simp
      have HSW := Lib.hid (show Sub S (Upto ((wr.alloc (.cells #[.int .i64 k, .string s, .int .i64 k1, .int .i64 n1, .string s1, .slice A1 m1 p1, .int .i64 k2, .int .i64 n2, .string s2, .slice A2 m2 p2, .slice A3 body.length p3, .slice A4 els.length p4] 39))).heap.size) from hsu.trans (Sub.upto (Nat.le_of_lt hwz0)))
      go_upto_region 5 with (fail)
      clear e0 e1 e2 e3 e4 e5 e6 e7 e8 e9 e10 e11 hcell hrd hcl ra rb rv rv' hb1 hsu hmem hst htk hlq hlb hle hwq hbel
      generalize (wr.alloc (.cells #[.int .i64 k, .string s, .int .i64 k1, .int .i64 n1, .string s1, .slice A1 m1 p1, .int .i64 k2, .int .i64 n2, .string s2, .slice A2 m2 p2, .slice A3 body.length p3, .slice A4 els.length p4] 39)) = W at *
      obtain ⟨d, hd⟩ : ∃ d, d = wr.heap.size := ⟨_, rfl⟩
      rw [← hd] at BX hwz0
      rw [← hd]
      have c0 := BX.out.cell 0 _ rfl; have c1 := BX.out.cell 1 _ rfl; have c2 := BX.out.cell 2 _ rfl; have c3 := BX.out.cell 3 _ rfl; have c4 := BX.out.cell 4 _ rfl; have c5 := BX.out.cell 5 _ rfl; have c6 := BX.out.cell 6 _ rfl; have c7 := BX.out.cell 7 _ rfl; have c8 := BX.out.cell 8 _ rfl; have c9 := BX.out.cell 9 _ rfl; have c10 := BX.out.cell 10 _ rfl; have c11 := BX.out.cell 11 _ rfl
      clear hd hb hb0 hwr
      generalize hN0 : labelsL (l.take q) = N0 at *
      clear hN0
      by_cases h2 : k = 2
      · subst h2
        have HNN := Lib.hid (show labelsL (l.take (q + 1)) = N0 + 1 from HN.out.trans (by rw [labels_acc (.inl rfl)]))
        have hb9 : N0 ≤ 1048577 := by omega
        have hw1 : wrap64 ((N0 : Int) + 1) = (N0 : Int) + 1 := w64_1 hb9
        have hw2 : IntKind.i64.wrap ((N0 : Int) + 1) = (N0 : Int) + 1 := i64_1 hb9
        go_wp2_with fail
        go_roundw
        case rel => exact ⟨q + 1, by omega, by go_num, (by rw [HNN.out]; first | exact vi_1 | exact vi_2 | exact vi_3 | exact vi_4), HBW.out⟩
        case measure => simp [intOf]; omega
      by_cases h3 : k = 3
      · subst h3
        have HNN := Lib.hid (show labelsL (l.take (q + 1)) = N0 + 1 from HN.out.trans (by rw [labels_acc (.inr rfl)]))
        have hb9 : N0 ≤ 1048577 := by omega
        have hw1 : wrap64 ((N0 : Int) + 1) = (N0 : Int) + 1 := w64_1 hb9
        have hw2 : IntKind.i64.wrap ((N0 : Int) + 1) = (N0 : Int) + 1 := i64_1 hb9
        go_wp2_with fail
        go_roundw
        case rel => exact ⟨q + 1, by omega, by go_num, (by rw [HNN.out]; first | exact vi_1 | exact vi_2 | exact vi_3 | exact vi_4), HBW.out⟩
        case measure => simp [intOf]; omega
      by_cases h4 : k = 4
      · subst h4
        have HNN := Lib.hid (show labelsL (l.take (q + 1)) = N0 + labelsL body from HN.out.trans (by rw [labels_one (.inl rfl)]))
        have hb9 : N0 + labelsL body ≤ 1048577 := by omega
        have hw1 : wrap64 ((N0 : Int) + (labelsL body : Int)) = (N0 : Int) + (labelsL body : Int) := w64_2 hb9
        have hw2 : IntKind.i64.wrap ((N0 : Int) + (labelsL body : Int)) = (N0 : Int) + (labelsL body : Int) := i64_2 hb9
        go_wp2_with fail
        refine (HIB.out.1 _ S _ HSW.out R1.out hx3).mono ?_
        rintro e w1 ⟨rfl, hb1⟩
        have HBX := Lib.hid (HBW.out.trans (hb1.mono HBW.out.size))
        clear hb1
        go_wp2_with fail
        go_roundw
        case rel => exact ⟨q + 1, by omega, by go_num, (by rw [HNN.out]; first | exact vi_1 | exact vi_2 | exact vi_3 | exact vi_4), HBX.out⟩
        case measure => simp [intOf]; omega
      by_cases h5 : k = 5
      · subst h5
        have HNN := Lib.hid (show labelsL (l.take (q + 1)) = N0 + labelsL body from HN.out.trans (by rw [labels_one (.inr (.inl rfl))]))
        have hb9 : N0 + labelsL body ≤ 1048577 := by omega
        have hw1 : wrap64 ((N0 : Int) + (labelsL body : Int)) = (N0 : Int) + (labelsL body : Int) := w64_2 hb9
        have hw2 : IntKind.i64.wrap ((N0 : Int) + (labelsL body : Int)) = (N0 : Int) + (labelsL body : Int) := i64_2 hb9
        go_wp2_with fail
        refine (HIB.out.1 _ S _ HSW.out R1.out hx3).mono ?_
        rintro e w1 ⟨rfl, hb1⟩
        have HBX := Lib.hid (HBW.out.trans (hb1.mono HBW.out.size))
        clear hb1
        go_wp2_with fail
        go_roundw
        case rel => exact ⟨q + 1, by omega, by go_num, (by rw [HNN.out]; first | exact vi_1 | exact vi_2 | exact vi_3 | exact vi_4), HBX.out⟩
        case measure => simp [intOf]; omega
      by_cases h7 : k = 7
      · subst h7
        have HNN := Lib.hid (show labelsL (l.take (q + 1)) = N0 + labelsL body from HN.out.trans (by rw [labels_one (.inr (.inr rfl))]))
        have hb9 : N0 + labelsL body ≤ 1048577 := by omega
        have hw1 : wrap64 ((N0 : Int) + (labelsL body : Int)) = (N0 : Int) + (labelsL body : Int) := w64_2 hb9
        have hw2 : IntKind.i64.wrap ((N0 : Int) + (labelsL body : Int)) = (N0 : Int) + (labelsL body : Int) := i64_2 hb9
        go_wp2_with fail
        refine (HIB.out.1 _ S _ HSW.out R1.out hx3).mono ?_
        rintro e w1 ⟨rfl, hb1⟩
        have HBX := Lib.hid (HBW.out.trans (hb1.mono HBW.out.size))
        clear hb1
        go_wp2_with fail
        go_roundw
        case rel => exact ⟨q + 1, by omega, by go_num, (by rw [HNN.out]; first | exact vi_1 | exact vi_2 | exact vi_3 | exact vi_4), HBX.out⟩
        case measure => simp [intOf]; omega
      by_cases h6 : k = 6
      · subst h6
        have HNN := Lib.hid (show labelsL (l.take (q + 1)) = N0 + (labelsL body + labelsL els) from HN.out.trans (by rw [labels_if]))
        have hb9 : labelsL body + labelsL els ≤ 1048577 := by omega
        have hb8 : N0 + labelsL body + labelsL els ≤ 1048577 := by omega
        have hw0 : IntKind.i64.wrap ((labelsL body : Int) + (labelsL els : Int)) = (labelsL body : Int) + (labelsL els : Int) := i64_2 hb9
        have hw1 : IntKind.i64.wrap ((N0 : Int) + ((labelsL body : Int) + (labelsL els : Int))) = (N0 : Int) + ((labelsL body : Int) + (labelsL els : Int)) := i64_4 hb8
        have HWP := Lib.hid (fun w' h => Stay.size h : ∀ w', Stay W w' → W.heap.size ≤ w'.heap.size)
        go_wp2_with fail
        go_region_held3 (fun w' => Stay W w') (first | assumption | exact Stay.mk (Kept.start _) | ((refine Stay.mk ?_; (repeat (with_reducible first | refine Kept.set ?_ (by omega) _ | refine Kept.drew ?_ | refine Kept.alloc ?_ _)); first | exact Kept.refl _ | assumption)))
          (first
            | ((go_at_call_of 11 (Value.slice A3 body.length p3); refine (HIB.out.1 _ S _ (HSW.out.trans (Sub.upto (HWP.out _ (by assumption)))) (R1.out.keep RdSt.keeps (Sub.refl _) (Same.sub (Stay.same (by assumption)) HSW.out)) hx3).mono ?_; rintro e wa1 ⟨rfl, hb1⟩; have hst1 : Stay W wa1 := Stay.step hb1 (by assumption); have hk1 : Kept W wa1 := Kept.here hst1))
            | ((go_at_call_of 11 (Value.slice A4 els.length p4); refine (HIB.out.2 _ S _ (HSW.out.trans (Sub.upto (HWP.out _ (by assumption)))) (R2.out.keep RdSt.keeps (Sub.refl _) (Same.sub (Stay.same (by assumption)) HSW.out)) hx4).mono ?_; rintro e wb1 ⟨rfl, hb2⟩; have hst2 : Stay W wb1 := Stay.step hb2 (by assumption); have hk2 : Kept W wb1 := Kept.here hst2)))
        all_goals (
          go_wp2_with fail
          go_roundw
          case rel => exact ⟨q + 1, by omega, by go_num, (by rw [HNN.out]; all_goals (first | exact vi_1 | exact vi_2 | exact vi_3 | exact vi_4)), HBW.out.trans ((Stay.below (by assumption)).mono HBW.out.size)⟩
          case measure => simp [intOf]; omega)
      have HNN := Lib.hid (show labelsL (l.take (q + 1)) = N0 from HN.out.trans (by rw [labels_other (by omega), Nat.add_zero]))
      have g2 : (k == 2) = false := (by simpa using h2); have g3 : (k == 3) = false := (by simpa using h3); have g4 : (k == 4) = false := (by simpa using h4); have g5 : (k == 5) = false := (by simpa using h5); have g6 : (k == 6) = false := (by simpa using h6); have g7 : (k == 7) = false := (by simpa using h7)
      clear h2 h3 h4 h5 h6 h7
      go_wp2_with fail
      go_roundw
      case rel => exact ⟨q + 1, by omega, by go_num, (by rw [HNN.out] ), HBW.out⟩
      case measure => simp [intOf]; omega
    · have hqe : q = l.length := by omega
      subst hqe
      rw [List.take_length]
      go_wp2
      go_ret
      exact ⟨rfl, hbel⟩
set_option maxHeartbeats 4000000 in
set_option maxRecDepth 100000 in
theorem llab_one (l : List St) (h : ∀ k s a b body els, St.mk k s a b body els ∈ l → LBs 4 body ∧ LBs 4 els) : LBs 4 l := by
  intro w S v hS r hwl
  obtain ⟨A, cap, rfl, hl, hcm, hby⟩ := r.form
  unfold maxLen at hcm
  have H := Lib.hid h
  have R := Lib.hid r
  have HS := Lib.hid hS
  clear h r hS
  go_enter Tryd.func4, Tryd.ntmps4
  go_wp2_with fail
  go_loopw [3, 8] (fun n t wr => ∃ q : Nat, q ≤ l.length ∧ t = .int .i64 q ∧ n = .int .i64 (labelsL (l.take q) : Int) ∧ Below w.heap.size w wr) (fun _ t _ => l.length - (intOf t).toNat)
  case atStart => exact ⟨0, by omega, rfl, (by rw [List.take_zero, labelsL]; rfl), Below.refl _ _⟩
  case round =>
    obtain ⟨q, hq, rfl, rfl, hbel⟩ := hrel
    by_cases hlt : q < l.length
    · obtain ⟨b0, off, cs, rfl, hb, hcl, hcell, hrd⟩ := (R.out.go RdSt.keeps hbel HS.out (Sub.refl _)).at_ hlt
      have hb : b0 < w.heap.size := HS.out _ hb
      have hwr := hbel.size
      have hb0 : b0 < wr.heap.size := by omega
      have hmem := List.getElem_mem hlt
      have htk : l.take (q + 1) = l.take q ++ [l[q]] := by rw [List.take_succ_eq_append_getElem hlt]
      have hwq := wts_take l hlt
      obtain ⟨st, hst⟩ : ∃ st, l[q] = st := ⟨_, rfl⟩
      rw [hst] at hrd hmem htk hwq
      obtain ⟨k, s, a, b, body, els⟩ := st
      obtain ⟨k1, n1, s1, A1, m1, p1, k2, n2, s2, A2, m2, p2, A3, p3, A4, p4, rfl, hk, hs, ra, rb, rv, rv'⟩ := hrd.cells
      have e0 : wr.cell? ⟨b0, off + q * 12, none⟩ = some _ := hcell 0 _ rfl
      have e1 : wr.cell? ⟨b0, off + q * 12 + 1, none⟩ = some _ := hcell 1 _ rfl; have e2 : wr.cell? ⟨b0, off + q * 12 + 2, none⟩ = some _ := hcell 2 _ rfl; have e3 : wr.cell? ⟨b0, off + q * 12 + 3, none⟩ = some _ := hcell 3 _ rfl; have e4 : wr.cell? ⟨b0, off + q * 12 + 4, none⟩ = some _ := hcell 4 _ rfl; have e5 : wr.cell? ⟨b0, off + q * 12 + 5, none⟩ = some _ := hcell 5 _ rfl; have e6 : wr.cell? ⟨b0, off + q * 12 + 6, none⟩ = some _ := hcell 6 _ rfl; have e7 : wr.cell? ⟨b0, off + q * 12 + 7, none⟩ = some _ := hcell 7 _ rfl; have e8 : wr.cell? ⟨b0, off + q * 12 + 8, none⟩ = some _ := hcell 8 _ rfl; have e9 : wr.cell? ⟨b0, off + q * 12 + 9, none⟩ = some _ := hcell 9 _ rfl; have e10 : wr.cell? ⟨b0, off + q * 12 + 10, none⟩ = some _ := hcell 10 _ rfl; have e11 : wr.cell? ⟨b0, off + q * 12 + 11, none⟩ = some _ := hcell 11 _ rfl
      have HN := Lib.hid (show labelsL (l.take (q + 1)) = labelsL (l.take q) + labelsS (.mk k s a b body els) by rw [htk, labelsL_snoc])
      have hlq := labelsL_le (l.take q)
      have hlb := labelsL_le body
      have hle := labelsL_le els
      rw [St.wt] at hwq
      have HIB := Lib.hid (H.out _ _ _ _ _ _ hmem)
      have hx3 : St.wts body ≤ 1048576 := by omega
      have hx4 : St.wts els ≤ 1048576 := by omega
      have hy : labelsL (l.take q) + labelsL body + labelsL els + 1 ≤ 1048577 := by omega
      --(wr.alloc (.cells #[.int .i64 k, .string s, .int .i64 k1, .int .i64 n1, .string s1, .slice A1 m1 p1, .int .i64 k2, .int .i64 n2, .string s2, .slice A2 m2 p2, .slice A3 body.length p3, .slice A4 els.length p4] 39)) = (wr.alloc (.cells #[.int .i64 k, .string s, .int .i64 k1, .int .i64 n1, .string s1, .slice A1 m1 p1, .int .i64 k2, .int .i64 n2, .string s2, .slice A2 m2 p2, .slice A3 body.length p3, .slice A4 els.length p4] 39))
      have hb1 : Below wr.heap.size wr (wr.alloc (.cells #[.int .i64 k, .string s, .int .i64 k1, .int .i64 n1, .string s1, .slice A1 m1 p1, .int .i64 k2, .int .i64 n2, .string s2, .slice A2 m2 p2, .slice A3 body.length p3, .slice A4 els.length p4] 39)) := (Below.refl _ _).alloc (Nat.le_refl _) _
      have HBW := Lib.hid (hbel.trans (hb1.mono hbel.size))
      have hsu : Sub S (Upto wr.heap.size) := HS.out.trans (Sub.upto hbel.size)
      have BX := Lib.hid (Blk.made wr [.int .i64 k, .string s, .int .i64 k1, .int .i64 n1, .string s1, .slice A1 m1 p1, .int .i64 k2, .int .i64 n2, .string s2, .slice A2 m2 p2, .slice A3 body.length p3, .slice A4 els.length p4] 39 (base := 0) (Nat.zero_le _))
      have R1 := Lib.hid (rv.go RdSt.keeps hb1 hsu (Sub.refl _))
      have R2 := Lib.hid (rv'.go RdSt.keeps hb1 hsu (Sub.refl _))
      have hwz0 : wr.heap.size < ((wr.alloc (.cells #[.int .i64 k, .string s, .int .i64 k1, .int .i64 n1, .string s1, .slice A1 m1 p1, .int .i64 k2, .int .i64 n2, .string s2, .slice A2 m2 p2, .slice A3 body.length p3, .slice A4 els.length p4] 39))).heap.size := by simp
      have HSW := Lib.hid (show Sub S (Upto ((wr.alloc (.cells #[.int .i64 k, .string s, .int .i64 k1, .int .i64 n1, .string s1, .slice A1 m1 p1, .int .i64 k2, .int .i64 n2, .string s2, .slice A2 m2 p2, .slice A3 body.length p3, .slice A4 els.length p4] 39))).heap.size) from hsu.trans (Sub.upto (Nat.le_of_lt hwz0)))
      go_upto_region 5 with (fail)
      clear e0 e1 e2 e3 e4 e5 e6 e7 e8 e9 e10 e11 hcell hrd hcl ra rb rv rv' hb1 hsu hmem hst htk hlq hlb hle hwq hbel
      generalize (wr.alloc (.cells #[.int .i64 k, .string s, .int .i64 k1, .int .i64 n1, .string s1, .slice A1 m1 p1, .int .i64 k2, .int .i64 n2, .string s2, .slice A2 m2 p2, .slice A3 body.length p3, .slice A4 els.length p4] 39)) = W at *
      obtain ⟨d, hd⟩ : ∃ d, d = wr.heap.size := ⟨_, rfl⟩
      rw [← hd] at BX hwz0
      rw [← hd]
      have c0 := BX.out.cell 0 _ rfl; have c1 := BX.out.cell 1 _ rfl; have c2 := BX.out.cell 2 _ rfl; have c3 := BX.out.cell 3 _ rfl; have c4 := BX.out.cell 4 _ rfl; have c5 := BX.out.cell 5 _ rfl; have c6 := BX.out.cell 6 _ rfl; have c7 := BX.out.cell 7 _ rfl; have c8 := BX.out.cell 8 _ rfl; have c9 := BX.out.cell 9 _ rfl; have c10 := BX.out.cell 10 _ rfl; have c11 := BX.out.cell 11 _ rfl
      clear hd hb hb0 hwr
      generalize hN0 : labelsL (l.take q) = N0 at *
      clear hN0
      by_cases h2 : k = 2
      · subst h2
        have HNN := Lib.hid (show labelsL (l.take (q + 1)) = N0 + 1 from HN.out.trans (by rw [labels_acc (.inl rfl)]))
        have hb9 : N0 ≤ 1048577 := by omega
        have hw1 : wrap64 ((N0 : Int) + 1) = (N0 : Int) + 1 := w64_1 hb9
        have hw2 : IntKind.i64.wrap ((N0 : Int) + 1) = (N0 : Int) + 1 := i64_1 hb9
        go_wp2_with fail
        go_roundw
        case rel => exact ⟨q + 1, by omega, by go_num, (by rw [HNN.out]; first | exact vi_1 | exact vi_2 | exact vi_3 | exact vi_4), HBW.out⟩
        case measure => simp [intOf]; omega
      by_cases h3 : k = 3
      · subst h3
        have HNN := Lib.hid (show labelsL (l.take (q + 1)) = N0 + 1 from HN.out.trans (by rw [labels_acc (.inr rfl)]))
        have hb9 : N0 ≤ 1048577 := by omega
        have hw1 : wrap64 ((N0 : Int) + 1) = (N0 : Int) + 1 := w64_1 hb9
        have hw2 : IntKind.i64.wrap ((N0 : Int) + 1) = (N0 : Int) + 1 := i64_1 hb9
        go_wp2_with fail
        go_roundw
        case rel => exact ⟨q + 1, by omega, by go_num, (by rw [HNN.out]; first | exact vi_1 | exact vi_2 | exact vi_3 | exact vi_4), HBW.out⟩
        case measure => simp [intOf]; omega
      by_cases h4 : k = 4
      · subst h4
        have HNN := Lib.hid (show labelsL (l.take (q + 1)) = N0 + labelsL body from HN.out.trans (by rw [labels_one (.inl rfl)]))
        have hb9 : N0 + labelsL body ≤ 1048577 := by omega
        have hw1 : wrap64 ((N0 : Int) + (labelsL body : Int)) = (N0 : Int) + (labelsL body : Int) := w64_2 hb9
        have hw2 : IntKind.i64.wrap ((N0 : Int) + (labelsL body : Int)) = (N0 : Int) + (labelsL body : Int) := i64_2 hb9
        go_wp2_with fail
        refine (HIB.out.1 _ S _ HSW.out R1.out hx3).mono ?_
        rintro e w1 ⟨rfl, hb1⟩
        have HBX := Lib.hid (HBW.out.trans (hb1.mono HBW.out.size))
        have BX1 := BX.out.below hb1
        clear hb1 c0 c1 c2 c3 c4 c5 c6 c7 c8 c9 c10 c11
        have c0 := BX1.cell 0 _ rfl
        have hdl := BX1.lt
        clear BX1
        go_wp2_with fail
        go_roundw
        case rel => exact ⟨q + 1, by omega, by go_num, (by rw [HNN.out]; first | exact vi_1 | exact vi_2 | exact vi_3 | exact vi_4), HBX.out⟩
        case measure => simp [intOf]; omega
      by_cases h5 : k = 5
      · subst h5
        have HNN := Lib.hid (show labelsL (l.take (q + 1)) = N0 + labelsL body from HN.out.trans (by rw [labels_one (.inr (.inl rfl))]))
        have hb9 : N0 + labelsL body ≤ 1048577 := by omega
        have hw1 : wrap64 ((N0 : Int) + (labelsL body : Int)) = (N0 : Int) + (labelsL body : Int) := w64_2 hb9
        have hw2 : IntKind.i64.wrap ((N0 : Int) + (labelsL body : Int)) = (N0 : Int) + (labelsL body : Int) := i64_2 hb9
        go_wp2_with fail
        refine (HIB.out.1 _ S _ HSW.out R1.out hx3).mono ?_
        rintro e w1 ⟨rfl, hb1⟩
        have HBX := Lib.hid (HBW.out.trans (hb1.mono HBW.out.size))
        have BX1 := BX.out.below hb1
        clear hb1 c0 c1 c2 c3 c4 c5 c6 c7 c8 c9 c10 c11
        have c0 := BX1.cell 0 _ rfl
        have hdl := BX1.lt
        clear BX1
        go_wp2_with fail
        go_roundw
        case rel => exact ⟨q + 1, by omega, by go_num, (by rw [HNN.out]; first | exact vi_1 | exact vi_2 | exact vi_3 | exact vi_4), HBX.out⟩
        case measure => simp [intOf]; omega
      by_cases h7 : k = 7
      · subst h7
        have HNN := Lib.hid (show labelsL (l.take (q + 1)) = N0 + labelsL body from HN.out.trans (by rw [labels_one (.inr (.inr rfl))]))
        have hb9 : N0 + labelsL body ≤ 1048577 := by omega
        have hw1 : wrap64 ((N0 : Int) + (labelsL body : Int)) = (N0 : Int) + (labelsL body : Int) := w64_2 hb9
        have hw2 : IntKind.i64.wrap ((N0 : Int) + (labelsL body : Int)) = (N0 : Int) + (labelsL body : Int) := i64_2 hb9
        go_wp2_with fail
        refine (HIB.out.1 _ S _ HSW.out R1.out hx3).mono ?_
        rintro e w1 ⟨rfl, hb1⟩
        have HBX := Lib.hid (HBW.out.trans (hb1.mono HBW.out.size))
        have BX1 := BX.out.below hb1
        clear hb1 c0 c1 c2 c3 c4 c5 c6 c7 c8 c9 c10 c11
        have c0 := BX1.cell 0 _ rfl
        have hdl := BX1.lt
        clear BX1
        go_wp2_with fail
        go_roundw
        case rel => exact ⟨q + 1, by omega, by go_num, (by rw [HNN.out]; first | exact vi_1 | exact vi_2 | exact vi_3 | exact vi_4), HBX.out⟩
        case measure => simp [intOf]; omega
      by_cases h6 : k = 6
      · subst h6
        have HNN := Lib.hid (show labelsL (l.take (q + 1)) = N0 + labelsL body + labelsL els from HN.out.trans (by rw [labels_if, Nat.add_assoc]))
        have hb8 : N0 + labelsL body + labelsL els ≤ 1048577 := by omega
        have hb9 : N0 + labelsL body ≤ 1048577 := by omega
        have hw1 : wrap64 ((N0 : Int) + (labelsL body : Int)) = (N0 : Int) + (labelsL body : Int) := w64_2 hb9
        have hw2 : IntKind.i64.wrap ((N0 : Int) + (labelsL body : Int)) = (N0 : Int) + (labelsL body : Int) := i64_2 hb9
        have hw3 : wrap64 ((N0 : Int) + (labelsL body : Int) + (labelsL els : Int)) = (N0 : Int) + (labelsL body : Int) + (labelsL els : Int) := w64_3 hb8
        have hw4 : IntKind.i64.wrap ((N0 : Int) + (labelsL body : Int) + (labelsL els : Int)) = (N0 : Int) + (labelsL body : Int) + (labelsL els : Int) := i64_3 hb8
        go_wp2_with fail
        refine (HIB.out.1 _ S _ HSW.out R1.out hx3).mono ?_
        rintro e w1 ⟨rfl, hb1⟩
        have HBX := Lib.hid (HBW.out.trans (hb1.mono HBW.out.size))
        have BX1 := BX.out.below hb1
        have R3 := Lib.hid (R2.out.go RdSt.keeps hb1 HSW.out (Sub.refl _))
        have HS2 := Lib.hid (HSW.out.trans (Sub.upto hb1.size))
        clear hb1 c0 c1 c2 c3 c4 c5 c6 c7 c8 c9 c10 c11
        have c0 := BX1.cell 0 _ rfl; have c1 := BX1.cell 1 _ rfl; have c2 := BX1.cell 2 _ rfl; have c3 := BX1.cell 3 _ rfl; have c4 := BX1.cell 4 _ rfl; have c5 := BX1.cell 5 _ rfl; have c6 := BX1.cell 6 _ rfl; have c7 := BX1.cell 7 _ rfl; have c8 := BX1.cell 8 _ rfl; have c9 := BX1.cell 9 _ rfl; have c10 := BX1.cell 10 _ rfl; have c11 := BX1.cell 11 _ rfl
        have hdl := BX1.lt
        clear BX1
        go_wp2_with fail
        refine (HIB.out.2 _ S _ HS2.out R3.out hx4).mono ?_
        rintro e w2 ⟨rfl, hb2⟩
        have HBY := Lib.hid (HBX.out.trans (hb2.mono HBX.out.size))
        clear hb2
        go_wp2_with fail
        go_roundw
        case rel => exact ⟨q + 1, by omega, by go_num, (by rw [HNN.out]; first | exact vi_1 | exact vi_2 | exact vi_3 | exact vi_4), HBY.out⟩
        case measure => simp [intOf]; omega
      have HNN := Lib.hid (show labelsL (l.take (q + 1)) = N0 from HN.out.trans (by rw [labels_other (by omega), Nat.add_zero]))
      have g2 : (k == 2) = false := (by simpa using h2); have g3 : (k == 3) = false := (by simpa using h3); have g6 : (k == 6) = false := (by simpa using h6)
      have hk47 : k < 2 ∨ 7 < k := by omega
      rcases hk47 with hk47 | hk47
      · have hk4 : ¬ 4 ≤ k := by omega
        clear h2 h3 h4 h5 h6 h7
        go_wp2_with fail
        go_roundw
        case rel => exact ⟨q + 1, by omega, by go_num, (by rw [HNN.out] ), HBW.out⟩
        case measure => simp [intOf]; omega
      · have hk4 : 4 ≤ k := by omega
        have hk7 : ¬ k ≤ 7 := by omega
        clear h2 h3 h4 h5 h6 h7
        go_wp2_with fail
        go_roundw
        case rel => exact ⟨q + 1, by omega, by go_num, (by rw [HNN.out] ), HBW.out⟩
        case measure => simp [intOf]; omega
    · have hqe : q = l.length := by omega
      subst hqe
      rw [List.take_length]
      go_wp2
      go_ret
      exact ⟨rfl, hbel⟩
theorem labs_all (m : Nat) : ∀ l : List St, SizeOf.sizeOf l ≤ m → LBs 11 l ∧ LBs 4 l := by
  induction m with
  | zero => intro l h; cases l <;> simp at h
  | succ m ih =>
    intro l h
    have hsz : ∀ k s a b body els, St.mk k s a b body els ∈ l → SizeOf.sizeOf body ≤ m ∧ SizeOf.sizeOf els ≤ m := fun k s a b body els hm => by
      have := List.sizeOf_lt_of_mem hm
      simp only [St.mk.sizeOf_spec] at this
      omega
    exact ⟨lab_one l (fun k s a b body els hm => ⟨(ih _ (hsz _ _ _ _ _ _ hm).1).1, (ih _ (hsz _ _ _ _ _ _ hm).2).1⟩), llab_one l (fun k s a b body els hm => ⟨(ih _ (hsz _ _ _ _ _ _ hm).1).2, (ih _ (hsz _ _ _ _ _ _ hm).2).2⟩)⟩
end Go.Proofs.YtnpgpcnkdocknaaDoor
