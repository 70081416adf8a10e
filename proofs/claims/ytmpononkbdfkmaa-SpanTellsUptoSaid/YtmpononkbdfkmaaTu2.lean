/- The walk of the reference's DMarks. -/
import Derived.Test.YtmpononkbdfkmaaTu1
import Derived.Test.YtmpononkbdfkmaaMk3
namespace Go.Proofs.Ytmpononkbdfkmaa
open Go.RowKit
set_option linter.unusedVariables false
theorem Tm.turned_bd (t : Tm) : ∀ m (i x : Nat), (t.turned m)[i]? = some x → m ≤ x ∧ x < m + t.count := by
  induction t using Tm.ind with
  | one t h =>
    intro m i x hx
    rw [Tm.turned_none h] at hx
    rw [Tm.count_none h]
    split at hx
    · rename_i hk
      rw [if_pos hk]
      match i, hx with
      | 0, hx => simp at hx; omega
    · simp at hx
  | two t p a b h ha hb =>
    intro m i x hx
    rw [Tm.turned_two h] at hx
    rw [Tm.count_two h]
    split at hx
    · rcases Nat.lt_or_ge i b.count with hi | hi
      · rw [List.getElem?_append_left (by rw [Tm.turned_len]; exact hi)] at hx
        have := hb _ _ _ hx; omega
      · rw [List.getElem?_append_right (by rw [Tm.turned_len]; exact hi)] at hx
        have := ha _ _ _ hx; omega
    · rcases Nat.lt_or_ge i a.count with hi | hi
      · rw [List.getElem?_append_left (by rw [Tm.turned_len]; exact hi)] at hx
        have := ha _ _ _ hx; omega
      · rw [List.getElem?_append_right (by rw [Tm.turned_len]; exact hi)] at hx
        have := hb _ _ _ hx; omega
theorem Tm.pos_turned (t : Tm) : ∀ n m (i x : Nat), (t.turned m)[i]? = some x → (t.pos n)[x - m]? = some (n + i) := by
  induction t using Tm.ind with
  | one t h =>
    intro n m i x hx
    rw [Tm.turned_none h] at hx
    rw [Tm.pos_none h]
    split at hx
    · rename_i hk
      rw [if_pos hk]
      match i, hx with
      | 0, hx => simp at hx; subst hx; simp
    · simp at hx
  | two t p a b h ha hb =>
    intro n m i x hx
    rw [Tm.turned_two h] at hx
    rw [Tm.pos_two h]
    cases p
    · simp only [Bool.false_eq_true, if_false] at hx ⊢
      rcases Nat.lt_or_ge i a.count with hi | hi
      · rw [List.getElem?_append_left (by rw [Tm.turned_len]; exact hi)] at hx
        have h1 := Tm.turned_bd a _ _ _ hx
        rw [List.getElem?_append_left (by rw [Tm.pos_len]; omega)]
        exact ha _ _ _ _ hx
      · rw [List.getElem?_append_right (by rw [Tm.turned_len]; exact hi), Tm.turned_len] at hx
        have h1 := Tm.turned_bd b _ _ _ hx
        rw [List.getElem?_append_right (by rw [Tm.pos_len]; omega), Tm.pos_len]
        have h2 := hb (n + a.count) _ _ _ hx
        rw [show x - (m + a.count) = x - m - a.count by omega] at h2
        rw [h2]; congr 1; omega
    · simp only [if_true] at hx ⊢
      rcases Nat.lt_or_ge i b.count with hi | hi
      · rw [List.getElem?_append_left (by rw [Tm.turned_len]; exact hi)] at hx
        have h1 := Tm.turned_bd b _ _ _ hx
        rw [List.getElem?_append_right (by rw [Tm.pos_len]; omega), Tm.pos_len]
        have h2 := hb n _ _ _ hx
        rw [show x - (m + a.count) = x - m - a.count by omega] at h2
        exact h2
      · rw [List.getElem?_append_right (by rw [Tm.turned_len]; exact hi), Tm.turned_len] at hx
        have h1 := Tm.turned_bd a _ _ _ hx
        rw [List.getElem?_append_left (by rw [Tm.pos_len]; omega)]
        have h2 := ha (n + b.count) _ _ _ hx
        rw [h2]; congr 1; omega
def Tm.p (t : Tm) (k : Nat) : Nat := ((t.pos 0)[k]?).getD 0
theorem Tm.p_get (t : Tm) {k : Nat} (hk : k < t.count) : (t.pos 0)[k]? = some (t.p k) := by
  unfold Tm.p
  have : k < (t.pos 0).length := by rw [Tm.pos_len]; exact hk
  rw [List.getElem?_eq_getElem this]; rfl
/-- what stands written when q leaves are through -/
def Tm.outQ (t : Tm) (q : Nat) : List (Int × Int) := (List.range t.count).map fun (k : Nat) => if t.p k < q then ((k : Int), (t.p k : Int)) else (0, 0)
theorem Tm.outQ_len (t : Tm) (q : Nat) : (t.outQ q).length = t.count := by simp [Tm.outQ]
theorem Tm.outQ_zero (t : Tm) : t.outQ 0 = List.replicate t.count (0, 0) := by
  apply List.ext_getElem <;> simp [Tm.outQ]
theorem Tm.outQ_all (t : Tm) : t.outQ t.count = t.marks := by
  apply List.ext_getElem?
  intro k
  rcases Nat.lt_or_ge k t.count with hk | hk
  · have h1 := Tm.p_get t hk
    have h2 := Tm.pos_bd t 0 k _ h1
    rw [Tm.marks, zipP_get 0 _ _ _ h1]
    simp only [Tm.outQ, List.getElem?_map, List.getElem?_range hk, Option.map_some]
    rw [if_pos (by omega)]; simp
  · rw [List.getElem?_eq_none (by rw [Tm.outQ_len]; exact hk), List.getElem?_eq_none (by rw [Tm.marks_len]; exact hk)]
theorem Tm.outQ_succ (t : Tm) {q k : Nat} (h : (t.turned 0)[q]? = some k) : (t.outQ q).set k ((k : Int), (q : Int)) = t.outQ (q + 1) := by
  have hk := Tm.turned_bd t 0 q k h
  have hp := Tm.pos_turned t 0 0 q k h
  rw [Nat.sub_zero, Nat.zero_add] at hp
  have hpk : t.p k = q := by unfold Tm.p; rw [hp]; rfl
  apply List.ext_getElem?
  intro j
  rw [List.getElem?_set]
  by_cases e : k = j
  · subst e
    rw [if_pos rfl, if_pos (by rw [Tm.outQ_len]; omega)]
    simp only [Tm.outQ, List.getElem?_map, List.getElem?_range (show k < t.count by omega), Option.map_some]
    rw [hpk, if_pos (by omega)]
  · rw [if_neg e]
    rcases Nat.lt_or_ge j t.count with hj | hj
    · simp only [Tm.outQ, List.getElem?_map, List.getElem?_range hj, Option.map_some]
      have hne : t.p j ≠ q := fun e2 => by
        have h1 := Tm.p_get t hj
        have h2 := Tm.turned_pos t 0 0 j _ h1
        rw [e2, Nat.sub_zero, h, Nat.zero_add] at h2
        injection h2 with h2
        exact e h2
      by_cases c : t.p j < q
      · rw [if_pos c, if_pos (by omega)]
      · rw [if_neg c, if_neg (by omega)]
    · rw [List.getElem?_eq_none (by rw [Tm.outQ_len]; exact hj), List.getElem?_eq_none (by rw [Tm.outQ_len]; exact hj)]
theorem Fr.at1I {w : World} {l : List Int} {A : Option Addr} {n cap : Nat} (h : Fr encI inI 1 8 w l (.slice A n cap)) {q : Nat} (hq : q < l.length) :
    ∃ b off, A = some ⟨b, off, none⟩ ∧ b < w.heap.size ∧ inI l[q] ∧ w.cell? ⟨b, off + q, none⟩ = some (.int .i64 l[q]) := by
  obtain ⟨T, hT, r⟩ := h
  obtain ⟨b, off, h1, h2, h3, h4⟩ := RdI.at1 r hq
  exact ⟨b, off, h1, hT _ h2, h3, h4⟩
set_option maxHeartbeats 1000000 in
set_option maxRecDepth 100000 in
theorem dmarks_any (t : Tm) (w : World) (S : Blocks) (V : Value) (hS : Sub S (Upto w.heap.size)) (r : RdT w S t V) (hl : t.count ≤ 1048576) :
    Calls Try.prog 53 #[V] w fun e w' => ∃ x, e = .returned x ∧ Fr encP okPr 2 16 w' t.marks x ∧ Below w.heap.size w w' := by
  obtain ⟨i0, hi, hz0, hz1, hz2⟩ := info_parts infoPair
  obtain ⟨n, hn⟩ : ∃ n, n = (t.turnedI 0).length := ⟨_, rfl⟩
  have hnc : n = t.count := by rw [hn, Tm.turnedI_len]
  have hn20 : n ≤ 1048576 := by omega
  have hmk := fun w => run_makeN (P := Try.prog) 66 68 i0 _ (zc := #[.int .i64 0, .int .i64 0]) Try.underlying66 hi hz0 hz1 rfl n (by rw [hz2]; omega) (by omega) w
  obtain ⟨k, c, wr, lb, kids, v, et, rfl, h1, h2, h3, h4⟩ := id r
  obtain ⟨A1, n1, rfl, _⟩ := h4.form
  have bel : Below w.heap.size w (w.alloc (.cells #[.int .i64 k, .int .i64 c, .bool wr, .int .i64 lb, .slice A1 kids.length n1] 64)) := (Below.refl _ _).alloc (Nat.le_refl _) _
  have BEL := Lib.hid bel
  have RA := Lib.hid (r.go bel hS)
  have hsz : (w.alloc (.cells #[.int .i64 k, .int .i64 c, .bool wr, .int .i64 lb, .slice A1 kids.length n1] 64)).heap.size = w.heap.size + 1 := by simp
  have HS := Lib.hid hS
  have HNC := Lib.hid hnc
  have HN := Lib.hid hn
  unfold tmV
  clear bel r h4 et h1 h2 h3 hS hn hnc
  go_enter Try.func53, Try.ntmps53
  go_wp2_with fail
  generalize w.alloc (.cells #[.int .i64 k, .int .i64 c, .bool wr, .int .i64 lb, .slice A1 kids.length n1] 64) = W at *
  have hW1 := Nat.le_of_eq hsz
  have hW2 := Nat.le_of_eq hsz.symm
  clear hsz
  refine (dts_all t 0 W S _ (HS.out.trans (Sub.upto (by omega))) RA.out (by omega)).mono ?_
  rintro e w1 ⟨x, rfl, hx, hb1⟩
  have hf := hx.fr (bytes := 8) (by rw [← HN.out]; omega)
  obtain ⟨A2, n2, rfl, -, hn2m, -⟩ := hf.form
  rw [← HN.out] at hf ⊢
  unfold maxLen at hn2m
  have hs1 := hb1.size
  have BEL1 := Lib.hid (BEL.out.trans (hb1.mono (by omega)))
  have F1 := Lib.hid hf
  clear hx hb1 hf RA BEL
  go_wp2_with fail
  have R0 := RowAt.made (enc := encP) (size := 2) (base := w1.heap.size) w1 n ((0, 0) : Int × Int) 68 (z := #[.int .i64 0, .int .i64 0]) rfl rfl (by omega) (Nat.le_refl _)
  have hbb : Below w1.heap.size w1 (w1.alloc (.cells (madeCells #[.int .i64 0, .int .i64 0] (n * 2)) 68)) := (Below.refl _ _).alloc (Nat.le_refl _) _
  have F2 := Lib.hid (Fr.via hbb F1.out)
  have R1 := Lib.hid (show RowAt encP 2 w1.heap.size (w1.alloc (.cells (madeCells #[.int .i64 0, .int .i64 0] (n * 2)) 68)) w1.heap.size (t.outQ 0) by rw [Tm.outQ_zero, ← HNC.out]; exact R0)
  have BEL2 : Below w.heap.size w (w1.alloc (.cells (madeCells #[.int .i64 0, .int .i64 0] (n * 2)) 68)) := BEL1.out.trans (hbb.mono (by omega))
  have hs2 := hbb.size
  have HBB := Lib.hid hbb
  clear R0 hbb
  generalize w1.alloc (.cells (madeCells #[.int .i64 0, .int .i64 0] (n * 2)) 68) = W2 at *
  obtain ⟨g, hg⟩ : ∃ g, g = w1.heap.size := ⟨_, rfl⟩
  have hg1 := Nat.le_of_eq hg
  have hg2 := Nat.le_of_eq hg.symm
  rw [← hg] at R1 ⊢
  have hbg : Below g w1 W2 := HBB.out.mono hg1
  clear hg
  go_loopw [14] (fun i wr => ∃ q : Nat, q ≤ n ∧ i = .int .i64 (q : Int) ∧ Hid (RowAt encP 2 g wr g (t.outQ q)) ∧ Below w.heap.size w wr ∧ Below g w1 wr) (fun i _ => n - (intOf i).toNat)
  case atStart => exact ⟨0, by omega, rfl, R1, BEL2, hbg⟩
  case round =>
    clear R1 BEL2 hbg
    obtain ⟨q, hq, rfl, hR, hB, hG⟩ := hrel
    by_cases hlt : q < n
    · obtain ⟨kk, hkk⟩ : ∃ kk, (t.turned 0)[q]? = some kk := ⟨_, List.getElem?_eq_getElem (show q < (t.turned 0).length by rw [Tm.turned_len]; have := HNC.out; omega)⟩
      have hkb := Tm.turned_bd t 0 q kk hkk
      have hkn : kk < n := by have := HNC.out; omega
      have hsucc := Lib.hid (Tm.outQ_succ t hkk)
      have hqI : q < (t.turnedI 0).length := by rw [Tm.turnedI_len]; have := HNC.out; omega
      have F3 : Fr encI inI 1 8 wr (t.turnedI 0) (.slice A2 n n2) := Fr.via (hG.mono hg2) F1.out
      obtain ⟨b, off, rfl, hbl, hok, hc⟩ := F3.at1I hqI
      have hval : (t.turnedI 0)[q] = (kk : Int) := by
        have h1 : (t.turnedI 0)[q]? = some (kk : Int) := by unfold Tm.turnedI; rw [List.getElem?_map, hkk]; rfl
        rw [List.getElem?_eq_getElem hqI] at h1
        injection h1
      rw [hval] at hc
      have hkl : kk < (t.outQ q).length := by rw [Tm.outQ_len]; have := HNC.out; omega
      have hx := List.getElem?_eq_getElem hkl
      have g0 := hR.out.cell kk _ hx 0 _ rfl
      have g1 := hR.out.cell kk _ hx 1 _ rfl
      rw [Nat.add_zero] at g0
      generalize (t.outQ q)[kk] = y at *
      have fg0 := hR.out.fr (kk * 2)
      have fg1 := hR.out.fr (kk * 2 + 1)
      have R2 := hR.out.set2 hkl ((kk : Int), (q : Int)) rfl encP_len
      rw [hsucc.out] at R2
      have R3 := Lib.hid R2
      have hB2 := (hB.setCell (p := ⟨g, kk * 2, none⟩) (show w.heap.size ≤ g by omega) (.int .i64 (kk : Int))).setCell (p := ⟨g, kk * 2 + 1, none⟩) (show w.heap.size ≤ g by omega) (.int .i64 (q : Int))
      have hG2 := (hG.setCell (p := ⟨g, kk * 2, none⟩) (Nat.le_refl g) (.int .i64 (kk : Int))).setCell (p := ⟨g, kk * 2 + 1, none⟩) (Nat.le_refl g) (.int .i64 (q : Int))
      clear R2 hx hR hB hG hkk hval F3 hsucc hok hkb hqI
      have b1 : (kk : Int) < (n : Int) := by omega
      have b2 : (0 : Int) ≤ (kk : Int) := by omega
      have b3 : (q : Int) < (n : Int) := by omega
      go_wp2
      go_roundw
      case rel => exact ⟨q + 1, by omega, by go_num, R3, hB2, hG2⟩
      case measure => simp [intOf]; omega
    · have hqn : q = n := by omega
      subst hqn
      have FR := Lib.hid (show Fr encP okPr 2 16 wr t.marks (.slice (some ⟨g, 0, none⟩) q q) by
        have h := hR.out
        rw [HNC.out, Tm.outQ_all] at h
        have h2 := Fr.of (h.toRd (ok := okPr) (bytes := 16) (c := q) (S := Is g) encP_len (Tm.marks_ok t hl) rfl (by rw [Tm.marks_len]; have := HNC.out; omega) (by unfold maxLen; omega) (by rw [Tm.marks_len]; omega)) (fun b hb => by unfold Is at hb; subst hb; exact h.lt)
        rw [Tm.marks_len, ← HNC.out] at h2
        exact h2)
      clear hR hG F1 F2
      go_wp2
      go_ret
      exact ⟨_, rfl, FR.out, hB⟩
end Go.Proofs.Ytmpononkbdfkmaa
