/- The walk of sp.Before. -/
import Derived.Test.YtmpononkbdfkmaaMk3
import Derived.Test.YtmpononkbdfkmaaTu2
namespace Go.Proofs.Ytmpononkbdfkmaa
open Go.RowKit
set_option linter.unusedVariables false
/-- is leaf i ahead of leaf j, whatever numbers they are? -/
def befB (t : Tm) (i j : Int) : Bool := decide (0 ≤ i ∧ 0 ≤ j ∧ i < t.count ∧ j < t.count) && t.ahead i.toNat j.toNat
theorem befB_out {t : Tm} {i j : Int} (h : i < 0 ∨ j < 0 ∨ (t.count : Int) ≤ i ∨ (t.count : Int) ≤ j) : befB t i j = false := by
  unfold befB
  rw [decide_eq_false (by omega)]; rfl
theorem befB_in {t : Tm} {i j : Nat} (hi : i < t.count) (hj : j < t.count) : befB t i j = (decide (i < j) && decide (t.p i < t.p j)) := by
  unfold befB
  rw [decide_eq_true (by omega), Bool.true_and, Int.toNat_natCast, Int.toNat_natCast]
  have h := Tm.ahead_pos t 0 i j _ _ (Tm.p_get t hi) (Tm.p_get t hj)
  rw [Bool.eq_iff_iff, h]
  simp
theorem Fr.at1P {w : World} {l : List (Int × Int)} {A : Option Addr} {n cap : Nat} (h : Fr encP okPr 2 16 w l (.slice A n cap)) {q : Nat} {x : Int × Int} (hq : l[q]? = some x) :
    ∃ b off, A = some ⟨b, off, none⟩ ∧ b < w.heap.size ∧ w.cell? ⟨b, off + q * 2, none⟩ = some (.int .i64 x.1) ∧ w.cell? ⟨b, off + q * 2 + 1, none⟩ = some (.int .i64 x.2) := by
  obtain ⟨T, hT, r⟩ := h
  have hl := (List.getElem?_eq_some_iff.1 hq).1
  have he := (List.getElem?_eq_some_iff.1 hq).2
  obtain ⟨b, off, h1, h2, _, h4, h5⟩ := RdP.at1 r hl
  rw [he] at h4 h5
  exact ⟨b, off, h1, hT _ h2, h4, h5⟩
set_option maxHeartbeats 1000000 in
set_option maxRecDepth 100000 in
theorem before_any (t : Tm) (i j : Int) (w : World) (S : Blocks) (V : Value) (hS : Sub S (Upto w.heap.size)) (r : RdT w S t V) (hl : t.count ≤ 1048576) :
    Calls Try.prog 67 #[V, .int .i64 i, .int .i64 j] w fun e w' => e = .returned (.bool (befB t i j)) ∧ Below w.heap.size w w' := by
  obtain ⟨k, c, wr, lb, kids, v, et, rfl, h1, h2, h3, h4⟩ := id r
  obtain ⟨A1, n1, rfl, _⟩ := h4.form
  have bel : Below w.heap.size w (w.alloc (.cells #[.int .i64 k, .int .i64 c, .bool wr, .int .i64 lb, .slice A1 kids.length n1] 64)) := (Below.refl _ _).alloc (Nat.le_refl _) _
  have BEL := Lib.hid bel
  have RA := Lib.hid (r.go bel hS)
  have hsz : w.heap.size ≤ (w.alloc (.cells #[.int .i64 k, .int .i64 c, .bool wr, .int .i64 lb, .slice A1 kids.length n1] 64)).heap.size := by simp
  have HM := Lib.hid (Tm.marks_len t)
  have HS := Lib.hid hS
  unfold tmV
  clear h4 bel r et h1 h2 h3 hS
  go_enter Try.func67, Try.ntmps67
  go_wp2_with fail
  generalize w.alloc (.cells #[.int .i64 k, .int .i64 c, .bool wr, .int .i64 lb, .slice A1 kids.length n1] 64) = W at *
  refine (marks_any t W S _ (HS.out.trans (Sub.upto hsz)) RA.out hl).mono ?_
  rintro e w1 ⟨x, rfl, hx, hb1⟩
  have X1 := Lib.hid hx
  have FIN := Lib.hid (BEL.out.trans (hb1.mono hsz))
  obtain ⟨A2, n2, rfl, hn2, hn2m, -⟩ := hx.form
  unfold maxLen at hn2m
  clear hx hb1 RA BEL
  rw [HM.out] at *
  go_upto_region 2 with (fail)
  by_cases hout : i < 0 ∨ j < 0 ∨ (t.count : Int) ≤ i ∨ (t.count : Int) ≤ j
  · have HB := Lib.hid (befB_out hout)
    by_cases c1 : i < 0
    · clear hout
      go_wp2
      go_ret
      exact ⟨by rw [HB.out]; rfl, FIN.out⟩
    · by_cases c2 : j < 0
      · clear hout
        go_wp2
        go_ret
        exact ⟨by rw [HB.out]; rfl, FIN.out⟩
      · by_cases c3 : (t.count : Int) ≤ i
        · clear hout
          go_wp2
          go_ret
          exact ⟨by rw [HB.out]; rfl, FIN.out⟩
        · have c4 : (t.count : Int) ≤ j := by omega
          clear hout
          go_wp2
          go_ret
          exact ⟨by rw [HB.out]; rfl, FIN.out⟩
  · obtain ⟨i, rfl⟩ := Int.eq_ofNat_of_zero_le (show 0 ≤ i by omega)
    obtain ⟨j, rfl⟩ := Int.eq_ofNat_of_zero_le (show 0 ≤ j by omega)
    have hi : i < t.count := by omega
    have hj : j < t.count := by omega
    have mi : t.marks[i]? = some ((i : Int), (t.p i : Int)) := by have := zipP_get 0 _ _ _ (Tm.p_get t hi); rw [Nat.zero_add] at this; exact this
    have mj : t.marks[j]? = some ((j : Int), (t.p j : Int)) := by have := zipP_get 0 _ _ _ (Tm.p_get t hj); rw [Nat.zero_add] at this; exact this
    obtain ⟨b, off, hA, hbl, ci0, ci1⟩ := X1.out.at1P mi
    obtain ⟨b', off', hA', _, cj0, cj1⟩ := X1.out.at1P mj
    subst hA
    injection hA' with hA'
    injection hA' with e1 e2
    subst e1 e2
    dsimp only at ci0 ci1 cj0 cj1
    have HB := Lib.hid (befB_in hi hj)
    have hi0 : (0 : Int) ≤ (i : Int) := by omega
    have hj0 : (0 : Int) ≤ (j : Int) := by omega
    have hi1 : (i : Int) < (t.count : Int) := by omega
    have hj1 : (j : Int) < (t.count : Int) := by omega
    clear mi mj hout
    by_cases hij : i < j
    · have hd : decide ((i : Int) < (j : Int)) = true := by simp; omega
      go_wp2
      go_quiet (fail)
      go_wp2
      go_ret
      refine ⟨?_, below_drewN FIN.out _⟩
      rw [HB.out]
      simp [hij]
    · have hd : decide ((i : Int) < (j : Int)) = false := by simp; omega
      go_wp2
      go_quiet (fail)
      go_wp2
      go_ret
      refine ⟨?_, below_drewN FIN.out _⟩
      rw [HB.out]
      simp [hij]
end Go.Proofs.Ytmpononkbdfkmaa
