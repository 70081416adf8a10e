/- The walks of package span: sum, Span, Width, Work. -/
import Derived.Test.YtmpononkbdfkmaaSp4
namespace Go.Proofs.Ytmpononkbdfkmaa
open Go.RowKit
set_option linter.unusedVariables false
def fold2 (q : Bool) (a b : Nat) : Nat := if q then a + b else max a b
/-- q: what is one behind the other is added, what is side by side: the greater -/
def Tm.sumT (q : Bool) (t : Tm) : Nat :=
  match h : t.two with
  | some (p, a, b) => fold2 (q != p) (a.sumT q) (b.sumT q)
  | none => if t.kind = 1 then 1 else 0
termination_by SizeOf.sizeOf t
decreasing_by all_goals (have hs := Tm.two_size h; omega)
theorem Tm.sumT_two {q : Bool} {t a b : Tm} {p : Bool} (h : t.two = some (p, a, b)) : t.sumT q = fold2 (q != p) (a.sumT q) (b.sumT q) := by
  rw [Tm.sumT]; split <;> simp_all
theorem Tm.sumT_none {q : Bool} {t : Tm} (h : t.two = none) : t.sumT q = if t.kind = 1 then 1 else 0 := by
  rw [Tm.sumT]; split <;> simp_all
theorem Tm.sumT_le (q : Bool) (t : Tm) : t.sumT q ≤ t.count := by
  induction t using Tm.ind with
  | one t h => rw [Tm.sumT_none h, Tm.count_none h]; exact Nat.le_refl _
  | two t p a b h ha hb =>
    rw [Tm.sumT_two h, Tm.count_two h]
    unfold fold2
    split <;> omega
theorem plus_any (a b : Nat) (ha : a ≤ 1048576) (hb : b ≤ 1048576) (w : World) : Calls Try.prog 97 #[.int .i64 (a : Int), .int .i64 (b : Int)] w fun e w' => e = .returned (.int .i64 (fold2 true a b : Int)) ∧ w = w' := by
  have h1 : (a : Int) ≤ 1048576 := by omega
  have h2 : (b : Int) ≤ 1048576 := by omega
  go_enter Try.func97, Try.ntmps97
  go_wp2
  go_ret
  exact ⟨by simp [fold2], rfl⟩
theorem most_any (a b : Nat) (w : World) : Calls Try.prog 98 #[.int .i64 (a : Int), .int .i64 (b : Int)] w fun e w' => e = .returned (.int .i64 (fold2 false a b : Int)) ∧ w = w' := by
  rcases Nat.lt_or_ge a b with h | h
  · have hm := Lib.hid (show fold2 false a b = b by simp [fold2]; omega)
    go_enter Try.func98, Try.ntmps98
    go_wp2
    go_ret
    exact ⟨by rw [hm.out]; rfl, rfl⟩
  · have hm := Lib.hid (show fold2 false a b = a by simp [fold2]; omega)
    have hn : ¬ a < b := by omega
    go_enter Try.func98, Try.ntmps98
    go_wp2
    all_goals go_ret
    all_goals exact ⟨by rw [hm.out]; first | rfl | (congr 2; omega), rfl⟩
def fnV (q : Bool) : Value := if q then .func (.func 97) #[] #[] else .func (.func 98) #[] #[]
def Sums (q : Bool) (t : Tm) : Prop := ∀ (w : World) (S : Blocks) (V : Value), Sub S (Upto w.heap.size) → RdT w S t V → t.count ≤ 1048576 →
  Calls Try.prog 96 #[V, fnV q, fnV (!q)] w fun e w' => e = .returned (.int .i64 (t.sumT q : Int)) ∧ Below w.heap.size w w'
set_option maxHeartbeats 1000000 in
set_option maxRecDepth 100000 in
theorem sums_one (q : Bool) (t : Tm) (ht : t.two = none) : Sums q t := by
  intro w S V hS r hl
  obtain ⟨k, c, wr, lb, kids, v, rfl, rfl, hk, hc, hlb, hkids⟩ := r
  have HL := Lib.hid (Tm.sumT_none (q := q) ht)
  obtain ⟨A, cap, rfl, hc1, hc2, hc3⟩ := hkids.form
  have hn := Tm.two_none ht
  simp only [Tm.kind, Tm.kids] at hn
  unfold maxLen at hc2
  generalize fnV q = f1 at *
  generalize fnV (!q) = f2 at *
  unfold tmV
  clear hkids ht hk hl
  by_cases h1 : k = 1
  · subst h1
    have HL2 := Lib.hid (show (Tm.mk 1 c wr lb kids).sumT q = 1 by rw [HL.out, if_pos (by simp [Tm.kind])])
    clear hn
    go_enter Try.func96, Try.ntmps96
    go_wp2
    go_ret
    exact ⟨by rw [HL2.out]; rfl, (Below.refl _ _).alloc (Nat.le_refl _) _⟩
  · have HL2 := Lib.hid (show (Tm.mk k c wr lb kids).sumT q = 0 by rw [HL.out, if_neg (by simpa [Tm.kind] using h1)])
    have e1 : (k == 1) = false := by simpa using h1
    clear HL h1
    by_cases h2 : k = 2
    · subst h2
      have hk2 : kids.length < 2 := by omega
      clear hn
      go_enter Try.func96, Try.ntmps96
      go_wp2
      go_ret
      exact ⟨by rw [HL2.out]; rfl, (Below.refl _ _).alloc (Nat.le_refl _) _⟩
    · by_cases h3 : k = 3
      · subst h3
        have hk2 : kids.length < 2 := by omega
        clear hn
        go_enter Try.func96, Try.ntmps96
        go_wp2
        go_ret
        exact ⟨by rw [HL2.out]; rfl, (Below.refl _ _).alloc (Nat.le_refl _) _⟩
      · have e2 : (k != 2) = true := by simpa using h2
        have e3 : (k != 3) = true := by simpa using h3
        clear hn h2 h3
        go_enter Try.func96, Try.ntmps96
        go_wp2
        go_ret
        exact ⟨by rw [HL2.out]; rfl, (Below.refl _ _).alloc (Nat.le_refl _) _⟩
set_option maxHeartbeats 1000000 in
set_option maxRecDepth 100000 in
theorem sums_two (q : Bool) (t : Tm) (p : Bool) (a b : Tm) (ht : t.two = some (p, a, b)) (iha : Sums q a) (ihb : Sums q b) : Sums q t := by
  intro w S V hS r hl
  obtain ⟨k, c, wr, lb, kids, v, rfl, rfl, hk, hc, hlb, hkids⟩ := r
  obtain ⟨hkk, r', hr'⟩ := Tm.two_kind ht
  simp only [Tm.kind, Tm.kids] at hkk hr'
  subst hr'
  have HL := Lib.hid (Tm.sumT_two (q := q) ht)
  rw [Tm.count_two ht] at hl
  obtain ⟨A, cap, rfl, hcl, hcm, _⟩ := hkids.form
  have hl2 : 2 ≤ (a :: b :: r').length := by simp
  have bel : Below w.heap.size w (w.alloc (.cells #[.int .i64 k, .int .i64 c, .bool wr, .int .i64 lb, .slice A (a :: b :: r').length cap] 64)) := (Below.refl _ _).alloc (Nat.le_refl _) _
  have K2 := hkids.go RdTm.keeps bel hS (Sub.refl _)
  obtain ⟨b0, off, k0, c0, wr0, lb0, v0, rfl, hsb, x0, x1, x2, x3, x4, ra⟩ := RdTms.kid K2 (q := 0) (by simp)
  obtain ⟨b0', off', k1, c1, wr1, lb1, v1, hA, hsb', y0, y1, y2, y3, y4, rb⟩ := RdTms.kid K2 (q := 1) (by simp)
  injection hA with hA
  injection hA with e1 e2
  subst e1 e2
  simp only [List.getElem_cons_zero, List.getElem_cons_succ] at ra rb
  rw [Nat.zero_mul, Nat.add_zero] at x0 x1 x2 x3 x4
  rw [Nat.one_mul] at y0 y1 y2 y3 y4
  have RA := Lib.hid ra
  have RB := Lib.hid rb
  have BEL := Lib.hid bel
  have BB := Lib.hid (Blk.made w [.int .i64 k, .int .i64 c, .bool wr, .int .i64 lb, .slice (some ⟨b0, off, none⟩) (a :: b :: r').length cap] 64 (base := 0) (Nat.zero_le _))
  have hsz : (w.alloc (.cells #[.int .i64 k, .int .i64 c, .bool wr, .int .i64 lb, .slice (some ⟨b0, off, none⟩) (a :: b :: r').length cap] 64)).heap.size = w.heap.size + 1 := by simp
  have IHa := Lib.hid iha
  have IHb := Lib.hid ihb
  have HKK := Lib.hid hkk
  have HQA := Lib.hid (fun q => Nat.le_trans (Tm.sumT_le q a) (show a.count ≤ 1048576 by omega))
  have HQB := Lib.hid (fun q => Nat.le_trans (Tm.sumT_le q b) (show b.count ≤ 1048576 by omega))
  have sa := Tm.sumT_le q a
  have sb := Tm.sumT_le q b
  have ha0 : a.sumT q ≤ 1048576 := by omega
  have hb0' : b.sumT q ≤ 1048576 := by omega
  have hb0 : b0 < w.heap.size := hS _ hsb
  have HS := Lib.hid hS
  generalize (a :: b :: r').length = n' at *
  generalize hva : a.sumT q = va at *
  generalize hvb : b.sumT q = vb at *
  have HVA := Lib.hid hva
  have HVB := Lib.hid hvb
  clear ra rb hkids K2 ht iha ihb hS bel hk hkk hva hvb sa sb
  have hn0 : (0 : Int) < (n' : Int) := by omega
  have hn00 : 0 < n' := by omega
  have hn1 : (1 : Int) < (n' : Int) := by omega
  have CA := Lib.hid (show a.count ≤ 1048576 by omega)
  have CB := Lib.hid (show b.count ≤ 1048576 by omega)
  unfold tmV
  unfold maxLen at hcm
  have goal : ∀ (kv : Int), kv = k → Hid (k = kv) := fun kv e => Lib.hid e.symm
  clear goal
  cases p
  all_goals
    have hkk := HKK.out
    simp only [Bool.false_eq_true, if_false, if_true] at hkk
    subst hkk
    clear HKK
    cases q
    all_goals
      unfold fnV
      simp only [Bool.not_true, Bool.not_false, Bool.false_eq_true, if_false, if_true]
      go_enter Try.func96, Try.ntmps96
      go_upto_region 6 with (fail)
      have z4 := BB.out.cell 4 _ rfl
      have hsw := hsz
      generalize w.alloc (.cells #[.int .i64 _, .int .i64 c, .bool wr, .int .i64 lb, .slice (some ⟨b0, off, none⟩) n' cap] 64) = W at *
      have hs1 := Nat.le_of_eq hsw
      have hs2 := Nat.le_of_eq hsw.symm
      clear hsw hsz
      have SW := Lib.hid (HS.out.trans (Sub.upto (show w.heap.size ≤ W.heap.size by omega)))
      have HWP := Lib.hid (fun w' h => Stay.size h : ∀ w', Stay W w' → W.heap.size ≤ w'.heap.size)
      have hwz : w.heap.size < W.heap.size := by omega
      have hbz : b0 < W.heap.size := by omega
      go_region_held3 (fun w' => Stay W w') (first | assumption | exact Stay.mk (Kept.start _) | ((refine Stay.mk ?_; (repeat (with_reducible first | refine Kept.set ?_ (by omega) _ | refine Kept.drew ?_ | refine Kept.alloc ?_ _)); first | exact Kept.refl _ | assumption)))
        (first
          | ((go_at_call_of 96 (Value.agg #[.int .i64 k0, .int .i64 c0, .bool wr0, .int .i64 lb0, v0]); refine (IHa.out _ S _ (SW.out.trans (Sub.upto (HWP.out _ (by assumption)))) (RA.out.keep (Sub.refl _) (Same.sub (Stay.same (by assumption)) SW.out)) CA.out).mono ?_; rintro e wa ⟨rfl, hb1⟩; have hst1 : Stay W wa := Stay.step hb1 (by assumption); have hk1 : Kept W wa := Kept.here hst1))
          | ((go_at_call_of 96 (Value.agg #[.int .i64 k1, .int .i64 c1, .bool wr1, .int .i64 lb1, v1]); refine (IHb.out _ S _ (SW.out.trans (Sub.upto (HWP.out _ (by assumption)))) (RB.out.keep (Sub.refl _) (Same.sub (Stay.same (by assumption)) SW.out)) CB.out).mono ?_; rintro e wb ⟨rfl, hb2⟩; have hst2 : Stay W wb := Stay.step hb2 (by assumption); have hk2 : Kept W wb := Kept.here hst2)))
      go_wp2_with (first | (go_at_call 97; refine (plus_any _ _ (HQA.out _) (HQB.out _) _).mono ?_; rintro e w' ⟨rfl, rfl⟩) | (go_at_call 98; refine (most_any _ _ _).mono ?_; rintro e w' ⟨rfl, rfl⟩))
      go_ret
      refine ⟨?_, BEL.out.trans (hst2.below.mono (by omega))⟩
      rw [HL.out, ← HVA.out, ← HVB.out]; rfl
theorem sums_all (q : Bool) (t : Tm) : Sums q t := Tm.ind (sums_one q) (sums_two q) t
set_option maxHeartbeats 1000000 in
set_option maxRecDepth 100000 in
theorem span_any (t : Tm) (w : World) (S : Blocks) (V : Value) (hS : Sub S (Upto w.heap.size)) (r : RdT w S t V) (hl : t.count ≤ 1048576) :
    Calls Try.prog 56 #[V] w fun e w' => e = .returned (.int .i64 (t.sumT true : Int)) ∧ Below w.heap.size w w' := by
  obtain ⟨k, c, wr, lb, kids, v, et, rfl, h1, h2, h3, h4⟩ := id r
  obtain ⟨A1, n1, rfl, _⟩ := h4.form
  have bel : Below w.heap.size w (w.alloc (.cells #[.int .i64 k, .int .i64 c, .bool wr, .int .i64 lb, .slice A1 kids.length n1] 64)) := (Below.refl _ _).alloc (Nat.le_refl _) _
  have BEL := Lib.hid bel
  have RA := Lib.hid (r.go bel hS)
  have HS := Lib.hid hS
  have HQ := Lib.hid (sums_all true t)
  unfold tmV
  clear h4 bel r et h1 h2 h3 hS
  go_enter Try.func56, Try.ntmps56
  go_wp2_with fail
  refine (HQ.out _ S _ (HS.out.trans (Sub.upto (by simp))) RA.out hl).mono ?_
  rintro e w1 ⟨rfl, hb⟩
  go_wp2
  go_ret
  exact ⟨rfl, BEL.out.trans (hb.mono (by simp))⟩
set_option maxHeartbeats 1000000 in
set_option maxRecDepth 100000 in
theorem width_any (t : Tm) (w : World) (S : Blocks) (V : Value) (hS : Sub S (Upto w.heap.size)) (r : RdT w S t V) (hl : t.count ≤ 1048576) :
    Calls Try.prog 58 #[V] w fun e w' => e = .returned (.int .i64 (t.sumT false : Int)) ∧ Below w.heap.size w w' := by
  obtain ⟨k, c, wr, lb, kids, v, et, rfl, h1, h2, h3, h4⟩ := id r
  obtain ⟨A1, n1, rfl, _⟩ := h4.form
  have bel : Below w.heap.size w (w.alloc (.cells #[.int .i64 k, .int .i64 c, .bool wr, .int .i64 lb, .slice A1 kids.length n1] 64)) := (Below.refl _ _).alloc (Nat.le_refl _) _
  have BEL := Lib.hid bel
  have RA := Lib.hid (r.go bel hS)
  have HS := Lib.hid hS
  have HQ := Lib.hid (sums_all false t)
  unfold tmV
  clear h4 bel r et h1 h2 h3 hS
  go_enter Try.func58, Try.ntmps58
  go_wp2_with fail
  refine (HQ.out _ S _ (HS.out.trans (Sub.upto (by simp))) RA.out hl).mono ?_
  rintro e w1 ⟨rfl, hb⟩
  go_wp2
  go_ret
  exact ⟨rfl, BEL.out.trans (hb.mono (by simp))⟩
set_option maxHeartbeats 1000000 in
set_option maxRecDepth 100000 in
theorem work_any (t : Tm) (w : World) (S : Blocks) (V : Value) (hS : Sub S (Upto w.heap.size)) (r : RdT w S t V) (hl : t.count ≤ 1048576) :
    Calls Try.prog 54 #[V] w fun e w' => e = .returned (.int .i64 (t.leaves.length : Int)) ∧ Below w.heap.size w w' := by
  obtain ⟨k, c, wr, lb, kids, v, et, rfl, h1, h2, h3, h4⟩ := id r
  obtain ⟨A1, n1, rfl, _⟩ := h4.form
  have bel : Below w.heap.size w (w.alloc (.cells #[.int .i64 k, .int .i64 c, .bool wr, .int .i64 lb, .slice A1 kids.length n1] 64)) := (Below.refl _ _).alloc (Nat.le_refl _) _
  have BEL := Lib.hid bel
  have RA := Lib.hid (r.go bel hS)
  have HS := Lib.hid hS
  unfold tmV
  clear h4 bel r et h1 h2 h3 hS
  go_enter Try.func54, Try.ntmps54
  go_wp2_with fail
  refine (leaves_any t _ S _ (HS.out.trans (Sub.upto (by simp))) RA.out hl).mono ?_
  rintro e w1 ⟨x, rfl, hx, hb⟩
  obtain ⟨A2, n2, rfl, -, -, -⟩ := hx.form
  clear hx
  go_wp2
  go_ret
  exact ⟨rfl, BEL.out.trans (hb.mono (by simp))⟩
end Go.Proofs.Ytmpononkbdfkmaa
