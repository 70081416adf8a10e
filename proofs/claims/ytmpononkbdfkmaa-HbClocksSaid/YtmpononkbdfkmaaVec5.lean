/- Walks of the closures of GTick and GJoin, and of these; the law's own walk. -/
import Derived.Test.YtmpononkbdfkmaaVec4
namespace Go.Proofs.Ytmpononkbdfkmaa
open Go.RowKit
set_option linter.unusedVariables false

set_option maxHeartbeats 400000 in
theorem gtick1_any (l : List Nat) (i : Int) (q : Nat) (b b' : Nat) (w : World) (S : Blocks) (v : Value) (r : RdU w S l v) (h1 : w.cell? ⟨b, 0, none⟩ = some (.int .i64 i)) (h2 : w.cell? ⟨b', 0, none⟩ = some v) :
    Calls Try.prog 73 #[.int .i64 (q : Int), .pointer (some ⟨b, 0, none⟩), .pointer (some ⟨b', 0, none⟩)] w fun e w' => e = .returned (.int .u64 (tickF l i q)) ∧ Below w.heap.size w w' := by
  have hok := hand_ok (l := l) (by obtain ⟨A, cap, rfl, _⟩ := r.form; exact r.oks) q
  unfold okU at hok
  by_cases hc : (q : Int) = i ∧ i ≤ 65535
  · have HT := Lib.hid (show tickF l i q = (hand l q + 1) % 18446744073709551616 by unfold tickF; rw [if_pos hc])
    obtain ⟨rfl, hc⟩ := hc
    have hw : IntKind.u64.wrap ((hand l q : Int) + 1) = (((hand l q + 1) % 18446744073709551616 : Nat) : Int) := by rw [IntKind.wrap_u64]; omega
    go_enter Try.func73, Try.ntmps73
    go_wp2_with (go_at_call 21; refine (hand_any l q _ S _ r).mono ?_; rintro e w' ⟨rfl, rfl⟩)
    go_ret
    exact ⟨by rw [HT.out]; rfl, Below.refl _ _⟩
  · have HT := Lib.hid (show tickF l i q = hand l q by unfold tickF; rw [if_neg hc])
    by_cases he : (q : Int) = i
    · subst he
      have hc' : ¬ (q : Int) ≤ 65535 := fun h => hc ⟨rfl, h⟩
      clear hc
      go_enter Try.func73, Try.ntmps73
      go_wp2_with (go_at_call 21; refine (hand_any l q _ S _ r).mono ?_; rintro e w' ⟨rfl, rfl⟩)
      go_ret
      exact ⟨by rw [HT.out]; rfl, Below.refl _ _⟩
    · have hne : ((q : Int) == i) = false := by simpa using he
      clear hc he
      go_enter Try.func73, Try.ntmps73
      go_wp2_with (go_at_call 21; refine (hand_any l q _ S _ r).mono ?_; rintro e w' ⟨rfl, rfl⟩)
      go_ret
      exact ⟨by rw [HT.out]; rfl, Below.refl _ _⟩

set_option maxHeartbeats 400000 in
theorem gjoin1_any (l m : List Nat) (q : Nat) (b b' : Nat) (w : World) (S T : Blocks) (v u : Value) (hS : Sub S (Upto w.heap.size)) (hT : Sub T (Upto w.heap.size)) (r : RdU w S l v) (r' : RdU w T m u) (h1 : w.cell? ⟨b, 0, none⟩ = some v) (h2 : w.cell? ⟨b', 0, none⟩ = some u) :
    Calls Try.prog 74 #[.int .i64 (q : Int), .pointer (some ⟨b, 0, none⟩), .pointer (some ⟨b', 0, none⟩)] w fun e w' => e = .returned (.int .u64 ((max (hand l q) (hand m q) : Nat) : Int)) ∧ Below w.heap.size w w' := by
  have hb1 := World.block_lt_of_cell? w _ h1
  have hb2 := World.block_lt_of_cell? w _ h2
  have R := Lib.hid r
  have R' := Lib.hid r'
  clear r r'
  rcases Nat.lt_or_ge (hand l q) (hand m q) with h | h
  · have hm := Lib.hid (show max (hand l q) (hand m q) = hand m q by omega)
    go_enter Try.func74, Try.ntmps74
    go_wp2
    go_region_held3 (fun w' => Stay w w') (((refine Stay.mk ?_; (repeat (with_reducible first | refine Kept.set ?_ (by omega) _ | refine Kept.drew ?_ | refine Kept.alloc ?_ _)); first | exact Kept.refl _ | assumption)))
      (first
        | (go_at_call_of 21 v; refine (hand_any l q _ S _ (R.out.keep Flat.keeps (Sub.refl _) (Same.sub (Stay.same (by assumption)) hS))).mono ?_; rintro e w' ⟨rfl, rfl⟩)
        | (go_at_call_of 21 u; refine (hand_any m q _ T _ (R'.out.keep Flat.keeps (Sub.refl _) (Same.sub (Stay.same (by assumption)) hT))).mono ?_; rintro e w' ⟨rfl, rfl⟩))
    have hbx := (Stay.below (by assumption : Stay w _))
    go_wp2
    go_ret
    exact ⟨by rw [hm.out]; rfl, hbx⟩
  · have hm := Lib.hid (show max (hand l q) (hand m q) = hand l q by omega)
    have hnl : ¬ hand l q < hand m q := by omega
    go_enter Try.func74, Try.ntmps74
    go_wp2
    go_region_held3 (fun w' => Stay w w') (((refine Stay.mk ?_; (repeat (with_reducible first | refine Kept.set ?_ (by omega) _ | refine Kept.drew ?_ | refine Kept.alloc ?_ _)); first | exact Kept.refl _ | assumption)))
      (first
        | (go_at_call_of 21 v; refine (hand_any l q _ S _ (R.out.keep Flat.keeps (Sub.refl _) (Same.sub (Stay.same (by assumption)) hS))).mono ?_; rintro e w' ⟨rfl, rfl⟩)
        | (go_at_call_of 21 u; refine (hand_any m q _ T _ (R'.out.keep Flat.keeps (Sub.refl _) (Same.sub (Stay.same (by assumption)) hT))).mono ?_; rintro e w' ⟨rfl, rfl⟩))
    have hbx := (Stay.below (by assumption : Stay w _))
    go_wp2
    go_ret
    exact ⟨by rw [hm.out]; rfl, hbx⟩
theorem tickF_ok {l : List Nat} (h : ∀ x ∈ l, okU x) (i : Int) (q : Nat) : okU (tickF l i q) := by
  unfold tickF
  split
  · exact Nat.mod_lt _ (by decide)
  · exact hand_ok h q

set_option maxHeartbeats 400000 in
theorem gtick_any (l : List Nat) (i : Int) (w : World) (S : Blocks) (v : Value) (hS : Sub S (Upto w.heap.size)) (r : RdU w S l v) :
    Calls Try.prog 24 #[v, .int .i64 i] w fun e w' => ∃ x, e = .returned x ∧ RdU w' (Plus Nowhere w.heap.size w'.heap.size) (tickL l i) x ∧ Below w.heap.size w w' := by
  obtain ⟨A, cap, rfl, hl, hcm, hby⟩ := r.form
  unfold maxLen at hcm
  have hb2 : Below w.heap.size w ((w.alloc (.cells #[.slice A l.length cap] 27)).alloc (.cells #[.int .i64 i] 3)) := ((Below.refl _ _).alloc (Nat.le_refl _) _).alloc (by simp) _
  have HE := Lib.hid (tick_eq l i)
  have hn8 : tickN l i * 8 ≤ 140737488355328 := by
    unfold tickN
    split
    · rename_i h
      have h2 : 0 ≤ i ∧ i ≤ 65535 := by simpa [inTick] using h
      omega
    · exact hby
  have hcl := clockOf_any 73 #[.pointer (some ⟨w.heap.size + 1, 0, none⟩), .pointer (some ⟨w.heap.size, 0, none⟩)] (tickF l i) (tickF_ok r.oks i) (tickN l i) hn8
    ((w.alloc (.cells #[.slice A l.length cap] 27)).alloc (.cells #[.int .i64 i] 3)) (fun args w => by kernel_rfl)
    (fun q w' hq hb => gtick1_any l i q _ _ w' S _ (r.go Flat.keeps (hb2.trans (hb.mono (by simp; omega))) hS (Sub.refl _)) ((hb.cell (by simp)).trans (by simp)) ((hb.cell (by simp; omega)).trans (by simp)))
  rw [HE.out] at hcl
  have HC := Lib.hid hcl
  clear hcl r hn8
  have fin : ∀ w' x, RdU w' (Plus Nowhere ((w.alloc (.cells #[.slice A l.length cap] 27)).alloc (.cells #[.int .i64 i] 3)).heap.size w'.heap.size) (tickL l i) x → Below ((w.alloc (.cells #[.slice A l.length cap] 27)).alloc (.cells #[.int .i64 i] 3)).heap.size ((w.alloc (.cells #[.slice A l.length cap] 27)).alloc (.cells #[.int .i64 i] 3)) w' →
      RdU w' (Plus Nowhere w.heap.size w'.heap.size) (tickL l i) x ∧ Below w.heap.size w w' := fun w' x hr hb =>
    ⟨hr.sub Flat.keeps (Sub.plus_mono (by simp; omega) (Nat.le_refl _)), hb2.trans (hb.mono (by simp; omega))⟩
  have FIN := Lib.hid fin
  clear fin hb2
  by_cases hin : inTick i = true
  · have h2 : 0 ≤ i ∧ i ≤ 65535 := by simpa [inTick] using hin
    obtain ⟨q, rfl⟩ := Int.eq_ofNat_of_zero_le h2.1
    have hq6 : (q : Int) ≤ 65535 := h2.2
    have hN := Lib.hid (show tickN l q = max l.length (q + 1) by unfold tickN; rw [if_pos hin]; rfl)
    clear hin h2
    rcases Nat.lt_or_ge l.length (q + 1) with h | h
    · have hN2 := Lib.hid (show tickN l q = q + 1 by rw [hN.out]; omega)
      have HC2 := HC.out
      rw [hN2.out] at HC2
      have HC3 := Lib.hid HC2
      clear HC2
      go_enter Try.func24, Try.ntmps24
      go_wp2_with (go_at_call 72; refine HC3.out.mono ?_; rintro e w' ⟨x, rfl, hx, hbx⟩)
      go_ret
      exact ⟨x, rfl, FIN.out _ _ hx hbx⟩
    · have hN2 := Lib.hid (show tickN l q = l.length by rw [hN.out]; omega)
      have HC2 := HC.out
      rw [hN2.out] at HC2
      have HC3 := Lib.hid HC2
      clear HC2
      go_enter Try.func24, Try.ntmps24
      go_wp2_with (go_at_call 72; refine HC3.out.mono ?_; rintro e w' ⟨x, rfl, hx, hbx⟩)
      go_ret
      exact ⟨x, rfl, FIN.out _ _ hx hbx⟩
  · have hN := Lib.hid (show tickN l i = l.length by unfold tickN; rw [if_neg hin])
    have h2 : i < 0 ∨ 65535 < i := by
      rcases Classical.em (0 ≤ i) with h | h
      · rcases Classical.em (i ≤ 65535) with h' | h'
        · exact absurd (by simp [inTick, h, h']) hin
        · exact .inr (by omega)
      · exact .inl (by omega)
    clear hin
    have HC2 := HC.out
    rw [hN.out] at HC2
    have HC3 := Lib.hid HC2
    clear HC2
    rcases h2 with h2 | h2
    all_goals
      go_enter Try.func24, Try.ntmps24
      go_wp2_with (go_at_call 72; refine HC3.out.mono ?_; rintro e w' ⟨x, rfl, hx, hbx⟩)
      go_ret
      exact ⟨x, rfl, FIN.out _ _ hx hbx⟩

set_option maxHeartbeats 400000 in
theorem gjoin_any (l m : List Nat) (w : World) (S T : Blocks) (v u : Value) (hS : Sub S (Upto w.heap.size)) (hT : Sub T (Upto w.heap.size)) (r : RdU w S l v) (r' : RdU w T m u) :
    Calls Try.prog 26 #[v, u] w fun e w' => ∃ x, e = .returned x ∧ RdU w' (Plus Nowhere w.heap.size w'.heap.size) (joinL l m) x ∧ Below w.heap.size w w' := by
  obtain ⟨A, cap, rfl, hl, hcm, hby⟩ := r.form
  obtain ⟨A', cap', rfl, hl', hcm', hby'⟩ := r'.form
  unfold maxLen at hcm hcm'
  have hb2 : Below w.heap.size w ((w.alloc (.cells #[.slice A l.length cap] 27)).alloc (.cells #[.slice A' m.length cap'] 27)) := ((Below.refl _ _).alloc (Nat.le_refl _) _).alloc (by simp) _
  have hcl := clockOf_any 74 #[.pointer (some ⟨w.heap.size, 0, none⟩), .pointer (some ⟨w.heap.size + 1, 0, none⟩)] (fun (q : Nat) => max (hand l q) (hand m q))
    (fun q => by have h1 := hand_ok r.oks q; have h2 := hand_ok r'.oks q; unfold okU at *; omega) (max l.length m.length) (by omega)
    ((w.alloc (.cells #[.slice A l.length cap] 27)).alloc (.cells #[.slice A' m.length cap'] 27)) (fun args w => by kernel_rfl)
    (fun q w' hq hb => gjoin1_any l m q _ _ w' S T _ _ (hS.lift (Nat.le_trans hb2.size hb.size)) (hT.lift (Nat.le_trans hb2.size hb.size)) (r.go Flat.keeps (hb2.trans (hb.mono (by simp; omega))) hS (Sub.refl _)) (r'.go Flat.keeps (hb2.trans (hb.mono (by simp; omega))) hT (Sub.refl _))
      ((hb.cell (by simp; omega)).trans (by simp)) ((hb.cell (by simp)).trans (by simp)))
  rw [join_eq] at hcl
  have fin : ∀ w' x, RdU w' (Plus Nowhere ((w.alloc (.cells #[.slice A l.length cap] 27)).alloc (.cells #[.slice A' m.length cap'] 27)).heap.size w'.heap.size) (joinL l m) x → Below ((w.alloc (.cells #[.slice A l.length cap] 27)).alloc (.cells #[.slice A' m.length cap'] 27)).heap.size ((w.alloc (.cells #[.slice A l.length cap] 27)).alloc (.cells #[.slice A' m.length cap'] 27)) w' →
      RdU w' (Plus Nowhere w.heap.size w'.heap.size) (joinL l m) x ∧ Below w.heap.size w w' := fun w' x hr hb =>
    ⟨hr.sub Flat.keeps (Sub.plus_mono (by simp; omega) (Nat.le_refl _)), hb2.trans (hb.mono (by simp; omega))⟩
  have FIN := Lib.hid fin
  have HC := Lib.hid hcl
  clear fin hb2 hcl r r'
  rcases Nat.lt_or_ge l.length m.length with h | h
  · have hN := Lib.hid (show max l.length m.length = m.length by omega)
    have HC2 := HC.out
    rw [hN.out] at HC2
    have HC3 := Lib.hid HC2
    clear HC2
    go_enter Try.func26, Try.ntmps26
    go_wp2_with (go_at_call 72; refine HC3.out.mono ?_; rintro e w' ⟨x, rfl, hx, hbx⟩)
    go_ret
    exact ⟨x, rfl, FIN.out _ _ hx hbx⟩
  · have hN := Lib.hid (show max l.length m.length = l.length by omega)
    have HC2 := HC.out
    rw [hN.out] at HC2
    have HC3 := Lib.hid HC2
    clear HC2
    go_enter Try.func26, Try.ntmps26
    go_wp2_with (go_at_call 72; refine HC3.out.mono ?_; rintro e w' ⟨x, rfl, hx, hbx⟩)
    go_ret
    exact ⟨x, rfl, FIN.out _ _ hx hbx⟩
end Go.Proofs.Ytmpononkbdfkmaa
