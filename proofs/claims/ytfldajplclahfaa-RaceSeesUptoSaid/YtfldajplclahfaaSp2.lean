/- The walks of sp.tell with a visitor that gathers leaves, and of sp.Leaves. -/
import Derived.Test.YtfldajplclahfaaGSp1
namespace Go.Proofs.Ytfldajplclahfaa
open Go.RowKit
set_option linter.unusedVariables false
abbrev lvI (d : Nat) : Value := .iface 73 (.pointer (some ⟨d, 0, none⟩))
theorem lnothing_any (d : Nat) (w : World) : Calls Try.prog 103 #[.pointer (some ⟨d, 0, none⟩)] w fun e w' => e = .returned (.tuple #[]) ∧ w = w' := by
  go_enter Try.func103, Try.ntmps103
  go_wp2
  go_end0
  exact ⟨rfl, rfl⟩
theorem m_lone (a : Addr) (w : World) : (method 244 73 (.pointer (some a)) "forkwright/sp.one").run Try.prog w = .ok (104, .pointer (some a)) w := by kernel_rfl
theorem m_lno (a : Addr) (w : World) : (method 244 73 (.pointer (some a)) "forkwright/sp.nothing").run Try.prog w = .ok (103, .pointer (some a)) w := by kernel_rfl
theorem m_ltwo (a : Addr) (w : World) : (method 244 73 (.pointer (some a)) "forkwright/sp.two").run Try.prog w = .ok (105, .pointer (some a)) w := by kernel_rfl
theorem n_ltwo (a : Addr) (w : World) : (nilAhead 244 73 (.pointer (some a)) "forkwright/sp.two").run Try.prog w = .ok (some false) w := by kernel_rfl
/-- tell gathers the leaves of t -/
def Tells (t : Tm) : Prop := ∀ (base : Nat) (w : World) (d : Nat) (X : Blocks) (l : List Acc) (S : Blocks) (V : Value), LvAt base w d X l → l.length + t.count ≤ 1048576 → RdT w S t V → Sub S (Upto base) →
  Calls Try.prog 44 #[V, lvI d] w fun e w' => e = .returned (.tuple #[]) ∧ ∃ X', LvAt base w' d X' (l ++ t.leaves) ∧ Sub X' (Plus X w.heap.size w'.heap.size) ∧ But X w w'
set_option maxHeartbeats 1000000 in
set_option maxRecDepth 100000 in
theorem tells_one (t : Tm) (ht : t.two = none) : Tells t := by
  intro base w d X l S V h hl r hS
  obtain ⟨k, c, wr, lb, kids, v, rfl, rfl, hk, hc, hlb, hkids⟩ := r
  have HL := Lib.hid (Tm.leaves_none ht)
  have HC := Lib.hid (Tm.count_none ht)
  by_cases h1 : k = 1
  · subst h1
    obtain ⟨A, cap, rfl, _, _, _⟩ := hkids.form
    clear hkids
    unfold tmV lvI
    have hm := m_lone ⟨d, 0, none⟩
    have h2 := h.but (T := Nowhere) ((But.refl Nowhere w).alloc (.cells #[.int .i64 1, .int .i64 c, .bool wr, .int .i64 lb, .slice A kids.length cap] 26)) (fun _ _ h => h)
    have H2 := Lib.hid h2
    have hl2 : l.length ≤ 1048576 := by omega
    clear h h2 hl
    go_enter Try.func44, Try.ntmps44
    go_wp2_with fail
    refine (lone_any H2.out hl2 c wr lb hc hlb).mono ?_
    rintro e w' ⟨rfl, hr⟩
    go_wp2
    go_end0
    refine ⟨rfl, ?_⟩
    rw [HL.out]
    exact lv_first ((Below.refl _ _).alloc (Nat.le_refl _) _) hr
  · have hL2 := Lib.hid (show (Tm.mk k c wr lb kids).leaves = [] by rw [HL.out, if_neg (by simpa [Tm.kind] using h1)])
    have hm := m_lno ⟨d, 0, none⟩
    obtain ⟨A, cap, rfl, hc1, hc2, hc3⟩ := hkids.form
    have hn := Tm.two_none ht
    simp only [Tm.kind, Tm.kids] at hn
    have e1 : (k == 1) = false := by simpa using h1
    have H0 := Lib.hid h
    unfold maxLen at hc2
    unfold tmV lvI
    clear hkids h ht HL HC h1 hk hl
    by_cases h2 : k = 2
    · subst h2
      have hk2 : kids.length < 2 := by omega
      clear hn
      go_enter Try.func44, Try.ntmps44
      go_wp2_with fail
      refine (lnothing_any d _).mono ?_
      rintro e w' ⟨rfl, rfl⟩
      go_wp2
      go_end0
      rw [hL2.out, List.append_nil]
      exact ⟨rfl, X, H0.out.but (T := Nowhere) ((But.refl _ _).alloc _) (fun _ _ h => h), Sub.plus _ _ _, (But.refl _ _).alloc _⟩
    · by_cases h3 : k = 3
      · subst h3
        have hk2 : kids.length < 2 := by omega
        clear hn
        go_enter Try.func44, Try.ntmps44
        go_wp2_with fail
        refine (lnothing_any d _).mono ?_
        rintro e w' ⟨rfl, rfl⟩
        go_wp2
        go_end0
        rw [hL2.out, List.append_nil]
        exact ⟨rfl, X, H0.out.but (T := Nowhere) ((But.refl _ _).alloc _) (fun _ _ h => h), Sub.plus _ _ _, (But.refl _ _).alloc _⟩
      · have e2 : (k == 2) = false := by simpa using h2
        have e3 : (k == 3) = false := by simpa using h3
        clear hn h2 h3
        go_enter Try.func44, Try.ntmps44
        go_wp2_with fail
        refine (lnothing_any d _).mono ?_
        rintro e w' ⟨rfl, rfl⟩
        go_wp2
        go_end0
        rw [hL2.out, List.append_nil]
        exact ⟨rfl, X, H0.out.but (T := Nowhere) ((But.refl _ _).alloc _) (fun _ _ h => h), Sub.plus _ _ _, (But.refl _ _).alloc _⟩
set_option maxHeartbeats 1000000 in
set_option maxRecDepth 100000 in
theorem ltwo_any (a b : Tm) (ha : Tells a) (hb : Tells b) (p : Bool) (base : Nat) (w : World) (d : Nat) (X : Blocks) (l : List Acc) (S : Blocks) (Va Vb : Value) (h : LvAt base w d X l) (hl : l.length + (a.count + b.count) ≤ 1048576) (ra : RdT w S a Va) (rb : RdT w S b Vb) (hS : Sub S (Upto base)) :
    Calls Try.prog 105 #[.pointer (some ⟨d, 0, none⟩), .bool p, Va, Vb] w fun e w' => e = .returned (.tuple #[]) ∧ ∃ X', LvAt base w' d X' (l ++ (a.leaves ++ b.leaves)) ∧ Sub X' (Plus X w.heap.size w'.heap.size) ∧ But X w w' := by
  have hXb : ∀ b, X b → base ≤ b ∧ b < w.heap.size := by obtain ⟨_, _, _, _, h4, _⟩ := h; exact h4
  have hbw : base ≤ w.heap.size := by obtain ⟨_, h1, _, _, _, _⟩ := h; have := h1.lt; have := h1.ge; omega
  have HA := Lib.hid ha
  have HB := Lib.hid hb
  have hlen : l.length + a.count ≤ 1048576 := by omega
  obtain ⟨k, c, wr, lb, kids, v, ea, rfl, _, _, _, hka⟩ := id ra
  obtain ⟨A1, n1, rfl, _⟩ := hka.form
  obtain ⟨k', c', wr', lb', kids', v', eb, rfl, _, _, _, hkb⟩ := id rb
  obtain ⟨A2, n2, rfl, _⟩ := hkb.form
  have bel : Below w.heap.size w ((w.alloc (.cells #[.int .i64 k, .int .i64 c, .bool wr, .int .i64 lb, .slice A1 kids.length n1] 26)).alloc (.cells #[.int .i64 k', .int .i64 c', .bool wr', .int .i64 lb', .slice A2 kids'.length n2] 26)) := ((Below.refl _ _).alloc (Nat.le_refl _) _).alloc (by simp) _
  have RA := Lib.hid (ra.go bel (hS.trans (Sub.upto hbw)))
  have RB := Lib.hid (rb.go bel (hS.trans (Sub.upto hbw)))
  have H := Lib.hid (h.but (T := Nowhere) (But.of_below bel) (fun _ _ h => h))
  have B2 := Lib.hid (show Blk 0 ((w.alloc (.cells #[.int .i64 k, .int .i64 c, .bool wr, .int .i64 lb, .slice A1 kids.length n1] 26)).alloc (.cells #[.int .i64 k', .int .i64 c', .bool wr', .int .i64 lb', .slice A2 kids'.length n2] 26)) (w.heap.size + 1) [.int .i64 k', .int .i64 c', .bool wr', .int .i64 lb', .slice A2 kids'.length n2] by
    have := Blk.made (w.alloc (.cells #[.int .i64 k, .int .i64 c, .bool wr, .int .i64 lb, .slice A1 kids.length n1] 26)) [.int .i64 k', .int .i64 c', .bool wr', .int .i64 lb', .slice A2 kids'.length n2] 26 (base := 0) (Nat.zero_le _)
    rwa [World.size_alloc] at this)
  have HX := Lib.hid hXb
  have HS := Lib.hid hS
  have hbz := bel.size
  have BEL := Lib.hid bel
  unfold tmV
  clear h ra rb hka hkb hXb hS ha hb bel ea eb
  go_enter Try.func105, Try.ntmps105
  go_upto_region 1 with (fail)
  have hc0 : ((w.alloc (.cells #[.int .i64 k, .int .i64 c, .bool wr, .int .i64 lb, .slice A1 kids.length n1] 26)).alloc (.cells #[.int .i64 k', .int .i64 c', .bool wr', .int .i64 lb', .slice A2 kids'.length n2] 26)).cell? ⟨w.heap.size, 0, none⟩ = some (.int .i64 k) ∧ ((w.alloc (.cells #[.int .i64 k, .int .i64 c, .bool wr, .int .i64 lb, .slice A1 kids.length n1] 26)).alloc (.cells #[.int .i64 k', .int .i64 c', .bool wr', .int .i64 lb', .slice A2 kids'.length n2] 26)).cell? ⟨w.heap.size, 1, none⟩ = some (.int .i64 c) ∧ ((w.alloc (.cells #[.int .i64 k, .int .i64 c, .bool wr, .int .i64 lb, .slice A1 kids.length n1] 26)).alloc (.cells #[.int .i64 k', .int .i64 c', .bool wr', .int .i64 lb', .slice A2 kids'.length n2] 26)).cell? ⟨w.heap.size, 2, none⟩ = some (.bool wr) ∧ ((w.alloc (.cells #[.int .i64 k, .int .i64 c, .bool wr, .int .i64 lb, .slice A1 kids.length n1] 26)).alloc (.cells #[.int .i64 k', .int .i64 c', .bool wr', .int .i64 lb', .slice A2 kids'.length n2] 26)).cell? ⟨w.heap.size, 3, none⟩ = some (.int .i64 lb) ∧ ((w.alloc (.cells #[.int .i64 k, .int .i64 c, .bool wr, .int .i64 lb, .slice A1 kids.length n1] 26)).alloc (.cells #[.int .i64 k', .int .i64 c', .bool wr', .int .i64 lb', .slice A2 kids'.length n2] 26)).cell? ⟨w.heap.size, 4, none⟩ = some (.slice A1 kids.length n1) := by simp
  obtain ⟨W, hW⟩ : ∃ W, W = (w.alloc (.cells #[.int .i64 k, .int .i64 c, .bool wr, .int .i64 lb, .slice A1 kids.length n1] 26)).alloc (.cells #[.int .i64 k', .int .i64 c', .bool wr', .int .i64 lb', .slice A2 kids'.length n2] 26) := ⟨_, rfl⟩
  rw [← hW] at RA RB H B2 BEL hc0 hbz ⊢
  obtain ⟨c0, c1, c2, c3, c4⟩ := hc0
  have hWs : W.heap.size = w.heap.size + 2 := by rw [hW]; simp
  have hW1 := Nat.le_of_eq hWs
  have hW2 := Nat.le_of_eq hWs.symm
  clear hW hWs
  go_wp2_with fail
  refine (HA.out base W d X l S _ H.out hlen RA.out HS.out).mono ?_
  rintro e w1 ⟨rfl, X1, h1, hs1, hk1⟩
  have hz1 := hk1.size
  have hlen2 : (l ++ a.leaves).length + b.count ≤ 1048576 := by rw [List.length_append]; have : a.count = a.leaves.length := rfl; omega
  have B3 := Lib.hid (B2.out.but hk1 (fun hx => by have := (HX.out _ hx).2; omega))
  have RB1 := Lib.hid (RB.out.but hk1 (HS.out.trans (Sub.upto (by omega))) (fun b hb hx => by have := HS.out b hb; have := (HX.out _ hx).1; simp only [Upto] at *; omega))
  have H1 := Lib.hid h1
  have HS1 := Lib.hid hs1
  have HK1 := Lib.hid hk1
  clear h1 hs1 hk1 c0 c1 c2 c3 c4
  have d0 := B3.out.cell 0 _ rfl
  have d1 := B3.out.cell 1 _ rfl
  have d2 := B3.out.cell 2 _ rfl
  have d3 := B3.out.cell 3 _ rfl
  have d4 := B3.out.cell 4 _ rfl
  go_wp2_with fail
  refine (HB.out base w1 d X1 (l ++ a.leaves) S _ H1.out hlen2 RB1.out HS.out).mono ?_
  rintro e w2 ⟨rfl, X2, h2, hs2, hk2⟩
  go_wp2
  go_end0
  refine ⟨rfl, X2, by rw [← List.append_assoc]; exact h2, ?_, ?_⟩
  · have hz2 := hk2.size
    intro b hb
    rcases hs2 b hb with h | h
    · rcases HS1.out b h with h | h
      · exact .inl h
      · exact .inr ⟨by omega, by omega⟩
    · exact .inr ⟨by omega, by omega⟩
  · have k1 : But X w w1 := (But.of_below BEL.out).trans HK1.out
    refine ⟨hk2.os.trans k1.os, hk2.tape.trans k1.tape, hk2.output.trans k1.output, Nat.le_trans k1.size hk2.size, fun k hk hx => ?_⟩
    rw [hk2.block k (by have := k1.size; omega) (fun h => by
      rcases HS1.out k h with h | h
      · exact hx h
      · omega)]
    exact k1.block k hk hx
end Go.Proofs.Ytfldajplclahfaa
