/- The walks of sp.Count: a visitor that counts. -/
import Derived.Test.YtknaoianhjeccaaDoorSg1
import Derived.Test.YtknaoianhjeccaaDoorRowAt
import Derived.Test.YtknaoianhjeccaaDoorSp4
namespace Go.Proofs.YtknaoianhjeccaaDoor
open Go.RowKit
set_option linter.unusedVariables false
/-- all that was there is as it was, but for block R -/
abbrev StayD (R : Nat) (W w' : World) : Prop :=
  (∀ p : Addr, p.block < W.heap.size → p.block ≠ R → w'.cell? p = W.cell? p) ∧ (∀ p : Addr, p.block < W.heap.size → w'.frozen? p = W.frozen? p) ∧ But (Is R) W w'
theorem StayD.of_stay {R : Nat} {W w' : World} (h : Stay W w') : StayD R W w' := ⟨fun p hp _ => h.1 p hp, fun p hp => h.2.1 p hp, But.of_below h.below⟩
theorem StayD.set {R o : Nat} {W w' : World} (h : StayD R W w') (u : Value) : StayD R W (w'.setCell ⟨R, o, none⟩ u) :=
  ⟨fun p hp hn => (World.cell?_setCell_other w' ⟨R, o, none⟩ p u (fun e => hn (by rw [← e]))).trans (h.1 p hp hn), fun p hp => by rw [World.frozen?_setCell]; exact h.2.1 p hp, h.2.2.setCell (p := ⟨R, o, none⟩) rfl u⟩
abbrev ctI (d : Nat) : Value := .iface 67 (.pointer (some ⟨d, 0, none⟩))
set_option maxHeartbeats 400000 in
theorem cone_any {base : Nat} {w : World} {d : Nat} {v0 v1 : Value} (h : Blk base w d [v0, v1]) (c : Int) (wr : Bool) (lb : Int) :
    Calls Tryd.prog 60 #[.pointer (some ⟨d, 0, none⟩), accV c wr lb] w fun e w' => e = .returned (.tuple #[]) ∧ Blk base w' d [.int .i64 1, .int .u64 1] ∧ But (Is d) w w' := by
  have bel : Below w.heap.size w (w.alloc (.cells #[.int .i64 c, .bool wr, .int .i64 lb] 32)) := (Below.refl _ _).alloc (Nat.le_refl _) _
  have K1 := Lib.hid (h.below bel)
  have K3 : But (Is d) w (w.alloc (.cells #[.int .i64 c, .bool wr, .int .i64 lb] 32)) := But.of_below bel
  unfold accV
  clear h bel
  go_enter Tryd.func60, Tryd.ntmps60
  go_upto_region 1 with (fail)
  generalize w.alloc (.cells #[.int .i64 c, .bool wr, .int .i64 lb] 32) = W at *
  have c0 := K1.out.cell 0 _ rfl
  have c1 := K1.out.cell 1 _ rfl
  have f0 := K1.out.fr 0
  have f1 := K1.out.fr 1
  go_wp2
  go_end0
  have h1 := (K1.out.set (i := 0) (by simp) (.int .i64 1)).set (i := 1) (by simp) (.int .u64 1)
  exact ⟨rfl, h1, (K3.setCell (p := ⟨d, 0, none⟩) rfl _).setCell (p := ⟨d, 1, none⟩) rfl _⟩
set_option maxHeartbeats 400000 in
theorem cnothing_any {base : Nat} {w : World} {d : Nat} {v0 v1 : Value} (h : Blk base w d [v0, v1]) : Calls Tryd.prog 59 #[.pointer (some ⟨d, 0, none⟩)] w fun e w' => e = .returned (.tuple #[]) ∧ Blk base w' d [.int .i64 0, .int .u64 1] ∧ But (Is d) w w' := by
  have K1 := Lib.hid h
  have c0 := h.cell 0 _ rfl
  have c1 := h.cell 1 _ rfl
  have f0 := h.fr 0
  have f1 := h.fr 1
  clear h
  go_enter Tryd.func59, Tryd.ntmps59
  go_wp2
  go_end0
  have h1 := (K1.out.set (i := 0) (by simp) (.int .i64 0)).set (i := 1) (by simp) (.int .u64 1)
  exact ⟨rfl, h1, ((But.refl (Is d) _).setCell (p := ⟨d, 0, none⟩) rfl _).setCell (p := ⟨d, 1, none⟩) rfl _⟩
theorem m_cone (a : Addr) (w : World) : (method 216 67 (.pointer (some a)) "forkwright/sp.one").run Tryd.prog w = .ok (60, .pointer (some a)) w := by kernel_rfl
theorem m_cno (a : Addr) (w : World) : (method 216 67 (.pointer (some a)) "forkwright/sp.nothing").run Tryd.prog w = .ok (59, .pointer (some a)) w := by kernel_rfl
theorem m_ctwo (a : Addr) (w : World) : (method 216 67 (.pointer (some a)) "forkwright/sp.two").run Tryd.prog w = .ok (61, .pointer (some a)) w := by kernel_rfl
theorem n_ctwo (a : Addr) (w : World) : (nilAhead 216 67 (.pointer (some a)) "forkwright/sp.two").run Tryd.prog w = .ok (some false) w := by kernel_rfl
/-- the cells of a counter that has counted t -/
abbrev cntV (t : Tm) : List Value := [.int .i64 (t.count : Int), .int .u64 ((t.ways % 18446744073709551616 : Nat) : Int)]
/-- tell counts the orders of t -/
def CTells (t : Tm) : Prop := ∀ (base : Nat) (w : World) (d : Nat) (v0 v1 : Value) (S : Blocks) (V : Value), Blk base w d [v0, v1] → t.count ≤ 1048576 → RdT w S t V → Sub S (Upto base) →
  Calls Tryd.prog 23 #[V, ctI d] w fun e w' => e = .returned (.tuple #[]) ∧ Blk base w' d (cntV t) ∧ But (Is d) w w'
set_option maxHeartbeats 1000000 in
set_option maxRecDepth 100000 in
theorem ctells_one (t : Tm) (ht : t.two = none) : CTells t := by
  intro base w d u0 u1 S V h hl r hS
  obtain ⟨k, c, wr, lb, kids, v, rfl, rfl, hk, hc, hlb, hkids⟩ := r
  have HP := Lib.hid (Tm.ways_none ht)
  have HC := Lib.hid (Tm.count_none ht)
  by_cases h1 : k = 1
  · subst h1
    obtain ⟨A, cap, rfl, _, _, _⟩ := hkids.form
    have HP2 := Lib.hid (show (Tm.mk 1 c wr lb kids).ways = 1 by exact HP.out)
    have HC2 := Lib.hid (show (Tm.mk 1 c wr lb kids).count = 1 by rw [HC.out, if_pos (by simp [Tm.kind])])
    have hm := m_cone ⟨d, 0, none⟩
    have bel : Below w.heap.size w (w.alloc (.cells #[.int .i64 1, .int .i64 c, .bool wr, .int .i64 lb, .slice A kids.length cap] 35)) := (Below.refl _ _).alloc (Nat.le_refl _) _
    have H2 := Lib.hid (h.below bel)
    have BEL := Lib.hid bel
    unfold tmV ctI
    clear hkids h bel ht hl
    go_enter Tryd.func23, Tryd.ntmps23
    go_wp2_with fail
    refine (cone_any H2.out c wr lb).mono ?_
    rintro e w' ⟨rfl, hr, hb⟩
    go_wp2
    go_end0
    unfold cntV
    rw [HP2.out, HC2.out]
    exact ⟨rfl, hr, (But.of_below BEL.out).trans hb⟩
  · have HP2 := Lib.hid (show (Tm.mk k c wr lb kids).ways = 1 by exact HP.out)
    have HC2 := Lib.hid (show (Tm.mk k c wr lb kids).count = 0 by rw [HC.out, if_neg (by simpa [Tm.kind] using h1)])
    have hm := m_cno ⟨d, 0, none⟩
    obtain ⟨A, cap, rfl, hc1, hc2, hc3⟩ := hkids.form
    have hn := Tm.two_none ht
    simp only [Tm.kind, Tm.kids] at hn
    have e1 : (k == 1) = false := by simpa using h1
    have H0 := Lib.hid h
    unfold maxLen at hc2
    unfold tmV ctI
    clear hkids h ht HP HC h1 hk hl
    by_cases h2 : k = 2
    · subst h2
      have hk2 : kids.length < 2 := by omega
      clear hn
      go_enter Tryd.func23, Tryd.ntmps23
      go_wp2_with fail
      refine (cnothing_any (H0.out.below ((Below.refl _ _).alloc (Nat.le_refl _) _))).mono ?_
      rintro e w' ⟨rfl, hr, hb⟩
      go_wp2
      go_end0
      unfold cntV
      rw [HP2.out, HC2.out]
      exact ⟨rfl, hr, (But.of_below ((Below.refl _ _).alloc (Nat.le_refl _) _)).trans hb⟩
    · by_cases h3 : k = 3
      · subst h3
        have hk2 : kids.length < 2 := by omega
        clear hn
        go_enter Tryd.func23, Tryd.ntmps23
        go_wp2_with fail
        refine (cnothing_any (H0.out.below ((Below.refl _ _).alloc (Nat.le_refl _) _))).mono ?_
        rintro e w' ⟨rfl, hr, hb⟩
        go_wp2
        go_end0
        unfold cntV
        rw [HP2.out, HC2.out]
        exact ⟨rfl, hr, (But.of_below ((Below.refl _ _).alloc (Nat.le_refl _) _)).trans hb⟩
      · have e2 : (k == 2) = false := by simpa using h2
        have e3 : (k == 3) = false := by simpa using h3
        clear hn h2 h3
        go_enter Tryd.func23, Tryd.ntmps23
        go_wp2_with fail
        refine (cnothing_any (H0.out.below ((Below.refl _ _).alloc (Nat.le_refl _) _))).mono ?_
        rintro e w' ⟨rfl, hr, hb⟩
        go_wp2
        go_end0
        unfold cntV
        rw [HP2.out, HC2.out]
        exact ⟨rfl, hr, (But.of_below ((Below.refl _ _).alloc (Nat.le_refl _) _)).trans hb⟩
theorem But.transNew {T U : Blocks} {a b c : World} (h : But T a b) (k : But U b c) (hU : ∀ i, U i → T i ∨ a.heap.size ≤ i) : But T a c :=
  ⟨k.os.trans h.os, k.tape.trans h.tape, k.output.trans h.output, Nat.le_trans h.size k.size, fun i hi ht => (k.block i (Nat.lt_of_lt_of_le hi h.size) (fun e => (hU i e).elim ht (by omega))).trans (h.block i hi ht)⟩
set_option maxHeartbeats 1600000 in
set_option maxRecDepth 100000 in
theorem ctwo_any (a b : Tm) (ha : CTells a) (hb : CTells b) (p : Bool) (base : Nat) (w : World) (d : Nat) (u0 u1 : Value) (S : Blocks) (Va Vb : Value) (h : Blk base w d [u0, u1]) (hl : a.count + b.count ≤ 1048576) (ra : RdT w S a Va) (rb : RdT w S b Vb) (hS : Sub S (Upto base)) :
    Calls Tryd.prog 61 #[.pointer (some ⟨d, 0, none⟩), .bool p, Va, Vb] w fun e w' => e = .returned (.tuple #[]) ∧ Blk base w' d [.int .i64 ((a.count + b.count : Nat) : Int), .int .u64 ((a.ways * b.ways * (if p then ch a.count b.count else 1) % 18446744073709551616 : Nat) : Int)] ∧ But (Is d) w w' := by
  have hdb := h.ge
  have hdl := h.lt
  have hbw : base ≤ w.heap.size := by omega
  have HA := Lib.hid ha
  have HB := Lib.hid hb
  obtain ⟨k, c, wr, lb, kids, v, ea, rfl, _, _, _, hka⟩ := id ra
  obtain ⟨A1, n1, rfl, _⟩ := hka.form
  obtain ⟨k', c', wr', lb', kids', v', eb, rfl, _, _, _, hkb⟩ := id rb
  obtain ⟨A2, n2, rfl, _⟩ := hkb.form
  have bel0 : Below w.heap.size w ((w.alloc (.cells #[.int .i64 k, .int .i64 c, .bool wr, .int .i64 lb, .slice A1 kids.length n1] 35)).alloc (.cells #[.int .i64 k', .int .i64 c', .bool wr', .int .i64 lb', .slice A2 kids'.length n2] 35)) := ((Below.refl _ _).alloc (Nat.le_refl _) _).alloc (by simp) _
  have bel1 : Below w.heap.size w ((((w.alloc (.cells #[.int .i64 k, .int .i64 c, .bool wr, .int .i64 lb, .slice A1 kids.length n1] 35)).alloc (.cells #[.int .i64 k', .int .i64 c', .bool wr', .int .i64 lb', .slice A2 kids'.length n2] 35))).alloc (.cells #[.int .i64 0, .int .u64 0] 65)) := bel0.alloc (by simp; omega) _
  have bel : Below w.heap.size w ((((((w.alloc (.cells #[.int .i64 k, .int .i64 c, .bool wr, .int .i64 lb, .slice A1 kids.length n1] 35)).alloc (.cells #[.int .i64 k', .int .i64 c', .bool wr', .int .i64 lb', .slice A2 kids'.length n2] 35))).alloc (.cells #[.int .i64 0, .int .u64 0] 65))).alloc (.cells #[.int .i64 0, .int .u64 0] 65)) := bel1.alloc (by simp; omega) _
  have RA := Lib.hid (ra.go bel (hS.trans (Sub.upto hbw)))
  have RB := Lib.hid (rb.go bel (hS.trans (Sub.upto hbw)))
  have H := Lib.hid (h.below bel)
  have XA := (Blk.made w [.int .i64 k, .int .i64 c, .bool wr, .int .i64 lb, .slice A1 kids.length n1] 35 (base := 0) (Nat.zero_le _)).below (w' := ((((((w.alloc (.cells #[.int .i64 k, .int .i64 c, .bool wr, .int .i64 lb, .slice A1 kids.length n1] 35)).alloc (.cells #[.int .i64 k', .int .i64 c', .bool wr', .int .i64 lb', .slice A2 kids'.length n2] 35))).alloc (.cells #[.int .i64 0, .int .u64 0] 65))).alloc (.cells #[.int .i64 0, .int .u64 0] 65))) ((((Below.refl _ _).alloc (Nat.le_refl _) _).alloc (by simp) _).alloc (by simp) _)
  have XB := (Blk.made (w.alloc (.cells #[.int .i64 k, .int .i64 c, .bool wr, .int .i64 lb, .slice A1 kids.length n1] 35)) [.int .i64 k', .int .i64 c', .bool wr', .int .i64 lb', .slice A2 kids'.length n2] 35 (base := 0) (Nat.zero_le _)).below (w' := ((((((w.alloc (.cells #[.int .i64 k, .int .i64 c, .bool wr, .int .i64 lb, .slice A1 kids.length n1] 35)).alloc (.cells #[.int .i64 k', .int .i64 c', .bool wr', .int .i64 lb', .slice A2 kids'.length n2] 35))).alloc (.cells #[.int .i64 0, .int .u64 0] 65))).alloc (.cells #[.int .i64 0, .int .u64 0] 65))) (((Below.refl _ _).alloc (Nat.le_refl _) _).alloc (by simp) _)
  rw [World.size_alloc] at XB
  have hca : ((((((w.alloc (.cells #[.int .i64 k, .int .i64 c, .bool wr, .int .i64 lb, .slice A1 kids.length n1] 35)).alloc (.cells #[.int .i64 k', .int .i64 c', .bool wr', .int .i64 lb', .slice A2 kids'.length n2] 35))).alloc (.cells #[.int .i64 0, .int .u64 0] 65))).alloc (.cells #[.int .i64 0, .int .u64 0] 65)).cell? ⟨w.heap.size, 0, none⟩ = some (.int .i64 k) ∧ ((((((w.alloc (.cells #[.int .i64 k, .int .i64 c, .bool wr, .int .i64 lb, .slice A1 kids.length n1] 35)).alloc (.cells #[.int .i64 k', .int .i64 c', .bool wr', .int .i64 lb', .slice A2 kids'.length n2] 35))).alloc (.cells #[.int .i64 0, .int .u64 0] 65))).alloc (.cells #[.int .i64 0, .int .u64 0] 65)).cell? ⟨w.heap.size, 1, none⟩ = some (.int .i64 c) ∧ ((((((w.alloc (.cells #[.int .i64 k, .int .i64 c, .bool wr, .int .i64 lb, .slice A1 kids.length n1] 35)).alloc (.cells #[.int .i64 k', .int .i64 c', .bool wr', .int .i64 lb', .slice A2 kids'.length n2] 35))).alloc (.cells #[.int .i64 0, .int .u64 0] 65))).alloc (.cells #[.int .i64 0, .int .u64 0] 65)).cell? ⟨w.heap.size, 2, none⟩ = some (.bool wr) ∧ ((((((w.alloc (.cells #[.int .i64 k, .int .i64 c, .bool wr, .int .i64 lb, .slice A1 kids.length n1] 35)).alloc (.cells #[.int .i64 k', .int .i64 c', .bool wr', .int .i64 lb', .slice A2 kids'.length n2] 35))).alloc (.cells #[.int .i64 0, .int .u64 0] 65))).alloc (.cells #[.int .i64 0, .int .u64 0] 65)).cell? ⟨w.heap.size, 3, none⟩ = some (.int .i64 lb) ∧ ((((((w.alloc (.cells #[.int .i64 k, .int .i64 c, .bool wr, .int .i64 lb, .slice A1 kids.length n1] 35)).alloc (.cells #[.int .i64 k', .int .i64 c', .bool wr', .int .i64 lb', .slice A2 kids'.length n2] 35))).alloc (.cells #[.int .i64 0, .int .u64 0] 65))).alloc (.cells #[.int .i64 0, .int .u64 0] 65)).cell? ⟨w.heap.size, 4, none⟩ = some (.slice A1 kids.length n1) := ⟨XA.cell 0 _ rfl, XA.cell 1 _ rfl, XA.cell 2 _ rfl, XA.cell 3 _ rfl, XA.cell 4 _ rfl⟩
  have hcb : ((((((w.alloc (.cells #[.int .i64 k, .int .i64 c, .bool wr, .int .i64 lb, .slice A1 kids.length n1] 35)).alloc (.cells #[.int .i64 k', .int .i64 c', .bool wr', .int .i64 lb', .slice A2 kids'.length n2] 35))).alloc (.cells #[.int .i64 0, .int .u64 0] 65))).alloc (.cells #[.int .i64 0, .int .u64 0] 65)).cell? ⟨w.heap.size + 1, 0, none⟩ = some (.int .i64 k') ∧ ((((((w.alloc (.cells #[.int .i64 k, .int .i64 c, .bool wr, .int .i64 lb, .slice A1 kids.length n1] 35)).alloc (.cells #[.int .i64 k', .int .i64 c', .bool wr', .int .i64 lb', .slice A2 kids'.length n2] 35))).alloc (.cells #[.int .i64 0, .int .u64 0] 65))).alloc (.cells #[.int .i64 0, .int .u64 0] 65)).cell? ⟨w.heap.size + 1, 1, none⟩ = some (.int .i64 c') ∧ ((((((w.alloc (.cells #[.int .i64 k, .int .i64 c, .bool wr, .int .i64 lb, .slice A1 kids.length n1] 35)).alloc (.cells #[.int .i64 k', .int .i64 c', .bool wr', .int .i64 lb', .slice A2 kids'.length n2] 35))).alloc (.cells #[.int .i64 0, .int .u64 0] 65))).alloc (.cells #[.int .i64 0, .int .u64 0] 65)).cell? ⟨w.heap.size + 1, 2, none⟩ = some (.bool wr') ∧ ((((((w.alloc (.cells #[.int .i64 k, .int .i64 c, .bool wr, .int .i64 lb, .slice A1 kids.length n1] 35)).alloc (.cells #[.int .i64 k', .int .i64 c', .bool wr', .int .i64 lb', .slice A2 kids'.length n2] 35))).alloc (.cells #[.int .i64 0, .int .u64 0] 65))).alloc (.cells #[.int .i64 0, .int .u64 0] 65)).cell? ⟨w.heap.size + 1, 3, none⟩ = some (.int .i64 lb') ∧ ((((((w.alloc (.cells #[.int .i64 k, .int .i64 c, .bool wr, .int .i64 lb, .slice A1 kids.length n1] 35)).alloc (.cells #[.int .i64 k', .int .i64 c', .bool wr', .int .i64 lb', .slice A2 kids'.length n2] 35))).alloc (.cells #[.int .i64 0, .int .u64 0] 65))).alloc (.cells #[.int .i64 0, .int .u64 0] 65)).cell? ⟨w.heap.size + 1, 4, none⟩ = some (.slice A2 kids'.length n2) := ⟨XB.cell 0 _ rfl, XB.cell 1 _ rfl, XB.cell 2 _ rfl, XB.cell 3 _ rfl, XB.cell 4 _ rfl⟩
  clear XA XB
  have hsz : (((((((w.alloc (.cells #[.int .i64 k, .int .i64 c, .bool wr, .int .i64 lb, .slice A1 kids.length n1] 35)).alloc (.cells #[.int .i64 k', .int .i64 c', .bool wr', .int .i64 lb', .slice A2 kids'.length n2] 35))).alloc (.cells #[.int .i64 0, .int .u64 0] 65))).alloc (.cells #[.int .i64 0, .int .u64 0] 65))).heap.size = w.heap.size + 4 := by simp
  have sA : (((w.alloc (.cells #[.int .i64 k, .int .i64 c, .bool wr, .int .i64 lb, .slice A1 kids.length n1] 35)).alloc (.cells #[.int .i64 k', .int .i64 c', .bool wr', .int .i64 lb', .slice A2 kids'.length n2] 35))).heap.size = w.heap.size + 1 + 1 := by simp
  have sC : (((((w.alloc (.cells #[.int .i64 k, .int .i64 c, .bool wr, .int .i64 lb, .slice A1 kids.length n1] 35)).alloc (.cells #[.int .i64 k', .int .i64 c', .bool wr', .int .i64 lb', .slice A2 kids'.length n2] 35))).alloc (.cells #[.int .i64 0, .int .u64 0] 65))).heap.size = w.heap.size + 1 + 1 + 1 := by simp
  have B1 := (Blk.made ((w.alloc (.cells #[.int .i64 k, .int .i64 c, .bool wr, .int .i64 lb, .slice A1 kids.length n1] 35)).alloc (.cells #[.int .i64 k', .int .i64 c', .bool wr', .int .i64 lb', .slice A2 kids'.length n2] 35)) [.int .i64 0, .int .u64 0] 65 (base := w.heap.size) (by omega)).below ((Below.refl _ _).alloc (Nat.le_refl _) (.cells #[.int .i64 0, .int .u64 0] 65))
  have B2 := Blk.made ((((w.alloc (.cells #[.int .i64 k, .int .i64 c, .bool wr, .int .i64 lb, .slice A1 kids.length n1] 35)).alloc (.cells #[.int .i64 k', .int .i64 c', .bool wr', .int .i64 lb', .slice A2 kids'.length n2] 35))).alloc (.cells #[.int .i64 0, .int .u64 0] 65)) [.int .i64 0, .int .u64 0] 65 (base := w.heap.size) (by omega)
  rw [sA] at B1
  rw [sC] at B2
  have BA := Lib.hid B1
  have BB := Lib.hid B2
  have hK : But (Is d) w ((((((w.alloc (.cells #[.int .i64 k, .int .i64 c, .bool wr, .int .i64 lb, .slice A1 kids.length n1] 35)).alloc (.cells #[.int .i64 k', .int .i64 c', .bool wr', .int .i64 lb', .slice A2 kids'.length n2] 35))).alloc (.cells #[.int .i64 0, .int .u64 0] 65))).alloc (.cells #[.int .i64 0, .int .u64 0] 65)) := But.of_below bel
  have HS := Lib.hid hS
  unfold tmV
  clear h ra rb hka hkb hS ha hb bel bel0 bel1 ea eb B1 B2 sA sC
  go_enter Tryd.func61, Tryd.ntmps61
  go_upto_region 2 with (fail)
  generalize ((((((w.alloc (.cells #[.int .i64 k, .int .i64 c, .bool wr, .int .i64 lb, .slice A1 kids.length n1] 35)).alloc (.cells #[.int .i64 k', .int .i64 c', .bool wr', .int .i64 lb', .slice A2 kids'.length n2] 35))).alloc (.cells #[.int .i64 0, .int .u64 0] 65))).alloc (.cells #[.int .i64 0, .int .u64 0] 65)) = W at *
  obtain ⟨a0, a1, a2, a3, a4⟩ := hca
  obtain ⟨b0, b1, b2, b3, b4⟩ := hcb
  have hSz := Lib.hid (HS.out.trans (Sub.upto (show base ≤ W.heap.size by omega)))
  obtain ⟨z, hz⟩ : ∃ z, z = w.heap.size := ⟨_, rfl⟩
  rw [← hz] at a0 a1 a2 a3 a4 b0 b1 b2 b3 b4 hsz hdl hbw BA BB ⊢
  have HZ := Lib.hid hz
  clear hz
  have hW1 := Nat.le_of_eq hsz
  have hW2 := Nat.le_of_eq hsz.symm
  clear hsz
  go_wp2_with fail
  refine (HA.out z W (z + 1 + 1) _ _ S _ BA.out (by omega) RA.out (HS.out.trans (Sub.upto hbw))).mono ?_
  rintro e w1 ⟨rfl, q1, k1⟩
  have hs1 := k1.size
  have BA1 := Lib.hid q1
  have BB1 := Lib.hid (BB.out.but k1 (fun e => by have e2 : z + 1 + 1 + 1 = z + 1 + 1 := e; omega))
  have H1 := Lib.hid (H.out.but k1 (fun e => by have e2 : d = z + 1 + 1 := e; omega))
  have NB : ¬ Is (z + 1 + 1) (z + 1) := fun e => by have e2 : z + 1 = z + 1 + 1 := e; omega
  have RB1 := Lib.hid (RB.out.but k1 hSz.out (fun b hb e => by have e2 : b = z + 1 + 1 := e; have := HS.out b hb; simp only [Upto] at this; omega))
  have hc1 : w1.cell? ⟨z + 1, 0, none⟩ = some (.int .i64 k') ∧ w1.cell? ⟨z + 1, 1, none⟩ = some (.int .i64 c') ∧ w1.cell? ⟨z + 1, 2, none⟩ = some (.bool wr') ∧ w1.cell? ⟨z + 1, 3, none⟩ = some (.int .i64 lb') ∧ w1.cell? ⟨z + 1, 4, none⟩ = some (.slice A2 kids'.length n2) := ⟨k1.cell NB b0, k1.cell NB b1, k1.cell NB b2, k1.cell NB b3, k1.cell NB b4⟩
  have K1 := hK.transNew k1 (fun i e => .inr (by have e2 : i = z + 1 + 1 := e; have := HZ.out; omega))
  clear a0 a1 a2 a3 a4 b0 b1 b2 b3 b4 BA BB H RB RA q1 hK k1
  obtain ⟨b0, b1, b2, b3, b4⟩ := hc1
  go_wp2_with fail
  refine (HB.out z w1 (z + 1 + 1 + 1) _ _ S _ BB1.out (by omega) RB1.out (HS.out.trans (Sub.upto hbw))).mono ?_
  rintro e w2 ⟨rfl, q2, k2⟩
  have hs2 := k2.size
  have H2 := Lib.hid (H1.out.but k2 (fun e => by have e2 : d = z + 1 + 1 + 1 := e; omega))
  have BA2 := Lib.hid (BA1.out.but k2 (fun e => by have e2 : z + 1 + 1 = z + 1 + 1 + 1 := e; omega))
  have BB2 := Lib.hid q2
  have K2 := K1.transNew k2 (fun i e => .inr (by have e2 : i = z + 1 + 1 + 1 := e; have := HZ.out; omega))
  clear b0 b1 b2 b3 b4 BA1 BB1 H1 RB1 q2 K1 k2
  have a0 := BA2.out.cell 0 _ rfl
  have a1 := BA2.out.cell 1 _ rfl
  have b0 := BB2.out.cell 0 _ rfl
  have b1 := BB2.out.cell 1 _ rfl
  have d0 := H2.out.cell 0 _ rfl
  have d1 := H2.out.cell 1 _ rfl
  have df := H2.out.fr
  have ev : IntKind.u64.wrap (((a.ways : Nat) : Int) % 18446744073709551616 * (((b.ways : Nat) : Int) % 18446744073709551616)) = ((a.ways * b.ways % 18446744073709551616 : Nat) : Int) := by
    rw [IntKind.wrap_u64, ← mul_m64, Int.natCast_emod, Int.natCast_emod]; rfl
  have EV := Lib.hid ev
  clear ev
  go_upto_region 5 with (fail)
  rw [EV.out]
  have H3 := Lib.hid (show Blk base ((w2.setCell ⟨d, 0, none⟩ (.int .i64 ((a.count : Int) + (b.count : Int)))).setCell ⟨d, 1, none⟩ (.int .u64 ((a.ways * b.ways % 18446744073709551616 : Nat) : Int))) d [.int .i64 ((a.count : Int) + (b.count : Int)), .int .u64 ((a.ways * b.ways % 18446744073709551616 : Nat) : Int)] from
    (H2.out.set (i := 0) (by simp) (.int .i64 ((a.count : Int) + (b.count : Int)))).set (i := 1) (by simp) (.int .u64 ((a.ways * b.ways % 18446744073709551616 : Nat) : Int)))
  have BA3 := Lib.hid ((BA2.out.other (p := ⟨d, 0, none⟩) (by simp; omega) (.int .i64 ((a.count : Int) + (b.count : Int)))).other (p := ⟨d, 1, none⟩) (by simp; omega) (.int .u64 ((a.ways * b.ways % 18446744073709551616 : Nat) : Int)))
  have BB3 := Lib.hid ((BB2.out.other (p := ⟨d, 0, none⟩) (by simp; omega) (.int .i64 ((a.count : Int) + (b.count : Int)))).other (p := ⟨d, 1, none⟩) (by simp; omega) (.int .u64 ((a.ways * b.ways % 18446744073709551616 : Nat) : Int)))
  have K3 := (K2.setCell (p := ⟨d, 0, none⟩) rfl (.int .i64 ((a.count : Int) + (b.count : Int)))).setCell (p := ⟨d, 1, none⟩) rfl (.int .u64 ((a.ways * b.ways % 18446744073709551616 : Nat) : Int))
  clear a0 a1 b0 b1 d0 d1 df K2 H2 BA2 BB2
  generalize (w2.setCell ⟨d, 0, none⟩ (.int .i64 ((a.count : Int) + (b.count : Int)))).setCell ⟨d, 1, none⟩ (.int .u64 ((a.ways * b.ways % 18446744073709551616 : Nat) : Int)) = W3 at *
  cases p
  · go_wp2
    go_end0
    refine ⟨rfl, ?_, K3⟩
    have := H3.out
    simpa using this
  · generalize hy : a.ways * b.ways % 18446744073709551616 = y at *
    have a0 := BA3.out.cell 0 _ rfl
    have b0 := BB3.out.cell 0 _ rfl
    have d1 := H3.out.cell 1 _ rfl
    have df := H3.out.fr 1
    have hzd : d < W3.heap.size := H3.out.lt
    have hz1 : z + 1 + 1 < W3.heap.size := BA3.out.lt
    have hz2 : z + 1 + 1 + 1 < W3.heap.size := BB3.out.lt
    have HY := Lib.hid hy
    have hn1 : z + 1 + 1 ≠ d := by omega
    have hn2 : z + 1 + 1 + 1 ≠ d := by omega
    clear hy
    go_upto_region 6 with (fail)
    go_region_with (go_at_call 62; refine (choose_n a.count b.count (by omega) (by omega) _).mono ?_; rintro e w4 ⟨rfl, hb4⟩; have hcr4 := (hb4.cell (p := ⟨d, 1, none⟩) hzd).trans d1; have hfr4 := (hb4.frozen (p := ⟨d, 1, none⟩) hzd).trans df; have HB4 := Lib.hid hb4; clear hb4)
    all_goals
      have e5 : IntKind.u64.wrap ((y : Int) * (((ch a.count b.count : Nat) : Int) % 18446744073709551616)) = ((a.ways * b.ways * ch a.count b.count % 18446744073709551616 : Nat) : Int) := by
        rw [IntKind.wrap_u64, ← HY.out, ← mul_m64 (a.ways * b.ways), Int.natCast_emod, Int.natCast_emod]; rfl
      go_end0
      rw [e5]
      have hb5 : Below W3.heap.size W3 w4 := ((Below.refl _ _).drew).trans HB4.out
      have H5 := (H3.out.below hb5).set (i := 1) (by simp) (.int .u64 ((a.ways * b.ways * ch a.count b.count % 18446744073709551616 : Nat) : Int))
      refine ⟨rfl, ?_, (K3.trans (But.of_below hb5)).setCell (p := ⟨d, 1, none⟩) rfl _⟩
      simpa using H5
end Go.Proofs.YtknaoianhjeccaaDoor
