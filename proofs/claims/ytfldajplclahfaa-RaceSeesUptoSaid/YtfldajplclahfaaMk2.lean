/- marker.two, and tell at a term of two. -/
import Derived.Test.YtfldajplclahfaaMk1
namespace Go.Proofs.Ytfldajplclahfaa
open Go.RowKit
set_option linter.unusedVariables false
set_option maxHeartbeats 1600000 in
set_option maxRecDepth 100000 in
theorem mtwo_any (a b : Tm) (ha : MTells a) (hb : MTells b) (p : Bool) (base : Nat) (w : World) (d g n next bs : Nat) (L : List (Int × Int)) (S : Blocks) (Va Vb : Value) (h : MkAt base w d g n next bs L) (hl : bs + (a.count + b.count) ≤ n) (hnx : next + (a.count + b.count) ≤ 1048576) (ra : RdT w S a Va) (rb : RdT w S b Vb) (hS : Sub S (Upto base)) :
    Calls Try.prog 108 #[.pointer (some ⟨d, 0, none⟩), .bool p, Va, Vb] w fun e w' => e = .returned (.tuple #[]) ∧ ∃ bs', MkAt base w' d g n (next + (a.count + b.count)) bs' (mkOut L bs (if p then a.pos (next + b.count) ++ b.pos next else a.pos next ++ b.pos (next + a.count))) ∧ But (Is2 d g) w w' := by
  have hdb := h.1.ge
  have hdl := h.1.lt
  have hgb := h.2.1.ge
  have hgl := h.2.1.lt
  have hn20 := h.2.2.2.2
  have hLn := Lib.hid h.2.2.1
  have hbw : base ≤ w.heap.size := by omega
  have HA := Lib.hid ha
  have HB := Lib.hid hb
  obtain ⟨k, c, wr, lb, kids, v, ea, rfl, _, _, _, hka⟩ := id ra
  obtain ⟨A1, n1, rfl, _⟩ := hka.form
  obtain ⟨k', c', wr', lb', kids', v', eb, rfl, _, _, _, hkb⟩ := id rb
  obtain ⟨A2, n2, rfl, _⟩ := hkb.form
  have bel : Below w.heap.size w ((w.alloc (.cells #[.int .i64 k, .int .i64 c, .bool wr, .int .i64 lb, .slice A1 kids.length n1] 26)).alloc (.cells #[.int .i64 k', .int .i64 c', .bool wr', .int .i64 lb', .slice A2 kids'.length n2] 26)) := ((Below.refl _ _).alloc (Nat.le_refl _) _).alloc (by simp) _
  have RA := Lib.hid (ra.go bel (hS.trans (Sub.upto hbw)))
  have RB := Lib.hid (rb.go bel (hS.trans (Sub.upto hbw)))
  have H := Lib.hid (h.below bel)
  have hca : ((w.alloc (.cells #[.int .i64 k, .int .i64 c, .bool wr, .int .i64 lb, .slice A1 kids.length n1] 26)).alloc (.cells #[.int .i64 k', .int .i64 c', .bool wr', .int .i64 lb', .slice A2 kids'.length n2] 26)).cell? ⟨w.heap.size, 0, none⟩ = some (.int .i64 k) ∧ ((w.alloc (.cells #[.int .i64 k, .int .i64 c, .bool wr, .int .i64 lb, .slice A1 kids.length n1] 26)).alloc (.cells #[.int .i64 k', .int .i64 c', .bool wr', .int .i64 lb', .slice A2 kids'.length n2] 26)).cell? ⟨w.heap.size, 1, none⟩ = some (.int .i64 c) ∧ ((w.alloc (.cells #[.int .i64 k, .int .i64 c, .bool wr, .int .i64 lb, .slice A1 kids.length n1] 26)).alloc (.cells #[.int .i64 k', .int .i64 c', .bool wr', .int .i64 lb', .slice A2 kids'.length n2] 26)).cell? ⟨w.heap.size, 2, none⟩ = some (.bool wr) ∧ ((w.alloc (.cells #[.int .i64 k, .int .i64 c, .bool wr, .int .i64 lb, .slice A1 kids.length n1] 26)).alloc (.cells #[.int .i64 k', .int .i64 c', .bool wr', .int .i64 lb', .slice A2 kids'.length n2] 26)).cell? ⟨w.heap.size, 3, none⟩ = some (.int .i64 lb) ∧ ((w.alloc (.cells #[.int .i64 k, .int .i64 c, .bool wr, .int .i64 lb, .slice A1 kids.length n1] 26)).alloc (.cells #[.int .i64 k', .int .i64 c', .bool wr', .int .i64 lb', .slice A2 kids'.length n2] 26)).cell? ⟨w.heap.size, 4, none⟩ = some (.slice A1 kids.length n1) := by simp
  have hcb : ((w.alloc (.cells #[.int .i64 k, .int .i64 c, .bool wr, .int .i64 lb, .slice A1 kids.length n1] 26)).alloc (.cells #[.int .i64 k', .int .i64 c', .bool wr', .int .i64 lb', .slice A2 kids'.length n2] 26)).cell? ⟨w.heap.size + 1, 0, none⟩ = some (.int .i64 k') ∧ ((w.alloc (.cells #[.int .i64 k, .int .i64 c, .bool wr, .int .i64 lb, .slice A1 kids.length n1] 26)).alloc (.cells #[.int .i64 k', .int .i64 c', .bool wr', .int .i64 lb', .slice A2 kids'.length n2] 26)).cell? ⟨w.heap.size + 1, 1, none⟩ = some (.int .i64 c') ∧ ((w.alloc (.cells #[.int .i64 k, .int .i64 c, .bool wr, .int .i64 lb, .slice A1 kids.length n1] 26)).alloc (.cells #[.int .i64 k', .int .i64 c', .bool wr', .int .i64 lb', .slice A2 kids'.length n2] 26)).cell? ⟨w.heap.size + 1, 2, none⟩ = some (.bool wr') ∧ ((w.alloc (.cells #[.int .i64 k, .int .i64 c, .bool wr, .int .i64 lb, .slice A1 kids.length n1] 26)).alloc (.cells #[.int .i64 k', .int .i64 c', .bool wr', .int .i64 lb', .slice A2 kids'.length n2] 26)).cell? ⟨w.heap.size + 1, 3, none⟩ = some (.int .i64 lb') ∧ ((w.alloc (.cells #[.int .i64 k, .int .i64 c, .bool wr, .int .i64 lb, .slice A1 kids.length n1] 26)).alloc (.cells #[.int .i64 k', .int .i64 c', .bool wr', .int .i64 lb', .slice A2 kids'.length n2] 26)).cell? ⟨w.heap.size + 1, 4, none⟩ = some (.slice A2 kids'.length n2) := by simp
  have hsz : (((w.alloc (.cells #[.int .i64 k, .int .i64 c, .bool wr, .int .i64 lb, .slice A1 kids.length n1] 26)).alloc (.cells #[.int .i64 k', .int .i64 c', .bool wr', .int .i64 lb', .slice A2 kids'.length n2] 26))).heap.size = w.heap.size + 2 := by simp
  have hK : But (Is2 d g) w ((w.alloc (.cells #[.int .i64 k, .int .i64 c, .bool wr, .int .i64 lb, .slice A1 kids.length n1] 26)).alloc (.cells #[.int .i64 k', .int .i64 c', .bool wr', .int .i64 lb', .slice A2 kids'.length n2] 26)) := But.of_below bel
  have HS := Lib.hid hS
  have HCA := Lib.hid (show a.count = a.leaves.length from rfl)
  unfold tmV
  clear h ra rb hka hkb hS ha hb bel ea eb
  go_enter Try.func108, Try.ntmps108
  go_upto_region 1 with (fail)
  generalize ((w.alloc (.cells #[.int .i64 k, .int .i64 c, .bool wr, .int .i64 lb, .slice A1 kids.length n1] 26)).alloc (.cells #[.int .i64 k', .int .i64 c', .bool wr', .int .i64 lb', .slice A2 kids'.length n2] 26)) = W at *
  obtain ⟨a0, a1, a2, a3, a4⟩ := hca
  obtain ⟨b0, b1, b2, b3, b4⟩ := hcb
  obtain ⟨z, hz⟩ : ∃ z, z = w.heap.size := ⟨_, rfl⟩
  rw [← hz] at a0 a1 a2 a3 a4 b0 b1 b2 b3 b4 hsz hdl hgl hbw ⊢
  clear hz
  have hW1 := Nat.le_of_eq hsz
  have hW2 := Nat.le_of_eq hsz.symm
  clear hsz
  have hSz := Lib.hid (HS.out.trans (Sub.upto (show base ≤ W.heap.size by omega)))
  have c2 := H.out.1.cell 2 _ rfl
  have hzd : z ≠ d := by omega
  have hzg : z ≠ g := by omega
  have hld : d < W.heap.size := by omega
  have hlz : z < W.heap.size := by omega
  have hlz1 : z + 1 < W.heap.size := by omega
  have CA := Lib.hid (show a.count ≤ 1048576 by omega)
  have HWP := Lib.hid (fun w' h => Stay.size h : ∀ w', Stay W w' → W.heap.size ≤ w'.heap.size)
  go_region_held3 (fun w' => Stay W w') (first | assumption | exact Stay.mk (Kept.start _) | ((refine Stay.mk ?_; (repeat (with_reducible first | refine Kept.set ?_ (by omega) _ | refine Kept.drew ?_ | refine Kept.alloc ?_ _)); first | exact Kept.refl _ | assumption)))
    ((go_at_call 27; refine (leaves_any a _ S _ (hSz.out.trans (Sub.upto (HWP.out _ (by assumption)))) (RA.out.keep (Sub.refl _) (Same.sub (Stay.same (by assumption)) hSz.out)) CA.out).mono ?_; rintro e w1 ⟨x1, rfl, hx1, hb1⟩; obtain ⟨A3, n3, rfl, -, -, -⟩ := hx1.form; clear hx1; have hst1 : Stay W w1 := Stay.step hb1 (by assumption); have hk1 : Kept W w1 := Kept.here hst1))
  have hbw1 : Below W.heap.size W w1 := hst1.below
  rename_i hHeldX
  clear hHeldX
  have ea : ((a.leaves.length : Nat) : Int) = (a.count : Int) := by rw [HCA.out]
  have K0 : But (Is2 d g) w w1 := hK.trans (But.of_below hbw1)
  have H1 := Lib.hid (H.out.below hbw1)
  have B1a := Lib.hid (show w1.cell? ⟨z, 0, none⟩ = some (.int .i64 k) ∧ w1.cell? ⟨z, 1, none⟩ = some (.int .i64 c) ∧ w1.cell? ⟨z, 2, none⟩ = some (.bool wr) ∧ w1.cell? ⟨z, 3, none⟩ = some (.int .i64 lb) ∧ w1.cell? ⟨z, 4, none⟩ = some (.slice A1 kids.length n1) by
    refine ⟨?_, ?_, ?_, ?_, ?_⟩ <;> (refine (hbw1.cell (p := ⟨z, _, none⟩) hlz).trans ?_; assumption))
  have B1b := Lib.hid (show w1.cell? ⟨z + 1, 0, none⟩ = some (.int .i64 k') ∧ w1.cell? ⟨z + 1, 1, none⟩ = some (.int .i64 c') ∧ w1.cell? ⟨z + 1, 2, none⟩ = some (.bool wr') ∧ w1.cell? ⟨z + 1, 3, none⟩ = some (.int .i64 lb') ∧ w1.cell? ⟨z + 1, 4, none⟩ = some (.slice A2 kids'.length n2) by
    refine ⟨?_, ?_, ?_, ?_, ?_⟩ <;> (refine (hbw1.cell (p := ⟨z + 1, _, none⟩) hlz1).trans ?_; assumption))
  have RA1 := Lib.hid (RA.out.go hbw1 hSz.out)
  have RB1 := Lib.hid (RB.out.go hbw1 hSz.out)
  have hs1 := hbw1.size
  clear hst1 hk1 hK H a0 a1 a2 a3 a4 b0 b1 b2 b3 b4 c2 HCA hb1 hbw1 RA RB
  rw [ea]
  clear ea
  have hdd1 : d < w1.heap.size := by omega
  have q2 := H1.out.1.cell 2 _ rfl
  have qf := H1.out.1.fr 2
  have HL1 := Lib.hid (show bs + a.count + b.count ≤ L.length by rw [hLn.out]; omega)
  have NZ : ¬ Is2 d g z := fun e => by rcases e with e | e <;> omega
  have NZ1 : ¬ Is2 d g (z + 1) := fun e => by rcases e with e | e <;> omega
  have NS : ∀ b, S b → ¬ Is2 d g b := fun b hb e => by have := HS.out b hb; simp only [Upto] at this; rcases e with e | e <;> omega
  have s1 : (a.count : Int) ≤ 1048576 := by omega
  have s2 : (bs : Int) ≤ 1048576 := by omega
  cases p
  · obtain ⟨a0, a1, a2, a3, a4⟩ := B1a.out
    go_wp2_with fail
    refine (HA.out base w1 d g n next bs L S _ H1.out (by omega) (by omega) RA1.out HS.out).mono ?_
    rintro e w2 ⟨rfl, bs2, h2, k2⟩
    have hs2 := k2.size
    have B2b := Lib.hid (show w2.cell? ⟨z + 1, 0, none⟩ = some (.int .i64 k') ∧ w2.cell? ⟨z + 1, 1, none⟩ = some (.int .i64 c') ∧ w2.cell? ⟨z + 1, 2, none⟩ = some (.bool wr') ∧ w2.cell? ⟨z + 1, 3, none⟩ = some (.int .i64 lb') ∧ w2.cell? ⟨z + 1, 4, none⟩ = some (.slice A2 kids'.length n2) by
      obtain ⟨b0, b1, b2, b3, b4⟩ := B1b.out
      exact ⟨k2.cell NZ1 b0, k2.cell NZ1 b1, k2.cell NZ1 b2, k2.cell NZ1 b3, k2.cell NZ1 b4⟩)
    have RB2 := Lib.hid (RB1.out.but k2 (hSz.out.trans (Sub.upto (by omega))) NS)
    have M1 := h2.1.cell 2 _ rfl
    have Mf := h2.1.fr 2
    have hbs : ((bs : Int) + (a.count : Int)) = ((bs + a.count : Nat) : Int) := by omega
    have H3 := Lib.hid (show MkAt base (w2.setCell ⟨d, 2, none⟩ (.int .i64 ((bs : Int) + (a.count : Int)))) d g n (next + a.count) (bs + a.count) (mkOut L bs (a.pos next)) from
      ⟨by have := h2.1.set (i := 2) (by simp) (.int .i64 ((bs : Int) + (a.count : Int))); rw [hbs] at this ⊢; simpa using this, h2.2.1.other (p := ⟨d, 2, none⟩) (fun e => h2.2.2.2.1 e.symm) _, h2.2.2⟩)
    have K3 := (K0.trans k2).setCell (p := ⟨d, 2, none⟩) (.inl rfl) (.int .i64 ((bs : Int) + (a.count : Int)))
    have RB3 := Lib.hid (RB2.out.keep (Sub.refl _) (same_setCell (p := ⟨d, 2, none⟩) (fun h => NS d h (.inl rfl)) (.int .i64 ((bs : Int) + (a.count : Int)))))
    have B3b := Lib.hid (show (w2.setCell ⟨d, 2, none⟩ (.int .i64 ((bs : Int) + (a.count : Int)))).cell? ⟨z + 1, 0, none⟩ = some (.int .i64 k') ∧ (w2.setCell ⟨d, 2, none⟩ (.int .i64 ((bs : Int) + (a.count : Int)))).cell? ⟨z + 1, 1, none⟩ = some (.int .i64 c') ∧ (w2.setCell ⟨d, 2, none⟩ (.int .i64 ((bs : Int) + (a.count : Int)))).cell? ⟨z + 1, 2, none⟩ = some (.bool wr') ∧ (w2.setCell ⟨d, 2, none⟩ (.int .i64 ((bs : Int) + (a.count : Int)))).cell? ⟨z + 1, 3, none⟩ = some (.int .i64 lb') ∧ (w2.setCell ⟨d, 2, none⟩ (.int .i64 ((bs : Int) + (a.count : Int)))).cell? ⟨z + 1, 4, none⟩ = some (.slice A2 kids'.length n2) by
      obtain ⟨b0, b1, b2, b3, b4⟩ := B2b.out
      refine ⟨?_, ?_, ?_, ?_, ?_⟩ <;> (rw [World.cell?_setCell_other _ _ _ _ (fun h => by injection h with h _; omega)]; assumption))
    have hdd2 : d < w2.heap.size := by omega
    clear h2 k2 a0 a1 a2 a3 a4 B2b RB2 H1 hbs
    go_upto_region 9 with (fail)
    generalize w2.setCell ⟨d, 2, none⟩ (.int .i64 ((bs : Int) + (a.count : Int))) = W3 at *
    obtain ⟨b0, b1, b2, b3, b4⟩ := B3b.out
    go_wp2_with fail
    refine (HB.out base W3 d g n (next + a.count) (bs + a.count) (mkOut L bs (a.pos next)) S _ H3.out (by omega) (by omega) RB3.out HS.out).mono ?_
    rintro e w4 ⟨rfl, bs4, h4, k4⟩
    go_wp2
    go_end0
    refine ⟨rfl, ⟨bs4, ?_⟩, K3.trans k4⟩
    have e1 : bs + a.count = bs + (a.pos next).length := by rw [Tm.pos_len]
    rw [Nat.add_assoc] at h4
    rw [e1, mkOut_lr (by rw [Tm.pos_len, Tm.pos_len]; exact HL1.out)] at h4
    simpa using h4
  · obtain ⟨b0, b1, b2, b3, b4⟩ := B1b.out
    have hbs : ((bs : Int) + (a.count : Int)) = ((bs + a.count : Nat) : Int) := by omega
    have H2 := Lib.hid (show MkAt base (w1.setCell ⟨d, 2, none⟩ (.int .i64 ((bs : Int) + (a.count : Int)))) d g n next (bs + a.count) L from
      ⟨by have := H1.out.1.set (i := 2) (by simp) (.int .i64 ((bs : Int) + (a.count : Int))); rw [hbs] at this ⊢; simpa using this, H1.out.2.1.other (p := ⟨d, 2, none⟩) (fun e => H1.out.2.2.2.1 e.symm) _, H1.out.2.2⟩)
    have K2 := K0.setCell (p := ⟨d, 2, none⟩) (.inl rfl) (.int .i64 ((bs : Int) + (a.count : Int)))
    have RA2 := Lib.hid (RA1.out.keep (Sub.refl _) (same_setCell (p := ⟨d, 2, none⟩) (fun h => NS d h (.inl rfl)) (.int .i64 ((bs : Int) + (a.count : Int)))))
    have RB2 := Lib.hid (RB1.out.keep (Sub.refl _) (same_setCell (p := ⟨d, 2, none⟩) (fun h => NS d h (.inl rfl)) (.int .i64 ((bs : Int) + (a.count : Int)))))
    have B2a := Lib.hid (show (w1.setCell ⟨d, 2, none⟩ (.int .i64 ((bs : Int) + (a.count : Int)))).cell? ⟨z, 0, none⟩ = some (.int .i64 k) ∧ (w1.setCell ⟨d, 2, none⟩ (.int .i64 ((bs : Int) + (a.count : Int)))).cell? ⟨z, 1, none⟩ = some (.int .i64 c) ∧ (w1.setCell ⟨d, 2, none⟩ (.int .i64 ((bs : Int) + (a.count : Int)))).cell? ⟨z, 2, none⟩ = some (.bool wr) ∧ (w1.setCell ⟨d, 2, none⟩ (.int .i64 ((bs : Int) + (a.count : Int)))).cell? ⟨z, 3, none⟩ = some (.int .i64 lb) ∧ (w1.setCell ⟨d, 2, none⟩ (.int .i64 ((bs : Int) + (a.count : Int)))).cell? ⟨z, 4, none⟩ = some (.slice A1 kids.length n1) by
      obtain ⟨x0, x1, x2, x3, x4⟩ := B1a.out
      refine ⟨?_, ?_, ?_, ?_, ?_⟩ <;> (rw [World.cell?_setCell_other _ _ _ _ (fun h => by injection h with h _; omega)]; assumption))
    have B2b := Lib.hid (show (w1.setCell ⟨d, 2, none⟩ (.int .i64 ((bs : Int) + (a.count : Int)))).cell? ⟨z + 1, 0, none⟩ = some (.int .i64 k') ∧ (w1.setCell ⟨d, 2, none⟩ (.int .i64 ((bs : Int) + (a.count : Int)))).cell? ⟨z + 1, 1, none⟩ = some (.int .i64 c') ∧ (w1.setCell ⟨d, 2, none⟩ (.int .i64 ((bs : Int) + (a.count : Int)))).cell? ⟨z + 1, 2, none⟩ = some (.bool wr') ∧ (w1.setCell ⟨d, 2, none⟩ (.int .i64 ((bs : Int) + (a.count : Int)))).cell? ⟨z + 1, 3, none⟩ = some (.int .i64 lb') ∧ (w1.setCell ⟨d, 2, none⟩ (.int .i64 ((bs : Int) + (a.count : Int)))).cell? ⟨z + 1, 4, none⟩ = some (.slice A2 kids'.length n2) by
      refine ⟨?_, ?_, ?_, ?_, ?_⟩ <;> (rw [World.cell?_setCell_other _ _ _ _ (fun h => by injection h with h _; omega)]; assumption))
    clear hbs b0 b1 b2 b3 b4 B1a B1b H1 K0 RA1 RB1
    go_upto_region 4 with (fail)
    have hws : (w1.setCell ⟨d, 2, none⟩ (.int .i64 ((bs : Int) + (a.count : Int)))).heap.size = w1.heap.size := size_setCell _ _ _
    have hws1 := Nat.le_of_eq hws
    have hws2 := Nat.le_of_eq hws.symm
    clear hws
    generalize w1.setCell ⟨d, 2, none⟩ (.int .i64 ((bs : Int) + (a.count : Int))) = W2 at *
    clear q2 qf
    obtain ⟨b0, b1, b2, b3, b4⟩ := B2b.out
    go_wp2_with fail
    refine (HB.out base W2 d g n next (bs + a.count) L S _ H2.out (by omega) (by omega) RB2.out HS.out).mono ?_
    rintro e w3 ⟨rfl, bs3, h3, k3⟩
    have hs3 := k3.size
    have M1 := h3.1.cell 2 _ rfl
    have Mf := h3.1.fr 2
    have H4 := Lib.hid (show MkAt base (w3.setCell ⟨d, 2, none⟩ (.int .i64 (bs : Int))) d g n (next + b.count) bs (mkOut L (bs + a.count) (b.pos next)) from
      ⟨by simpa using h3.1.set (i := 2) (by simp) (.int .i64 (bs : Int)), h3.2.1.other (p := ⟨d, 2, none⟩) (fun e => h3.2.2.2.1 e.symm) _, h3.2.2⟩)
    have K4 := (K2.trans k3).setCell (p := ⟨d, 2, none⟩) (.inl rfl) (.int .i64 (bs : Int))
    have RA4 := Lib.hid ((RA2.out.but k3 (hSz.out.trans (Sub.upto (by omega))) NS).keep (Sub.refl _) (same_setCell (p := ⟨d, 2, none⟩) (fun h => NS d h (.inl rfl)) (.int .i64 (bs : Int))))
    have B4a := Lib.hid (show (w3.setCell ⟨d, 2, none⟩ (.int .i64 (bs : Int))).cell? ⟨z, 0, none⟩ = some (.int .i64 k) ∧ (w3.setCell ⟨d, 2, none⟩ (.int .i64 (bs : Int))).cell? ⟨z, 1, none⟩ = some (.int .i64 c) ∧ (w3.setCell ⟨d, 2, none⟩ (.int .i64 (bs : Int))).cell? ⟨z, 2, none⟩ = some (.bool wr) ∧ (w3.setCell ⟨d, 2, none⟩ (.int .i64 (bs : Int))).cell? ⟨z, 3, none⟩ = some (.int .i64 lb) ∧ (w3.setCell ⟨d, 2, none⟩ (.int .i64 (bs : Int))).cell? ⟨z, 4, none⟩ = some (.slice A1 kids.length n1) by
      obtain ⟨x0, x1, x2, x3, x4⟩ := B2a.out
      refine ⟨?_, ?_, ?_, ?_, ?_⟩ <;> (rw [World.cell?_setCell_other _ _ _ _ (fun h => by injection h with h _; omega)]; refine k3.cell NZ ?_; assumption))
    have hdd3 : d < w3.heap.size := by omega
    clear h3 k3 b0 b1 b2 b3 b4 B2b B2a H2 K2
    go_upto_region 6 with (fail)
    generalize w3.setCell ⟨d, 2, none⟩ (.int .i64 (bs : Int)) = W4 at *
    clear M1 Mf
    obtain ⟨a0, a1, a2, a3, a4⟩ := B4a.out
    go_wp2_with fail
    refine (HA.out base W4 d g n (next + b.count) bs (mkOut L (bs + a.count) (b.pos next)) S _ H4.out (by omega) (by omega) RA4.out HS.out).mono ?_
    rintro e w5 ⟨rfl, bs5, h5, k5⟩
    go_wp2
    refine bodyPost_ret (results_none rfl _ _ _) rfl ⟨rfl, ⟨bs5, ?_⟩, K4.trans k5⟩
    have e1 : bs + a.count = bs + (a.pos (next + b.count)).length := by rw [Tm.pos_len]
    rw [Nat.add_assoc] at h5
    rw [e1, mkOut_rl (by rw [Tm.pos_len, Tm.pos_len]; exact HL1.out), Nat.add_comm b.count] at h5
    simpa using h5
set_option maxHeartbeats 1000000 in
set_option maxRecDepth 100000 in
theorem mtells_two (t : Tm) (p : Bool) (a b : Tm) (ht : t.two = some (p, a, b)) (ha : MTells a) (hb : MTells b) : MTells t := by
  intro base w d g n next bs L S V h hl hnx r hS
  obtain ⟨k, c, wr, lb, kids, v, rfl, rfl, hk, hc, hlb, hkids⟩ := r
  obtain ⟨hkk, r', hr'⟩ := Tm.two_kind ht
  simp only [Tm.kind, Tm.kids] at hkk hr'
  subst hr'
  have HP := Lib.hid (Tm.pos_two ht next)
  have HC := Lib.hid (Tm.count_two ht)
  have hdb := h.1.ge
  have hdl := h.1.lt
  have hgb := h.2.1.ge
  have hgl := h.2.1.lt
  have hbw : base ≤ w.heap.size := by omega
  rw [Tm.count_two ht] at hl hnx
  obtain ⟨A, cap, rfl, hcl, hcm, _⟩ := hkids.form
  have hl2 : 2 ≤ (a :: b :: r').length := by simp
  have NX : ¬ Is2 d g w.heap.size := fun e => by rcases e with e | e <;> omega
  have bel : Below w.heap.size w (w.alloc (.cells #[.int .i64 k, .int .i64 c, .bool wr, .int .i64 lb, .slice A (a :: b :: r').length cap] 26)) := (Below.refl _ _).alloc (Nat.le_refl _) _
  have K2 := hkids.go RdTm.keeps bel (hS.trans (Sub.upto hbw)) (Sub.refl _)
  obtain ⟨b0, off, k0, c0, wr0, lb0, v0, rfl, hsb, x0, x1, x2, x3, x4, ra⟩ := RdTms.kid K2 (q := 0) (by simp)
  obtain ⟨b0', off', k1, c1, wr1, lb1, v1, hA, hsb', y0, y1, y2, y3, y4, rb⟩ := RdTms.kid K2 (q := 1) (by simp)
  injection hA with hA
  injection hA with e1 e2
  subst e1 e2
  simp only [List.getElem_cons_zero, List.getElem_cons_succ] at ra rb
  rw [Nat.zero_mul, Nat.add_zero] at x0 x1 x2 x3 x4
  rw [Nat.one_mul] at y0 y1 y2 y3 y4
  have RA := Lib.hid ra
  have RB := Lib.hid rb
  have H := Lib.hid (h.below bel)
  have BEL := Lib.hid bel
  have HS := Lib.hid hS
  have HA := Lib.hid ha
  have HB := Lib.hid hb
  generalize (a :: b :: r').length = n' at *
  clear h ra rb hkids K2 ht ha hb hS bel hk
  have hn0 : (0 : Int) < (n' : Int) := by omega
  have hn00 : 0 < n' := by omega
  have hb0b : b0 < base := HS.out _ hsb
  have NXb : ¬ Is2 d g b0 := fun e => by rcases e with e | e <;> omega
  have hl3 := Lib.hid hl
  have hx3 := Lib.hid hnx
  have hn1 : (1 : Int) < (n' : Int) := by omega
  have hm := m_mtwo ⟨d, 0, none⟩
  have hnil := n_mtwo ⟨d, 0, none⟩
  have hb0 : b0 < w.heap.size := by omega
  unfold tmV mkI
  unfold maxLen at hcm
  cases p
  all_goals
    simp only [Bool.false_eq_true, if_false, if_true] at hkk
    subst hkk
    go_enter Try.func44, Try.ntmps44
    go_upto_region 5 with (fail)
  · have f0 : (w.alloc (.cells #[.int .i64 2, .int .i64 c, .bool wr, .int .i64 lb, .slice (some ⟨b0, off, none⟩) n' cap] 26)).cell? ⟨w.heap.size, 0, none⟩ = some (.int .i64 2) := by simp
    have f1 : (w.alloc (.cells #[.int .i64 2, .int .i64 c, .bool wr, .int .i64 lb, .slice (some ⟨b0, off, none⟩) n' cap] 26)).cell? ⟨w.heap.size, 4, none⟩ = some (.slice (some ⟨b0, off, none⟩) n' cap) := by simp
    generalize w.alloc (.cells #[.int .i64 2, .int .i64 c, .bool wr, .int .i64 lb, .slice (some ⟨b0, off, none⟩) n' cap] 26) = W at *
    go_region_held3 (fun w' => w'.cell? ⟨w.heap.size, 0, none⟩ = some (.int .i64 2) ∧ w'.cell? ⟨w.heap.size, 4, none⟩ = some (.slice (some ⟨b0, off, none⟩) n' cap) ∧
      w'.cell? ⟨b0, off, none⟩ = some (.int .i64 k0) ∧ w'.cell? ⟨b0, off + 1, none⟩ = some (.int .i64 c0) ∧ w'.cell? ⟨b0, off + 2, none⟩ = some (.bool wr0) ∧ w'.cell? ⟨b0, off + 3, none⟩ = some (.int .i64 lb0) ∧ w'.cell? ⟨b0, off + 4, none⟩ = some v0 ∧
      w'.cell? ⟨b0, off + 5, none⟩ = some (.int .i64 k1) ∧ w'.cell? ⟨b0, off + 5 + 1, none⟩ = some (.int .i64 c1) ∧ w'.cell? ⟨b0, off + 5 + 2, none⟩ = some (.bool wr1) ∧ w'.cell? ⟨b0, off + 5 + 3, none⟩ = some (.int .i64 lb1) ∧ w'.cell? ⟨b0, off + 5 + 4, none⟩ = some v1)
      (first | exact ⟨q0, q1, q2, q3, q4, q5, q6, q7, q8, q9, q10, q11⟩ | go_keep)
      ((go_at_call 108; refine (mtwo_any a b HA.out HB.out false base W.drew d g n next bs L S _ _ (H.out.but (T := Nowhere) (But.refl _ _).drew (fun h => h) (fun h => h)) hl3.out hx3.out (RA.out.keep (Sub.refl _) (Same.refl _ _)) (RB.out.keep (Sub.refl _) (Same.refl _ _)) HS.out).mono ?_; rintro e w1 ⟨rfl, bs1, h1, hk1⟩; have q0 := hk1.cell NX f0; have q1 := hk1.cell NX f1; have q2 := hk1.cell NXb x0; have q3 := hk1.cell NXb x1; have q4 := hk1.cell NXb x2; have q5 := hk1.cell NXb x3; have q6 := hk1.cell NXb x4; have q7 := hk1.cell NXb y0; have q8 := hk1.cell NXb y1; have q9 := hk1.cell NXb y2; have q10 := hk1.cell NXb y3; have q11 := hk1.cell NXb y4))
    go_wp2
    go_end0
    refine ⟨rfl, ?_⟩
    rw [HP.out, HC.out]
    exact ⟨bs1, h1, ((But.of_below BEL.out).drew).trans hk1⟩
  · have f0 : (w.alloc (.cells #[.int .i64 3, .int .i64 c, .bool wr, .int .i64 lb, .slice (some ⟨b0, off, none⟩) n' cap] 26)).cell? ⟨w.heap.size, 0, none⟩ = some (.int .i64 3) := by simp
    have f1 : (w.alloc (.cells #[.int .i64 3, .int .i64 c, .bool wr, .int .i64 lb, .slice (some ⟨b0, off, none⟩) n' cap] 26)).cell? ⟨w.heap.size, 4, none⟩ = some (.slice (some ⟨b0, off, none⟩) n' cap) := by simp
    generalize w.alloc (.cells #[.int .i64 3, .int .i64 c, .bool wr, .int .i64 lb, .slice (some ⟨b0, off, none⟩) n' cap] 26) = W at *
    go_region_held3 (fun w' => w'.cell? ⟨w.heap.size, 0, none⟩ = some (.int .i64 3) ∧ w'.cell? ⟨w.heap.size, 4, none⟩ = some (.slice (some ⟨b0, off, none⟩) n' cap) ∧
      w'.cell? ⟨b0, off, none⟩ = some (.int .i64 k0) ∧ w'.cell? ⟨b0, off + 1, none⟩ = some (.int .i64 c0) ∧ w'.cell? ⟨b0, off + 2, none⟩ = some (.bool wr0) ∧ w'.cell? ⟨b0, off + 3, none⟩ = some (.int .i64 lb0) ∧ w'.cell? ⟨b0, off + 4, none⟩ = some v0 ∧
      w'.cell? ⟨b0, off + 5, none⟩ = some (.int .i64 k1) ∧ w'.cell? ⟨b0, off + 5 + 1, none⟩ = some (.int .i64 c1) ∧ w'.cell? ⟨b0, off + 5 + 2, none⟩ = some (.bool wr1) ∧ w'.cell? ⟨b0, off + 5 + 3, none⟩ = some (.int .i64 lb1) ∧ w'.cell? ⟨b0, off + 5 + 4, none⟩ = some v1)
      (first | exact ⟨q0, q1, q2, q3, q4, q5, q6, q7, q8, q9, q10, q11⟩ | go_keep)
      ((go_at_call 108; refine (mtwo_any a b HA.out HB.out true base W.drew d g n next bs L S _ _ (H.out.but (T := Nowhere) (But.refl _ _).drew (fun h => h) (fun h => h)) hl3.out hx3.out (RA.out.keep (Sub.refl _) (Same.refl _ _)) (RB.out.keep (Sub.refl _) (Same.refl _ _)) HS.out).mono ?_; rintro e w1 ⟨rfl, bs1, h1, hk1⟩; have q0 := hk1.cell NX f0; have q1 := hk1.cell NX f1; have q2 := hk1.cell NXb x0; have q3 := hk1.cell NXb x1; have q4 := hk1.cell NXb x2; have q5 := hk1.cell NXb x3; have q6 := hk1.cell NXb x4; have q7 := hk1.cell NXb y0; have q8 := hk1.cell NXb y1; have q9 := hk1.cell NXb y2; have q10 := hk1.cell NXb y3; have q11 := hk1.cell NXb y4))
    go_wp2
    go_end0
    refine ⟨rfl, ?_⟩
    rw [HP.out, HC.out]
    exact ⟨bs1, h1, ((But.of_below BEL.out).drew).trans hk1⟩
theorem mtells_all (t : Tm) : MTells t := Tm.ind mtells_one mtells_two t
end Go.Proofs.Ytfldajplclahfaa
