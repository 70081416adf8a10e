/- Expressions made anew: words. -/
import Derived.Test.YtoijobnpfibboaaDoorEt1
namespace Go.Proofs.YtoijobnpfibboaaDoor
open Go.RowKit
set_option linter.unusedVariables false
def set4 (w : World) (R : Nat) (u0 u1 u2 u3 : Value) : World := (((w.setCell ⟨R, 0, none⟩ u0).setCell ⟨R, 1, none⟩ u1).setCell ⟨R, 2, none⟩ u2).setCell ⟨R, 3, none⟩ u3
theorem set4_size (w : World) (R : Nat) (u0 u1 u2 u3 : Value) : (set4 w R u0 u1 u2 u3).heap.size = w.heap.size := by unfold set4; rw [size_setCell, size_setCell, size_setCell, size_setCell]
theorem set4_below {B : Nat} {a w : World} {R : Nat} {u0 u1 u2 u3 : Value} (h : Below B a w) (hR : B ≤ R) : Below B a (set4 w R u0 u1 u2 u3) :=
  (((h.setCell (p := ⟨R, 0, none⟩) hR u0).setCell (p := ⟨R, 1, none⟩) hR u1).setCell (p := ⟨R, 2, none⟩) hR u2).setCell (p := ⟨R, 3, none⟩) hR u3
theorem set4_same {S : Blocks} {w : World} {R : Nat} {u0 u1 u2 u3 : Value} (h : ¬ S R) : Same S w (set4 w R u0 u1 u2 u3) :=
  (((same_setCell (p := ⟨R, 0, none⟩) h u0).setCell (p := ⟨R, 1, none⟩) h u1).setCell (p := ⟨R, 2, none⟩) h u2).setCell (p := ⟨R, 3, none⟩) h u3
theorem plus_in {S : Blocks} {n m k j : Nat} (hn : n ≤ k) (hj : m ≤ j) : Sub (Plus S k m) (Plus S n j) := Sub.plus_mono hn hj
/-- V reads as t in blocks of S and new ones, from n on -/
def FrP (n : Nat) (S : Blocks) (w : World) (t : Ex) (V : Value) : Prop := ∃ T, Sub T (Plus S n w.heap.size) ∧ Sub T (Upto w.heap.size) ∧ RdE w T t V
section
variable {n : Nat} {S : Blocks} {w w' : World} {t a b : Ex} {V Va Vb : Value}
theorem FrP.via (hb : Below w.heap.size w w') (h : FrP n S w t V) : FrP n S w' t V := by
  obtain ⟨T, h1, h2, r⟩ := h
  exact ⟨T, h1.trans (Sub.plus_mono (Nat.le_refl _) hb.size), h2.trans (Sub.upto hb.size), r.go hb h2⟩
theorem FrP.drew (h : FrP n S w t V) : FrP n S w.drew t V := FrP.via (Below.refl _ _).drew h
theorem FrP.alloc {o : Obj} (h : FrP n S w t V) : FrP n S (w.alloc o) t V := FrP.via ((Below.refl _ _).alloc (Nat.le_refl _) _) h
theorem FrP.of {m : Nat} (h : RdE w (Plus S m w.heap.size) t V) (hn : n ≤ m) (hS : Sub S (Upto w.heap.size)) : FrP n S w t V := ⟨_, Sub.plus_mono hn (Nat.le_refl _), Sub.plus_upto hS, h⟩
theorem FrP.form (h : FrP n S w t V) : ∃ A cap, V = .agg #[.int .i64 t.kind, .int .i64 t.num, .string t.name, .slice A t.args.length cap] := by
  obtain ⟨T, h1, h2, r⟩ := h
  exact r.form
theorem FrP.two_in (ha : FrP n S w a Va) (hb : FrP n S w b Vb) : ∃ T, Sub T (Plus S n w.heap.size) ∧ Sub T (Upto w.heap.size) ∧ RdE w T a Va ∧ RdE w T b Vb := by
  obtain ⟨T, h1, h2, r⟩ := ha
  obtain ⟨T', h1', h2', r'⟩ := hb
  exact ⟨Both T T', Sub.both h1 h1', Sub.both h2 h2', r.keep (Sub.left _ _) (Same.refl _ _), r'.keep (Sub.right _ _) (Same.refl _ _)⟩
theorem FrP.out {T : Blocks} {m : Nat} (h1 : Sub T (Plus S n w.heap.size)) (hT : Sub T (Upto w.heap.size)) (hs : w.heap.size ≤ w'.heap.size) (hn : n ≤ w.heap.size) (r : RdE w' (Plus T w.heap.size w'.heap.size) t V) : FrP n S w' t V :=
  ⟨_, fun b hb => hb.elim (fun h => (h1 b h).elim .inl (fun h => .inr ⟨h.1, Nat.lt_of_lt_of_le h.2 hs⟩)) (fun h => .inr ⟨Nat.le_trans hn h.1, h.2⟩), Sub.plus_upto (hT.trans (Sub.upto hs)), r⟩
end
/-- all that was there is as it was, but for block R -/
abbrev StayX (R : Nat) (W w' : World) : Prop :=
  (∀ p : Addr, p.block < W.heap.size → p.block ≠ R → w'.cell? p = W.cell? p) ∧ (∀ p : Addr, p.block < W.heap.size → w'.frozen? p = W.frozen? p) ∧ But (Is R) W w'
theorem StayX.of_stay {R : Nat} {W w' : World} (h : Stay W w') : StayX R W w' := ⟨fun p hp _ => h.1 p hp, fun p hp => h.2.1 p hp, But.of_below h.below⟩
theorem StayX.set {R o : Nat} {W w' : World} (h : StayX R W w') (u : Value) : StayX R W (w'.setCell ⟨R, o, none⟩ u) :=
  ⟨fun p hp hn => (World.cell?_setCell_other w' ⟨R, o, none⟩ p u (fun e => hn (by rw [← e]))).trans (h.1 p hp hn), fun p hp => by rw [World.frozen?_setCell]; exact h.2.1 p hp, h.2.2.setCell (p := ⟨R, o, none⟩) rfl u⟩
theorem StayX.drew {R : Nat} {W w' : World} (h : StayX R W w') : StayX R W w'.drew := ⟨h.1, h.2.1, h.2.2.drew⟩
theorem StayX.alloc {R : Nat} {W w' : World} (h : StayX R W w') (o : Obj) : StayX R W (w'.alloc o) := by
  refine ⟨fun p hp hn => ?_, fun p hp => ?_, h.2.2.alloc o⟩
  · rw [World.cell?_alloc_lt w' o p (Nat.lt_of_lt_of_le hp h.2.2.size)]; exact h.1 p hp hn
  · have hb := (Below.refl w'.heap.size w').alloc (Nat.le_refl _) o
    rw [hb.frozen (Nat.lt_of_lt_of_le hp h.2.2.size)]; exact h.2.1 p hp
theorem FrP.set {n : Nat} {S : Blocks} {w : World} {t : Ex} {V : Value} {R : Nat} {u0 u1 u2 u3 : Value} (h : FrP n S w t V) (hR : ¬ S R) (hn : R < n) : FrP n S (set4 w R u0 u1 u2 u3) t V := by
  obtain ⟨T, h1, h2, r⟩ := h
  refine ⟨T, h1.trans (Sub.plus_mono (Nat.le_refl _) (Nat.le_of_eq (set4_size _ _ _ _ _ _).symm)), h2.trans (Sub.upto (Nat.le_of_eq (set4_size _ _ _ _ _ _).symm)), r.keep (Sub.refl _) (set4_same ?_)⟩
  intro hp
  exact (h1 _ hp).elim hR (fun h => by omega)
theorem set4_cells {w : World} {R : Nat} {v0 v1 v2 v3 : Value} (u0 u1 u2 u3 : Value) (h0 : w.cell? ⟨R, 0, none⟩ = some v0) (h1 : w.cell? ⟨R, 1, none⟩ = some v1) (h2 : w.cell? ⟨R, 2, none⟩ = some v2) (h3 : w.cell? ⟨R, 3, none⟩ = some v3) :
    (set4 w R u0 u1 u2 u3).cell? ⟨R, 0, none⟩ = some u0 ∧ (set4 w R u0 u1 u2 u3).cell? ⟨R, 1, none⟩ = some u1 ∧ (set4 w R u0 u1 u2 u3).cell? ⟨R, 2, none⟩ = some u2 ∧ (set4 w R u0 u1 u2 u3).cell? ⟨R, 3, none⟩ = some u3 := by
  unfold set4
  refine ⟨?_, ?_, ?_, ?_⟩
  · rw [World.cell?_setCell_other _ _ _ _ (by simp), World.cell?_setCell_other _ _ _ _ (by simp), World.cell?_setCell_other _ _ _ _ (by simp)]
    exact World.cell?_setCell_same' _ _ _ (by rw [h0]; rfl)
  · rw [World.cell?_setCell_other _ _ _ _ (by simp), World.cell?_setCell_other _ _ _ _ (by simp)]
    exact World.cell?_setCell_same' _ _ _ (by rw [World.cell?_setCell_other _ _ _ _ (by simp), h1]; rfl)
  · rw [World.cell?_setCell_other _ _ _ _ (by simp)]
    exact World.cell?_setCell_same' _ _ _ (by rw [World.cell?_setCell_other _ _ _ _ (by simp), World.cell?_setCell_other _ _ _ _ (by simp), h2]; rfl)
  · exact World.cell?_setCell_same' _ _ _ (by rw [World.cell?_setCell_other _ _ _ _ (by simp), World.cell?_setCell_other _ _ _ _ (by simp), World.cell?_setCell_other _ _ _ _ (by simp), h3]; rfl)
theorem FrP.mk2 {n : Nat} {S : Blocks} {w : World} {k : Int} {a b : Ex} {A1 A2 : Option Addr} {c1 c2 z : Nat} (hk : inI k) (hn : n ≤ w.heap.size) (hz : w.heap.size = z)
    (ha : FrP n S w a (.agg #[.int .i64 a.kind, .int .i64 a.num, .string a.name, .slice A1 a.args.length c1])) (hb : FrP n S w b (.agg #[.int .i64 b.kind, .int .i64 b.num, .string b.name, .slice A2 b.args.length c2])) :
    FrP n S (w.alloc (.cells #[.int .i64 a.kind, .int .i64 a.num, .string a.name, .slice A1 a.args.length c1, .int .i64 b.kind, .int .i64 b.num, .string b.name, .slice A2 b.args.length c2] 29)) (mkE k a b)
      (.agg #[.int .i64 k, .int .i64 0, .string noS, .slice (some ⟨z, 0, none⟩) 2 2]) := by
  subst hz
  obtain ⟨T, h1, h2, ra, rb⟩ := FrP.two_in ha hb
  have hbel := (Below.refl w.heap.size w).alloc (Nat.le_refl _) (.cells #[.int .i64 a.kind, .int .i64 a.num, .string a.name, .slice A1 a.args.length c1, .int .i64 b.kind, .int .i64 b.num, .string b.name, .slice A2 b.args.length c2] 29)
  have hblk := Blk.made w [.int .i64 a.kind, .int .i64 a.num, .string a.name, .slice A1 a.args.length c1, .int .i64 b.kind, .int .i64 b.num, .string b.name, .slice A2 b.args.length c2] 29 (base := 0) (Nat.zero_le _)
  refine ⟨Both T (Is w.heap.size), Sub.both (h1.trans (Sub.plus_mono (Nat.le_refl _) hbel.size)) (fun b hb => by unfold Is at hb; subst hb; exact .inr ⟨hn, by simp⟩), Sub.both (h2.trans (Sub.upto hbel.size)) (fun b hb => by unfold Is at hb; subst hb; simp [Upto]), ?_⟩
  exact RdE.two hk (ra.keep (Sub.left _ _) (same_of_below hbel h2)) (rb.keep (Sub.left _ _) (same_of_below hbel h2)) (.inr rfl) hblk.cell
/-- what the region leaves: the result in its cell, the two behind it -/
theorem fin_two {W wl : World} {S : Blocks} {R : Nat} {k : Int} {a b : Ex} {A1 A2 : Option Addr} {c1 c2 : Nat} {v0 v1 v2 v3 : Value} (hk : inI k) (hst : Stay W wl) (hR : R < W.heap.size) (hS : ¬ S R)
    (h0 : wl.cell? ⟨R, 0, none⟩ = some v0) (h1 : wl.cell? ⟨R, 1, none⟩ = some v1) (h2 : wl.cell? ⟨R, 2, none⟩ = some v2) (h3 : wl.cell? ⟨R, 3, none⟩ = some v3)
    (ha : FrP W.heap.size S wl a (.agg #[.int .i64 a.kind, .int .i64 a.num, .string a.name, .slice A1 a.args.length c1])) (hb : FrP W.heap.size S wl b (.agg #[.int .i64 b.kind, .int .i64 b.num, .string b.name, .slice A2 b.args.length c2])) :
    ∃ W9, W9 = (set4 wl R (.int .i64 k) (.int .i64 0) (.string noS) (.slice (some ⟨wl.heap.size, 0, none⟩) 2 2)).alloc (.cells #[.int .i64 a.kind, .int .i64 a.num, .string a.name, .slice A1 a.args.length c1, .int .i64 b.kind, .int .i64 b.num, .string b.name, .slice A2 b.args.length c2] 29) ∧
      W9.cell? ⟨R, 0, none⟩ = some (.int .i64 k) ∧ W9.cell? ⟨R, 1, none⟩ = some (.int .i64 0) ∧ W9.cell? ⟨R, 2, none⟩ = some (.string noS) ∧ W9.cell? ⟨R, 3, none⟩ = some (.slice (some ⟨wl.heap.size, 0, none⟩) 2 2) ∧
      FrP W.heap.size S W9 (mkE k a b) (.agg #[.int .i64 k, .int .i64 0, .string noS, .slice (some ⟨wl.heap.size, 0, none⟩) 2 2]) ∧ ∀ B w, B ≤ R → Below B w wl → Below B w W9 := by
  refine ⟨_, rfl, ?_⟩
  have hc := set4_cells (.int .i64 k) (.int .i64 0) (.string noS) (.slice (some ⟨wl.heap.size, 0, none⟩) 2 2) h0 h1 h2 h3
  have hlt : R < (set4 wl R (.int .i64 k) (.int .i64 0) (.string noS) (.slice (some ⟨wl.heap.size, 0, none⟩) 2 2)).heap.size := by rw [set4_size]; exact Nat.lt_of_lt_of_le hR hst.size
  refine ⟨(World.cell?_alloc_lt _ _ _ hlt).trans hc.1, (World.cell?_alloc_lt _ _ _ hlt).trans hc.2.1, (World.cell?_alloc_lt _ _ _ hlt).trans hc.2.2.1, (World.cell?_alloc_lt _ _ _ hlt).trans hc.2.2.2, ?_, fun B w hB hb => ?_⟩
  · exact FrP.mk2 hk (by rw [set4_size]; exact hst.size) (set4_size _ _ _ _ _ _) (ha.set hS hR) (hb.set hS hR)
  · have h := set4_below (u0 := .int .i64 k) (u1 := .int .i64 0) (u2 := .string noS) (u3 := .slice (some ⟨wl.heap.size, 0, none⟩) 2 2) hb hB
    exact h.alloc (by omega) _
theorem FrP.rd {n m : Nat} {S : Blocks} {w : World} {t : Ex} {V : Value} (h : FrP n S w t V) (hm : m ≤ n) : RdE w (Plus S m w.heap.size) t V := by
  obtain ⟨T, h1, h2, r⟩ := h
  exact r.keep (h1.trans (Sub.plus_mono hm (Nat.le_refl _))) (Same.refl _ _)
end Go.Proofs.YtoijobnpfibboaaDoor
