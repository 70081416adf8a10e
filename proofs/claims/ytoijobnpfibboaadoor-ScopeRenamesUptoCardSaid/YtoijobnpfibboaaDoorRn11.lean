/- The reference's lrename: a round's bundle. -/
import Derived.Test.YtoijobnpfibboaaDoorRn10
import Derived.Test.YtoijobnpfibboaaDoorScW
import Derived.Test.YtoijobnpfibboaaDoorItoaLib
import Derived.Test.YtoijobnpfibboaaDoorRnRow
namespace Go.Proofs.YtoijobnpfibboaaDoor
open Go.RowKit
set_option linter.unusedVariables false
def FrQ (n : Nat) (S : Blocks) (w : World) (l : List St) (x : Value) : Prop := ∃ T, Sub T (Plus S n w.heap.size) ∧ Sub T (Upto w.heap.size) ∧ RdSts w T l x
section
variable {n y : Nat} {S : Blocks} {w w' : World} {t : Ex} {V x : Value} {l : List St}
theorem FrP.set1 (h : FrP n S w t V) (hR : ¬ S y) (hn : y < n) {o : Nat} (u : Value) : FrP n S (w.setCell ⟨y, o, none⟩ u) t V := by
  obtain ⟨T, h1, h2, r⟩ := h
  refine ⟨T, by rw [size_setCell]; exact h1, by rw [size_setCell]; exact h2, r.keep (Sub.refl _) (same_setCell (fun hp => (h1 _ hp).elim hR (fun h => by have h := h.1; simp at h; omega)) u)⟩
theorem FrQ.set1 (h : FrQ n S w l x) (hR : ¬ S y) (hn : y < n) {o : Nat} (u : Value) : FrQ n S (w.setCell ⟨y, o, none⟩ u) l x := by
  obtain ⟨T, h1, h2, r⟩ := h
  refine ⟨T, by rw [size_setCell]; exact h1, by rw [size_setCell]; exact h2, r.keep RdSt.keeps (Sub.refl _) (same_setCell (fun hp => (h1 _ hp).elim hR (fun h => by have h := h.1; simp at h; omega)) u)⟩
theorem FrQ.via (hb : Below w.heap.size w w') (h : FrQ n S w l x) : FrQ n S w' l x := by
  obtain ⟨T, h1, h2, r⟩ := h
  exact ⟨T, h1.trans (Sub.plus_mono (Nat.le_refl _) hb.size), h2.trans (Sub.upto hb.size), r.go RdSt.keeps hb h2 (Sub.refl _)⟩
theorem FrQ.of {m : Nat} (h : RdSts w (Plus S m w.heap.size) l x) (hn : n ≤ m) (hS : Sub S (Upto w.heap.size)) : FrQ n S w l x := ⟨_, Sub.plus_mono hn (Nat.le_refl _), Sub.plus_upto hS, h⟩
theorem FrQ.form (h : FrQ n S w l x) : ∃ A cap, x = .slice A l.length cap := by
  obtain ⟨T, _, _, r⟩ := h
  obtain ⟨A, cap, e, _⟩ := r.form
  exact ⟨A, cap, e⟩
theorem FrQ.nil (n : Nat) (S : Blocks) (w : World) : FrQ n S w [] (.slice none 0 0) := ⟨Nowhere, Sub.nowhere _, Sub.nowhere _, RdL.nil (by simp [maxLen])⟩
theorem FrP.zero (n : Nat) (S : Blocks) (w : World) : FrP n S w exZ (.agg #[.int .i64 0, .int .i64 0, .string noS, .slice none 0 0]) := ⟨Nowhere, Sub.nowhere _, Sub.nowhere _, RdE.leaf _ _ (by decide) (by decide) (by decide)⟩
theorem FrP.setA (h : FrP n S w t V) (hR : ¬ S y) (hn : y < n) (o : Nat) (u0 u1 u2 u3 : Value) : FrP n S ((((w.setCell ⟨y, o, none⟩ u0).setCell ⟨y, o + 1, none⟩ u1).setCell ⟨y, o + 2, none⟩ u2).setCell ⟨y, o + 3, none⟩ u3) t V := (((h.set1 hR hn u0).set1 hR hn u1).set1 hR hn u2).set1 hR hn u3
end
/-- the cells of a statement told -/
theorem tld_cells {n : Nat} {S : Blocks} {w : World} {k : Int} {s : Str} {a b : Ex} {body els : List St} {a0 a1 b0 b1 : Int} {a2 b2 : Str} {a3 b3 v1 v2 : Value} (hk : inI k) (hs : okS s)
    (ha : FrP n S w a (.agg #[.int .i64 a0, .int .i64 a1, .string a2, a3])) (hb : FrP n S w b (.agg #[.int .i64 b0, .int .i64 b1, .string b2, b3])) (h1 : FrQ n S w body v1) (h2 : FrQ n S w els v2) :
    ∃ T, Sub T (Plus S n w.heap.size) ∧ Sub T (Upto w.heap.size) ∧ RdSt w T (.mk k s a b body els) [.int .i64 k, .string s, .int .i64 a0, .int .i64 a1, .string a2, a3, .int .i64 b0, .int .i64 b1, .string b2, b3, v1, v2] := by
  obtain ⟨T1, n1, m1, r1⟩ := ha
  obtain ⟨T2, n2, m2, r2⟩ := hb
  obtain ⟨T3, n3, m3, r3⟩ := h1
  obtain ⟨T4, n4, m4, r4⟩ := h2
  refine ⟨Both (Both T1 T2) (Both T3 T4), Sub.both (Sub.both n1 n2) (Sub.both n3 n4), Sub.both (Sub.both m1 m2) (Sub.both m3 m4), ?_⟩
  exact RdSt.shut hk hs ((r1.keep (fun k hk => .inl (.inl hk)) (Same.refl _ _)).toX) ((r2.keep (fun k hk => .inl (.inr hk)) (Same.refl _ _)).toX) (r3.sub RdSt.keeps (fun k hk => .inr (.inl hk))) (r4.sub RdSt.keeps (fun k hk => .inr (.inr hk)))
/-- names read in blocks below M that are not a row's own -/
def NmR2 (M : Nat) (v8 : Value) (w : World) (V : Env) (x : Value) : Prop := ∃ T, (∀ k, T k → k < M ∧ v8.ownBlock ≠ some k) ∧ RdNm w T V x
/-- a round of the reference's -/
structure LB (n0 d y : Nat) (S : Blocks) (w : World) (a b : Ex) (VA VB : Value) (body els : List St) (v1 v2 : Value) (cs : List Value) (O : List St) (v8 : Value) (E : Env) (nm : Value) (W : World) (ys : List Value) : Prop where
  n0e : n0 = w.heap.size
  be : Below n0 w W
  ow : OwnL RdSt 12 31 W n0 (Plus S n0 d) O v8
  hv : ∀ k, v8.ownBlock = some k → n0 ≤ k ∧ k < d
  nr : NmR2 d v8 W E nm
  rn : Rnd n0 S d cs a b VA VB body els v1 v2 W
  yb : Blk n0 W y ys
  dy : d < y
  sS : Sub S (Upto n0)
section
variable {n0 d y : Nat} {S : Blocks} {w : World} {a b : Ex} {VA VB : Value} {body els : List St} {v1 v2 : Value} {cs : List Value} {O : List St} {v8 : Value} {E : Env} {nm : Value} {W W2 : World} {ys : List Value}
theorem NmR2.keep {M : Nat} (h : NmR2 M v8 W E nm) (hs : Same (fun k => k < M ∧ v8.ownBlock ≠ some k) W W2) : NmR2 M v8 W2 E nm := by
  obtain ⟨T, hT, r⟩ := h
  exact ⟨T, hT, r.keep Flat.keeps (Sub.refl _) (hs.sub hT)⟩
theorem LB.below (h : LB n0 d y S w a b VA VB body els v1 v2 cs O v8 E nm W ys) (hb : Below W.heap.size W W2) : LB n0 d y S w a b VA VB body els v1 v2 cs O v8 E nm W2 ys := by
  have h1 := h.rn.bd.lt
  have h0 := h.rn.bd.ge
  refine ⟨h.n0e, h.be.trans (hb.mono (by omega)), h.ow.keep RdSt.keeps hb, h.hv, h.nr.keep (same_of_below hb (fun k hk => by unfold Upto; omega)), h.rn.but (T := Nowhere) (But.of_below hb) (fun _ h => h.elim) (fun h => h) h.sS, h.yb.below hb, h.dy, h.sS⟩
theorem LB.set (h : LB n0 d y S w a b VA VB body els v1 v2 cs O v8 E nm W ys) {i : Nat} (hi : i < ys.length) (u : Value) : LB n0 d y S w a b VA VB body els v1 v2 cs O v8 E nm (W.setCell ⟨y, i, none⟩ u) (ys.set i u) := by
  have h2 := h.dy
  have h0 := h.rn.bd.ge
  have hset := (But.refl (Is y) W).setCell (p := ⟨y, i, none⟩) rfl u
  have hyS : ∀ k, Is y k → k = y := fun k hk => hk
  refine ⟨h.n0e, h.be.setCell (p := ⟨y, i, none⟩) (by show n0 ≤ y; omega) u, h.ow.butG RdSt.keeps hset (fun k hk e => by have := (h.hv k hk).2; have := hyS k e; omega) (fun k hk e => hk.elim (fun hk => by have := hyS k e; have := h.sS k hk; unfold Upto at this; omega) (fun hk => by have := hyS k e; omega)), h.hv, h.nr.keep (same_setCell (p := ⟨y, i, none⟩) (fun hk => by have := hk.1; simp at this; omega) u), h.rn.but hset (fun k hk => by have := hyS k hk; omega) (fun e => by have := hyS _ e; omega) h.sS, h.yb.set hi u, h.dy, h.sS⟩
end
section
variable {n0 d y : Nat} {S : Blocks} {w : World} {a b : Ex} {VA VB : Value} {body els : List St} {v1 v2 : Value} {cs : List Value} {O : List St} {v8 : Value} {E : Env} {nm : Value} {W W2 : World} {y0 y1 y2 y3 y4 y5 y6 y7 y8 y9 y10 y11 : Value}
theorem LB.setA (h : LB n0 d y S w a b VA VB body els v1 v2 cs O v8 E nm W [y0, y1, y2, y3, y4, y5, y6, y7, y8, y9, y10, y11]) (u0 u1 u2 u3 : Value) : LB n0 d y S w a b VA VB body els v1 v2 cs O v8 E nm ((((W.setCell ⟨y, 2, none⟩ u0).setCell ⟨y, 3, none⟩ u1).setCell ⟨y, 4, none⟩ u2).setCell ⟨y, 5, none⟩ u3) [y0, y1, u0, u1, u2, u3, y6, y7, y8, y9, y10, y11] :=
  (((h.set (i := 2) (by simp) u0).set (i := 3) (by simp) u1).set (i := 4) (by simp) u2).set (i := 5) (by simp) u3
theorem LB.setB (h : LB n0 d y S w a b VA VB body els v1 v2 cs O v8 E nm W [y0, y1, y2, y3, y4, y5, y6, y7, y8, y9, y10, y11]) (u0 u1 u2 u3 : Value) : LB n0 d y S w a b VA VB body els v1 v2 cs O v8 E nm ((((W.setCell ⟨y, 6, none⟩ u0).setCell ⟨y, 7, none⟩ u1).setCell ⟨y, 8, none⟩ u2).setCell ⟨y, 9, none⟩ u3) [y0, y1, y2, y3, y4, y5, u0, u1, u2, u3, y10, y11] :=
  (((h.set (i := 6) (by simp) u0).set (i := 7) (by simp) u1).set (i := 8) (by simp) u2).set (i := 9) (by simp) u3
theorem LB.setN (h : LB n0 d y S w a b VA VB body els v1 v2 cs O v8 E nm W [y0, y1, y2, y3, y4, y5, y6, y7, y8, y9, y10, y11]) (u : Value) : LB n0 d y S w a b VA VB body els v1 v2 cs O v8 E nm (W.setCell ⟨y, 1, none⟩ u) [y0, u, y2, y3, y4, y5, y6, y7, y8, y9, y10, y11] := h.set (i := 1) (by simp) u
theorem LB.setV (h : LB n0 d y S w a b VA VB body els v1 v2 cs O v8 E nm W [y0, y1, y2, y3, y4, y5, y6, y7, y8, y9, y10, y11]) (u : Value) : LB n0 d y S w a b VA VB body els v1 v2 cs O v8 E nm (W.setCell ⟨y, 10, none⟩ u) [y0, y1, y2, y3, y4, y5, y6, y7, y8, y9, u, y11] := h.set (i := 10) (by simp) u
theorem LB.setW (h : LB n0 d y S w a b VA VB body els v1 v2 cs O v8 E nm W [y0, y1, y2, y3, y4, y5, y6, y7, y8, y9, y10, y11]) (u : Value) : LB n0 d y S w a b VA VB body els v1 v2 cs O v8 E nm (W.setCell ⟨y, 11, none⟩ u) [y0, y1, y2, y3, y4, y5, y6, y7, y8, y9, y10, u] := h.set (i := 11) (by simp) u
end
/-- what is left behind the append: the row, the names -/
theorem LB.done {n0 d y : Nat} {S : Blocks} {w : World} {a b : Ex} {VA VB : Value} {body els : List St} {v1 v2 : Value} {cs : List Value} {O : List St} {v8 v9 : Value} {E E2 : Env} {nm nm2 : Value} {W w9 : World} {ys : List Value} {st : St} {T9 : Blocks}
    (h : LB n0 d y S w a b VA VB body els v1 v2 cs O v8 E nm W ys) (hg : W.grownBy w9 v8.ownBlock) (hlt : W.heap.size ≤ w9.heap.size) (hw : v9.ownBlock = v8.ownBlock ∨ v9.ownBlock = some W.heap.size) (ho : OwnL RdSt 12 31 w9 n0 (Both (Plus S n0 d) T9) (O ++ [st]) v9) (h9 : Sub T9 (Plus S n0 W.heap.size))
    (hn : NmR2 W.heap.size v8 W E2 nm2) : OwnL RdSt 12 31 w9 n0 (Plus S n0 w9.heap.size) (O ++ [st]) v9 ∧ NmR2 w9.heap.size v9 w9 E2 nm2 ∧ Below n0 w w9 := by
  have h1 := h.rn.bd.lt
  have h0 := h.rn.bd.ge
  have hb := But.of_grown hg
  refine ⟨ho.sub (Sub.both (Sub.plus_mono (Nat.le_refl _) (by omega)) (h9.trans (Sub.plus_mono (Nat.le_refl _) hlt))), ?_, h.be.trans ((hb.below (B := n0) (by omega) (fun k hk => (h.hv k hk).1)))⟩
  obtain ⟨T, hT, r⟩ := hn
  refine ⟨T, fun k hk => ⟨Nat.lt_of_lt_of_le (hT k hk).1 hlt, fun e => ?_⟩, r.keep Flat.keeps (Sub.refl _) (hb.same (fun k hk => (hT k hk).1) (fun k hk e => (hT k hk).2 e))⟩
  rcases hw with e' | e'
  · exact (hT k hk).2 (by rw [← e']; exact e)
  · rw [e'] at e; injection e with e; have := (hT k hk).1; omega
end Go.Proofs.YtoijobnpfibboaaDoor
