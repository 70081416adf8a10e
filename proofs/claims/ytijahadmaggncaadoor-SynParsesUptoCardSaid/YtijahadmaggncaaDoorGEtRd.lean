/- Texts merged: RdEW, EtRd. -/
import Derived.Test.YtijahadmaggncaaDoorGTwo
import Derived.Test.YtijahadmaggncaaDoorFlat
import Derived.Laws.Strings
import Derived.Test.YtijahadmaggncaaDoorGOwnTw
/- An expression's value (split from Tw5). -/
namespace Go.Proofs.YtijahadmaggncaaDoor
open Go.RowKit
set_option linter.unusedVariables false
abbrev exV (k n : Int) (s : ByteArray) (v : Value) : Value := .agg #[.int .i64 k, .int .i64 n, .string s, v]
/-- the value V reads as the expression e -/
def RdE (w : World) (S : Blocks) (e : Ex) (V : Value) : Prop := ∃ k n s args v, e = .mk k n s args ∧ V = exV k n s v ∧ inI k ∧ inI n ∧ s.size ≤ 140737488355328 ∧ RdExs w S args v
theorem RdE.keep {w w' : World} {S S' : Blocks} {t : Ex} {V : Value} (h : RdE w S t V) (hS : Sub S S') (hk : Same S w w') : RdE w' S' t V := by
  obtain ⟨k, n, s, args, v, e1, e2, h1, h2, h3, h4⟩ := h
  exact ⟨k, n, s, args, v, e1, e2, h1, h2, h3, h4.keep RdEx.keeps hS hk⟩
theorem RdE.go {B : Nat} {w w' : World} {S : Blocks} {t : Ex} {V : Value} (h : RdE w S t V) (hb : Below B w w') (hS : Sub S (Upto B)) : RdE w' S t V := h.keep (Sub.refl _) (same_of_below hb hS)
theorem RdE.slice {w : World} {S : Blocks} {t : Ex} {k n : Int} {s : ByteArray} {v : Value} (h : RdE w S t (exV k n s v)) : ∃ A n cap, v = .slice A n cap := by
  obtain ⟨k', n', s', args, v', _, e, _, _, _, h4⟩ := h
  obtain ⟨A, cap, rfl, _⟩ := h4.form
  injection e with e
  simp only [Array.mk.injEq, List.cons.injEq, and_true] at e
  exact ⟨_, _, _, e.2.2.2⟩
/-- an argument -/
theorem RdExs.arg {w : World} {S : Blocks} {l : List Ex} {A : Option Addr} {n cap : Nat} (h : RdExs w S l (.slice A n cap)) {q : Nat} (hq : q < l.length) :
    ∃ b off k c s v, A = some ⟨b, off, none⟩ ∧ S b ∧ w.cell? ⟨b, off + q * 4, none⟩ = some (.int .i64 k) ∧ w.cell? ⟨b, off + q * 4 + 1, none⟩ = some (.int .i64 c) ∧ w.cell? ⟨b, off + q * 4 + 2, none⟩ = some (.string s) ∧
      w.cell? ⟨b, off + q * 4 + 3, none⟩ = some v ∧ RdE w S l[q] (exV k c s v) := by
  obtain ⟨b, off, cs, hA, hb, _, hc, hr⟩ := RdL.at_ h hq
  generalize l[q] = t at hr
  obtain ⟨k, c, s, args⟩ := t
  obtain ⟨h1, h2, h3, v, rfl, h4⟩ := RdEx.open_ hr
  exact ⟨b, off, k, c, s, v, hA, hb, hc 0 _ rfl, by rw [Nat.add_assoc]; exact hc 1 _ rfl, by rw [Nat.add_assoc]; exact hc 2 _ rfl, by rw [Nat.add_assoc]; exact hc 3 _ rfl, k, c, s, args, v, rfl, rfl, h1, h2, h3, h4⟩
end Go.Proofs.YtijahadmaggncaaDoor
/- Values that read as expressions in whatever blocks. -/
namespace Go.Proofs.YtijahadmaggncaaDoor
open Go.RowKit
set_option linter.unusedVariables false
abbrev noS : Str := ⟨#[]⟩
/-- one of the seven, of two -/
def mkE (k : Int) (a b : Ex) : Ex := .mk k 0 noS [a, b]
/-- V reads as the expression t, in whatever blocks there are -/
def FrE (w : World) (t : Ex) (V : Value) : Prop := ∃ S, Sub S (Upto w.heap.size) ∧ RdE w S t V
section
variable {w w' : World} {t a b : Ex} {V : Value}
theorem FrE.drew (h : FrE w t V) : FrE w.drew t V := by
  obtain ⟨S, hS, r⟩ := h
  exact ⟨S, hS, r.go (Below.refl _ _).drew hS⟩
theorem FrE.via (hb : Below w.heap.size w w') (h : FrE w t V) : FrE w' t V := by
  obtain ⟨S, hS, r⟩ := h
  exact ⟨S, hS.trans (Sub.upto hb.size), r.go hb hS⟩
theorem FrE.alloc {o : Obj} (h : FrE w t V) : FrE (w.alloc o) t V := h.via ((Below.refl _ _).alloc (Nat.le_refl _) _)
theorem FrE.of {S : Blocks} (h : RdE w S t V) (hS : Sub S (Upto w.heap.size)) : FrE w t V := ⟨S, hS, h⟩
theorem FrE.form (h : FrE w t V) : ∃ A cap, V = .agg #[.int .i64 t.kind, .int .i64 t.num, .string t.name, .slice A t.args.length cap] := by
  obtain ⟨S, hS, k, n, s, args, v, rfl, rfl, _, _, _, h4⟩ := h
  obtain ⟨A, cap, rfl, _⟩ := h4.form
  exact ⟨A, cap, rfl⟩
theorem FrE.nums (h : FrE w t V) : inI t.kind ∧ inI t.num ∧ t.name.size ≤ 140737488355328 := by
  obtain ⟨S, hS, k, n, s, args, v, rfl, rfl, h1, h2, h3, h4⟩ := h
  exact ⟨h1, h2, h3⟩
theorem FrE.leaf (w : World) {k n : Int} {s : Str} (hk : inI k) (hn : inI n) (hs : s.size ≤ 140737488355328) {A : Option Addr} : FrE w (.mk k n s []) (.agg #[.int .i64 k, .int .i64 n, .string s, .slice A 0 0]) :=
  ⟨Nowhere, Sub.nowhere _, k, n, s, [], _, rfl, rfl, hk, hn, hs, RdL.nil (by simp [maxLen])⟩
theorem RdE.form {S : Blocks} (h : RdE w S t V) : ∃ A cap, V = .agg #[.int .i64 t.kind, .int .i64 t.num, .string t.name, .slice A t.args.length cap] := by
  obtain ⟨k, n, s, args, v, rfl, rfl, _, _, _, h4⟩ := h
  obtain ⟨A, cap, rfl, _⟩ := h4.form
  exact ⟨A, cap, rfl⟩
theorem RdE.nums {S : Blocks} (h : RdE w S t V) : inI t.kind ∧ inI t.num ∧ t.name.size ≤ 140737488355328 := by
  obtain ⟨k, n, s, args, v, rfl, rfl, h1, h2, h3, h4⟩ := h
  exact ⟨h1, h2, h3⟩
theorem RdE.leaf (w : World) (S : Blocks) {k n : Int} {s : Str} (hk : inI k) (hn : inI n) (hs : s.size ≤ 140737488355328) {A : Option Addr} : RdE w S (.mk k n s []) (.agg #[.int .i64 k, .int .i64 n, .string s, .slice A 0 0]) :=
  ⟨k, n, s, [], _, rfl, rfl, hk, hn, hs, RdL.nil (by simp [maxLen])⟩
theorem RdE.toX {S : Blocks} {k n : Int} {s : Str} {v : Value} (h : RdE w S t (exV k n s v)) : RdEx w S t [.int .i64 k, .int .i64 n, .string s, v] := by
  obtain ⟨k', n', s', args, v', rfl, e, h1, h2, h3, h4⟩ := h
  injection e with e
  simp only [Array.mk.injEq, List.cons.injEq, Value.int.injEq, true_and, Value.string.injEq, and_true] at e
  obtain ⟨rfl, rfl, rfl, rfl⟩ := e
  exact RdEx.shut h1 h2 h3 h4
/-- two expressions laid side by side in a block -/
theorem RdE.two {S : Blocks} {k : Int} {z : Nat} {k1 n1 k2 n2 : Int} {s1 s2 : Str} {v1 v2 : Value} (hk : inI k) (r1 : RdE w S a (exV k1 n1 s1 v1)) (r2 : RdE w S b (exV k2 n2 s2 v2)) (hz : S z)
    (hc : ∀ (q : Nat) v, [.int .i64 k1, .int .i64 n1, .string s1, v1, .int .i64 k2, .int .i64 n2, .string s2, v2][q]? = some v → w.cell? ⟨z, q, none⟩ = some v) :
    RdE w S (mkE k a b) (.agg #[.int .i64 k, .int .i64 0, .string noS, .slice (some ⟨z, 0, none⟩) 2 2]) := by
  have x1 := r1.toX
  have x2 := r2.toX
  refine ⟨k, 0, noS, [a, b], _, rfl, rfl, hk, by decide, by decide, ?_⟩
  refine ⟨some ⟨z, 0, none⟩, 2, [[.int .i64 k1, .int .i64 n1, .string s1, v1], [.int .i64 k2, .int .i64 n2, .string s2, v2]], rfl, Nat.le_refl _, by simp [maxLen], by simp, rfl, ⟨by simp, fun _ => ⟨z, 0, rfl, hz, fun i cs hi j v hv => ?_⟩⟩, fun i e cs hi hc => ?_⟩
  · match i, hi with
    | 0, hi =>
      simp at hi; subst hi
      have hj : j < 4 := by have := (List.getElem?_eq_some_iff.1 hv).1; simpa using this
      match j, hj, hv with
      | 0, _, hv => simp at hv; subst hv; exact hc 0 _ rfl
      | 1, _, hv => simp at hv; subst hv; exact hc 1 _ rfl
      | 2, _, hv => simp at hv; subst hv; exact hc 2 _ rfl
      | 3, _, hv => simp at hv; subst hv; exact hc 3 _ rfl
    | 1, hi =>
      simp at hi; subst hi
      have hj : j < 4 := by have := (List.getElem?_eq_some_iff.1 hv).1; simpa using this
      match j, hj, hv with
      | 0, _, hv => simp at hv; subst hv; exact hc 4 _ rfl
      | 1, _, hv => simp at hv; subst hv; exact hc 5 _ rfl
      | 2, _, hv => simp at hv; subst hv; exact hc 6 _ rfl
      | 3, _, hv => simp at hv; subst hv; exact hc 7 _ rfl
  · match i, hi, hc with
    | 0, hi, hc => simp at hi hc; subst hi hc; exact x1
    | 1, hi, hc => simp at hi hc; subst hi hc; exact x2
end
end Go.Proofs.YtijahadmaggncaaDoor
