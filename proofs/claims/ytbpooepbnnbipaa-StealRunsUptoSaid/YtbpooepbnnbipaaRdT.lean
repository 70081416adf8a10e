/- Words for a term that is a value. -/
import Derived.Test.YtbpooepbnnbipaaData
import Derived.Test.YtbpooepbnnbipaaFlat
import Derived.Test.YtbpooepbnnbipaaBut
import Derived.Test.YtbpooepbnnbipaaBlk
namespace Go.Proofs.Ytbpooepbnnbipaa
open Go.RowKit
set_option linter.unusedVariables false
abbrev tmV (k c : Int) (wr : Bool) (lb : Int) (v : Value) : Value := .agg #[.int .i64 k, .int .i64 c, .bool wr, .int .i64 lb, v]
/-- the value V reads as the term t -/
def RdT (w : World) (S : Blocks) (t : Tm) (V : Value) : Prop := ∃ k c wr lb kids v, t = .mk k c wr lb kids ∧ V = tmV k c wr lb v ∧ inI k ∧ inI c ∧ inI lb ∧ RdTms w S kids v
theorem RdT.keep {w w' : World} {S S' : Blocks} {t : Tm} {V : Value} (h : RdT w S t V) (hS : Sub S S') (hk : Same S w w') : RdT w' S' t V := by
  obtain ⟨k, c, wr, lb, kids, v, e1, e2, h1, h2, h3, h4⟩ := h
  exact ⟨k, c, wr, lb, kids, v, e1, e2, h1, h2, h3, h4.keep RdTm.keeps hS hk⟩
theorem RdT.go {B : Nat} {w w' : World} {S : Blocks} {t : Tm} {V : Value} (h : RdT w S t V) (hb : Below B w w') (hS : Sub S (Upto B)) : RdT w' S t V := h.keep (Sub.refl _) (same_of_below hb hS)
theorem RdT.but {T : Blocks} {w w' : World} {S : Blocks} {t : Tm} {V : Value} (h : RdT w S t V) (hb : But T w w') (hS : Sub S (Upto w.heap.size)) (hT : ∀ b, S b → ¬ T b) : RdT w' S t V := h.keep (Sub.refl _) (hb.same hS hT)
theorem RdT.slice {w : World} {S : Blocks} {t : Tm} {k c : Int} {wr : Bool} {lb : Int} {v : Value} (h : RdT w S t (tmV k c wr lb v)) : ∃ A n cap, v = .slice A n cap := by
  obtain ⟨k', c', wr', lb', kids, v', _, e, _, _, _, h4⟩ := h
  obtain ⟨A, cap, rfl, _⟩ := h4.form
  injection e with e
  simp only [Array.mk.injEq, List.cons.injEq, and_true] at e
  exact ⟨_, _, _, e.2.2.2.2⟩
/-- a kid -/
theorem RdTms.kid {w : World} {S : Blocks} {l : List Tm} {A : Option Addr} {n cap : Nat} (h : RdTms w S l (.slice A n cap)) {q : Nat} (hq : q < l.length) :
    ∃ b off k c wr lb v, A = some ⟨b, off, none⟩ ∧ S b ∧ w.cell? ⟨b, off + q * 5, none⟩ = some (.int .i64 k) ∧ w.cell? ⟨b, off + q * 5 + 1, none⟩ = some (.int .i64 c) ∧ w.cell? ⟨b, off + q * 5 + 2, none⟩ = some (.bool wr) ∧
      w.cell? ⟨b, off + q * 5 + 3, none⟩ = some (.int .i64 lb) ∧ w.cell? ⟨b, off + q * 5 + 4, none⟩ = some v ∧ RdT w S l[q] (tmV k c wr lb v) := by
  obtain ⟨b, off, cs, hA, hb, _, hc, hr⟩ := RdL.at_ h hq
  generalize l[q] = t at hr
  obtain ⟨k, c, wr, lb, kids⟩ := t
  obtain ⟨h1, h2, h3, v, rfl, h4⟩ := RdTm.open_ hr
  exact ⟨b, off, k, c, wr, lb, v, hA, hb, hc 0 _ rfl, by rw [Nat.add_assoc]; exact hc 1 _ rfl, by rw [Nat.add_assoc]; exact hc 2 _ rfl, by rw [Nat.add_assoc]; exact hc 3 _ rfl, by rw [Nat.add_assoc]; exact hc 4 _ rfl, k, c, wr, lb, kids, v, rfl, rfl, h1, h2, h3, h4⟩
end Go.Proofs.Ytbpooepbnnbipaa
