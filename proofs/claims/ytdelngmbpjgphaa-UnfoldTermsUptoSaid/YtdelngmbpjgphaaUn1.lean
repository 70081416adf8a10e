/- The walks of unfold's small functions: nothing, two, step, bind. -/
import Derived.Test.YtdelngmbpjgphaaUnSpec
import Derived.Test.YtdelngmbpjgphaaGAppStep
import Derived.Test.YtdelngmbpjgphaaSr2
namespace Go.Proofs.Ytdelngmbpjgphaa
open Go.RowKit
set_option linter.unusedVariables false
/-- a term that lies where nothing of X is written -/
def FrT (X : Blocks) (w : World) (t : Tm) (V : Value) : Prop := ∃ T, Sub T (Upto w.heap.size) ∧ (∀ k, T k → ¬ X k) ∧ RdT w T t V
theorem FrT.but {X : Blocks} {w w' : World} {t : Tm} {V : Value} (h : FrT X w t V) (hb : But X w w') : FrT X w' t V := by
  obtain ⟨T, h1, h2, h3⟩ := h
  exact ⟨T, h1.trans (Sub.upto hb.size), h2, h3.but hb h1 h2⟩
theorem FrT.below {X : Blocks} {w w' : World} {t : Tm} {V : Value} (h : FrT X w t V) (hb : Below w.heap.size w w') : FrT X w' t V := h.but (But.of_below hb)
theorem FrT.fewer {X X' : Blocks} {w : World} {t : Tm} {V : Value} (h : FrT X' w t V) (hs : Sub X X') : FrT X w t V := by
  obtain ⟨T, h1, h2, h3⟩ := h
  exact ⟨T, h1, fun k hk e => h2 k hk (hs k e), h3⟩
theorem FrT.form {X : Blocks} {w : World} {t : Tm} {V : Value} (h : FrT X w t V) : ∃ k c wr lb A n cap, V = tmV k c wr lb (.slice A n cap) := by
  obtain ⟨T, h1, h2, k, c, wr, lb, kids, v, rfl, rfl, i1, i2, i3, h4⟩ := h
  obtain ⟨A, cap, rfl, _⟩ := h4.form
  exact ⟨k, c, wr, lb, A, _, cap, rfl⟩
theorem FrT.leaf {X : Blocks} {w : World} {k c : Int} {wr : Bool} {lb : Int} (h1 : inI k) (h2 : inI c) (h3 : inI lb) : FrT X w (.mk k c wr lb []) (tmV k c wr lb (.slice none 0 0)) :=
  ⟨Nowhere, Sub.nowhere _, fun _ h => h.elim, k, c, wr, lb, [], _, rfl, rfl, h1, h2, h3, RdL.nil (by simp [maxLen])⟩
/-- two terms laid behind each other in a block -/
theorem FrT.two {X : Blocks} {p : Int} {w : World} {a b : Tm} {Va Vb : Value} (hp : inI p) (ha : FrT X w a Va) (hb : FrT X w b Vb) {g : Nat} (hg : ¬ X g) (hgl : g < w.heap.size)
    {ka ca : Int} {wa : Bool} {la : Int} {va : Value} {kb cb : Int} {wb : Bool} {lb : Int} {vb : Value} (ea : Va = tmV ka ca wa la va) (eb : Vb = tmV kb cb wb lb vb)
    (hc : ∀ (j : Nat) v, [Value.int .i64 ka, .int .i64 ca, .bool wa, .int .i64 la, va, .int .i64 kb, .int .i64 cb, .bool wb, .int .i64 lb, vb][j]? = some v → w.cell? ⟨g, j, none⟩ = some v) :
    FrT X w (twoT p a b) (tmV p 0 false 0 (.slice (some ⟨g, 0, none⟩) 2 2)) := by
  subst ea eb
  obtain ⟨T, h1, h2, h3⟩ := ha
  obtain ⟨U, k1, k2, k3⟩ := hb
  refine ⟨fun k => T k ∨ U k ∨ k = g, fun k hk => ?_, fun k hk => ?_, p, 0, false, 0, [a, b], _, rfl, rfl, hp, ⟨by decide, by decide⟩, ⟨by decide, by decide⟩, ?_⟩
  · rcases hk with hk | hk | hk
    · exact h1 k hk
    · exact k1 k hk
    · subst hk; exact hgl
  · rcases hk with hk | hk | hk
    · exact h2 k hk
    · exact k2 k hk
    · subst hk; exact hg
  · obtain ⟨_, _, _, _, kids, v, rfl, e, i1, i2, i3, h4⟩ := h3
    obtain ⟨_, _, _, _, kids', v', rfl, e', i1', i2', i3', h4'⟩ := k3
    injection e with e; injection e' with e'
    simp only [Array.mk.injEq, List.cons.injEq, Value.int.injEq, Value.bool.injEq, true_and, and_true] at e e'
    obtain ⟨rfl, rfl, rfl, rfl, rfl⟩ := e
    obtain ⟨rfl, rfl, rfl, rfl, rfl⟩ := e'
    refine ⟨some ⟨g, 0, none⟩, 2, [[.int .i64 ka, .int .i64 ca, .bool wa, .int .i64 la, va], [.int .i64 kb, .int .i64 cb, .bool wb, .int .i64 lb, vb]], rfl, Nat.le_refl _, by simp [maxLen], by simp, rfl, ⟨fun cs hcs => by simp at hcs; rcases hcs with rfl | rfl <;> rfl, fun _ => ⟨g, 0, rfl, .inr (.inr rfl), fun i cs hi j v hv => ?_⟩⟩, fun i e cs hi hcs => ?_⟩
    · match i, hi with
      | 0, hi =>
        simp only [List.getElem?_cons_zero, Option.some.injEq] at hi; subst hi
        have := hc j v (by
          have hj := (List.getElem?_eq_some_iff.1 hv).1
          simp only [List.length_cons, List.length_nil] at hj
          match j, hj, hv with
          | 0, _, hv => exact hv
          | 1, _, hv => exact hv
          | 2, _, hv => exact hv
          | 3, _, hv => exact hv
          | 4, _, hv => exact hv)
        simpa using this
      | 1, hi =>
        simp only [List.getElem?_cons_succ, List.getElem?_cons_zero, Option.some.injEq] at hi; subst hi
        have := hc (5 + j) v (by
          have hj := (List.getElem?_eq_some_iff.1 hv).1
          simp only [List.length_cons, List.length_nil] at hj
          match j, hj, hv with
          | 0, _, hv => exact hv
          | 1, _, hv => exact hv
          | 2, _, hv => exact hv
          | 3, _, hv => exact hv
          | 4, _, hv => exact hv)
        simpa using this
    · match i, hi, hcs with
      | 0, hi, hcs =>
        simp at hi hcs; subst hi hcs
        exact RdTm.shut i1 i2 i3 (h4.sub RdTm.keeps (fun k hk => .inl hk))
      | 1, hi, hcs =>
        simp at hi hcs; subst hi hcs
        exact RdTm.shut i1' i2' i3' (h4'.sub RdTm.keeps (fun k hk => .inr (.inl hk)))
theorem nothing_any (X : Blocks) (w : World) : Calls Try.prog 27 #[] w fun e w' => (∃ V, e = .returned V ∧ FrT X w' zeroT V) ∧ Below w.heap.size w w' := by
  go_enter Try.func27, Try.ntmps27
  go_wp2
  have bel : Below w.heap.size w (w.alloc (.cells #[.int .i64 0, .int .i64 0, .bool false, .int .i64 0, .slice none 0 0] 26)) := (Below.refl _ _).alloc (Nat.le_refl _) _
  refine bodyPost_ret (v := tmV 0 0 false 0 (.slice none 0 0)) (by simp [results, Try.f27, go_sem]) rfl ⟨⟨_, rfl, FrT.leaf ⟨by decide, by decide⟩ ⟨by decide, by decide⟩ ⟨by decide, by decide⟩⟩, bel⟩
set_option maxHeartbeats 1000000 in
theorem two_any (p : Int) (hp : inI p) (a b : Tm) (Va Vb : Value) (X : Blocks) (w : World) (hX : ∀ k, X k → k < w.heap.size) (ha : FrT X w a Va) (hb : FrT X w b Vb) :
    Calls Try.prog 46 #[.int .i64 p, Va, Vb] w fun e w' => (∃ V, e = .returned V ∧ FrT X w' (twoT p a b) V) ∧ Below w.heap.size w w' := by
  obtain ⟨ka, ca, wa, la, Aa, na, capa, rfl⟩ := ha.form
  obtain ⟨kb, cb, wb, lb, Ab, nb, capb, rfl⟩ := hb.form
  have HA := Lib.hid ha
  have HB := Lib.hid hb
  clear ha hb
  unfold tmV
  go_enter Try.func46, Try.ntmps46
  go_wp2
  have z2 : ((((w.alloc (.cells #[.int .i64 ka, .int .i64 ca, .bool wa, .int .i64 la, .slice Aa na capa] 26))).alloc (.cells #[.int .i64 kb, .int .i64 cb, .bool wb, .int .i64 lb, .slice Ab nb capb] 26))).heap.size = w.heap.size + 1 + 1 := by simp
  have z3 : ((((((w.alloc (.cells #[.int .i64 ka, .int .i64 ca, .bool wa, .int .i64 la, .slice Aa na capa] 26))).alloc (.cells #[.int .i64 kb, .int .i64 cb, .bool wb, .int .i64 lb, .slice Ab nb capb] 26))).alloc (.cells #[.int .i64 p, .int .i64 0, .bool false, .int .i64 0, .slice (some ⟨w.heap.size + 1 + 1 + 1, 0, none⟩) 2 2] 26))).heap.size = w.heap.size + 1 + 1 + 1 := by simp
  have bel3 : Below w.heap.size w (((((w.alloc (.cells #[.int .i64 ka, .int .i64 ca, .bool wa, .int .i64 la, .slice Aa na capa] 26))).alloc (.cells #[.int .i64 kb, .int .i64 cb, .bool wb, .int .i64 lb, .slice Ab nb capb] 26))).alloc (.cells #[.int .i64 p, .int .i64 0, .bool false, .int .i64 0, .slice (some ⟨w.heap.size + 1 + 1 + 1, 0, none⟩) 2 2] 26)) := (((Below.refl _ _).alloc (Nat.le_refl _) _).alloc (by simp) _).alloc (by simp; omega) _
  have bel4 : Below w.heap.size w (((((((w.alloc (.cells #[.int .i64 ka, .int .i64 ca, .bool wa, .int .i64 la, .slice Aa na capa] 26))).alloc (.cells #[.int .i64 kb, .int .i64 cb, .bool wb, .int .i64 lb, .slice Ab nb capb] 26))).alloc (.cells #[.int .i64 p, .int .i64 0, .bool false, .int .i64 0, .slice (some ⟨w.heap.size + 1 + 1 + 1, 0, none⟩) 2 2] 26))).alloc (.cells #[.int .i64 ka, .int .i64 ca, .bool wa, .int .i64 la, .slice Aa na capa, .int .i64 kb, .int .i64 cb, .bool wb, .int .i64 lb, .slice Ab nb capb] 26)) := bel3.alloc (by rw [z3]; omega) _
  have b3 := (Blk.made (((w.alloc (.cells #[.int .i64 ka, .int .i64 ca, .bool wa, .int .i64 la, .slice Aa na capa] 26))).alloc (.cells #[.int .i64 kb, .int .i64 cb, .bool wb, .int .i64 lb, .slice Ab nb capb] 26)) [.int .i64 p, .int .i64 0, .bool false, .int .i64 0, .slice (some ⟨w.heap.size + 1 + 1 + 1, 0, none⟩) 2 2] 26 (base := 0) (Nat.zero_le _)).below (w' := (((((((w.alloc (.cells #[.int .i64 ka, .int .i64 ca, .bool wa, .int .i64 la, .slice Aa na capa] 26))).alloc (.cells #[.int .i64 kb, .int .i64 cb, .bool wb, .int .i64 lb, .slice Ab nb capb] 26))).alloc (.cells #[.int .i64 p, .int .i64 0, .bool false, .int .i64 0, .slice (some ⟨w.heap.size + 1 + 1 + 1, 0, none⟩) 2 2] 26))).alloc (.cells #[.int .i64 ka, .int .i64 ca, .bool wa, .int .i64 la, .slice Aa na capa, .int .i64 kb, .int .i64 cb, .bool wb, .int .i64 lb, .slice Ab nb capb] 26))) ((Below.refl _ _).alloc (Nat.le_refl _) _)
  have b4 := Blk.made (((((w.alloc (.cells #[.int .i64 ka, .int .i64 ca, .bool wa, .int .i64 la, .slice Aa na capa] 26))).alloc (.cells #[.int .i64 kb, .int .i64 cb, .bool wb, .int .i64 lb, .slice Ab nb capb] 26))).alloc (.cells #[.int .i64 p, .int .i64 0, .bool false, .int .i64 0, .slice (some ⟨w.heap.size + 1 + 1 + 1, 0, none⟩) 2 2] 26)) [.int .i64 ka, .int .i64 ca, .bool wa, .int .i64 la, .slice Aa na capa, .int .i64 kb, .int .i64 cb, .bool wb, .int .i64 lb, .slice Ab nb capb] 26 (base := 0) (Nat.zero_le _)
  rw [z2] at b3
  rw [z3] at b4
  have ha := HA.out.below bel4
  have hb := HB.out.below bel4
  clear HA HB z2 z3 bel3
  generalize (((((((w.alloc (.cells #[.int .i64 ka, .int .i64 ca, .bool wa, .int .i64 la, .slice Aa na capa] 26))).alloc (.cells #[.int .i64 kb, .int .i64 cb, .bool wb, .int .i64 lb, .slice Ab nb capb] 26))).alloc (.cells #[.int .i64 p, .int .i64 0, .bool false, .int .i64 0, .slice (some ⟨w.heap.size + 1 + 1 + 1, 0, none⟩) 2 2] 26))).alloc (.cells #[.int .i64 ka, .int .i64 ca, .bool wa, .int .i64 la, .slice Aa na capa, .int .i64 kb, .int .i64 cb, .bool wb, .int .i64 lb, .slice Ab nb capb] 26)) = W at *
  have r0 := b3.cell 0 _ rfl; have r1 := b3.cell 1 _ rfl; have r2 := b3.cell 2 _ rfl; have r3 := b3.cell 3 _ rfl; have r4 := b3.cell 4 _ rfl
  refine bodyPost_ret (v := tmV p 0 false 0 (.slice (some ⟨w.heap.size + 1 + 1 + 1, 0, none⟩) 2 2)) (by simp [results, Try.f46, go_sem, r0, r1, r2, r3, r4]) rfl ⟨⟨_, rfl, FrT.two hp ha hb (fun e => by have := hX _ e; omega) b4.lt rfl rfl b4.cell⟩, bel4⟩
end Go.Proofs.Ytdelngmbpjgphaa
