/- The walk of the reference's DLeaves. -/
import Derived.Test.YtbpooepbnnbipaaSp5
import Derived.Test.YtbpooepbnnbipaaAppZ
namespace Go.Proofs.Ytbpooepbnnbipaa
open Go.RowKit
set_option linter.unusedVariables false
section
variable {α : Type} {enc : α → List Value} {ok : α → Prop} {size bytes : Nat} {E : TypeId} {w w' : World} {base : Nat} {l : List α} {x : Value}
theorem OwnL.lit (w : World) (a : α) (ha : ok a) (hs : (enc a).length = size) (hb : base ≤ w.heap.size) : OwnL (Flat enc ok) size E (w.alloc (.cells (enc a).toArray E)) base Nowhere [a] (.slice (some ⟨w.heap.size, 0, none⟩) 1 1) :=
  ⟨Nowhere, [enc a], Sub.refl _, Sub.nowhere _, not_nowhere, rfl, by simpa using hs, ⟨by simp [hs], .inr ⟨w.heap.size, 1, (enc a).toArray, rfl, hb, heap_alloc_new w _, Nat.le_refl _, by simp [maxLen], by simp [hs], by simp [← hs]⟩⟩, fun i e cs hi hc => by
    match i, hi, hc with
    | 0, hi, hc => simp at hi hc; subst hi hc; exact ⟨rfl, ha⟩⟩
theorem OwnL.litAt {w : World} (vs : List Value) (a : α) (hv : enc a = vs) (ha : ok a) (hs : vs.length = size) {g : Nat} (hg : w.heap.size = g) (hb : base ≤ w.heap.size) : OwnL (Flat enc ok) size E (w.alloc (.cells vs.toArray E)) base Nowhere [a] (.slice (some ⟨g, 0, none⟩) 1 1) := by
  subst hv hg; exact OwnL.lit w a ha hs hb
theorem AppL.fr (h : AppL enc ok size E w base l x) (hb : l.length * bytes ≤ 140737488355328) : Fr enc ok size bytes w l x :=
  ⟨fun b => b < w.heap.size, fun b h => h, h.toRd hb (fun b _ h => h)⟩
theorem AppL.rebase {base' : Nat} (h : AppL enc ok size E w base l x) (hb : base' ≤ base) : AppL enc ok size E w base' l x := by
  refine h.imp (fun h => ?_) id
  obtain ⟨T, css, t1, t2, t3, h1, h2, h3, h4⟩ := h
  refine ⟨T, css, t1, t2, t3, h1, h2, ⟨h3.1, ?_⟩, h4⟩
  rcases h3.2 with h | ⟨g, cap, cur, e, hbg, r⟩
  · exact .inl h
  · exact .inr ⟨g, cap, cur, e, Nat.le_trans hb hbg, r⟩
end
theorem oneAcc' : ∀ e, okAcc e → ∀ u ∈ encAcc e, u.oneCell' = true := fun e he => oneAcc (w := default) (S := Nowhere) e _ ⟨rfl, he⟩
def DLs (t : Tm) : Prop := ∀ (w : World) (S : Blocks) (V : Value), Sub S (Upto w.heap.size) → RdT w S t V → t.count ≤ 1048576 →
  Calls Try.prog 21 #[V] w fun e w' => ∃ x, e = .returned x ∧ AppL encAcc okAcc 3 23 w' w.heap.size t.leaves x ∧ Below w.heap.size w w'
set_option maxHeartbeats 1000000 in
set_option maxRecDepth 100000 in
theorem dls_one (t : Tm) (ht : t.two = none) : DLs t := by
  intro w S V hS r hl
  obtain ⟨k, c, wr, lb, kids, v, rfl, rfl, hk, hc, hlb, hkids⟩ := id r
  obtain ⟨A, cap, rfl, _, _, _⟩ := hkids.form
  have bel : Below w.heap.size w (w.alloc (.cells #[.int .i64 k, .int .i64 c, .bool wr, .int .i64 lb, .slice A kids.length cap] 26)) := (Below.refl _ _).alloc (Nat.le_refl _) _
  have RA := Lib.hid (r.go bel hS)
  have BEL := Lib.hid bel
  have HB := Lib.hid (Blk.made w [.int .i64 k, .int .i64 c, .bool wr, .int .i64 lb, .slice A kids.length cap] 26 (base := 0) (Nat.zero_le _))
  have HT := Lib.hid ht
  have hL := Lib.hid (Tm.leaves_none ht)
  unfold tmV
  clear hkids ht r bel
  by_cases h1 : k = 1
  · subst h1
    have hL2 := Lib.hid (show (Tm.mk 1 c wr lb kids).leaves = [⟨c, wr, lb⟩] by rw [hL.out, if_pos (by simp [Tm.kind])]; rfl)
    go_enter Try.func21, Try.ntmps21
    go_wp2_with fail
    refine (both_none _ HT.out _ S _ RA.out).mono ?_
    rintro e w1 ⟨rfl, b1⟩
    have B1 := HB.out.below b1
    have c0 := B1.cell 0 _ rfl
    have c1 := B1.cell 1 _ rfl
    have c2 := B1.cell 2 _ rfl
    have c3 := B1.cell 3 _ rfl
    have hz := B1.lt
    have HB1 := Lib.hid b1
    unfold tm0
    clear B1 b1
    go_wp2
    go_ret
    rw [hL2.out]
    have hz1 := BEL.out.size
    have hz2 := HB1.out.size
    refine ⟨_, rfl, .inl (OwnL.litAt [.int .i64 c, .bool wr, .int .i64 lb] (⟨c, wr, lb⟩ : Acc) rfl ⟨hc, hlb⟩ rfl (by simp) (by simp; omega)), ?_⟩
    exact (((BEL.out.trans (HB1.out.mono (by omega))).alloc (by omega) _).alloc (by simp; omega) _).alloc (by simp; omega) _
  · have hL2 := Lib.hid (show (Tm.mk k c wr lb kids).leaves = [] by rw [hL.out, if_neg (by simpa [Tm.kind] using h1)])
    have e1 : (k == 1) = false := by simpa using h1
    clear h1
    go_enter Try.func21, Try.ntmps21
    go_wp2_with fail
    refine (both_none _ HT.out _ S _ RA.out).mono ?_
    rintro e w1 ⟨rfl, b1⟩
    have B1 := HB.out.below b1
    have c0 := B1.cell 0 _ rfl
    have c1 := B1.cell 1 _ rfl
    have hz := B1.lt
    have HB1 := Lib.hid b1
    unfold tm0
    clear B1 b1
    go_wp2
    go_ret
    rw [hL2.out]
    have hz1 := BEL.out.size
    have hz2 := HB1.out.size
    refine ⟨_, rfl, AppL.zero _ _ _, ?_⟩
    exact ((BEL.out.trans (HB1.out.mono (by omega))).alloc (by omega) _).alloc (by simp; omega) _
end Go.Proofs.Ytbpooepbnnbipaa
