/- A range over a function in a loop leaves a mark a round: they are taken one by one when the function ends. -/
import Derived.Test.YtknaoianhjeccaaDoorBase
import Derived.RangeFuncNested
import Derived.RangeFuncBox
import Derived.RangeFuncLeaves
namespace Go.Proofs.YtknaoianhjeccaaDoor
open Go.RowKit
set_option linter.unusedVariables false
def markD (r : Nat) : Deferred := { target := .collected r, args := #[] }
/-- the marks left so far, each in its block from base on -/
def Marks (base : Nat) (w : World) (ds : List Deferred) : Prop := ∃ rs : List Nat, ds = rs.map markD ∧ rs.Nodup ∧ ∀ r ∈ rs, base ≤ r ∧ w.heap[r]? = some (.deferred (some []))
theorem Marks.nil (base : Nat) (w : World) : Marks base w [] := ⟨[], rfl, List.nodup_nil, fun r h => by cases h⟩
theorem Marks.keeps {base : Nat} {w w' : World} {ds : List Deferred} (h : Marks base w ds) (hk : KeepsOthers w w') : Marks base w' ds := by
  obtain ⟨rs, e, hn, h⟩ := h
  exact ⟨rs, e, hn, fun r hr => ⟨(h r hr).1, hk.same r _ (h r hr).2 rfl⟩⟩
theorem Marks.below {base : Nat} {w w' : World} {ds : List Deferred} (h : Marks base w ds) (hb : Below w.heap.size w w') : Marks base w' ds := by
  obtain ⟨rs, e, hn, h⟩ := h
  exact ⟨rs, e, hn, fun r hr => ⟨(h r hr).1, (hb.block r (Array.getElem?_eq_some_iff.1 (h r hr).2).1).trans (h r hr).2⟩⟩
/-- said of a world in which a range begins, they lie below what the range turns -/
theorem Marks.from {β : Type} (base : Nat) (w : World) (ds : List Deferred) : OwnFrom w.heap.size (fun (_ : β) W => ∃ rs : List Nat, ds = rs.map markD ∧ rs.Nodup ∧ ∀ r ∈ rs, base ≤ r ∧ r < w.heap.size ∧ W.heap[r]? = some (.deferred (some []))) := by
  rintro s W W' row ⟨rs, e, hn, h⟩ hg hr
  exact ⟨rs, e, hn, fun r hm => ⟨(h r hm).1, (h r hm).2.1, (hg.block r (Array.getElem?_eq_some_iff.1 (h r hm).2.2).1 (fun e => by
    have := (hr r e.symm).1
    have := (h r hm).2.1
    omega)).trans (h r hm).2.2⟩⟩
/-- as a range holds them: below the block where it begins -/
def MarksB (base top : Nat) (W : World) (ds : List Deferred) : Prop := ∃ rs : List Nat, ds = rs.map markD ∧ rs.Nodup ∧ ∀ r ∈ rs, base ≤ r ∧ r < top ∧ W.heap[r]? = some (.deferred (some []))
theorem Marks.held {base : Nat} {w : World} {ds : List Deferred} (h : Marks base w ds) {top : Nat} (ht : w.heap.size ≤ top) : MarksB base top w ds := by
  obtain ⟨rs, e, hn, h⟩ := h
  exact ⟨rs, e, hn, fun r hr => ⟨(h r hr).1, Nat.lt_of_lt_of_le (Array.getElem?_eq_some_iff.1 (h r hr).2).1 ht, (h r hr).2⟩⟩
theorem MarksB.from {β : Type} (base top : Nat) (ds : List Deferred) : OwnFrom top (fun (_ : β) W => MarksB base top W ds) := by
  rintro s W W' row ⟨rs, e, hn, h⟩ hg hr
  exact ⟨rs, e, hn, fun r hm => ⟨(h r hm).1, (h r hm).2.1, (hg.block r (Array.getElem?_eq_some_iff.1 (h r hm).2.2).1 (fun e => by
    have := (hr r e.symm).1
    have := (h r hm).2.1
    omega)).trans (h r hm).2.2⟩⟩
theorem MarksB.keeps {base top : Nat} {w w' : World} {ds : List Deferred} (h : MarksB base top w ds) (hk : KeepsOthers w w') : MarksB base top w' ds := by
  obtain ⟨rs, e, hn, h⟩ := h
  exact ⟨rs, e, hn, fun r hr => ⟨(h r hr).1, (h r hr).2.1, hk.same r _ (h r hr).2.2 rfl⟩⟩
/-- the range is over: one mark more -/
theorem MarksB.more {base top D : Nat} {W : World} {ds : List Deferred} (h : MarksB base top W ds) (hb : base ≤ top) (hD : top ≤ D) (hK : W.heap[D]? = some (.deferred (some []))) : Marks base W ({ target := .collected D, args := #[] } :: ds) := by
  obtain ⟨rs, rfl, hn, h⟩ := h
  refine ⟨D :: rs, rfl, List.nodup_cons.2 ⟨fun hm => by have := (h D hm).2.1; omega, hn⟩, fun r hr => ?_⟩
  rcases List.mem_cons.1 hr with rfl | hr
  · exact ⟨by omega, hK⟩
  · exact ⟨(h r hr).1, (h r hr).2.2⟩
/-- the function ends: the marks are taken -/
theorem leaves_marks {F : Fence} {n : Nat} {P : Program} {fn : Func} {tmps : Array Value} {R : Ending → World → Prop} {base : Nat} {J : World → Prop} (hJ : OwnFrom base (fun (_ : Unit) W => J W))
    (hend : ∀ W, J W → ∃ v, (results fn tmps).run P W = .ok v W ∧ R (.returned v) W) :
    ∀ (rs : List Nat) (w : World), rs.Nodup → (∀ r ∈ rs, base ≤ r ∧ w.heap[r]? = some (.deferred (some []))) → J w → LeavesInM F n P fn tmps R (rs.map markD) .returning w
  | [], w, _, _, h => hend w h
  | r :: rs, w, hn, hm, h => by
    have hn' := List.nodup_cons.1 hn
    obtain ⟨h1, h2⟩ := hm r (by simp)
    refine ⟨by simp, .inl ⟨r, _, rfl, run_takeDeferred h2, ?_⟩⟩
    refine leaves_marks hJ hend rs _ hn'.2 (fun k hk => ?_) (hJ.putObj (s := ()) _ h h1 h2 rfl)
    obtain ⟨h3, h4⟩ := hm k (by simp [hk])
    exact ⟨h3, (World.putObj_heap_other (fun e => hn'.1 (by rw [← e]; exact hk))).trans h4⟩
theorem leaves_all {F : Fence} {n : Nat} {P : Program} {fn : Func} {tmps : Array Value} {R : Ending → World → Prop} {base : Nat} {J : World → Prop} {ds : List Deferred} {w : World} (hm : Marks base w ds) (hJ : OwnFrom base (fun (_ : Unit) W => J W))
    (h : J w) (hend : ∀ W, J W → ∃ v, (results fn tmps).run P W = .ok v W ∧ R (.returned v) W) : LeavesInM F n P fn tmps R ds .returning w := by
  obtain ⟨rs, rfl, hn, hm⟩ := hm
  exact leaves_marks hJ hend rs w hn hm h
end Go.Proofs.YtknaoianhjeccaaDoor
