/- RegInv inside a fence (a round of a range over a function, too). No function of the program stands here. -/
import Derived.Test.YtoijobnpfibboaaDoorRegInv
import Derived.OrdersIn
import Derived.TacticsIn
namespace Go.Proofs.YtoijobnpfibboaaDoor
open Go
set_option linter.unusedVariables false
theorem wpAnyIn_inv {F : Fence} {n : Nat} {P : Program} {ops : Array Oper} {Q : Exit → Act → World → Prop} (I : Array Bool → Act → World → Prop)
    (hstep : ∀ l a w i, l.size = ops.size → I l a w → i < ops.size → l.getD i false = false → (∀ e ∈ depsAt ops i, l.getD e false = true) → wpOpIn F n P ops Q i (I (l.setIfInBounds i true)) a w)
    (hend : ∀ l a w, l.size = ops.size → I l a w → Region.ready .any ops l = [] → Q .normal a w) :
    ∀ (fuel : Nat) (l : Array Bool) (a : Act) (w : World), l.size = ops.size → I l a w → notYet l ≤ fuel → wpAnyIn F n P .any ops Q fuel l a w := by
  intro fuel
  induction fuel with
  | zero =>
    intro l a w hl hI hn
    have hr : Region.ready .any ops l = [] := by
      refine List.eq_nil_iff_forall_not_mem.2 fun i hi => ?_
      obtain ⟨h1, h2, _⟩ := (mem_ready_deps hl).1 hi
      have := notYet_set (by omega) h2
      omega
    exact ⟨hr, hend l a w hl hI hr⟩
  | succ fuel ih =>
    intro l a w hl hI hn
    refine ⟨hend l a w hl hI, fun i hi => ?_⟩
    obtain ⟨h1, h2, h3⟩ := (mem_ready_deps hl).1 hi
    refine wpOpIn_mono (fun a' w' h' => ih _ a' w' (by simpa using hl) h' ?_) (hstep l a w i hl hI h1 h2 h3)
    have := notYet_set (by omega) h2
    omega
/-- the law, with what waits told -/
theorem wpIn_region_invC {F : Fence} {n : Nat} {P : Program} {id : Nat} {ops : Array Oper} {Q : Exit → Act → World → Prop} {a : Act} {w : World} (hm : P.follows .mixedOrders = true) (I : Array Bool → Act → World → Prop)
    (h0 : I (Array.replicate ops.size false) a w.drew)
    (hstep : ∀ l a w i, l.size = ops.size → ClosedL ops l → I l a w → i < ops.size → l.getD i false = false → (∀ e ∈ depsAt ops i, l.getD e false = true) → wpOpIn F n P ops Q i (I (l.setIfInBounds i true)) a w)
    (hend : ∀ l a w, l.size = ops.size → (∀ j, j < ops.size → l.getD j false = true) → I l a w → Q .normal a w)
    (hback : ∀ i < ops.size, ∀ e ∈ depsAt ops i, e < i) : (Code.region id ops true).wpIn F n P Q a w := by
  refine wpIn_region_any hm ?_
  refine wpAnyIn_inv (fun l a w => ClosedL ops l ∧ I l a w) (fun l a w i hl hI hi hn hd => ?_) (fun l a w hl hI hr => ?_) _ _ _ _ (by simp) ⟨fun i hi => ?_, h0⟩ ?_
  · have h := hstep l a w i hl hI.1 hI.2 hi hn hd
    exact wpOpIn_mono (fun a' w' h' => ⟨hI.1.setD hl hi hn hd, h'⟩) h
  · refine hend l a w hl (fun j hj => ?_) hI.2
    induction j using Nat.strongRecOn with
    | ind j ih =>
      cases e : l.getD j false
      · exfalso
        have : j ∈ Region.ready .any ops l := (mem_ready_deps hl).2 ⟨hj, e, fun d hd => ih d (hback j hj d hd) (by have := hback j hj d hd; omega)⟩
        rw [hr] at this; cases this
      · rfl
  · simp only [Array.getD_eq_getD_getElem?, Array.getElem?_replicate] at hi
    split at hi <;> cases hi
  · unfold notYet
    exact Nat.le_trans List.countP_le_length (by simp)
theorem Oper.wpIn_ofOne {F : Fence} {n : Nat} {P : Program} {Q : Exit → Act → World → Prop} {o : Oper} {a : Act} {w : World} {K K' : Act → World → Prop} (hh : Oper.wpIn F n P o a w K' (QOne K Q)) : Oper.wpIn F n P o a w K' Q := by
  unfold Oper.wpIn at *
  refine ⟨hh.1, ?_⟩
  have hh := hh.2
  generalize (o.semAt F.round a.eval).run P w = r at *
  cases r with
  | ok x w' =>
    cases x <;> simp only [Oper.uponIn] at hh ⊢ <;>
      first
        | exact hh
        | exact ⟨hh.1, CallsIn.mono hh.2 (fun e w'' he => by cases e <;> exact he)⟩
        | exact ⟨hh.1, RoundIn.mono hh.2 (fun e w'' he => by cases e <;> exact he)⟩
  | halt x w' => cases x <;> simp only [Oper.uponIn] at hh ⊢ <;> exact hh
theorem wpOpIn_of_list {F : Fence} {n : Nat} {P : Program} {ops : Array Oper} {Q : Exit → Act → World → Prop} {i : Nat} {o : Oper} {a : Act} {w : World} {K : Act → World → Prop} (ho : ops[i]? = some o) (h : wpListIn F n P ops (QOne K Q) [o] a w) : wpOpIn F n P ops Q i K a w := by
  unfold wpOpIn
  rw [ho]
  unfold wpListIn at h
  have e : wpListIn F n P ops (QOne K Q) [] = K := rfl
  rw [e] at h
  simp only
  split
  · rename_i hw; rw [if_pos hw] at h; exact Oper.wpIn_ofOne h
  · rename_i hw; rw [if_neg hw] at h; exact h
end Go.Proofs.YtoijobnpfibboaaDoor
