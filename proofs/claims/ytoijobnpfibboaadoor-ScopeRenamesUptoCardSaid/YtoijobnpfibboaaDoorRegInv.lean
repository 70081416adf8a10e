/- A region that draws its order, held by an invariant on what has come up, the frame and the world: each operation is walked once, whatever came ahead of it. No function of the program stands here. -/
import Derived.Test.YtoijobnpfibboaaDoorRegPre
namespace Go.Proofs.YtoijobnpfibboaaDoor
open Go
set_option linter.unusedVariables false
def notYet (l : Array Bool) : Nat := l.toList.countP fun b => !b
theorem notYet_set {l : Array Bool} {i : Nat} (hi : i < l.size) (h : l.getD i false = false) : notYet (l.setIfInBounds i true) + 1 = notYet l := by
  unfold notYet
  have hi' : i < l.toList.length := by simpa using hi
  have hg : l.toList[i] = false := by
    rw [Array.getD_eq_getD_getElem?, Array.getElem?_eq_getElem hi, Option.getD_some] at h
    simpa using h
  rw [Array.toList_setIfInBounds, List.countP_set hi']
  have hpos : 0 < l.toList.countP (fun b => !b) := List.countP_pos_iff.2 ⟨false, by rw [← hg]; exact List.getElem_mem _, rfl⟩
  rw [hg]
  show l.toList.countP (fun b => !b) - 1 + 0 + 1 = l.toList.countP (fun b => !b)
  omega
theorem wpAny_inv {P : Program} {ops : Array Oper} {Q : Exit → Act → World → Prop} (I : Array Bool → Act → World → Prop)
    (hstep : ∀ l a w i, l.size = ops.size → I l a w → i < ops.size → l.getD i false = false → (∀ e ∈ depsAt ops i, l.getD e false = true) → wpOp P ops Q i (I (l.setIfInBounds i true)) a w)
    (hend : ∀ l a w, l.size = ops.size → I l a w → Region.ready .any ops l = [] → Q .normal a w) :
    ∀ (fuel : Nat) (l : Array Bool) (a : Act) (w : World), l.size = ops.size → I l a w → notYet l ≤ fuel → wpAny P .any ops Q fuel l a w := by
  intro fuel
  induction fuel with
  | zero =>
    intro l a w hl hI hn
    have hr : Region.ready .any ops l = [] := by
      refine List.eq_nil_iff_forall_not_mem.2 fun i hi => ?_
      obtain ⟨h1, h2, _⟩ := (mem_ready_deps hl).1 hi
      have := notYet_set (by omega) h2
      omega
    exact ⟨hr, hend l a w hl hI hr⟩
  | succ fuel ih =>
    intro l a w hl hI hn
    refine ⟨hend l a w hl hI, fun i hi => ?_⟩
    obtain ⟨h1, h2, h3⟩ := (mem_ready_deps hl).1 hi
    refine wpOp_mono (fun a' w' h' => ih _ a' w' (by simpa using hl) h' ?_) (hstep l a w i hl hI h1 h2 h3)
    have := notYet_set (by omega) h2
    omega
/-- the law -/
theorem wp_region_inv {P : Program} {id : Nat} {ops : Array Oper} {Q : Exit → Act → World → Prop} {a : Act} {w : World} (hm : P.follows .mixedOrders = true) (I : Array Bool → Act → World → Prop)
    (h0 : I (Array.replicate ops.size false) a w.drew)
    (hstep : ∀ l a w i, l.size = ops.size → I l a w → i < ops.size → l.getD i false = false → (∀ e ∈ depsAt ops i, l.getD e false = true) → wpOp P ops Q i (I (l.setIfInBounds i true)) a w)
    (hend : ∀ l a w, l.size = ops.size → I l a w → Region.ready .any ops l = [] → Q .normal a w) : (Code.region id ops true).wp P Q a w := by
  refine wp_region_any hm ?_
  refine wpAny_inv I hstep hend _ _ _ _ (by simp) h0 ?_
  unfold notYet
  exact Nat.le_trans List.countP_le_length (by simp)
theorem ClosedL.setD {ops : Array Oper} {l : Array Bool} {i : Nat} (hc : ClosedL ops l) (hl : l.size = ops.size) (hi : i < ops.size) (hn : l.getD i false = false) (hd : ∀ e ∈ depsAt ops i, l.getD e false = true) : ClosedL ops (l.setIfInBounds i true) :=
  hc.set hl ((mem_ready_deps hl).2 ⟨hi, hn, hd⟩)
/-- the law, with what waits told -/
theorem wp_region_invC {P : Program} {id : Nat} {ops : Array Oper} {Q : Exit → Act → World → Prop} {a : Act} {w : World} (hm : P.follows .mixedOrders = true) (I : Array Bool → Act → World → Prop)
    (h0 : I (Array.replicate ops.size false) a w.drew)
    (hstep : ∀ l a w i, l.size = ops.size → ClosedL ops l → I l a w → i < ops.size → l.getD i false = false → (∀ e ∈ depsAt ops i, l.getD e false = true) → wpOp P ops Q i (I (l.setIfInBounds i true)) a w)
    (hend : ∀ l a w, l.size = ops.size → (∀ j, j < ops.size → l.getD j false = true) → I l a w → Q .normal a w)
    (hback : ∀ i < ops.size, ∀ e ∈ depsAt ops i, e < i) : (Code.region id ops true).wp P Q a w := by
  refine wp_region_inv hm (fun l a w => ClosedL ops l ∧ I l a w) ⟨fun i hi => ?_, h0⟩ (fun l a w i hl hI hi hn hd => ?_) (fun l a w hl hI hr => ?_)
  · simp only [Array.getD_eq_getD_getElem?, Array.getElem?_replicate] at hi
    split at hi <;> cases hi
  · have h := hstep l a w i hl hI.1 hI.2 hi hn hd
    refine wpOp_mono (fun a' w' h' => ⟨hI.1.setD hl hi hn hd, h'⟩) h
  · refine hend l a w hl (fun j hj => ?_) hI.2
    induction j using Nat.strongRecOn with
    | ind j ih =>
      cases e : l.getD j false
      · exfalso
        have : j ∈ Region.ready .any ops l := (mem_ready_deps hl).2 ⟨hj, e, fun d hd => ih d (hback j hj d hd) (by have := hback j hj d hd; omega)⟩
        rw [hr] at this; cases this
      · rfl
/-- one operation of it, as a list of one: for go_wp2 -/
def QOne (K : Act → World → Prop) (Q : Exit → Act → World → Prop) : Exit → Act → World → Prop
  | .normal, a, w => K a w
  | e, a, w => Q e a w
theorem LetsOut.ofOne {K : Act → World → Prop} {Q : Exit → Act → World → Prop} (h : LetsOut (QOne K Q)) : LetsOut Q := h
theorem Oper.wp_ofOne {P : Program} {Q : Exit → Act → World → Prop} {o : Oper} {a : Act} {w : World} {K K' : Act → World → Prop} (hh : Oper.wp P o a w K' (QOne K Q)) : Oper.wp P o a w K' Q := by
  unfold Oper.wp at *
  generalize (execOp a.eval o).run P w = r at *
  cases r with
  | ok n w' =>
    cases n <;> simp only [Oper.upon] at hh ⊢ <;>
      first
        | exact hh
        | exact Calls.mono hh (fun e w'' he => by cases e <;> exact he)
  | halt x w' => cases x <;> simp only [Oper.upon] at hh ⊢ <;> exact hh
theorem wpOp_of_list {P : Program} {ops : Array Oper} {Q : Exit → Act → World → Prop} {i : Nat} {o : Oper} {a : Act} {w : World} {K : Act → World → Prop} (ho : ops[i]? = some o) (h : wpList P ops (QOne K Q) [o] a w) : wpOp P ops Q i K a w := by
  unfold wpOp
  rw [ho]
  unfold wpList at h
  have e : wpList P ops (QOne K Q) [] = K := rfl
  rw [e] at h
  simp only
  split
  · rename_i hw; rw [if_pos hw] at h; exact h.imp Oper.wp_ofOne (fun h => ⟨h.1, LetsOut.ofOne h.2⟩)
  · rename_i hw; rw [if_neg hw] at h; exact h
/-- .. or by a law of its own (step_append_list and its like) -/
theorem wpOp_of_law {P : Program} {ops : Array Oper} {Q : Exit → Act → World → Prop} {i : Nat} {o : Oper} {a : Act} {w : World} {K : Act → World → Prop} (ho : ops[i]? = some o) (h : if Region.wanted o (yielded ops a.tmps) = true then Oper.wp P o a w K Q else K (a.put o.dst undef) w) : wpOp P ops Q i K a w := by
  unfold wpOp
  rw [ho]
  simp only
  split
  · rename_i hw; rw [if_pos hw] at h; exact .inl h
  · rename_i hw; rw [if_neg hw] at h; exact h
end Go.Proofs.YtoijobnpfibboaaDoor
