/- Texts merged: StsAt, RegW. -/
import Derived.Test.YtnpgpcnkdocknaaDoorGScW
import Derived.Test.YtnpgpcnkdocknaaDoorGMks
import Derived.Test.YtnpgpcnkdocknaaDoorGSetSpec
import Derived.RangeFuncNested
import Derived.RangeFuncBox
import Derived.RangeFuncCalls
import Derived.TacticsInMore
import Derived.OrdersHeld
import Derived.OrdersIn
import Derived.Deep.RegionHeld3
namespace Go.Proofs.YtnpgpcnkdocknaaDoor
open Go.RowKit Go.Shelf
set_option linter.unusedVariables false
/-- block g holds n sets, slices of words, one by one; none lies in g or below lo -/
structure SetsAt (lo : Nat) (w : World) (g n : Nat) (P : Nat → Nat → Bool) (vs : List Value) : Prop where
  out : Blk 0 w g vs
  len : vs.length = n
  row : ∀ (i : Nat) v, vs[i]? = some v → ∃ T l, Sub T (Upto w.heap.size) ∧ (∀ k, T k → lo ≤ k) ∧ ¬ T g ∧ SetIs l (P i) ∧ RdU w T l v
section
variable {lo g n : Nat} {w w' : World} {P : Nat → Nat → Bool} {vs : List Value}
theorem SetsAt.below (h : SetsAt lo w g n P vs) (hb : Below w.heap.size w w') : SetsAt lo w' g n P vs :=
  ⟨h.out.below hb, h.len, fun i v hi => by
    obtain ⟨T, l, h1, h2, h3, h4, h5⟩ := h.row i v hi
    exact ⟨T, l, h1.lift hb.size, h2, h3, h4, h5.keep Flat.keeps (Sub.refl _) (same_of_below hb h1)⟩⟩
theorem SetsAt.congr (h : SetsAt lo w g n P vs) {Q : Nat → Nat → Bool} (e : ∀ i j, i < n → P i j = Q i j) : SetsAt lo w g n Q vs :=
  ⟨h.out, h.len, fun i v hi => by
    obtain ⟨T, l, h1, h2, h3, h4, h5⟩ := h.row i v hi
    exact ⟨T, l, h1, h2, h3, h4.congr (fun j => e i j (by rw [← h.len]; exact (List.getElem?_eq_some_iff.1 hi).1)), h5⟩⟩
theorem SetsAt.nil (lo : Nat) (h : Blk 0 w g (List.replicate n (.slice none 0 0))) : SetsAt lo w g n (fun _ _ => false) (List.replicate n (.slice none 0 0)) :=
  ⟨h, by simp, fun i v hi => by
    rw [List.getElem?_replicate] at hi
    split at hi
    · injection hi with hi; subst hi
      exact ⟨Nowhere, [], Sub.nowhere _, fun _ h => h.elim, fun h => h, SetIs.nil, RdL.nil (by unfold maxLen; omega)⟩
    · cases hi⟩
theorem SetsAt.mono (h : SetsAt lo w g n P vs) {lo' : Nat} (hl : lo' ≤ lo) : SetsAt lo' w g n P vs :=
  ⟨h.out, h.len, fun i v hi => by
    obtain ⟨T, l, h1, h2, h3, h4⟩ := h.row i v hi
    exact ⟨T, l, h1, fun k hk => Nat.le_trans hl (h2 k hk), h3, h4⟩⟩
theorem SetsAt.at_ (h : SetsAt lo w g n P vs) {i : Nat} (hi : i < n) : ∃ T l A cap, Sub T (Upto w.heap.size) ∧ (∀ k, T k → lo ≤ k) ∧ ¬ T g ∧ SetIs l (P i) ∧ RdU w T l (.slice A l.length cap) ∧ w.cell? ⟨g, i, none⟩ = some (.slice A l.length cap) ∧ vs[i]? = some (.slice A l.length cap) := by
  have hlt : i < vs.length := by rw [h.len]; exact hi
  have e : vs[i]? = some vs[i] := List.getElem?_eq_getElem hlt
  obtain ⟨T, l, h1, h2, h3, h4, h5⟩ := h.row i _ e
  obtain ⟨A, cap, hv, _⟩ := h5.form
  have hc := h.out.cell i _ e
  rw [hv] at h5 hc e
  exact ⟨T, l, A, cap, h1, h2, h3, h4, h5, hc, e⟩
/-- a set is stored -/
theorem SetsAt.set (h : SetsAt lo w g n P vs) {i : Nat} (hi : i < n) {T : Blocks} {l : List Nat} {v : Value} {Q : Nat → Bool} (h1 : Sub T (Upto w.heap.size)) (h2 : ∀ k, T k → lo ≤ k) (h3 : ¬ T g) (h4 : SetIs l Q) (h5 : RdU w T l v) :
    SetsAt lo (w.setCell ⟨g, i, none⟩ v) g n (fun j => if j = i then Q else P j) (vs.set i v) := by
  have hlt : i < vs.length := by rw [h.len]; exact hi
  refine ⟨h.out.set hlt v, by rw [List.length_set]; exact h.len, fun j u hj => ?_⟩
  rw [List.getElem?_set] at hj
  by_cases e : i = j
  · subst e
    rw [if_pos rfl, if_pos hlt] at hj
    injection hj with hj; subst hj
    exact ⟨T, l, by rw [size_setCell]; exact h1, h2, h3, by rw [if_pos rfl]; exact h4, h5.stored Flat.keeps (p := ⟨g, i, none⟩) h3 v⟩
  · rw [if_neg e] at hj
    obtain ⟨U, m, a1, a2, a3, a4, a5⟩ := h.row j u hj
    exact ⟨U, m, by rw [size_setCell]; exact a1, a2, a3, by rw [if_neg (fun h => e h.symm)]; exact a4, a5.stored Flat.keeps (p := ⟨g, i, none⟩) a3 v⟩
/-- blocks below lo other than g do not matter -/
theorem SetsAt.low {T : Blocks} (h : SetsAt lo w g n P vs) (hb : But T w w') (h1 : ¬ T g) (h2 : ∀ k, T k → k < lo) : SetsAt lo w' g n P vs :=
  ⟨h.out.but hb h1, h.len, fun i v hi => by
    obtain ⟨U, l, a1, a2, a3, a4, a5⟩ := h.row i v hi
    exact ⟨U, l, a1.lift hb.size, a2, a3, a4, a5.keep Flat.keeps (Sub.refl _) (hb.same a1 (fun k hk ht => by have := a2 k hk; have := h2 k ht; omega))⟩⟩
end
theorem RdL.someKeep {α : Type} {enc : α → List Value} {ok : α → Prop} {size bytes : Nat} {w w' : World} {S : Blocks} {l : List α} {v : Value} (h : RdL (Flat enc ok) size bytes w S l v) (hk : ∀ p u, w.cell? p = some u → w'.cell? p = some u) : RdL (Flat enc ok) size bytes w' S l v := by
  obtain ⟨A, cap, css, h1, h2, h3, h4, h5, ⟨h6, h7⟩, h8⟩ := h
  exact ⟨A, cap, css, h1, h2, h3, h4, h5, ⟨h6, fun hne => by
    obtain ⟨b, off, q1, q2, q3⟩ := h7 hne
    exact ⟨b, off, q1, q2, fun i cs hi j v hj => hk _ _ (q3 i cs hi j v hj)⟩⟩, h8⟩
theorem SetsAt.turn {β : Type} {lo g n top : Nat} (P : β → Nat → Nat → Bool) (hg : g < top) : OwnFrom top (fun (s : β) W => ∃ vs, SetsAt lo W g n (P s) vs) := by
  rintro s W W' row ⟨vs, h⟩ hgr hr
  have hk : ∀ p u, W.cell? p = some u → W'.cell? p = some u := fun p u hp => cell_kept hp hgr (fun r e => (hr r e).2)
  refine ⟨vs, ⟨⟨h.out.ge, Nat.lt_of_lt_of_le h.out.lt hgr.size, fun q v hq => hk _ _ (h.out.cell q v hq), fun o => ?_⟩, h.len, fun i v hi => ?_⟩⟩
  · refine (frozen_of_block (hgr.block g h.out.lt (fun e => ?_))).trans (h.out.fr o)
    have := (hr g e.symm).1
    omega
  · obtain ⟨T, l, h1, h2, h3, h4, h5⟩ := h.row i v hi
    exact ⟨T, l, h1.lift hgr.size, h2, h3, h4, RdL.someKeep h5 hk⟩
theorem But.turn {β : Type} {T : Blocks} {w0 : World} {top : Nat} (h0 : w0.heap.size ≤ top) : OwnFrom top (fun (_ : β) W => But T w0 W) := by
  rintro s W W' row h hg hr
  have h2 := But.of_grown hg
  exact ⟨h2.os.trans h.os, h2.tape.trans h.tape, h2.output.trans h.output, Nat.le_trans h.size h2.size, fun i hi ht => (h2.block i (Nat.lt_of_lt_of_le hi h.size) (fun e => by have := (hr i e).1; omega)).trans (h.block i hi ht)⟩
theorem grownBy_setCellI (W : World) (b i : Nat) (v : Value) : W.grownBy (W.setCell ⟨b, i, none⟩ v) (some b) :=
  ⟨rfl, rfl, rfl, (KeepsWalks.setCell W _ v).size, fun k _ hk => Below.heap_setCell _ _ _ k (fun e => hk (by rw [e]))⟩
end Go.Proofs.YtnpgpcnkdocknaaDoor
namespace Go.Proofs.YtnpgpcnkdocknaaDoor
set_option linter.unusedVariables false
theorem oper_wide {l n : Nat} {P : Program} {o : Oper} {a : Act} {w : World} {K : Act → World → Prop} {Q : Exit → Act → World → Prop} (hd : ∀ c, o.op ≠ .defer c) (h : o.wp P a w K Q) : o.wpIn (Fence.wide.inRound l) n P a w K Q := by
  unfold Oper.wp at h
  unfold Oper.wpIn
  refine ⟨fun _ _ => trivial, ?_⟩
  rw [show (Fence.wide.inRound l).round = some l from rfl, Oper.semAt_some l _ _ hd]
  generalize (execOp a.eval o).run P w = r at *
  cases r with
  | ok x w' =>
    cases x with
    | value v => exact h
    | skip => exact h
    | defer d => exact h
    | enter f args => exact ⟨fun h0 => absurd h0 (by simp [Fence.wide]), CallsIn.inRound l (callsIn_wide.2 h)⟩
    | row r args =>
      refine ⟨fun h0 => absurd h0 (by simp [Fence.wide]), fun c cs _ => ?_⟩
      obtain ⟨v, w2, h1, h2⟩ := h c cs
      exact ⟨v, w2, h1, stepsIn_wide.2 h2⟩
    | _ => exact h.elim
  | halt x w' => cases x <;> first | exact h | exact h.elim
theorem wpOp_wide {l n : Nat} {P : Program} {ops : Array Oper} {Q : Exit → Act → World → Prop} {i : Nat} {K : Act → World → Prop} {a : Act} {w : World} (hQ : ¬ LetsOut Q) (hd : ∀ o ∈ ops, ∀ c, o.op ≠ .defer c) (h : wpOp P ops Q i K a w) : wpOpIn (Fence.wide.inRound l) n P ops Q i K a w := by
  unfold wpOp at h
  unfold wpOpIn
  split at h
  · rename_i e; rw [e]; exact h
  · rename_i o e
    rw [e]
    simp only
    split
    · rename_i hw
      rw [if_pos hw] at h
      rcases h with h | h
      · exact oper_wide (hd o (Array.mem_of_getElem? e)) h
      · exact absurd h.2 hQ
    · rename_i hw
      rw [if_neg hw] at h
      exact ⟨fun _ _ => trivial, h⟩
theorem wpAny_wide {l n : Nat} {P : Program} {md : Region.Mode} {ops : Array Oper} {Q : Exit → Act → World → Prop} (hQ : ¬ LetsOut Q) (hd : ∀ o ∈ ops, ∀ c, o.op ≠ .defer c) :
    ∀ (fuel : Nat) (listed : Array Bool) (a : Act) (w : World), wpAny P md ops Q fuel listed a w → wpAnyIn (Fence.wide.inRound l) n P md ops Q fuel listed a w
  | 0, _, _, _, h => h
  | fuel + 1, _, _, _, h => ⟨h.1, fun i hi => wpOp_wide hQ hd (wpOp_mono (fun a' w' h' => wpAny_wide hQ hd fuel _ a' w' h') (h.2 i hi))⟩
def noDefer (ops : Array Oper) : Bool := ops.all fun o => match o.op with | .defer _ => false | _ => true
theorem noDefer_of {ops : Array Oper} (h : noDefer ops = true) : ∀ o ∈ ops, ∀ c, o.op ≠ .defer c := fun o ho c e => by
  unfold noDefer at h
  rw [Array.all_eq_true_iff_forall_mem] at h
  have := h o ho
  rw [e] at this
  cases this
/-- a region in a round, S being held -/
theorem region_round {l n id : Nat} {P : Program} {ops : Array Oper} {Q : Exit → Act → World → Prop} {a : Act} {w : World} (S : World → Prop) (hm : P.follows .mixedOrders = true) (hd : noDefer ops = true) (hQ : ¬ LetsOut Q)
    (h : wpAnyH P .any ops Q S ops.size (Array.replicate ops.size false) a w.drew) : (Code.region id ops true).wpIn (Fence.wide.inRound l) n P Q a w :=
  wpIn_region_any hm (wpAny_wide hQ (noDefer_of hd) _ _ _ _ (wpAny_of_held _ _ _ _ h))
end Go.Proofs.YtnpgpcnkdocknaaDoor
