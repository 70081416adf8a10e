/- slices.Backward over strings: the last comes first. -/
import Derived.Test.YtoijobnpfibboaaDoorStrB
import Derived.RangeFuncNested
import Derived.RangeFuncBound
import Derived.RangeFuncCalls
import Derived.RangeFuncLeaves
import Derived.Shelf.Abstract
import Derived.OwnWalkIn
import Derived.TacticsInMore
import Derived.LoopNIn
import Derived.LoopIn
import Derived.IntWalk
namespace Go.Proofs.YtoijobnpfibboaaDoor
open Go.RowKit Go.Shelf
set_option linter.unusedVariables false
attribute [local go_sem] Oper.semAt_some
/-- those that come first -/
def comesF (l : List Str) (k : Nat) : List (Fin l.length) := (List.finRange l.length).reverse.take k
theorem comesF_succ (l : List Str) {m : Nat} (hm : m < l.length) : comesF l (l.length - (m + 1) + 1) = comesF l (l.length - (m + 1)) ++ [⟨m, hm⟩] := by
  unfold comesF
  have hlt : l.length - (m + 1) < (List.finRange l.length).reverse.length := by simp; omega
  rw [List.take_succ_eq_append_getElem hlt, List.getElem_reverse]
  congr 2
  simp only [List.length_finRange, List.getElem_finRange]
  apply Fin.ext
  simp only [Fin.cast_mk]
  omega
theorem comesF_length (l : List Str) {k : Nat} (hk : k ≤ l.length) : (comesF l k).length = k := by simp [comesF, hk]
theorem comesF_mem (l : List Str) {k : Nat} {x : Fin l.length} : x ∈ comesF l k ↔ l.length - k ≤ x.1 := by
  unfold comesF
  constructor
  · intro h
    obtain ⟨i, hi, e⟩ := List.getElem_of_mem h
    rw [List.getElem_take, List.getElem_reverse] at e
    simp only [List.length_take, List.length_reverse, List.length_finRange] at hi
    rw [← e]
    simp
    omega
  · intro h
    have hx := x.2
    refine List.mem_iff_getElem.2 ⟨l.length - 1 - x.1, by simp; omega, ?_⟩
    rw [List.getElem_take, List.getElem_reverse]
    apply Fin.ext
    simp
    omega
set_option maxRecDepth 100000 in
set_option maxHeartbeats 2000000 in
theorem backS1_in (F : Fence) (n : Nat) (h7 : F.fn 20) (hro : F.round = none) (hn : 1 ≤ n) (l Bs n₀ : Nat) (A : Option Addr) (cap : Nat) (env : List Str) (S : Blocks) (hS : Sub S (Upto n₀)) (hreach : env.length * 16 ≤ 140737488355328) (J Jx : List (Fin env.length) → World → Prop)
    (hY : ∀ pre x W, J pre W → pre.length < env.length → YieldAt F (n - 1) Tryd.prog l #[.int .i64 (x.1 : Int), .string env[x.1]] W fun e W' =>
      (e = .returned (.bool true) ∧ J (pre ++ [x]) W' ∧ Below n₀ W W') ∨ (e = .returned (.bool false) ∧ Jx (pre ++ [x]) W'))
    (W : World) (hBs : W.cell? ⟨Bs, 0, none⟩ = some (.slice A env.length cap)) (hBn : Bs < n₀) (re : RdSs W S env (.slice A env.length cap)) (h0 : J [] W) :
    CallsIn F n Tryd.prog 20 #[.func (.yield l) #[] #[], .pointer (some ⟨Bs, 0, none⟩)] W fun e W' => (∃ v, e = .returned v) ∧
      ((∃ ys, ys = comesF env env.length ∧ J ys W') ∨ (∃ pre, (∃ k, k ≤ env.length ∧ pre = comesF env k) ∧ Jx pre W')) := by
  refine callsIn_of_wp Tryd.func20 rfl h7 ?_ hro
  simp only [Tryd.ntmps20, List.size_toArray, List.length_cons, List.length_nil, Nat.reduceAdd, Nat.reduceSub, Array.replicate_succ, Array.replicate_zero, List.push_toArray, List.append_toArray, List.nil_append, List.cons_append]
  have hw0 : IntKind.i64.wrap ((env.length : Int) - 1) = (env.length : Int) - 1 := IntWalk.i64_in _ (by omega)
  have hw1 : wrap64 ((env.length : Int) - 1) = (env.length : Int) - 1 := IntWalk.wrap64_in _ (by omega)
  gi_wp2
  gi_loopw [3] (fun i wr => ∃ m : Nat, m ≤ env.length ∧ i = .int .i64 ((m : Int) - 1) ∧ J (comesF env (env.length - m)) wr ∧ Below n₀ W wr)
    (fun i _ => (intOf i + 1).toNat)
  case atStart => exact ⟨env.length, Nat.le_refl _, rfl, by rw [Nat.sub_self]; exact h0, Below.refl _ _⟩
  case round =>
    obtain ⟨m, hm, rfl, hJs, hnx⟩ := hrel
    have hBs' := (hnx.cell (p := ⟨Bs, 0, none⟩) hBn).trans hBs
    cases m with
    | zero =>
      gi_wp2
      go_end0
      exact ⟨⟨_, rfl⟩, .inl ⟨_, rfl, hJs⟩⟩
    | succ m =>
      have hlt : m < env.length := hm
      have ei : ((m + 1 : Nat) : Int) - 1 = (m : Int) := by omega
      rw [ei]
      obtain ⟨b, off, rfl, hb, hok, hc0⟩ := RdSs.at1 re hlt
      have hcx0 := (hnx.cell (p := ⟨b, off + m, none⟩) (hS _ hb)).trans hc0
      obtain ⟨fn, tmps, assign, body, hy, hR⟩ := hY _ ⟨m, hlt⟩ wr hJs (by rw [comesF_length _ (by omega)]; omega)
      dsimp only at hy
      have hm0 : (0 : Int) ≤ (m : Int) := by omega
      have hm1 : (m : Int) < (env.length : Int) := by omega
      have hw2 : IntKind.i64.wrap ((m : Int) - 1) = (m : Int) - 1 := IntWalk.i64_in _ (by omega)
      have hw3 : wrap64 ((m : Int) - 1) = (m : Int) - 1 := IntWalk.wrap64_in _ (by omega)
      gi_wp2
      refine hR.mono ?_
      rintro e W3 (⟨rfl, hJ3, hk3⟩ | ⟨rfl, hJx3⟩)
      · gi_wp2
        go_roundw
        case rel => exact ⟨m, by omega, rfl, by rw [show env.length - m = env.length - (m + 1) + 1 by omega, comesF_succ env hlt]; exact hJ3, hnx.trans hk3⟩
        case measure => simp [intOf]
      · gi_wp2
        refine bodyPost_ret (results_none rfl _ _ _) rfl ?_
        exact ⟨⟨_, rfl⟩, .inr ⟨_, ⟨env.length - (m + 1) + 1, by omega, (comesF_succ _ hlt).symm⟩, hJx3⟩⟩
set_option maxHeartbeats 1000000 in
theorem backS_in (F : Fence) (n : Nat) (h6 : F.fn 16) (hro : F.round = none) (A : Option Addr) (len cap : Nat) (w : World) :
    CallsIn F n Tryd.prog 16 #[.slice A len cap] w fun e w' => e = .returned (.func (.func 20) #[] #[.pointer (some ⟨w.heap.size, 0, none⟩)]) ∧ w' = w.alloc (.cells #[.slice A len cap] 32) := by
  refine callsIn_of_wp Tryd.func16 rfl h6 ?_ hro
  simp only [Tryd.ntmps16, List.size_toArray, List.length_cons, List.length_nil, Nat.reduceAdd, Nat.reduceSub, Array.replicate_succ, Array.replicate_zero, List.push_toArray, List.append_toArray, List.nil_append, List.cons_append]
  gi_wp2
  go_ret
  exact ⟨rfl, rfl⟩
theorem backS_stops (F : Fence) (n : Nat) (h7 : F.fn 20) (hro : F.round = none) (hn : 1 ≤ n) (Bs n₀ : Nat) (A : Option Addr) (cap : Nat) (env : List Str) (S : Blocks) (hS : Sub S (Upto n₀)) (w : World) (hBs : Bs < n₀) (hn₀ : n₀ ≤ w.heap.size)
    (hreach : env.length * 16 ≤ 140737488355328) (hc : w.cell? ⟨Bs, 0, none⟩ = some (.slice A env.length cap)) (re : RdSs w S env (.slice A env.length cap)) :
    SeqStopsK F n Tryd.prog 20 #[.pointer (some ⟨Bs, 0, none⟩)] (fun x : Fin env.length => #[Value.int .i64 (x.1 : Int), .string env[x.1]]) (Below n₀) (fun ys => ys = comesF env env.length)
      (fun pre => ∃ k, k ≤ env.length ∧ pre = comesF env k) env.length w := fun l J Jx W hW _ _ hY h0 =>
  backS1_in F n h7 hro hn l Bs n₀ A cap env S hS hreach J Jx hY W ((hW.cell (p := ⟨Bs, 0, none⟩) (Nat.lt_of_lt_of_le hBs hn₀)).trans hc) hBs (re.keep Flat.keeps (Sub.refl _) (same_of_below hW (hS.trans (Sub.upto hn₀)))) h0
end Go.Proofs.YtoijobnpfibboaaDoor
