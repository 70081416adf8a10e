/- slices.Backward over binds: the last comes first. -/
import Derived.Test.YtikjegfjgfhiaaaEx7
import Derived.Test.YtikjegfjgfhiaaaEx5
import Derived.RangeFuncNested
import Derived.RangeFuncBound
import Derived.RangeFuncCalls
import Derived.RangeFuncLeaves
import Derived.Shelf.Abstract
import Derived.OwnWalkIn
import Derived.TacticsInMore
import Derived.LoopNIn
import Derived.LoopIn
namespace Go.Proofs.Ytikjegfjgfhiaaa
open Go.RowKit Go.Shelf
set_option linter.unusedVariables false
attribute [local go_sem] Oper.semAt_some
abbrev bdV (x : Bd) : Value := .agg #[.string x.name, .int .i64 x.val]
/-- the j-th that comes -/
def bk (env : List Bd) (j : Nat) : Nat × Bd := (env.length - 1 - j, env[env.length - 1 - j]?.getD default)
def comes (env : List Bd) (k : Nat) : List (Nat × Bd) := (List.range k).map (bk env)
theorem comes_succ (env : List Bd) (k : Nat) : comes env (k + 1) = comes env k ++ [bk env k] := by simp [comes, List.range_succ]
theorem comes_length (env : List Bd) (k : Nat) : (comes env k).length = k := by simp [comes]
theorem bk_at (env : List Bd) {m : Nat} (hm : m < env.length) : bk env (env.length - (m + 1)) = (m, env[m]) := by
  unfold bk
  have e : env.length - 1 - (env.length - (m + 1)) = m := by omega
  rw [e, List.getElem?_eq_getElem hm, Option.getD_some]
theorem comes_mem (env : List Bd) (k : Nat) {j : Nat} (hj : j < k) : bk env j ∈ comes env k := by
  simp only [comes, List.mem_map, List.mem_range]; exact ⟨j, hj, rfl⟩
theorem look_none (env : List Bd) (s : ByteArray) (h : ∀ p ∈ comes env env.length, p.2.name ≠ s) : look env s = 0 := by
  have key : ∀ q, q ≤ env.length → look (env.take q) s = 0 := by
    intro q
    induction q with
    | zero => intro _; rfl
    | succ q ih =>
      intro hq
      have hlt : q < env.length := hq
      have hm := h (bk env (env.length - (q + 1))) (comes_mem env env.length (by omega))
      rw [bk_at env hlt] at hm
      rw [look_take env s hlt, if_neg hm]
      exact ih (by omega)
  have := key env.length (Nat.le_refl _)
  rwa [List.take_length] at this
theorem look_last (env : List Bd) (s : ByteArray) (k : Nat) (hk : k < env.length) (h : ∀ p ∈ comes env k, p.2.name ≠ s) (e : (bk env k).2.name = s) : look env s = (bk env k).2.val := by
  have hm : env.length - 1 - k < env.length := by omega
  have eb : bk env k = (env.length - 1 - k, env[env.length - 1 - k]) := by
    unfold bk; rw [List.getElem?_eq_getElem hm, Option.getD_some]
  rw [eb] at e ⊢
  have key : ∀ d, env.length - 1 - k + 1 + d ≤ env.length → look (env.take (env.length - 1 - k + 1 + d)) s = env[env.length - 1 - k].val := by
    intro d
    induction d with
    | zero => intro _; rw [Nat.add_zero, look_take env s hm, if_pos e]
    | succ d ih =>
      intro hd
      have hlt : env.length - 1 - k + 1 + d < env.length := by omega
      have hn := h (bk env (env.length - (env.length - 1 - k + 1 + d + 1))) (comes_mem env k (by omega))
      rw [bk_at env hlt] at hn
      rw [← Nat.add_assoc, look_take env s hlt, if_neg hn]
      exact ih (by omega)
  have := key k (by omega)
  rwa [show env.length - 1 - k + 1 + k = env.length by omega, List.take_length] at this
set_option maxRecDepth 100000 in
set_option maxHeartbeats 2000000 in
theorem back1_in (F : Fence) (n : Nat) (h7 : F.fn 34) (hro : F.round = none) (hn : 1 ≤ n) (l Bs n₀ : Nat) (A : Option Addr) (cap : Nat) (env : List Bd) (S : Blocks) (hS : Sub S (Upto n₀)) (hreach : env.length * 24 ≤ 140737488355328) (J Jx : List (Nat × Bd) → World → Prop)
    (hY : ∀ pre x W, J pre W → pre.length < env.length → YieldAt F (n - 1) Try.prog l #[.int .i64 (x.1 : Int), bdV x.2] W fun e W' =>
      (e = .returned (.bool true) ∧ J (pre ++ [x]) W' ∧ Below n₀ W W') ∨ (e = .returned (.bool false) ∧ Jx (pre ++ [x]) W'))
    (W : World) (hBs : W.cell? ⟨Bs, 0, none⟩ = some (.slice A env.length cap)) (hBn : Bs < n₀) (re : RdBds W S env (.slice A env.length cap)) (h0 : J [] W) :
    CallsIn F n Try.prog 34 #[.func (.yield l) #[] #[], .pointer (some ⟨Bs, 0, none⟩)] W fun e W' => (∃ v, e = .returned v) ∧
      ((∃ ys, ys = comes env env.length ∧ J ys W') ∨ (∃ pre, (∃ k, k ≤ env.length ∧ pre = comes env k) ∧ Jx pre W')) := by
  refine callsIn_of_wp Try.func34 rfl h7 ?_ hro
  simp only [Try.ntmps34, List.size_toArray, List.length_cons, List.length_nil, Nat.reduceAdd, Nat.reduceSub, Array.replicate_succ, Array.replicate_zero, List.push_toArray, List.append_toArray, List.nil_append, List.cons_append]
  have hw0 : IntKind.i64.wrap ((env.length : Int) - 1) = (env.length : Int) - 1 := IntWalk.i64_in _ (by omega)
  have hw1 : wrap64 ((env.length : Int) - 1) = (env.length : Int) - 1 := IntWalk.wrap64_in _ (by omega)
  gi_wp2
  gi_loopw [3] (fun i wr => ∃ m : Nat, m ≤ env.length ∧ i = .int .i64 ((m : Int) - 1) ∧ J (comes env (env.length - m)) wr ∧ Below n₀ W wr)
    (fun i _ => (intOf i + 1).toNat)
  case atStart => exact ⟨env.length, Nat.le_refl _, rfl, by rw [Nat.sub_self]; exact h0, Below.refl _ _⟩
  case round =>
    obtain ⟨m, hm, rfl, hJs, hnx⟩ := hrel
    have hBs' := (hnx.cell (p := ⟨Bs, 0, none⟩) hBn).trans hBs
    cases m with
    | zero =>
      gi_wp2
      go_end0
      exact ⟨⟨_, rfl⟩, .inl ⟨_, rfl, hJs⟩⟩
    | succ m =>
      have hlt : m < env.length := hm
      have ei : ((m + 1 : Nat) : Int) - 1 = (m : Int) := by omega
      rw [ei]
      obtain ⟨b, off, rfl, hb, hok, hc0, hc1⟩ := RdBds.at1 re hlt
      have hcx0 := (hnx.cell (p := ⟨b, off + m * 2, none⟩) (hS _ hb)).trans hc0
      have hcx1 := (hnx.cell (p := ⟨b, off + m * 2 + 1, none⟩) (hS _ hb)).trans hc1
      obtain ⟨fn, tmps, assign, body, hy, hR⟩ := hY _ (m, env[m]) wr hJs (by rw [comes_length]; omega)
      dsimp only at hy
      have hm0 : (0 : Int) ≤ (m : Int) := by omega
      have hm1 : (m : Int) < (env.length : Int) := by omega
      have hw2 : IntKind.i64.wrap ((m : Int) - 1) = (m : Int) - 1 := IntWalk.i64_in _ (by omega)
      have hw3 : wrap64 ((m : Int) - 1) = (m : Int) - 1 := IntWalk.wrap64_in _ (by omega)
      gi_wp2
      refine hR.mono ?_
      rintro e W3 (⟨rfl, hJ3, hk3⟩ | ⟨rfl, hJx3⟩)
      · gi_wp2
        go_roundw
        case rel => exact ⟨m, by omega, rfl, by rw [← bk_at env hlt, ← comes_succ] at hJ3; rw [show env.length - m = env.length - (m + 1) + 1 by omega]; exact hJ3, hnx.trans hk3⟩
        case measure => simp [intOf]
      · gi_wp2
        refine bodyPost_ret (results_none rfl _ _ _) rfl ?_
        exact ⟨⟨_, rfl⟩, .inr ⟨_, ⟨env.length - (m + 1) + 1, by omega, (comes_succ _ _).symm⟩, by rw [bk_at env hlt]; exact hJx3⟩⟩
set_option maxHeartbeats 1000000 in
theorem back_in (F : Fence) (n : Nat) (h6 : F.fn 20) (hro : F.round = none) (A : Option Addr) (len cap : Nat) (w : World) :
    CallsIn F n Try.prog 20 #[.slice A len cap] w fun e w' => e = .returned (.func (.func 34) #[] #[.pointer (some ⟨w.heap.size, 0, none⟩)]) ∧ w' = w.alloc (.cells #[.slice A len cap] 25) := by
  refine callsIn_of_wp Try.func20 rfl h6 ?_ hro
  simp only [Try.ntmps20, List.size_toArray, List.length_cons, List.length_nil, Nat.reduceAdd, Nat.reduceSub, Array.replicate_succ, Array.replicate_zero, List.push_toArray, List.append_toArray, List.nil_append, List.cons_append]
  gi_wp2
  go_ret
  exact ⟨rfl, rfl⟩
theorem back_stops (F : Fence) (n : Nat) (h7 : F.fn 34) (hro : F.round = none) (hn : 1 ≤ n) (Bs n₀ : Nat) (A : Option Addr) (cap : Nat) (env : List Bd) (S : Blocks) (hS : Sub S (Upto n₀)) (w : World) (hBs : Bs < n₀) (hn₀ : n₀ ≤ w.heap.size)
    (hreach : env.length * 24 ≤ 140737488355328) (hc : w.cell? ⟨Bs, 0, none⟩ = some (.slice A env.length cap)) (re : RdBds w S env (.slice A env.length cap)) :
    SeqStopsK F n Try.prog 34 #[.pointer (some ⟨Bs, 0, none⟩)] (fun x : Nat × Bd => #[Value.int .i64 (x.1 : Int), bdV x.2]) (Below n₀) (fun ys => ys = comes env env.length)
      (fun pre => ∃ k, k ≤ env.length ∧ pre = comes env k) env.length w := fun l J Jx W hW _ _ hY h0 =>
  back1_in F n h7 hro hn l Bs n₀ A cap env S hS hreach J Jx hY W ((hW.cell (p := ⟨Bs, 0, none⟩) (Nat.lt_of_lt_of_le hBs hn₀)).trans hc) hBs (re.keep Flat.keeps (Sub.refl _) (same_of_below hW (hS.trans (Sub.upto hn₀)))) h0
end Go.Proofs.Ytikjegfjgfhiaaa
