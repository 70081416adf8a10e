/- Texts merged: Ex5, Ex8. -/
import Derived.Test.YtdelngmbpjgphaaGEx4
import Derived.Test.YtdelngmbpjgphaaGAppStep
import Derived.Test.YtdelngmbpjgphaaEx7
import Derived.RangeFuncNested
import Derived.RangeFuncBound
import Derived.RangeFuncCalls
import Derived.RangeFuncLeaves
import Derived.Shelf.Abstract
import Derived.OwnWalkIn
import Derived.TacticsInMore
import Derived.LoopNIn
import Derived.LoopIn
/- The walk of the reference's EEval. -/
namespace Go.Proofs.Ytdelngmbpjgphaa
open Go.RowKit
set_option linter.unusedVariables false
theorem etwo_no (t : Ex) (ht : t.two = none) (w : World) (S : Blocks) (V : Value) (r : RdE w S t V) :
    Calls Try.prog 63 #[V] w fun e w' => e = .returned (.bool false) ∧ Below w.heap.size w w' := by
  refine (etwo_any t w S V r).mono ?_
  rintro e w' ⟨rfl, h⟩
  exact ⟨by simp [Ex.isTwo, ht], h⟩
theorem etwo_yes (t a b : Ex) (ht : t.two = some (a, b)) (w : World) (S : Blocks) (V : Value) (r : RdE w S t V) :
    Calls Try.prog 63 #[V] w fun e w' => e = .returned (.bool true) ∧ Below w.heap.size w w' := by
  refine (etwo_any t w S V r).mono ?_
  rintro e w' ⟨rfl, h⟩
  exact ⟨by simp [Ex.isTwo, ht], h⟩
/-- a bind of the slice -/
theorem RdBds.at1 {w : World} {S : Blocks} {l : List Bd} {A : Option Addr} {n cap : Nat} (h : RdBds w S l (.slice A n cap)) {q : Nat} (hq : q < l.length) :
    ∃ b off, A = some ⟨b, off, none⟩ ∧ S b ∧ okBd l[q] ∧ w.cell? ⟨b, off + q * 2, none⟩ = some (.string l[q].name) ∧ w.cell? ⟨b, off + q * 2 + 1, none⟩ = some (.int .i64 l[q].val) := by
  obtain ⟨b, off, hA, hb, hok, hc⟩ := h.flat hq
  exact ⟨b, off, hA, hb, hok, hc 0 _ rfl, by rw [Nat.add_assoc]; exact hc 1 _ rfl⟩
def EEv (env : List Bd) (t : Ex) : Prop := ∀ (w : World) (S : Blocks) (V Ve : Value), Sub S (Upto w.heap.size) → RdE w S t V → RdBds w S env Ve →
  Calls Try.prog 49 #[V, Ve] w fun e w' => e = .returned (.int .i64 (t.worth env)) ∧ inI (t.worth env) ∧ Below w.heap.size w w'
set_option maxHeartbeats 1000000 in
set_option maxRecDepth 100000 in
theorem eev_one (env : List Bd) (t : Ex) (ht : t.two = none) : EEv env t := by
  intro w S V Ve hS r re
  obtain ⟨k, c, s, args, v, rfl, rfl, hk, hc, hs, hargs⟩ := id r
  obtain ⟨A, cap, rfl, _, _, _⟩ := hargs.form
  obtain ⟨Ae, cape, rfl, hel, hem, _⟩ := re.form
  have bel : Below w.heap.size w (w.alloc (.cells #[.int .i64 k, .int .i64 c, .string s, .slice A args.length cap] 110)) := (Below.refl _ _).alloc (Nat.le_refl _) _
  have RA := Lib.hid (r.go bel hS)
  have BEL := Lib.hid bel
  have HT := Lib.hid ht
  have HW := Lib.hid (Ex.worth_none env ht)
  have HBX := Lib.hid (Blk.made w [.int .i64 k, .int .i64 c, .string s, .slice A args.length cap] 110 (base := 0) (Nat.zero_le _))
  have HS := Lib.hid hS
  have HOK := Lib.hid re.oks
  have RE := Lib.hid re
  have HC := Lib.hid hc
  unfold maxLen at hem
  unfold exV
  clear hargs ht r bel re hk hc hs hS
  go_enter Try.func49, Try.ntmps49
  go_wp2_with fail
  refine (etwo_no _ HT.out _ S _ RA.out).mono ?_
  rintro e w1 ⟨rfl, b1⟩
  have BX1 := HBX.out.below b1
  have hz1 := BEL.out.size
  have hz2 := b1.size
  rw [World.size_alloc] at hz1 hz2
  have k0 := BX1.cell 0 _ rfl
  have k1 := BX1.cell 1 _ rfl
  have k2 := BX1.cell 2 _ rfl
  have BEL1 := Lib.hid (BEL.out.trans (b1.mono (by simp)))
  have REW := Lib.hid (RE.out.keep Flat.keeps (Sub.refl _) (same_of_below BEL1.out HS.out))
  have hzl : w.heap.size < w1.heap.size := by omega
  clear b1 BEL RA HBX BX1 RE
  have BELw := BEL1
  obtain ⟨z, hz⟩ : ∃ z, z = w.heap.size := ⟨_, rfl⟩
  rw [← hz]
  rw [← hz] at k0 k1 k2 HS BEL1 hzl
  clear hz hz1 hz2
  by_cases h1 : k = 1
  · subst h1
    have HX := Lib.hid (show (Ex.mk 1 c s args).worth env = c by rw [HW.out]; simp [Ex.kind, Ex.num])
    go_wp2
    go_loopw [5, 18] (fun v t wr => ∃ q : Nat, q ≤ env.length ∧ t = .int .i64 q ∧ v = .int .i64 (c) ∧ Below w1.heap.size w1 wr) (fun _ t _ => env.length - (intOf t).toNat)
    case atStart => exact ⟨0, by omega, rfl, rfl, Below.refl _ _⟩
    case round =>
      obtain ⟨q, hq, rfl, rfl, hbel⟩ := hrel
      have hsz := hbel.size
      have g0 := (hbel.cell (p := ⟨z, 0, none⟩) hzl).trans k0
      have g2 := (hbel.cell (p := ⟨z, 2, none⟩) hzl).trans k2
      have hzr : z < wr.heap.size := by omega
      have hzr1 : z < wr.heap.size + 1 := by omega
      by_cases hlt : q < env.length
      · obtain ⟨b, off, rfl, hb, hok, hc0, hc1⟩ := RdBds.at1 REW.out hlt
        have hb := HS.out _ hb
        have hbw : b < w1.heap.size := Nat.lt_trans hb hzl
        have e0 := (hbel.cell (p := ⟨b, off + q * 2, none⟩) hbw).trans hc0
        have e1 := (hbel.cell (p := ⟨b, off + q * 2 + 1, none⟩) hbw).trans hc1
        have hq1 : (q : Int) < (env.length : Int) := by omega
        have hq0 : (0 : Int) ≤ (q : Int) := by omega
        clear hc0 hc1 hok
        go_wp2
        all_goals go_roundw
        all_goals try (case rel => exact ⟨q + 1, by omega, by go_num, rfl, hbel.alloc (by omega) _⟩)
        all_goals try (case measure => simp [intOf]; omega)
      · have HF := Lib.hid hbel
        have hqe : q = env.length := by omega
        subst hqe
        clear hbel
        go_wp2
        go_ret
        exact ⟨by rw [HX.out]; rfl, by rw [HX.out]; exact HC.out, BELw.out.trans (HF.out.mono BELw.out.size)⟩
  · by_cases h2 : k = 2
    · subst h2
      have HX := Lib.hid (show (Ex.mk 2 c s args).worth env = look env s by rw [HW.out]; simp [Ex.kind, Ex.name])
      have HX2 := Lib.hid (fun q (hq : q < env.length) => look_take env s hq)
      go_wp2
      go_loopw [5, 18] (fun v t wr => ∃ q : Nat, q ≤ env.length ∧ t = .int .i64 q ∧ v = .int .i64 (look (env.take q) s) ∧ Below w1.heap.size w1 wr) (fun _ t _ => env.length - (intOf t).toNat)
      case atStart => exact ⟨0, by omega, rfl, rfl, Below.refl _ _⟩
      case round =>
        obtain ⟨q, hq, rfl, rfl, hbel⟩ := hrel
        have hsz := hbel.size
        have g0 := (hbel.cell (p := ⟨z, 0, none⟩) hzl).trans k0
        have g2 := (hbel.cell (p := ⟨z, 2, none⟩) hzl).trans k2
        have hzr : z < wr.heap.size := by omega
        have hzr1 : z < wr.heap.size + 1 := by omega
        by_cases hlt : q < env.length
        · obtain ⟨b, off, rfl, hb, hok, hc0, hc1⟩ := RdBds.at1 REW.out hlt
          have hb := HS.out _ hb
          have hbw : b < w1.heap.size := Nat.lt_trans hb hzl
          have e0 := (hbel.cell (p := ⟨b, off + q * 2, none⟩) hbw).trans hc0
          have e1 := (hbel.cell (p := ⟨b, off + q * 2 + 1, none⟩) hbw).trans hc1
          have hq1 : (q : Int) < (env.length : Int) := by omega
          have hq0 : (0 : Int) ≤ (q : Int) := by omega
          have hl := Lib.hid (HX2.out q hlt)
          clear hc0 hc1 hok
          by_cases hs : env[q].name = s
          · have HL := Lib.hid (show look (env.take (q + 1)) s = env[q].val by rw [hl.out, if_pos hs])
            have es : (env[q].name.toList == s.toList) = true := by rw [hs]; simp
            clear hs
            go_wp2
            all_goals go_roundw
            all_goals try (case rel => exact ⟨q + 1, by omega, by go_num, by rw [HL.out], hbel.alloc (by omega) _⟩)
            all_goals try (case measure => simp [intOf]; omega)
          · have HL := Lib.hid (show look (env.take (q + 1)) s = look (env.take q) s by rw [hl.out, if_neg hs])
            have es : (env[q].name.toList == s.toList) = false := name_ne hs
            clear hs
            go_wp2
            all_goals go_roundw
            all_goals try (case rel => exact ⟨q + 1, by omega, by go_num, by rw [HL.out], hbel.alloc (by omega) _⟩)
            all_goals try (case measure => simp [intOf]; omega)
        · have HF := Lib.hid hbel
          have hqe : q = env.length := by omega
          subst hqe
          clear hbel
          go_wp2
          go_ret
          exact ⟨by rw [HX.out, List.take_length]; rfl, by rw [HX.out]; exact look_in _ _ HOK.out, BELw.out.trans (HF.out.mono BELw.out.size)⟩
    · have HX := Lib.hid (show (Ex.mk k c s args).worth env = 0 by rw [HW.out]; simp [Ex.kind, h1, h2])
      have e1 : (k == 1) = false := by simpa using h1
      have e2 : (k == 2) = false := by simpa using h2
      clear h1 h2
      go_wp2
      go_loopw [5, 18] (fun v t wr => ∃ q : Nat, q ≤ env.length ∧ t = .int .i64 q ∧ v = .int .i64 (0) ∧ Below w1.heap.size w1 wr) (fun _ t _ => env.length - (intOf t).toNat)
      case atStart => exact ⟨0, by omega, rfl, rfl, Below.refl _ _⟩
      case round =>
        obtain ⟨q, hq, rfl, rfl, hbel⟩ := hrel
        have hsz := hbel.size
        have g0 := (hbel.cell (p := ⟨z, 0, none⟩) hzl).trans k0
        have g2 := (hbel.cell (p := ⟨z, 2, none⟩) hzl).trans k2
        have hzr : z < wr.heap.size := by omega
        have hzr1 : z < wr.heap.size + 1 := by omega
        by_cases hlt : q < env.length
        · obtain ⟨b, off, rfl, hb, hok, hc0, hc1⟩ := RdBds.at1 REW.out hlt
          have hb := HS.out _ hb
          have hbw : b < w1.heap.size := Nat.lt_trans hb hzl
          have e0 := (hbel.cell (p := ⟨b, off + q * 2, none⟩) hbw).trans hc0
          have e1' := (hbel.cell (p := ⟨b, off + q * 2 + 1, none⟩) hbw).trans hc1
          have hq1 : (q : Int) < (env.length : Int) := by omega
          have hq0 : (0 : Int) ≤ (q : Int) := by omega
          clear hc0 hc1 hok
          go_wp2
          all_goals go_roundw
          all_goals try (case rel => exact ⟨q + 1, by omega, by go_num, rfl, hbel.alloc (by omega) _⟩)
          all_goals try (case measure => simp [intOf]; omega)
        · have HF := Lib.hid hbel
          have hqe : q = env.length := by omega
          subst hqe
          clear hbel
          go_wp2
          go_ret
          exact ⟨by rw [HX.out]; rfl, by rw [HX.out]; decide, BELw.out.trans (HF.out.mono BELw.out.size)⟩
end Go.Proofs.Ytdelngmbpjgphaa
/- slices.Backward over binds: the last comes first. -/
namespace Go.Proofs.Ytdelngmbpjgphaa
open Go.RowKit Go.Shelf
set_option linter.unusedVariables false
attribute [local go_sem] Oper.semAt_some
abbrev bdV (x : Bd) : Value := .agg #[.string x.name, .int .i64 x.val]
/-- the j-th that comes -/
def bk (env : List Bd) (j : Nat) : Nat × Bd := (env.length - 1 - j, env[env.length - 1 - j]?.getD default)
def comes (env : List Bd) (k : Nat) : List (Nat × Bd) := (List.range k).map (bk env)
theorem comes_succ (env : List Bd) (k : Nat) : comes env (k + 1) = comes env k ++ [bk env k] := by simp [comes, List.range_succ]
theorem comes_length (env : List Bd) (k : Nat) : (comes env k).length = k := by simp [comes]
theorem bk_at (env : List Bd) {m : Nat} (hm : m < env.length) : bk env (env.length - (m + 1)) = (m, env[m]) := by
  unfold bk
  have e : env.length - 1 - (env.length - (m + 1)) = m := by omega
  rw [e, List.getElem?_eq_getElem hm, Option.getD_some]
theorem comes_mem (env : List Bd) (k : Nat) {j : Nat} (hj : j < k) : bk env j ∈ comes env k := by
  simp only [comes, List.mem_map, List.mem_range]; exact ⟨j, hj, rfl⟩
theorem look_none (env : List Bd) (s : ByteArray) (h : ∀ p ∈ comes env env.length, p.2.name ≠ s) : look env s = 0 := by
  have key : ∀ q, q ≤ env.length → look (env.take q) s = 0 := by
    intro q
    induction q with
    | zero => intro _; rfl
    | succ q ih =>
      intro hq
      have hlt : q < env.length := hq
      have hm := h (bk env (env.length - (q + 1))) (comes_mem env env.length (by omega))
      rw [bk_at env hlt] at hm
      rw [look_take env s hlt, if_neg hm]
      exact ih (by omega)
  have := key env.length (Nat.le_refl _)
  rwa [List.take_length] at this
theorem look_last (env : List Bd) (s : ByteArray) (k : Nat) (hk : k < env.length) (h : ∀ p ∈ comes env k, p.2.name ≠ s) (e : (bk env k).2.name = s) : look env s = (bk env k).2.val := by
  have hm : env.length - 1 - k < env.length := by omega
  have eb : bk env k = (env.length - 1 - k, env[env.length - 1 - k]) := by
    unfold bk; rw [List.getElem?_eq_getElem hm, Option.getD_some]
  rw [eb] at e ⊢
  have key : ∀ d, env.length - 1 - k + 1 + d ≤ env.length → look (env.take (env.length - 1 - k + 1 + d)) s = env[env.length - 1 - k].val := by
    intro d
    induction d with
    | zero => intro _; rw [Nat.add_zero, look_take env s hm, if_pos e]
    | succ d ih =>
      intro hd
      have hlt : env.length - 1 - k + 1 + d < env.length := by omega
      have hn := h (bk env (env.length - (env.length - 1 - k + 1 + d + 1))) (comes_mem env k (by omega))
      rw [bk_at env hlt] at hn
      rw [← Nat.add_assoc, look_take env s hlt, if_neg hn]
      exact ih (by omega)
  have := key k (by omega)
  rwa [show env.length - 1 - k + 1 + k = env.length by omega, List.take_length] at this
set_option maxRecDepth 100000 in
set_option maxHeartbeats 2000000 in
theorem back1_in (F : Fence) (n : Nat) (h7 : F.fn 74) (hro : F.round = none) (hn : 1 ≤ n) (l Bs n₀ : Nat) (A : Option Addr) (cap : Nat) (env : List Bd) (S : Blocks) (hS : Sub S (Upto n₀)) (hreach : env.length * 24 ≤ 140737488355328) (J Jx : List (Nat × Bd) → World → Prop)
    (hY : ∀ pre x W, J pre W → pre.length < env.length → YieldAt F (n - 1) Try.prog l #[.int .i64 (x.1 : Int), bdV x.2] W fun e W' =>
      (e = .returned (.bool true) ∧ J (pre ++ [x]) W' ∧ Below n₀ W W') ∨ (e = .returned (.bool false) ∧ Jx (pre ++ [x]) W'))
    (W : World) (hBs : W.cell? ⟨Bs, 0, none⟩ = some (.slice A env.length cap)) (hBn : Bs < n₀) (re : RdBds W S env (.slice A env.length cap)) (h0 : J [] W) :
    CallsIn F n Try.prog 74 #[.func (.yield l) #[] #[], .pointer (some ⟨Bs, 0, none⟩)] W fun e W' => (∃ v, e = .returned v) ∧
      ((∃ ys, ys = comes env env.length ∧ J ys W') ∨ (∃ pre, (∃ k, k ≤ env.length ∧ pre = comes env k) ∧ Jx pre W')) := by
  refine callsIn_of_wp Try.func74 rfl h7 ?_ hro
  simp only [Try.ntmps74, List.size_toArray, List.length_cons, List.length_nil, Nat.reduceAdd, Nat.reduceSub, Array.replicate_succ, Array.replicate_zero, List.push_toArray, List.append_toArray, List.nil_append, List.cons_append]
  have hw0 : IntKind.i64.wrap ((env.length : Int) - 1) = (env.length : Int) - 1 := IntWalk.i64_in _ (by omega)
  have hw1 : wrap64 ((env.length : Int) - 1) = (env.length : Int) - 1 := IntWalk.wrap64_in _ (by omega)
  gi_wp2
  gi_loopw [3] (fun i wr => ∃ m : Nat, m ≤ env.length ∧ i = .int .i64 ((m : Int) - 1) ∧ J (comes env (env.length - m)) wr ∧ Below n₀ W wr)
    (fun i _ => (intOf i + 1).toNat)
  case atStart => exact ⟨env.length, Nat.le_refl _, rfl, by rw [Nat.sub_self]; exact h0, Below.refl _ _⟩
  case round =>
    obtain ⟨m, hm, rfl, hJs, hnx⟩ := hrel
    have hBs' := (hnx.cell (p := ⟨Bs, 0, none⟩) hBn).trans hBs
    cases m with
    | zero =>
      gi_wp2
      go_end0
      exact ⟨⟨_, rfl⟩, .inl ⟨_, rfl, hJs⟩⟩
    | succ m =>
      have hlt : m < env.length := hm
      have ei : ((m + 1 : Nat) : Int) - 1 = (m : Int) := by omega
      rw [ei]
      obtain ⟨b, off, rfl, hb, hok, hc0, hc1⟩ := RdBds.at1 re hlt
      have hcx0 := (hnx.cell (p := ⟨b, off + m * 2, none⟩) (hS _ hb)).trans hc0
      have hcx1 := (hnx.cell (p := ⟨b, off + m * 2 + 1, none⟩) (hS _ hb)).trans hc1
      obtain ⟨fn, tmps, assign, body, hy, hR⟩ := hY _ (m, env[m]) wr hJs (by rw [comes_length]; omega)
      dsimp only at hy
      have hm0 : (0 : Int) ≤ (m : Int) := by omega
      have hm1 : (m : Int) < (env.length : Int) := by omega
      have hw2 : IntKind.i64.wrap ((m : Int) - 1) = (m : Int) - 1 := IntWalk.i64_in _ (by omega)
      have hw3 : wrap64 ((m : Int) - 1) = (m : Int) - 1 := IntWalk.wrap64_in _ (by omega)
      gi_wp2
      refine hR.mono ?_
      rintro e W3 (⟨rfl, hJ3, hk3⟩ | ⟨rfl, hJx3⟩)
      · gi_wp2
        go_roundw
        case rel => exact ⟨m, by omega, rfl, by rw [← bk_at env hlt, ← comes_succ] at hJ3; rw [show env.length - m = env.length - (m + 1) + 1 by omega]; exact hJ3, hnx.trans hk3⟩
        case measure => simp [intOf]
      · gi_wp2
        refine bodyPost_ret (results_none rfl _ _ _) rfl ?_
        exact ⟨⟨_, rfl⟩, .inr ⟨_, ⟨env.length - (m + 1) + 1, by omega, (comes_succ _ _).symm⟩, by rw [bk_at env hlt]; exact hJx3⟩⟩
set_option maxHeartbeats 1000000 in
theorem back_in (F : Fence) (n : Nat) (h6 : F.fn 60) (hro : F.round = none) (A : Option Addr) (len cap : Nat) (w : World) :
    CallsIn F n Try.prog 60 #[.slice A len cap] w fun e w' => e = .returned (.func (.func 74) #[] #[.pointer (some ⟨w.heap.size, 0, none⟩)]) ∧ w' = w.alloc (.cells #[.slice A len cap] 106) := by
  refine callsIn_of_wp Try.func60 rfl h6 ?_ hro
  simp only [Try.ntmps60, List.size_toArray, List.length_cons, List.length_nil, Nat.reduceAdd, Nat.reduceSub, Array.replicate_succ, Array.replicate_zero, List.push_toArray, List.append_toArray, List.nil_append, List.cons_append]
  gi_wp2
  go_ret
  exact ⟨rfl, rfl⟩
theorem back_stops (F : Fence) (n : Nat) (h7 : F.fn 74) (hro : F.round = none) (hn : 1 ≤ n) (Bs n₀ : Nat) (A : Option Addr) (cap : Nat) (env : List Bd) (S : Blocks) (hS : Sub S (Upto n₀)) (w : World) (hBs : Bs < n₀) (hn₀ : n₀ ≤ w.heap.size)
    (hreach : env.length * 24 ≤ 140737488355328) (hc : w.cell? ⟨Bs, 0, none⟩ = some (.slice A env.length cap)) (re : RdBds w S env (.slice A env.length cap)) :
    SeqStopsK F n Try.prog 74 #[.pointer (some ⟨Bs, 0, none⟩)] (fun x : Nat × Bd => #[Value.int .i64 (x.1 : Int), bdV x.2]) (Below n₀) (fun ys => ys = comes env env.length)
      (fun pre => ∃ k, k ≤ env.length ∧ pre = comes env k) env.length w := fun l J Jx W hW _ _ hY h0 =>
  back1_in F n h7 hro hn l Bs n₀ A cap env S hS hreach J Jx hY W ((hW.cell (p := ⟨Bs, 0, none⟩) (Nat.lt_of_lt_of_le hBs hn₀)).trans hc) hBs (re.keep Flat.keeps (Sub.refl _) (same_of_below hW (hS.trans (Sub.upto hn₀)))) h0
end Go.Proofs.Ytdelngmbpjgphaa
