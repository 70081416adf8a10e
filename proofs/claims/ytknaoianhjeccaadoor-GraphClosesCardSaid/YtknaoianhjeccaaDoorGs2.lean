/- Walks of bitset's Of and All. -/
import Derived.Test.YtknaoianhjeccaaDoorGs1
import Derived.Test.YtknaoianhjeccaaDoorTzLib
import Derived.RangeFuncNested
import Derived.RangeFuncBound
import Derived.RangeFuncCalls
import Derived.RangeFuncLeaves
import Derived.Shelf.Abstract
import Derived.OwnWalkIn
import Derived.TacticsInMore
import Derived.LoopNIn
import Derived.LoopIn
namespace Go.Proofs.YtknaoianhjeccaaDoor
open Go.RowKit Go.Shelf
set_option linter.unusedVariables false
attribute [local go_sem] Oper.semAt_some
theorem plus_in {n m k : Nat} (h1 : n ≤ m) (h2 : m ≤ k) : Sub (Plus (Plus Nowhere n m) m k) (Plus Nowhere n k) := fun b h => by
  rcases h with (h | h) | h
  · exact .inl h
  · exact .inr ⟨h.1, Nat.lt_of_lt_of_le h.2 h2⟩
  · exact .inr ⟨Nat.le_trans h1 h.1, h.2⟩
theorem plus_upto {n m : Nat} : Sub (Plus Nowhere n m) (Upto m) := fun b h => h.elim (fun h => h.elim) (fun h => h.2)
set_option maxHeartbeats 600000 in
theorem of_any (l : List Int) (w : World) (S : Blocks) (v : Value) (hS : Sub S (Upto w.heap.size)) (r : RdI w S l v) :
    Calls Tryd.prog 42 #[v] w fun e w' => ∃ u, e = .returned u ∧ RdU w' (Plus Nowhere w.heap.size w'.heap.size) (l.foldl addL []) u ∧ Below w.heap.size w w' := by
  obtain ⟨A, cap, rfl, hl, hcm, hby⟩ := r.form
  unfold maxLen at hcm
  have R := Lib.hid r
  clear r
  go_enter Tryd.func42, Tryd.ntmps42
  go_wp2
  go_loopw [3, 8] (fun s t wr => ∃ q : Nat, q ≤ l.length ∧ t = .int .i64 q ∧ RdU wr (Plus Nowhere w.heap.size wr.heap.size) ((l.take q).foldl addL []) s ∧ Below w.heap.size w wr) (fun _ t _ => l.length - (intOf t).toNat)
  case atStart => exact ⟨0, by omega, rfl, RdL.nil (by unfold maxLen; omega), Below.refl _ _⟩
  case round =>
    obtain ⟨q, hq, rfl, hs, hb⟩ := hrel
    by_cases hlt : q < l.length
    · have r1 := R.out.go Flat.keeps hb hS (Sub.refl _)
      obtain ⟨b, off, rfl, _, hok, hc⟩ := RdI.at1 r1 hlt
      have HF := Lib.hid (show addL ((l.take q).foldl addL []) l[q] = (l.take (q + 1)).foldl addL [] by rw [List.take_succ_eq_append_getElem hlt, List.foldl_append]; rfl)
      obtain ⟨x, hx⟩ : ∃ x, x = l[q] := ⟨_, rfl⟩
      rw [← hx] at hc HF
      have HA := Lib.hid (add_any _ x wr _ _ plus_upto hs)
      have hsz := hb.size
      have HB := Lib.hid hb
      clear r1 hs hx hok hb
      go_wp2_with (go_at_call 28; refine HA.out.mono ?_; rintro e w' ⟨u, rfl, hu, hb2⟩)
      go_roundw
      case rel => exact ⟨q + 1, by omega, by go_num, by rw [← HF.out]; exact hu.keep Flat.keeps (plus_in hsz hb2.size) (Same.refl _ _), HB.out.trans (hb2.mono hsz)⟩
      case measure => simp [intOf]; omega
    · have e : l.take q = l := List.take_of_length_le (by omega)
      rw [e] at hs
      have HS := Lib.hid hs
      clear hs e
      go_wp2
      go_ret
      exact ⟨_, rfl, HS.out, hb⟩
theorem memB_le (l : List Nat) {i k : Nat} (h : i ≤ k) : (memB l i).length ≤ (memB l k).length := by
  induction k with
  | zero => rw [Nat.le_zero.1 h]; exact Nat.le_refl _
  | succ k ih =>
    rcases Nat.lt_or_ge i (k + 1) with h1 | h1
    · have := ih (by omega)
      conv => rhs; unfold memB
      simp; omega
    · rw [Nat.le_antisymm h h1]; exact Nat.le_refl _
theorem memB_prefix (l : List Nat) {i k : Nat} (h : i ≤ k) : memB l i <+: memB l k := by
  induction k with
  | zero => rw [Nat.le_zero.1 h]; exact List.prefix_rfl
  | succ k ih =>
    rcases Nat.lt_or_ge i (k + 1) with h1 | h1
    · conv => rhs; unfold memB
      exact List.IsPrefix.trans (ih (by omega)) (List.prefix_append _ _)
    · rw [Nat.le_antisymm h h1]; exact List.prefix_rfl
/-- what has come behind i words and k bits of the next -/
def come (l : List Nat) (i k : Nat) : List Nat := memB l i ++ ((bitsOf ((l[i]?).getD 0)).take k).map (64 * i + ·)
theorem come_zero (l : List Nat) (i : Nat) : come l i 0 = memB l i := by simp [come]
theorem come_all (l : List Nat) (i k : Nat) (h : (bitsOf ((l[i]?).getD 0)).length ≤ k) : come l i k = memB l (i + 1) := by
  unfold come
  rw [List.take_of_length_le h]; rfl
theorem come_succ (l : List Nat) {i k : Nat} (h : k < (bitsOf ((l[i]?).getD 0)).length) : come l i (k + 1) = come l i k ++ [64 * i + (bitsOf ((l[i]?).getD 0))[k]] := by
  unfold come
  rw [List.take_succ_eq_append_getElem h, List.map_append, List.append_assoc]; rfl
theorem come_prefix (l : List Nat) {i : Nat} (h : i < l.length) (k : Nat) : come l i k <+: memB l l.length := by
  refine List.IsPrefix.trans ?_ (memB_prefix l (show i + 1 ≤ l.length from h))
  conv => rhs; unfold memB
  unfold come
  rw [List.prefix_append_right_inj]
  exact List.IsPrefix.map _ (List.take_prefix _ _)
theorem come_lt (l : List Nat) {i k : Nat} (h : i < l.length) (hk : k < (bitsOf ((l[i]?).getD 0)).length) : (come l i k).length < (memB l l.length).length := by
  have h1 := (come_prefix l h (k + 1)).length_le
  rw [come_succ l hk] at h1
  simp at h1
  omega
set_option maxHeartbeats 1000000 in
theorem all1_in (n : Nat) (hn : 1 ≤ n) (lb Bs n₀ : Nat) (A : Option Addr) (cap : Nat) (l : List Nat) (S : Blocks) (hS : Sub S (Upto n₀)) (J Jx : List Nat → World → Prop)
    (hY : ∀ (pre : List Nat) (x : Nat) (W : World), J pre W → pre.length < (memB l l.length).length → YieldAt Fence.wide (n - 1) Tryd.prog lb #[.int .i64 (x : Int)] W fun e W' =>
      (e = .returned (.bool true) ∧ J (pre ++ [x]) W' ∧ Below n₀ W W') ∨ (e = .returned (.bool false) ∧ Jx (pre ++ [x]) W'))
    (W : World) (hBs : W.cell? ⟨Bs, 0, none⟩ = some (.slice A l.length cap)) (hT : Tab W) (hT0 : 0 < n₀) (re : RdU W S l (.slice A l.length cap)) (h0 : J [] W) :
    CallsIn Fence.wide n Tryd.prog 30 #[.func (.yield lb) #[] #[], .pointer (some ⟨Bs, 0, none⟩)] W fun e W' => (∃ v, e = .returned v) ∧
      ((∃ ys, ys = memB l l.length ∧ J ys W') ∨ (∃ pre, pre <+: memB l l.length ∧ Jx pre W')) := by
  have hby := re.form
  obtain ⟨_, _, _, hl, hcm, hb8⟩ := hby
  unfold maxLen at hcm
  have RE := Lib.hid re
  have HY := Lib.hid hY
  clear re hY
  refine callsIn_of_wp Tryd.func30 rfl trivial ?_ rfl
  simp only [Tryd.ntmps30, List.size_toArray, List.length_cons, List.length_nil, Nat.reduceAdd, Nat.reduceSub, Array.replicate_succ, Array.replicate_zero, List.push_toArray, List.append_toArray, List.nil_append, List.cons_append]
  gi_wp2
  gi_loopw [7] (fun t wr => ∃ i : Nat, i ≤ l.length ∧ t = .int .i64 i ∧ J (memB l i) wr ∧ Below n₀ W wr)
    (fun t _ => l.length - (intOf t).toNat)
  case atStart => exact ⟨0, by omega, rfl, h0, Below.refl _ _⟩
  case round =>
    obtain ⟨i, hi, rfl, hJs, hnx⟩ := hrel
    by_cases hlt : i < l.length
    · obtain ⟨b, off, rfl, hb, hok, hc0⟩ := RdU.at1 RE.out hlt
      have hc := (hnx.cell (p := ⟨b, off + i, none⟩) (hS _ hb)).trans hc0
      obtain ⟨x, hx⟩ : ∃ x : Nat, x = l[i] := ⟨_, rfl⟩
      have HX := Lib.hid (show (l[i]?).getD 0 = x by rw [List.getElem?_eq_getElem hlt, hx]; rfl)
      rw [← hx] at hc hok
      have HJ := Lib.hid hJs
      have HN := Lib.hid hnx
      clear hx hc0 hJs hnx hBs
      obtain ⟨wo, hwo⟩ : ∃ wo, wo = wr := ⟨_, rfl⟩
      subst hwo
      gi_wp2
      gi_loopw [4] (fun t wr => ∃ (k y : Nat), k ≤ (bitsOf x).length ∧ t = .int .u64 y ∧ y < 18446744073709551616 ∧ bitsOf y = (bitsOf x).drop k ∧ J (come l i k) wr ∧ Below n₀ W wr)
        (fun t _ => (bitsOf (intOf t).toNat).length)
      case atStart => exact ⟨0, x, by omega, rfl, hok, rfl, by rw [come_zero]; exact HJ.out, HN.out⟩
      case round =>
        obtain ⟨k, y, hk, rfl, hy64, hdr, hJ, hbl⟩ := hrel
        have HJ2 := Lib.hid hJ
        have HB2 := Lib.hid hbl
        have HD := Lib.hid hdr
        clear hJ hbl hdr
        by_cases hy0 : y = 0
        · subst hy0
          have hlen : (bitsOf x).length ≤ k := by
            have h := HD.out
            rw [bits_zero] at h
            exact List.drop_eq_nil_iff.1 h.symm
          have HJ3 := Lib.hid (show J (memB l (i + 1)) wr by rw [← come_all l i k (by rw [HX.out]; exact hlen)]; exact HJ2.out)
          clear hlen HD HJ2
          gi_wp2
          go_roundw
          case rel => exact ⟨i + 1, by omega, by go_num, HJ3.out, HB2.out⟩
          case measure => simp [intOf]; omega
        · have hst := bits_step hy0 hy64
          have hkl : k < (bitsOf x).length := by
            apply Nat.lt_of_not_le
            intro h
            have h2 := HD.out
            rw [List.drop_eq_nil_iff.2 h, hst.2] at h2
            exact absurd h2 (by simp)
          have hd := HD.out
          rw [List.drop_eq_getElem_cons hkl, hst.2] at hd
          injection hd with hd1 hd2
          have HD2 := Lib.hid hd2
          have hkl' : k < (bitsOf ((l[i]?).getD 0)).length := by rw [HX.out]; exact hkl
          have HC := Lib.hid (show come l i (k + 1) = come l i k ++ [64 * i + Lib.ctz 64 y] by
            rw [come_succ l hkl']
            congr 2
            rw [hd1]
            congr 1
            simp only [HX.out])
          obtain ⟨c, hc'⟩ : ∃ c, c = Lib.ctz 64 y := ⟨_, rfl⟩
          have hc64 : c < 64 := by rw [hc']; exact hst.1
          obtain ⟨fn, tmps, assign, body, hy, hR⟩ := HY.out (come l i k) (64 * i + c) wr HJ2.out (come_lt l hlt hkl')
          rw [← hc'] at HC
          have ex : ((64 * i + c : Nat) : Int) = 64 * (i : Int) + (c : Int) := by omega
          rw [ex] at hy
          have HTZ := Lib.hid (tz_n y hy64 wr (hT.below HB2.out hT0))
          rw [← hc'] at HTZ
          have hand1 := u64_and_nat y (y - 1) hy64 (by omega)
          have hyy : y &&& (y - 1) ≤ y := Nat.and_le_left
          have HL := Lib.hid (show (bitsOf (y &&& (y - 1))).length < (bitsOf y).length by rw [hst.2]; simp)
          have hy1 : ((y - 1 : Nat) : Int) = (y : Int) - 1 := by omega
          have hw : IntKind.u64.wrap ((y : Int) - 1) = (y : Int) - 1 := by rw [IntKind.wrap_u64]; omega
          rw [hy1, ← hw] at hand1
          obtain ⟨z, hz⟩ : ∃ z, z = y &&& (y - 1) := ⟨_, rfl⟩
          rw [← hz] at hand1 hyy HL HD2
          have hy0' : (((y : Nat) : Int) == 0) = false := by simp; omega
          clear hz hst hd1 hd2 hc' ex hy1 hw HD hy0 hkl'
          gi_wp2
          refine ⟨trivial, ?_⟩
          refine (callsIn_wide.2 HTZ.out).mono ?_
          rintro e w' ⟨rfl, rfl⟩
          gi_wp2
          refine hR.mono ?_
          rintro e W3 (⟨rfl, hJ3, hk3⟩ | ⟨rfl, hJx3⟩)
          · gi_wp2
            go_roundw
            case rel => exact ⟨k + 1, z, by omega, rfl, by omega, HD2.out, by rw [HC.out]; exact hJ3, HB2.out.trans hk3⟩
            case measure => simp [intOf]; exact HL.out
          · gi_wp2
            refine bodyPost_ret (results_none rfl _ _ _) rfl ?_
            exact ⟨⟨_, rfl⟩, .inr ⟨_, by rw [← HC.out]; exact come_prefix l hlt _, hJx3⟩⟩
    · have e : i = l.length := by omega
      subst e
      have HJ := Lib.hid hJs
      clear hJs
      gi_wp2
      go_end0
      exact ⟨⟨_, rfl⟩, .inl ⟨_, rfl, HJ.out⟩⟩
set_option maxHeartbeats 400000 in
theorem all_in (n : Nat) (A : Option Addr) (len cap : Nat) (w : World) :
    CallsIn Fence.wide n Tryd.prog 17 #[.slice A len cap] w fun e w' => e = .returned (.func (.func 30) #[] #[.pointer (some ⟨w.heap.size, 0, none⟩)]) ∧ w' = w.alloc (.cells #[.slice A len cap] 53) := by
  refine callsIn_of_wp Tryd.func17 rfl trivial ?_ rfl
  simp only [Tryd.ntmps17, List.size_toArray, List.length_cons, List.length_nil, Nat.reduceAdd, Nat.reduceSub, Array.replicate_succ, Array.replicate_zero, List.push_toArray, List.append_toArray, List.nil_append, List.cons_append]
  gi_wp2
  go_ret
  exact ⟨rfl, rfl⟩
theorem all_stops (n : Nat) (hn : 1 ≤ n) (Bs n₀ : Nat) (A : Option Addr) (cap : Nat) (l : List Nat) (S : Blocks) (hS : Sub S (Upto n₀)) (w : World) (hBs : Bs < w.heap.size) (hn₀ : n₀ ≤ w.heap.size) (hT : Tab w) (hT0 : 0 < n₀)
    (hc : w.cell? ⟨Bs, 0, none⟩ = some (.slice A l.length cap)) (re : RdU w S l (.slice A l.length cap)) :
    SeqStopsK Fence.wide n Tryd.prog 30 #[.pointer (some ⟨Bs, 0, none⟩)] (fun x : Nat => #[Value.int .i64 (x : Int)]) (Below n₀) (fun ys => ys = memB l l.length)
      (fun pre => pre <+: memB l l.length) (memB l l.length).length w := fun lb J Jx W hW _ _ hY h0 =>
  all1_in n hn lb Bs n₀ A cap l S hS J Jx hY W ((hW.cell (p := ⟨Bs, 0, none⟩) hBs).trans hc) (hT.go hW) hT0 (re.keep Flat.keeps (Sub.refl _) (same_of_below hW (hS.trans (Sub.upto hn₀)))) h0
end Go.Proofs.YtknaoianhjeccaaDoor
