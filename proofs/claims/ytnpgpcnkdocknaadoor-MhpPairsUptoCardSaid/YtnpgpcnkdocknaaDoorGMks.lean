/- Texts merged: Gs2, GsB, Mks. -/
import Derived.Test.YtnpgpcnkdocknaaDoorGTzLib
import Derived.RangeFuncNested
import Derived.RangeFuncBound
import Derived.RangeFuncCalls
import Derived.RangeFuncLeaves
import Derived.Shelf.Abstract
import Derived.OwnWalkIn
import Derived.TacticsInMore
import Derived.LoopNIn
import Derived.LoopIn
import Derived.Test.YtnpgpcnkdocknaaDoorGScW
import Derived.Test.YtnpgpcnkdocknaaDoorBase
import Derived.RangeFuncBox
namespace Go.Proofs.YtnpgpcnkdocknaaDoor
open Go.RowKit Go.Shelf
set_option linter.unusedVariables false
attribute [local go_sem] Oper.semAt_some
theorem plus_in {n m k : Nat} (h1 : n ≤ m) (h2 : m ≤ k) : Sub (Plus (Plus Nowhere n m) m k) (Plus Nowhere n k) := fun b h => by
  rcases h with (h | h) | h
  · exact .inl h
  · exact .inr ⟨h.1, Nat.lt_of_lt_of_le h.2 h2⟩
  · exact .inr ⟨Nat.le_trans h1 h.1, h.2⟩
theorem plus_upto {n m : Nat} : Sub (Plus Nowhere n m) (Upto m) := fun b h => h.elim (fun h => h.elim) (fun h => h.2)
theorem memB_le (l : List Nat) {i k : Nat} (h : i ≤ k) : (memB l i).length ≤ (memB l k).length := by
  induction k with
  | zero => rw [Nat.le_zero.1 h]; exact Nat.le_refl _
  | succ k ih =>
    rcases Nat.lt_or_ge i (k + 1) with h1 | h1
    · have := ih (by omega)
      conv => rhs; unfold memB
      simp; omega
    · rw [Nat.le_antisymm h h1]; exact Nat.le_refl _
theorem memB_prefix (l : List Nat) {i k : Nat} (h : i ≤ k) : memB l i <+: memB l k := by
  induction k with
  | zero => rw [Nat.le_zero.1 h]; exact List.prefix_rfl
  | succ k ih =>
    rcases Nat.lt_or_ge i (k + 1) with h1 | h1
    · conv => rhs; unfold memB
      exact List.IsPrefix.trans (ih (by omega)) (List.prefix_append _ _)
    · rw [Nat.le_antisymm h h1]; exact List.prefix_rfl
/-- what has come behind i words and k bits of the next -/
def come (l : List Nat) (i k : Nat) : List Nat := memB l i ++ ((bitsOf ((l[i]?).getD 0)).take k).map (64 * i + ·)
theorem come_zero (l : List Nat) (i : Nat) : come l i 0 = memB l i := by simp [come]
theorem come_all (l : List Nat) (i k : Nat) (h : (bitsOf ((l[i]?).getD 0)).length ≤ k) : come l i k = memB l (i + 1) := by
  unfold come
  rw [List.take_of_length_le h]; rfl
theorem come_succ (l : List Nat) {i k : Nat} (h : k < (bitsOf ((l[i]?).getD 0)).length) : come l i (k + 1) = come l i k ++ [64 * i + (bitsOf ((l[i]?).getD 0))[k]] := by
  unfold come
  rw [List.take_succ_eq_append_getElem h, List.map_append, List.append_assoc]; rfl
theorem come_prefix (l : List Nat) {i : Nat} (h : i < l.length) (k : Nat) : come l i k <+: memB l l.length := by
  refine List.IsPrefix.trans ?_ (memB_prefix l (show i + 1 ≤ l.length from h))
  conv => rhs; unfold memB
  unfold come
  rw [List.prefix_append_right_inj]
  exact List.IsPrefix.map _ (List.take_prefix _ _)
theorem come_lt (l : List Nat) {i k : Nat} (h : i < l.length) (hk : k < (bitsOf ((l[i]?).getD 0)).length) : (come l i k).length < (memB l l.length).length := by
  have h1 := (come_prefix l h (k + 1)).length_le
  rw [come_succ l hk] at h1
  simp at h1
  omega
set_option maxHeartbeats 1000000 in
theorem all1_in (n : Nat) (hn : 1 ≤ n) (lb Bs n₀ : Nat) (A : Option Addr) (cap : Nat) (l : List Nat) (S : Blocks) (hS : Sub S (Upto n₀)) (J Jx : List Nat → World → Prop)
    (hY : ∀ (pre : List Nat) (x : Nat) (W : World), J pre W → pre.length < (memB l l.length).length → YieldAt Fence.wide (n - 1) Tryd.prog lb #[.int .i64 (x : Int)] W fun e W' =>
      (e = .returned (.bool true) ∧ J (pre ++ [x]) W' ∧ Below n₀ W W') ∨ (e = .returned (.bool false) ∧ Jx (pre ++ [x]) W'))
    (W : World) (hBs : W.cell? ⟨Bs, 0, none⟩ = some (.slice A l.length cap)) (hT : Tab W) (hT0 : 0 < n₀) (re : RdU W S l (.slice A l.length cap)) (h0 : J [] W) :
    CallsIn Fence.wide n Tryd.prog 23 #[.func (.yield lb) #[] #[], .pointer (some ⟨Bs, 0, none⟩)] W fun e W' => (∃ v, e = .returned v) ∧
      ((∃ ys, ys = memB l l.length ∧ J ys W') ∨ (∃ pre, pre <+: memB l l.length ∧ Jx pre W')) := by
  have hby := re.form
  obtain ⟨_, _, _, hl, hcm, hb8⟩ := hby
  unfold maxLen at hcm
  have RE := Lib.hid re
  have HY := Lib.hid hY
  clear re hY
  refine callsIn_of_wp Tryd.func23 rfl trivial ?_ rfl
  simp only [Tryd.ntmps23, List.size_toArray, List.length_cons, List.length_nil, Nat.reduceAdd, Nat.reduceSub, Array.replicate_succ, Array.replicate_zero, List.push_toArray, List.append_toArray, List.nil_append, List.cons_append]
  gi_wp2
  gi_loopw [7] (fun t wr => ∃ i : Nat, i ≤ l.length ∧ t = .int .i64 i ∧ J (memB l i) wr ∧ Below n₀ W wr)
    (fun t _ => l.length - (intOf t).toNat)
  case atStart => exact ⟨0, by omega, rfl, h0, Below.refl _ _⟩
  case round =>
    obtain ⟨i, hi, rfl, hJs, hnx⟩ := hrel
    by_cases hlt : i < l.length
    · obtain ⟨b, off, rfl, hb, hok, hc0⟩ := RdU.at1 RE.out hlt
      have hc := (hnx.cell (p := ⟨b, off + i, none⟩) (hS _ hb)).trans hc0
      obtain ⟨x, hx⟩ : ∃ x : Nat, x = l[i] := ⟨_, rfl⟩
      have HX := Lib.hid (show (l[i]?).getD 0 = x by rw [List.getElem?_eq_getElem hlt, hx]; rfl)
      rw [← hx] at hc hok
      have HJ := Lib.hid hJs
      have HN := Lib.hid hnx
      clear hx hc0 hJs hnx hBs
      obtain ⟨wo, hwo⟩ : ∃ wo, wo = wr := ⟨_, rfl⟩
      subst hwo
      gi_wp2
      gi_loopw [4] (fun t wr => ∃ (k y : Nat), k ≤ (bitsOf x).length ∧ t = .int .u64 y ∧ y < 18446744073709551616 ∧ bitsOf y = (bitsOf x).drop k ∧ J (come l i k) wr ∧ Below n₀ W wr)
        (fun t _ => (bitsOf (intOf t).toNat).length)
      case atStart => exact ⟨0, x, by omega, rfl, hok, rfl, by rw [come_zero]; exact HJ.out, HN.out⟩
      case round =>
        obtain ⟨k, y, hk, rfl, hy64, hdr, hJ, hbl⟩ := hrel
        have HJ2 := Lib.hid hJ
        have HB2 := Lib.hid hbl
        have HD := Lib.hid hdr
        clear hJ hbl hdr
        by_cases hy0 : y = 0
        · subst hy0
          have hlen : (bitsOf x).length ≤ k := by
            have h := HD.out
            rw [bits_zero] at h
            exact List.drop_eq_nil_iff.1 h.symm
          have HJ3 := Lib.hid (show J (memB l (i + 1)) wr by rw [← come_all l i k (by rw [HX.out]; exact hlen)]; exact HJ2.out)
          clear hlen HD HJ2
          gi_wp2
          go_roundw
          case rel => exact ⟨i + 1, by omega, by go_num, HJ3.out, HB2.out⟩
          case measure => simp [intOf]; omega
        · have hst := bits_step hy0 hy64
          have hkl : k < (bitsOf x).length := by
            apply Nat.lt_of_not_le
            intro h
            have h2 := HD.out
            rw [List.drop_eq_nil_iff.2 h, hst.2] at h2
            exact absurd h2 (by simp)
          have hd := HD.out
          rw [List.drop_eq_getElem_cons hkl, hst.2] at hd
          injection hd with hd1 hd2
          have HD2 := Lib.hid hd2
          have hkl' : k < (bitsOf ((l[i]?).getD 0)).length := by rw [HX.out]; exact hkl
          have HC := Lib.hid (show come l i (k + 1) = come l i k ++ [64 * i + Lib.ctz 64 y] by
            rw [come_succ l hkl']
            congr 2
            rw [hd1]
            congr 1
            simp only [HX.out])
          obtain ⟨c, hc'⟩ : ∃ c, c = Lib.ctz 64 y := ⟨_, rfl⟩
          have hc64 : c < 64 := by rw [hc']; exact hst.1
          obtain ⟨fn, tmps, assign, body, hy, hR⟩ := HY.out (come l i k) (64 * i + c) wr HJ2.out (come_lt l hlt hkl')
          rw [← hc'] at HC
          have ex : ((64 * i + c : Nat) : Int) = 64 * (i : Int) + (c : Int) := by omega
          rw [ex] at hy
          have HTZ := Lib.hid (tz_n y hy64 wr (hT.below HB2.out hT0))
          rw [← hc'] at HTZ
          have hand1 := u64_and_nat y (y - 1) hy64 (by omega)
          have hyy : y &&& (y - 1) ≤ y := Nat.and_le_left
          have HL := Lib.hid (show (bitsOf (y &&& (y - 1))).length < (bitsOf y).length by rw [hst.2]; simp)
          have hy1 : ((y - 1 : Nat) : Int) = (y : Int) - 1 := by omega
          have hw : IntKind.u64.wrap ((y : Int) - 1) = (y : Int) - 1 := by rw [IntKind.wrap_u64]; omega
          rw [hy1, ← hw] at hand1
          obtain ⟨z, hz⟩ : ∃ z, z = y &&& (y - 1) := ⟨_, rfl⟩
          rw [← hz] at hand1 hyy HL HD2
          have hy0' : (((y : Nat) : Int) == 0) = false := by simp; omega
          clear hz hst hd1 hd2 hc' ex hy1 hw HD hy0 hkl'
          gi_wp2
          refine ⟨trivial, ?_⟩
          refine (callsIn_wide.2 HTZ.out).mono ?_
          rintro e w' ⟨rfl, rfl⟩
          gi_wp2
          refine hR.mono ?_
          rintro e W3 (⟨rfl, hJ3, hk3⟩ | ⟨rfl, hJx3⟩)
          · gi_wp2
            go_roundw
            case rel => exact ⟨k + 1, z, by omega, rfl, by omega, HD2.out, by rw [HC.out]; exact hJ3, HB2.out.trans hk3⟩
            case measure => simp [intOf]; exact HL.out
          · gi_wp2
            refine bodyPost_ret (results_none rfl _ _ _) rfl ?_
            exact ⟨⟨_, rfl⟩, .inr ⟨_, by rw [← HC.out]; exact come_prefix l hlt _, hJx3⟩⟩
    · have e : i = l.length := by omega
      subst e
      have HJ := Lib.hid hJs
      clear hJs
      gi_wp2
      go_end0
      exact ⟨⟨_, rfl⟩, .inl ⟨_, rfl, HJ.out⟩⟩
set_option maxHeartbeats 400000 in
theorem all_in (n : Nat) (A : Option Addr) (len cap : Nat) (w : World) :
    CallsIn Fence.wide n Tryd.prog 13 #[.slice A len cap] w fun e w' => e = .returned (.func (.func 23) #[] #[.pointer (some ⟨w.heap.size, 0, none⟩)]) ∧ w' = w.alloc (.cells #[.slice A len cap] 45) := by
  refine callsIn_of_wp Tryd.func13 rfl trivial ?_ rfl
  simp only [Tryd.ntmps13, List.size_toArray, List.length_cons, List.length_nil, Nat.reduceAdd, Nat.reduceSub, Array.replicate_succ, Array.replicate_zero, List.push_toArray, List.append_toArray, List.nil_append, List.cons_append]
  gi_wp2
  go_ret
  exact ⟨rfl, rfl⟩
theorem all_stops (n : Nat) (hn : 1 ≤ n) (Bs n₀ : Nat) (A : Option Addr) (cap : Nat) (l : List Nat) (S : Blocks) (hS : Sub S (Upto n₀)) (w : World) (hBs : Bs < w.heap.size) (hn₀ : n₀ ≤ w.heap.size) (hT : Tab w) (hT0 : 0 < n₀)
    (hc : w.cell? ⟨Bs, 0, none⟩ = some (.slice A l.length cap)) (re : RdU w S l (.slice A l.length cap)) :
    SeqStopsK Fence.wide n Tryd.prog 23 #[.pointer (some ⟨Bs, 0, none⟩)] (fun x : Nat => #[Value.int .i64 (x : Int)]) (Below n₀) (fun ys => ys = memB l l.length)
      (fun pre => pre <+: memB l l.length) (memB l l.length).length w := fun lb J Jx W hW _ _ hY h0 =>
  all1_in n hn lb Bs n₀ A cap l S hS J Jx hY W ((hW.cell (p := ⟨Bs, 0, none⟩) hBs).trans hc) (hT.go hW) hT0 (re.keep Flat.keeps (Sub.refl _) (same_of_below hW (hS.trans (Sub.upto hn₀)))) h0
theorem Tab.but {w w' : World} {T : Blocks} (h : Tab w) (hb : But T w w') (hT : ¬ T 0) : Tab w' :=
  ⟨fun j hj => hb.cell (p := ⟨0, j, none⟩) hT (h.1 j hj), Nat.lt_of_lt_of_le h.2 hb.size⟩
theorem butK_t {T : Blocks} {A B C : World} (h : But T A B) (k : But T B C) : But T A C := h.trans k
theorem butK_b {T : Blocks} {w : World} (hn : ∀ k, w.heap.size ≤ k → T k) (W : World) (l : Nat) (o o' : Obj) (hl : w.heap.size ≤ l) (h : W.heap[l]? = some o) (_ : o.isCells = false) (_ : o.isWalk = false) : But T W (W.putObj l o') :=
  (But.of_grown (grownBy_putObj' W l o')).sub (fun k e => by injection e with e; subst e; exact hn _ hl)
/-- block g, and all from n₀ on -/
def Ov (g n₀ : Nat) : Blocks := fun b => b = g ∨ n₀ ≤ b
set_option maxHeartbeats 1000000 in
theorem all1_memB (n : Nat) (hn : 1 ≤ n) (lb Bs : Nat) (T : Blocks) (A : Option Addr) (cap : Nat) (l : List Nat) (S : Blocks) (hS : ∀ b, S b → ¬ T b) (J Jx : List Nat → World → Prop)
    (hY : ∀ (pre : List Nat) (x : Nat) (W : World), J pre W → pre.length < (memB l l.length).length → x ∈ memB l l.length → YieldAt Fence.wide (n - 1) Tryd.prog lb #[.int .i64 (x : Int)] W fun e W' =>
      (e = .returned (.bool true) ∧ J (pre ++ [x]) W' ∧ But T W W') ∨ (e = .returned (.bool false) ∧ Jx (pre ++ [x]) W'))
    (W : World) (hBs : W.cell? ⟨Bs, 0, none⟩ = some (.slice A l.length cap)) (hT : Tab W) (hT0 : ¬ T 0) (re : RdU W S l (.slice A l.length cap)) (h0 : J [] W) :
    CallsIn Fence.wide n Tryd.prog 23 #[.func (.yield lb) #[] #[], .pointer (some ⟨Bs, 0, none⟩)] W fun e W' => (∃ v, e = .returned v) ∧
      ((∃ ys, ys = memB l l.length ∧ J ys W') ∨ (∃ pre, pre <+: memB l l.length ∧ Jx pre W')) := by
  have hby := re.form
  obtain ⟨_, _, _, hl, hcm, hb8⟩ := hby
  unfold maxLen at hcm
  have RE := Lib.hid re
  have HY := Lib.hid hY
  clear re hY
  refine callsIn_of_wp Tryd.func23 rfl trivial ?_ rfl
  simp only [Tryd.ntmps23, List.size_toArray, List.length_cons, List.length_nil, Nat.reduceAdd, Nat.reduceSub, Array.replicate_succ, Array.replicate_zero, List.push_toArray, List.append_toArray, List.nil_append, List.cons_append]
  gi_wp2
  gi_loopw [7] (fun t wr => ∃ i : Nat, i ≤ l.length ∧ t = .int .i64 i ∧ J (memB l i) wr ∧ But T W wr)
    (fun t _ => l.length - (intOf t).toNat)
  case atStart => exact ⟨0, by omega, rfl, h0, But.refl _ _⟩
  case round =>
    obtain ⟨i, hi, rfl, hJs, hnx⟩ := hrel
    by_cases hlt : i < l.length
    · obtain ⟨b, off, rfl, hb, hok, hc0⟩ := RdU.at1 RE.out hlt
      have hc := hnx.cell (p := ⟨b, off + i, none⟩) (hS _ hb) hc0
      obtain ⟨x, hx⟩ : ∃ x : Nat, x = l[i] := ⟨_, rfl⟩
      have HX := Lib.hid (show (l[i]?).getD 0 = x by rw [List.getElem?_eq_getElem hlt, hx]; rfl)
      rw [← hx] at hc hok
      have HJ := Lib.hid hJs
      have HN := Lib.hid hnx
      clear hx hc0 hJs hnx hBs
      obtain ⟨wo, hwo⟩ : ∃ wo, wo = wr := ⟨_, rfl⟩
      subst hwo
      gi_wp2
      gi_loopw [4] (fun t wr => ∃ (k y : Nat), k ≤ (bitsOf x).length ∧ t = .int .u64 y ∧ y < 18446744073709551616 ∧ bitsOf y = (bitsOf x).drop k ∧ J (come l i k) wr ∧ But T W wr)
        (fun t _ => (bitsOf (intOf t).toNat).length)
      case atStart => exact ⟨0, x, by omega, rfl, hok, rfl, by rw [come_zero]; exact HJ.out, HN.out⟩
      case round =>
        obtain ⟨k, y, hk, rfl, hy64, hdr, hJ, hbl⟩ := hrel
        have HJ2 := Lib.hid hJ
        have HB2 := Lib.hid hbl
        have HD := Lib.hid hdr
        clear hJ hbl hdr
        by_cases hy0 : y = 0
        · subst hy0
          have hlen : (bitsOf x).length ≤ k := by
            have h := HD.out
            rw [bits_zero] at h
            exact List.drop_eq_nil_iff.1 h.symm
          have HJ3 := Lib.hid (show J (memB l (i + 1)) wr by rw [← come_all l i k (by rw [HX.out]; exact hlen)]; exact HJ2.out)
          clear hlen HD HJ2
          gi_wp2
          go_roundw
          case rel => exact ⟨i + 1, by omega, by go_num, HJ3.out, HB2.out⟩
          case measure => simp [intOf]; omega
        · have hst := bits_step hy0 hy64
          have hkl : k < (bitsOf x).length := by
            apply Nat.lt_of_not_le
            intro h
            have h2 := HD.out
            rw [List.drop_eq_nil_iff.2 h, hst.2] at h2
            exact absurd h2 (by simp)
          have hd := HD.out
          rw [List.drop_eq_getElem_cons hkl, hst.2] at hd
          injection hd with hd1 hd2
          have HD2 := Lib.hid hd2
          have hkl' : k < (bitsOf ((l[i]?).getD 0)).length := by rw [HX.out]; exact hkl
          have HC := Lib.hid (show come l i (k + 1) = come l i k ++ [64 * i + Lib.ctz 64 y] by
            rw [come_succ l hkl']
            congr 2
            rw [hd1]
            congr 1
            simp only [HX.out])
          obtain ⟨c, hc'⟩ : ∃ c, c = Lib.ctz 64 y := ⟨_, rfl⟩
          have hc64 : c < 64 := by rw [hc']; exact hst.1
          obtain ⟨fn, tmps, assign, body, hy, hR⟩ := HY.out (come l i k) (64 * i + c) wr HJ2.out (come_lt l hlt hkl') ((come_prefix l hlt (k + 1)).subset (by rw [HC.out, hc']; simp))
          rw [← hc'] at HC
          have ex : ((64 * i + c : Nat) : Int) = 64 * (i : Int) + (c : Int) := by omega
          rw [ex] at hy
          have HTZ := Lib.hid (tz_n y hy64 wr (hT.but HB2.out hT0))
          rw [← hc'] at HTZ
          have hand1 := u64_and_nat y (y - 1) hy64 (by omega)
          have hyy : y &&& (y - 1) ≤ y := Nat.and_le_left
          have HL := Lib.hid (show (bitsOf (y &&& (y - 1))).length < (bitsOf y).length by rw [hst.2]; simp)
          have hy1 : ((y - 1 : Nat) : Int) = (y : Int) - 1 := by omega
          have hw : IntKind.u64.wrap ((y : Int) - 1) = (y : Int) - 1 := by rw [IntKind.wrap_u64]; omega
          rw [hy1, ← hw] at hand1
          obtain ⟨z, hz⟩ : ∃ z, z = y &&& (y - 1) := ⟨_, rfl⟩
          rw [← hz] at hand1 hyy HL HD2
          have hy0' : (((y : Nat) : Int) == 0) = false := by simp; omega
          clear hz hst hd1 hd2 hc' ex hy1 hw HD hy0 hkl'
          gi_wp2
          refine ⟨trivial, ?_⟩
          refine (callsIn_wide.2 HTZ.out).mono ?_
          rintro e w' ⟨rfl, rfl⟩
          gi_wp2
          refine hR.mono ?_
          rintro e W3 (⟨rfl, hJ3, hk3⟩ | ⟨rfl, hJx3⟩)
          · gi_wp2
            go_roundw
            case rel => exact ⟨k + 1, z, by omega, rfl, by omega, HD2.out, by rw [HC.out]; exact hJ3, HB2.out.trans hk3⟩
            case measure => simp [intOf]; exact HL.out
          · gi_wp2
            refine bodyPost_ret (results_none rfl _ _ _) rfl ?_
            exact ⟨⟨_, rfl⟩, .inr ⟨_, by rw [← HC.out]; exact come_prefix l hlt _, hJx3⟩⟩
    · have e : i = l.length := by omega
      subst e
      have HJ := Lib.hid hJs
      clear hJs
      gi_wp2
      go_end0
      exact ⟨⟨_, rfl⟩, .inl ⟨_, rfl, HJ.out⟩⟩
/-- the set's numbers, each with its proof -/
theorem all_stopsB (n : Nat) (hn : 1 ≤ n) (Bs : Nat) (T : Blocks) (A : Option Addr) (cap : Nat) (l : List Nat) (S : Blocks) (w : World) (hS : Sub S (Upto w.heap.size)) (hST : ∀ b, S b → ¬ T b) (hBs : Bs < w.heap.size) (hT : Tab w) (hT0 : ¬ T 0)
    (hc : w.cell? ⟨Bs, 0, none⟩ = some (.slice A l.length cap)) (re : RdU w S l (.slice A l.length cap)) :
    SeqStopsK Fence.wide n Tryd.prog 23 #[.pointer (some ⟨Bs, 0, none⟩)] (fun x : { x : Nat // x ∈ memB l l.length } => #[Value.int .i64 (x.1 : Int)]) (But T) (fun ys => ys.map Subtype.val = memB l l.length)
      (fun pre => pre.map Subtype.val <+: memB l l.length) (memB l l.length).length w := fun lb J Jx W hW _ _ hY h0 =>
  (all1_memB n hn lb Bs T A cap l S hST (fun p W => ∃ q : List { x : Nat // x ∈ memB l l.length }, q.map Subtype.val = p ∧ J q W) (fun p W => ∃ q : List { x : Nat // x ∈ memB l l.length }, q.map Subtype.val = p ∧ Jx q W)
    (fun pre x W1 hJ hlt hx => by
      obtain ⟨q, rfl, hq⟩ := hJ
      obtain ⟨fn, tmps, assign, body, hy, hR⟩ := hY q ⟨x, hx⟩ W1 hq (by simpa using hlt)
      refine ⟨fn, tmps, assign, body, hy, hR.mono ?_⟩
      rintro e W' (⟨he, hj, hk⟩ | ⟨he, hj⟩)
      · exact .inl ⟨he, ⟨_, by simp, hj⟩, hk⟩
      · exact .inr ⟨he, ⟨_, by simp, hj⟩⟩)
    W ((hW.cell (p := ⟨Bs, 0, none⟩) hBs).trans hc) (hT.go hW) hT0 (re.keep Flat.keeps (Sub.refl _) (same_of_below hW hS)) ⟨[], rfl, h0⟩).mono (by
      rintro e W' ⟨he, h | h⟩
      · obtain ⟨ys, h1, q, h2, h3⟩ := h
        exact ⟨he, .inl ⟨q, h2.trans h1, h3⟩⟩
      · obtain ⟨pre, h1, q, h2, h3⟩ := h
        exact ⟨he, .inr ⟨q, (show q.map Subtype.val <+: memB l l.length by rw [h2]; exact h1), h3⟩⟩)
end Go.Proofs.YtnpgpcnkdocknaaDoor
namespace Go.Proofs.YtnpgpcnkdocknaaDoor
open Go.RowKit
set_option linter.unusedVariables false
def markD (r : Nat) : Deferred := { target := .collected r, args := #[] }
/-- the marks left so far, each in its block from base on -/
def Marks (base : Nat) (w : World) (ds : List Deferred) : Prop := ∃ rs : List Nat, ds = rs.map markD ∧ rs.Nodup ∧ ∀ r ∈ rs, base ≤ r ∧ w.heap[r]? = some (.deferred (some []))
theorem Marks.nil (base : Nat) (w : World) : Marks base w [] := ⟨[], rfl, List.nodup_nil, fun r h => by cases h⟩
theorem Marks.keeps {base : Nat} {w w' : World} {ds : List Deferred} (h : Marks base w ds) (hk : KeepsOthers w w') : Marks base w' ds := by
  obtain ⟨rs, e, hn, h⟩ := h
  exact ⟨rs, e, hn, fun r hr => ⟨(h r hr).1, hk.same r _ (h r hr).2 rfl⟩⟩
theorem Marks.below {base : Nat} {w w' : World} {ds : List Deferred} (h : Marks base w ds) (hb : Below w.heap.size w w') : Marks base w' ds := by
  obtain ⟨rs, e, hn, h⟩ := h
  exact ⟨rs, e, hn, fun r hr => ⟨(h r hr).1, (hb.block r (Array.getElem?_eq_some_iff.1 (h r hr).2).1).trans (h r hr).2⟩⟩
/-- said of a world in which a range begins, they lie below what the range turns -/
theorem Marks.from {β : Type} (base : Nat) (w : World) (ds : List Deferred) : OwnFrom w.heap.size (fun (_ : β) W => ∃ rs : List Nat, ds = rs.map markD ∧ rs.Nodup ∧ ∀ r ∈ rs, base ≤ r ∧ r < w.heap.size ∧ W.heap[r]? = some (.deferred (some []))) := by
  rintro s W W' row ⟨rs, e, hn, h⟩ hg hr
  exact ⟨rs, e, hn, fun r hm => ⟨(h r hm).1, (h r hm).2.1, (hg.block r (Array.getElem?_eq_some_iff.1 (h r hm).2.2).1 (fun e => by
    have := (hr r e.symm).1
    have := (h r hm).2.1
    omega)).trans (h r hm).2.2⟩⟩
/-- as a range holds them: below the block where it begins -/
def MarksB (base top : Nat) (W : World) (ds : List Deferred) : Prop := ∃ rs : List Nat, ds = rs.map markD ∧ rs.Nodup ∧ ∀ r ∈ rs, base ≤ r ∧ r < top ∧ W.heap[r]? = some (.deferred (some []))
theorem Marks.held {base : Nat} {w : World} {ds : List Deferred} (h : Marks base w ds) {top : Nat} (ht : w.heap.size ≤ top) : MarksB base top w ds := by
  obtain ⟨rs, e, hn, h⟩ := h
  exact ⟨rs, e, hn, fun r hr => ⟨(h r hr).1, Nat.lt_of_lt_of_le (Array.getElem?_eq_some_iff.1 (h r hr).2).1 ht, (h r hr).2⟩⟩
theorem MarksB.from {β : Type} (base top : Nat) (ds : List Deferred) : OwnFrom top (fun (_ : β) W => MarksB base top W ds) := by
  rintro s W W' row ⟨rs, e, hn, h⟩ hg hr
  exact ⟨rs, e, hn, fun r hm => ⟨(h r hm).1, (h r hm).2.1, (hg.block r (Array.getElem?_eq_some_iff.1 (h r hm).2.2).1 (fun e => by
    have := (hr r e.symm).1
    have := (h r hm).2.1
    omega)).trans (h r hm).2.2⟩⟩
theorem MarksB.keeps {base top : Nat} {w w' : World} {ds : List Deferred} (h : MarksB base top w ds) (hk : KeepsOthers w w') : MarksB base top w' ds := by
  obtain ⟨rs, e, hn, h⟩ := h
  exact ⟨rs, e, hn, fun r hr => ⟨(h r hr).1, (h r hr).2.1, hk.same r _ (h r hr).2.2 rfl⟩⟩
/-- the range is over: one mark more -/
theorem MarksB.more {base top D : Nat} {W : World} {ds : List Deferred} (h : MarksB base top W ds) (hb : base ≤ top) (hD : top ≤ D) (hK : W.heap[D]? = some (.deferred (some []))) : Marks base W ({ target := .collected D, args := #[] } :: ds) := by
  obtain ⟨rs, rfl, hn, h⟩ := h
  refine ⟨D :: rs, rfl, List.nodup_cons.2 ⟨fun hm => by have := (h D hm).2.1; omega, hn⟩, fun r hr => ?_⟩
  rcases List.mem_cons.1 hr with rfl | hr
  · exact ⟨by omega, hK⟩
  · exact ⟨(h r hr).1, (h r hr).2.2⟩
/-- the function ends: the marks are taken -/
theorem leaves_marks {F : Fence} {n : Nat} {P : Program} {fn : Func} {tmps : Array Value} {R : Ending → World → Prop} {base : Nat} {J : World → Prop} (hJ : OwnFrom base (fun (_ : Unit) W => J W))
    (hend : ∀ W, J W → ∃ v, (results fn tmps).run P W = .ok v W ∧ R (.returned v) W) :
    ∀ (rs : List Nat) (w : World), rs.Nodup → (∀ r ∈ rs, base ≤ r ∧ w.heap[r]? = some (.deferred (some []))) → J w → LeavesInM F n P fn tmps R (rs.map markD) .returning w
  | [], w, _, _, h => hend w h
  | r :: rs, w, hn, hm, h => by
    have hn' := List.nodup_cons.1 hn
    obtain ⟨h1, h2⟩ := hm r (by simp)
    refine ⟨by simp, .inl ⟨r, _, rfl, run_takeDeferred h2, ?_⟩⟩
    refine leaves_marks hJ hend rs _ hn'.2 (fun k hk => ?_) (hJ.putObj (s := ()) _ h h1 h2 rfl)
    obtain ⟨h3, h4⟩ := hm k (by simp [hk])
    exact ⟨h3, (World.putObj_heap_other (fun e => hn'.1 (by rw [← e]; exact hk))).trans h4⟩
theorem leaves_all {F : Fence} {n : Nat} {P : Program} {fn : Func} {tmps : Array Value} {R : Ending → World → Prop} {base : Nat} {J : World → Prop} {ds : List Deferred} {w : World} (hm : Marks base w ds) (hJ : OwnFrom base (fun (_ : Unit) W => J W))
    (h : J w) (hend : ∀ W, J W → ∃ v, (results fn tmps).run P W = .ok v W ∧ R (.returned v) W) : LeavesInM F n P fn tmps R ds .returning w := by
  obtain ⟨rs, rfl, hn, hm⟩ := hm
  exact leaves_marks hJ hend rs w hn hm h
end Go.Proofs.YtnpgpcnkdocknaaDoor
