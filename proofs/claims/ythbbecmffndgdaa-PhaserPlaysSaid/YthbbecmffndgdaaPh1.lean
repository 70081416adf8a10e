/- Walks of package phaser's small functions. -/
import Derived.Test.YthbbecmffndgdaaPhSpec
import Derived.Test.YthbbecmffndgdaaEqB
import Derived.Test.YthbbecmffndgdaaBlk
import Derived.Deep.MidRow
namespace Go.Proofs.Ythbbecmffndgdaa
open Go.RowKit
set_option linter.unusedVariables false
/-- vs with us from place o on -/
def setL (vs : List Value) (o : Nat) : List Value → List Value
  | [] => vs
  | u :: r => setL (vs.set o u) (o + 1) r
theorem Blk.setCells {base : Nat} {b : Nat} : ∀ (us : List Value) (o : Nat) (w : World) (vs : List Value), Blk base w b vs → o + us.length ≤ vs.length → Blk base (w.setCells b o us) b (setL vs o us)
  | [], o, w, vs, r, _ => r
  | u :: us, o, w, vs, r, h => by
    simp only [List.length_cons] at h
    show Blk base ((w.setCell ⟨b, o, none⟩ u).setCells b (o + 1) us) b (setL (vs.set o u) (o + 1) us)
    exact Blk.setCells us (o + 1) _ _ (r.set (by omega) u) (by rw [List.length_set]; omega)
theorem setL_mid (us : List Value) : ∀ (A B C : List Value), B.length = us.length → setL (A ++ (B ++ C)) A.length us = A ++ (us ++ C) := by
  induction us with
  | nil => intro A B C h; rw [List.length_eq_zero_iff.1 h]; rfl
  | cons u us ih =>
    intro A B C h
    cases B with
    | nil => simp at h
    | cons x B =>
      unfold setL
      have e : (A ++ (x :: B ++ C)).set A.length u = (A ++ [u]) ++ (B ++ C) := by
        rw [List.set_append_right _ _ (Nat.le_refl _)]; simp
      rw [e]
      have := ih (A ++ [u]) B C (by simpa using h)
      simp at this
      simpa using this
theorem But.setCells {T : Blocks} {a : World} {b : Nat} (hT : T b) : ∀ (us : List Value) (o : Nat) (w : World), But T a w → But T a (w.setCells b o us)
  | [], o, w, h => h
  | u :: us, o, w, h => But.setCells hT us (o + 1) _ (h.setCell (p := ⟨b, o, none⟩) hT u)
def phCells (s : PhS) : List Value := s.I.map Value.bool ++ (s.H.map Value.bool ++ [.int .i64 (s.ph : Int)])
structure PhOk (s : PhS) : Prop where
  i : s.I.length = 16
  h : s.H.length = 16
theorem phLen {s : PhS} (h : PhOk s) : (phCells s).length = 33 := by unfold phCells; simp [h.i, h.h]
theorem sizeB (w : World) : (sizeOf 4).run Try.prog w = .ok 1 w := by kernel_rfl
theorem partB (cs : Array Value) (i : Nat) (v : Value) (w : World) (h : cs[i]? = some v) : (part 4 cs i).run Try.prog w = .ok v w := by
  unfold part
  rw [Sem.run_bind, show (isAgg 4).run Try.prog w = .ok false w by kernel_rfl]
  simp [h]
theorem eqB16 (xs ys : List Bool) (hx : xs.length = 16) (hy : ys.length = 16) (w : World) : (Op.equalIn 10000 63 (.agg (xs.map Value.bool).toArray) (.agg (ys.map Value.bool).toArray)).run Try.prog w = .ok (xs == ys) w :=
  run_eq_bools w 9998 16 63 4 Try.underlying63 Try.underlying4 sizeB partB xs ys hx hy
theorem Blk.range {base : Nat} {w : World} {b : Nat} {A B C : List Value} (r : Blk base w b (A ++ (B ++ C))) (o : Nat) (h : A.length = o) : w.rangeAt b o B := fun j v hv => by
  have hj := (List.getElem?_eq_some_iff.1 hv).1
  refine r.cell (o + j) v ?_
  rw [List.getElem?_append_right (by omega), h, Nat.add_sub_cancel_left, List.getElem?_append_left hj, hv]
theorem Blk.there {base : Nat} {w : World} {b : Nat} {vs : List Value} (r : Blk base w b vs) (o n : Nat) (h : o + n ≤ vs.length) : w.there b o n := fun j hj => by
  refine ⟨?_, r.fr _⟩
  rw [r.cell (o + j) _ (List.getElem?_eq_getElem (by omega))]; rfl
theorem info16 : (Try.prog.info? 63).map (·.size) = some 16 := by kernel_rfl
theorem infoPh : (Try.prog.info? 65).map (·.size) = some 33 := by kernel_rfl
/-- the same load, behind a guard that lets it through -/
theorem wpList_load_mid_g {P : Program} {ops : Array Oper} {rest : List Oper} {op : Oper} {a : Act} {w : World} {Q : Exit → Act → World → Prop} (hw : Region.wanted op (yielded ops a.tmps) = true) (ty : TypeId) (x : Operand) (ho : op.op = .load ty x)
    (b o : Nat) (hx : a.eval x = .pointer (some ⟨b, o, none⟩)) (cs : List Value) (d : TypeDesc) (hc : w.rangeAt b o cs)
    (hu : P.underlying ty = some d) (hd : d.isRow = true) (hi : (P.info? ty).map (·.size) = some cs.length)
    (h : wpList P ops Q rest (a.put op.dst (.agg cs.toArray)) w) : wpList P ops Q (op :: rest) a w :=
  wpList_step fun K hK => by rw [if_pos hw]; exact wp_load_mid ty x ho b o hx cs d hc hu hd hi (hK _ _ h)
set_option maxHeartbeats 1000000 in
set_option maxRecDepth 100000 in
theorem full_any (s : PhS) (ok : PhOk s) (w : World) : Calls Try.prog 70 #[.agg (phCells s).toArray] w fun e w' => e = .returned (.bool (fullP s)) ∧ Below w.heap.size w w' := by
  have heq := fun w => eqB16 s.I s.H ok.i ok.h w
  have heq2 : ∀ w, (Op.equalIn 10000 63 (.agg (s.I.map Value.bool).toArray) (.agg #[.bool false, .bool false, .bool false, .bool false, .bool false, .bool false, .bool false, .bool false, .bool false, .bool false, .bool false, .bool false, .bool false, .bool false, .bool false, .bool false])).run Try.prog w = .ok (s.I == noB) w := fun w => eqB16 s.I noB ok.i (by decide) w
  have HOK := Lib.hid ok
  clear ok
  go_enter Try.func70, Try.ntmps70
  have K1 := Lib.hid (Blk.made w (phCells s) 65 (base := 0) (Nat.zero_le _))
  have B1 : Below w.heap.size w (w.alloc (.cells (phCells s).toArray 65)) := (Below.refl _ _).alloc (Nat.le_refl _) _
  have r1 := Lib.hid (Blk.range (A := []) (B := s.I.map Value.bool) (C := s.H.map Value.bool ++ [.int .i64 (s.ph : Int)]) K1.out 0 rfl)
  have r2 := Lib.hid (Blk.range (A := s.I.map Value.bool) (B := s.H.map Value.bool) (C := [.int .i64 (s.ph : Int)]) K1.out 16 (by rw [List.length_map]; exact HOK.out.i))
  have HI := Lib.hid (show (Try.prog.info? 63).map (·.size) = some (s.I.map Value.bool).length by rw [List.length_map, HOK.out.i]; exact info16)
  have HH := Lib.hid (show (Try.prog.info? 63).map (·.size) = some (s.H.map Value.bool).length by rw [List.length_map, HOK.out.h]; exact info16)
  cases h1 : (s.I == s.H)
  · have HZ := Lib.hid (show fullP s = false by unfold fullP; rw [h1]; rfl)
    go_wp2_with (first | ((with_reducible show wpList _ _ _ (⟨some 4, _, _, _, _, _⟩ :: _) _ _); refine wpList_load_mid (op := ⟨some 4, _, _, _, _, _⟩) rfl 63 _ rfl w.heap.size 0 rfl _ _ r1.out Try.underlying63 rfl HI.out ?_) | ((with_reducible show wpList _ _ _ (⟨some 6, _, _, _, _, _⟩ :: _) _ _); refine wpList_load_mid (op := ⟨some 6, _, _, _, _, _⟩) rfl 63 _ rfl w.heap.size 16 rfl _ _ r2.out Try.underlying63 rfl HH.out ?_))
    go_ret
    exact ⟨by rw [HZ.out]; rfl, B1⟩
  · have HZ := Lib.hid (show fullP s = !(s.I == noB) by unfold fullP; rw [h1]; rfl)
    go_wp2_with (first | ((with_reducible show wpList _ _ _ (⟨some 4, _, _, _, _, _⟩ :: _) _ _); refine wpList_load_mid (op := ⟨some 4, _, _, _, _, _⟩) rfl 63 _ rfl w.heap.size 0 rfl _ _ r1.out Try.underlying63 rfl HI.out ?_) | ((with_reducible show wpList _ _ _ (⟨some 6, _, _, _, _, _⟩ :: _) _ _); refine wpList_load_mid (op := ⟨some 6, _, _, _, _, _⟩) rfl 63 _ rfl w.heap.size 16 rfl _ _ r2.out Try.underlying63 rfl HH.out ?_) | ((with_reducible show wpList _ _ _ (⟨some 10, _, _, _, _, _⟩ :: _) _ _); refine wpList_load_mid_g (op := ⟨some 10, _, _, _, _, _⟩) (by rfl) 63 _ rfl w.heap.size 0 rfl _ _ r1.out Try.underlying63 rfl HI.out ?_))
    go_ret
    exact ⟨by rw [HZ.out]; rfl, B1⟩
set_option maxHeartbeats 400000 in
theorem phknown_any (n : Int) (w : World) : Calls Try.prog 59 #[.int .i64 n] w fun e w' => e = .returned (.bool (in16 n)) ∧ w = w' := by
  by_cases h0 : 0 ≤ n
  · by_cases h1 : n < 16
    · have HK := Lib.hid (show in16 n = true by simp [in16, h0, h1])
      go_enter Try.func59, Try.ntmps59
      go_wp2
      go_ret
      exact ⟨by rw [HK.out]; rfl, rfl⟩
    · have HK := Lib.hid (show in16 n = false by simp [in16, h0]; omega)
      go_enter Try.func59, Try.ntmps59
      go_wp2
      go_ret
      exact ⟨by rw [HK.out]; rfl, rfl⟩
  · have HK := Lib.hid (show in16 n = false by simp [in16, h0])
    go_enter Try.func59, Try.ntmps59
    go_wp2
    go_ret
    exact ⟨by rw [HK.out]; rfl, rfl⟩
theorem phI_at {base : Nat} {w : World} {b : Nat} {s : PhS} (ok : PhOk s) (r : Blk base w b (phCells s)) (k : Nat) (hk : k < 16) : w.cell? ⟨b, k, none⟩ = some (.bool (atB s.I k)) := by
  refine r.cell k _ ?_
  unfold phCells
  rw [List.getElem?_append_left (by rw [List.length_map, ok.i]; exact hk), List.getElem?_map, atB_nat, List.getElem?_eq_getElem (by rw [ok.i]; exact hk)]; rfl
theorem phH_at {base : Nat} {w : World} {b : Nat} {s : PhS} (ok : PhOk s) (r : Blk base w b (phCells s)) (k : Nat) (hk : k < 16) : w.cell? ⟨b, 16 + k, none⟩ = some (.bool (atB s.H k)) := by
  refine r.cell (16 + k) _ ?_
  unfold phCells
  rw [List.getElem?_append_right (by rw [List.length_map, ok.i]; omega), List.length_map, ok.i, Nat.add_sub_cancel_left, List.getElem?_append_left (by rw [List.length_map, ok.h]; exact hk), List.getElem?_map, atB_nat, List.getElem?_eq_getElem (by rw [ok.h]; exact hk)]; rfl
theorem phP_at {base : Nat} {w : World} {b : Nat} {s : PhS} (ok : PhOk s) (r : Blk base w b (phCells s)) : w.cell? ⟨b, 32, none⟩ = some (.int .i64 (s.ph : Int)) := by
  refine r.cell 32 _ ?_
  unfold phCells
  rw [List.getElem?_append_right (by rw [List.length_map, ok.i]; omega), List.length_map, ok.i, List.getElem?_append_right (by rw [List.length_map, ok.h]; omega), List.length_map, ok.h]; rfl
theorem phSetP {s : PhS} (ok : PhOk s) (x : Nat) : (phCells s).set 32 (.int .i64 (x : Int)) = phCells ⟨s.I, s.H, x⟩ := by
  unfold phCells
  have h1 : (s.I.map Value.bool).length = 16 := by rw [List.length_map, ok.i]
  have h2 : (s.H.map Value.bool).length = 16 := by rw [List.length_map, ok.h]
  rw [List.set_append_right _ _ (by omega), List.set_append_right _ _ (by omega), h1, h2]; rfl
theorem phSetI {s : PhS} (ok : PhOk s) (k : Nat) (hk : k < 16) (x : Bool) : (phCells s).set k (.bool x) = phCells ⟨s.I.set k x, s.H, s.ph⟩ := by
  unfold phCells
  rw [List.set_append_left _ _ (by rw [List.length_map, ok.i]; exact hk), List.map_set]
theorem phSetH {s : PhS} (ok : PhOk s) (k : Nat) (hk : k < 16) (x : Bool) : (phCells s).set (16 + k) (.bool x) = phCells ⟨s.I, s.H.set k x, s.ph⟩ := by
  unfold phCells
  have h1 : (s.I.map Value.bool).length = 16 := by rw [List.length_map, ok.i]
  rw [List.set_append_right _ _ (by omega), h1, Nat.add_sub_cancel_left, List.set_append_left _ _ (by rw [List.length_map, ok.h]; exact hk), List.map_set]
theorem in16_nat {n : Int} (h : in16 n = true) : ∃ k : Nat, n = (k : Int) ∧ k < 16 := by
  unfold in16 at h
  simp only [Bool.and_eq_true, decide_eq_true_eq] at h
  obtain ⟨k, rfl⟩ := Int.eq_ofNat_of_zero_le h.1
  exact ⟨k, rfl, by omega⟩
set_option maxHeartbeats 1000000 in
set_option maxRecDepth 100000 in
theorem free_any (s : PhS) (ok : PhOk s) (n : Int) (b : Nat) (w : World) (r : Blk 0 w b (phCells s)) : Calls Try.prog 58 #[.pointer (some ⟨b, 0, none⟩), .int .i64 n] w fun e w' => e = .returned (.int .i64 (freeP s n)) ∧ w = w' := by
  have HR := Lib.hid r
  cases hn : in16 n
  · have HZ := Lib.hid (show freeP s n = 7 by unfold freeP; rw [hn]; rfl)
    clear r
    go_enter Try.func58, Try.ntmps58
    go_wp2_with (go_at_call 59; refine (phknown_any n _).mono ?_; rintro e w' ⟨rfl, rfl⟩; rw [hn])
    go_ret
    exact ⟨by rw [HZ.out]; rfl, rfl⟩
  · obtain ⟨k, rfl, hk⟩ := in16_nat hn
    have c0 := phI_at ok r k hk
    have c1 := phH_at ok r k hk
    have k0 : (0 : Int) ≤ (k : Int) := by omega
    have k1 : (k : Int) < 16 := by omega
    have HF := Lib.hid (show freeP s k = if atB s.I k then (if atB s.H k then 8 else 0) else 7 by unfold freeP; rw [hn, Bool.true_and])
    clear r ok
    generalize atB s.I k = x at *
    generalize atB s.H k = y at *
    cases x
    · have HZ := Lib.hid (show freeP s k = 7 by rw [HF.out]; rfl)
      go_enter Try.func58, Try.ntmps58
      go_wp2_with (go_at_call 59; refine (phknown_any k _).mono ?_; rintro e w' ⟨rfl, rfl⟩; rw [hn])
      go_ret
      exact ⟨by rw [HZ.out]; rfl, rfl⟩
    · cases y
      · have HZ := Lib.hid (show freeP s k = 0 by rw [HF.out]; rfl)
        go_enter Try.func58, Try.ntmps58
        go_wp2_with (go_at_call 59; refine (phknown_any k _).mono ?_; rintro e w' ⟨rfl, rfl⟩; rw [hn])
        go_ret
        exact ⟨by rw [HZ.out]; rfl, rfl⟩
      · have HZ := Lib.hid (show freeP s k = 8 by rw [HF.out]; rfl)
        go_enter Try.func58, Try.ntmps58
        go_wp2_with (go_at_call 59; refine (phknown_any k _).mono ?_; rintro e w' ⟨rfl, rfl⟩; rw [hn])
        go_ret
        exact ⟨by rw [HZ.out]; rfl, rfl⟩
theorem turnP_t {s : PhS} (h : fullP s = true) : turnP s = ⟨s.I, noB, s.ph + 1⟩ := by unfold turnP; rw [if_pos h]
theorem turnP_f {s : PhS} (h : fullP s = false) : turnP s = s := by unfold turnP; rw [if_neg (by rw [h]; simp)]
theorem turnP_ok {s : PhS} (ok : PhOk s) : PhOk (turnP s) := by
  unfold turnP
  split
  · exact ⟨ok.i, show noB.length = 16 by decide⟩
  · exact ok
set_option maxHeartbeats 1000000 in
set_option maxRecDepth 100000 in
theorem turn_any (s : PhS) (ok : PhOk s) (hph : s.ph < 9223372036854775807) (b : Nat) (w : World) (r : Blk 0 w b (phCells s)) : Calls Try.prog 60 #[.pointer (some ⟨b, 0, none⟩)] w fun e w' => e = .returned (.tuple #[]) ∧ Blk 0 w' b (phCells (turnP s)) ∧ But (Is b) w w' := by
  have HR := Lib.hid r
  have HOK := Lib.hid ok
  have r0 := Lib.hid (Blk.range (A := []) (B := phCells s) (C := []) (by simpa using r) 0 rfl)
  have HI := Lib.hid (show (Try.prog.info? 65).map (·.size) = some (phCells s).length by rw [phLen ok]; exact infoPh)
  clear r ok
  cases hf : fullP s
  · go_enter Try.func60, Try.ntmps60
    go_wp2_with (first | ((with_reducible show wpList _ _ _ (⟨some 4, _, _, _, _, _⟩ :: _) _ _); refine wpList_load_mid (op := ⟨some 4, _, _, _, _, _⟩) rfl 65 _ rfl b 0 rfl _ _ r0.out Try.underlying65 rfl HI.out ?_) | (go_at_call 70; refine (full_any s HOK.out _).mono ?_; rintro e w1 ⟨rfl, hb1⟩; rw [hf]))
    go_end0
    exact ⟨rfl, by rw [turnP_f hf]; exact HR.out.below hb1, But.of_below hb1⟩
  · have HT := Lib.hid (turnP_t hf)
    go_enter Try.func60, Try.ntmps60
    go_upto_region 1 with (first | ((with_reducible show wpList _ _ _ (⟨some 4, _, _, _, _, _⟩ :: _) _ _); refine wpList_load_mid (op := ⟨some 4, _, _, _, _, _⟩) rfl 65 _ rfl b 0 rfl _ _ r0.out Try.underlying65 rfl HI.out ?_) | (go_at_call 70; refine (full_any s HOK.out _).mono ?_; rintro e w1 ⟨rfl, hb1⟩; rw [hf]))
    have K1 := Lib.hid (HR.out.below hb1)
    have HB1 := Lib.hid (But.of_below (T := Is b) hb1)
    have ht : w1.there b 16 16 := Blk.there K1.out 16 16 (by rw [phLen HOK.out]; omega)
    have HTH := Lib.hid ht
    clear ht hb1
    have e2 : setL (phCells s) 16 (noB.map Value.bool) = phCells ⟨s.I, noB, s.ph⟩ := by
      unfold phCells
      have h := setL_mid (noB.map Value.bool) (s.I.map Value.bool) (s.H.map Value.bool) [.int .i64 (s.ph : Int)] (by rw [List.length_map, List.length_map, HOK.out.h]; rfl)
      rw [List.length_map, HOK.out.i] at h
      exact h
    have k2 := Blk.setCells (noB.map Value.bool) 16 w1 (phCells s) K1.out (by rw [phLen HOK.out]; decide)
    rw [e2] at k2
    have K2 := Lib.hid k2
    have HB2 := Lib.hid (But.setCells (T := Is b) (a := w) (b := b) rfl (noB.map Value.bool) 16 w1 HB1.out)
    clear e2 k2
    obtain ⟨zs, hzs⟩ : ∃ zs : List Value, zs = noB.map Value.bool := ⟨_, rfl⟩
    have HZS := Lib.hid hzs
    rw [← hzs] at K2 HB2
    have HONE := Lib.hid (show zs.toArray.all (·.oneCell') = true from all_oneCell_toArray (fun v hv => by rw [hzs] at hv; obtain ⟨x, _, rfl⟩ := List.mem_map.1 hv; simp [Value.oneCell']))
    clear hzs
    have ok2 : PhOk ⟨s.I, noB, s.ph⟩ := ⟨HOK.out.i, show noB.length = 16 by decide⟩
    have c32 := phP_at ok2 K2.out
    have f32 := K2.out.fr 32
    have k3 := K2.out.set (i := 32) (by rw [phLen ok2]; omega) (.int .i64 ((s.ph + 1 : Nat) : Int))
    rw [phSetP ok2] at k3
    have K3 := Lib.hid k3
    have HB3 := Lib.hid (HB2.out.setCell (p := ⟨b, 32, none⟩) rfl (.int .i64 ((s.ph + 1 : Nat) : Int)))
    clear ok2 k3
    go_wp2_with ((with_reducible show wpList _ _ _ (⟨none, .store 63 _ _, _, _, _, _⟩ :: _) _ _); refine wpList_store_mid (op := ⟨none, _, _, _, _, _⟩) rfl 63 _ _ rfl b 16 zs.toArray rfl (by rw [HZS.out]; rfl) (by rw [HZS.out]; exact HTH.out) (by rw [HZS.out]; exact info16) HONE.out ?_)
    go_end0
    refine ⟨rfl, ?_, ?_⟩
    · rw [HT.out]; exact K3.out
    · exact HB3.out
end Go.Proofs.Ythbbecmffndgdaa
