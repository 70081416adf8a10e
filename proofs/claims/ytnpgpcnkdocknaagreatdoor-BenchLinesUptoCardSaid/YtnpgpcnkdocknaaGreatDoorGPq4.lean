/- Texts merged: Pq3, StX, RegPre, Pq4. -/
import Derived.Test.YtnpgpcnkdocknaaGreatDoorGPq2
import Derived.Test.YtnpgpcnkdocknaaGreatDoorGBlk
import Derived.Deep.RegionHeld
import Derived.Tactics
import Derived.Test.YtnpgpcnkdocknaaGreatDoorRows
import Derived.BigQuiet
import Derived.BigRegion
namespace Go.Proofs.YtnpgpcnkdocknaaGreatDoor
open Go.RowKit
set_option linter.unusedVariables false
theorem signK_in (s : Str) : inI (signK s) := by unfold signK inI; split; · decide
                                                 split; · decide
                                                 split; · decide
                                                 split; · decide
                                                 split; · decide
                                                 split <;> decide
set_option maxHeartbeats 1000000 in
set_option maxRecDepth 100000 in
theorem ptwo_any (s : Str) (a b : Ex) (w : World) (S : Blocks) (Va Vb : Value) (hS : Sub S (Upto w.heap.size)) (ha : RdE w S a Va) (hb : RdE w S b Vb) :
    Calls Tryz.prog 73 #[.string s, Va, Vb] w fun e w' => ∃ U, e = .returned U ∧ RdE w' (Plus S w.heap.size w'.heap.size) (twoX s a b) U ∧ Below w.heap.size w w' := by
 have HA := hid ha
 have HB := hid hb
 obtain ⟨A1, c1, rfl⟩ := ha.form
 obtain ⟨A2, c2, rfl⟩ := hb.form
 have HK := hid (psign_any s)
 have HKI := hid (signK_in s)
 have HX := hid (show twoX s a b = mkE (signK s) a b from rfl)
 generalize twoX s a b = X at *
 generalize signK s = k at *
 clear ha hb
 go_enter Tryz.func73, Tryz.ntmps73
 go_upto_region 1 with (fail)
 have HBEL := hid (show Below w.heap.size w ((((w.alloc (.cells #[.int .i64 a.kind, .int .i64 a.num, .string a.name, .slice A1 a.args.length c1] 80)).alloc (.cells #[.int .i64 b.kind, .int .i64 b.num, .string b.name, .slice A2 b.args.length c2] 80)).alloc (.cells #[.int .i64 k, .int .i64 0, .string noS, .slice (some ⟨w.heap.size + 1 + 1 + 1, 0, none⟩) 2 2] 80)).alloc (.cells #[.int .i64 a.kind, .int .i64 a.num, .string a.name, .slice A1 a.args.length c1, .int .i64 b.kind, .int .i64 b.num, .string b.name, .slice A2 b.args.length c2] 80)).drew from (((((Below.refl _ _).alloc (Nat.le_refl _) _).alloc (by simp) _).alloc (by simp; omega) _).alloc (by simp; omega) _).drew)
 have HFIN := hid (show RdE ((((w.alloc (.cells #[.int .i64 a.kind, .int .i64 a.num, .string a.name, .slice A1 a.args.length c1] 80)).alloc (.cells #[.int .i64 b.kind, .int .i64 b.num, .string b.name, .slice A2 b.args.length c2] 80)).alloc (.cells #[.int .i64 k, .int .i64 0, .string noS, .slice (some ⟨w.heap.size + 1 + 1 + 1, 0, none⟩) 2 2] 80)).alloc (.cells #[.int .i64 a.kind, .int .i64 a.num, .string a.name, .slice A1 a.args.length c1, .int .i64 b.kind, .int .i64 b.num, .string b.name, .slice A2 b.args.length c2] 80)).drew (Plus S w.heap.size (((((w.alloc (.cells #[.int .i64 a.kind, .int .i64 a.num, .string a.name, .slice A1 a.args.length c1] 80)).alloc (.cells #[.int .i64 b.kind, .int .i64 b.num, .string b.name, .slice A2 b.args.length c2] 80)).alloc (.cells #[.int .i64 k, .int .i64 0, .string noS, .slice (some ⟨w.heap.size + 1 + 1 + 1, 0, none⟩) 2 2] 80)).alloc (.cells #[.int .i64 a.kind, .int .i64 a.num, .string a.name, .slice A1 a.args.length c1, .int .i64 b.kind, .int .i64 b.num, .string b.name, .slice A2 b.args.length c2] 80)).drew).heap.size) X (.agg #[.int .i64 k, .int .i64 0, .string noS, .slice (some ⟨w.heap.size + 1 + 1 + 1, 0, none⟩) 2 2]) by
  have hblk := Blk.made (((w.alloc (.cells #[.int .i64 a.kind, .int .i64 a.num, .string a.name, .slice A1 a.args.length c1] 80)).alloc (.cells #[.int .i64 b.kind, .int .i64 b.num, .string b.name, .slice A2 b.args.length c2] 80)).alloc (.cells #[.int .i64 k, .int .i64 0, .string noS, .slice (some ⟨w.heap.size + 1 + 1 + 1, 0, none⟩) 2 2] 80)) [.int .i64 a.kind, .int .i64 a.num, .string a.name, .slice A1 a.args.length c1, .int .i64 b.kind, .int .i64 b.num, .string b.name, .slice A2 b.args.length c2] 80 (base := 0) (Nat.zero_le _)
  simp only [World.size_alloc] at hblk
  rw [HX.out]
  exact RdE.two HKI.out (HA.out.keep (Sub.plus _ _ _) (same_of_below HBEL.out hS)) (HB.out.keep (Sub.plus _ _ _) (same_of_below HBEL.out hS)) (.inr ⟨by omega, by simp [World.drew]⟩) hblk.cell)
 clear HX HKI hS
 go_region_with (go_at_call 95; refine (HK.out _).mono ?_; rintro e wa ⟨rfl, rfl⟩)
 all_goals
  go_wp2_with fail
  exact bodyPost_ret (v := .agg #[.int .i64 k, .int .i64 0, .string noS, .slice (some ⟨w.heap.size + 1 + 1 + 1, 0, none⟩) 2 2]) (by simp [results, Tryz.results73, go_sem]) rfl ⟨_, rfl, HFIN.out, HBEL.out⟩
def set4 (w : World) (R : Nat) (u0 u1 u2 u3 : Value) : World := (((w.setCell ⟨R, 0, none⟩ u0).setCell ⟨R, 1, none⟩ u1).setCell ⟨R, 2, none⟩ u2).setCell ⟨R, 3, none⟩ u3
theorem set4_size (w : World) (R : Nat) (u0 u1 u2 u3 : Value) : (set4 w R u0 u1 u2 u3).heap.size = w.heap.size := by unfold set4; rw [size_setCell, size_setCell, size_setCell, size_setCell]
theorem set4_below {B : Nat} {a w : World} {R : Nat} {u0 u1 u2 u3 : Value} (h : Below B a w) (hR : B ≤ R) : Below B a (set4 w R u0 u1 u2 u3) :=
 (((h.setCell (p := ⟨R, 0, none⟩) hR u0).setCell (p := ⟨R, 1, none⟩) hR u1).setCell (p := ⟨R, 2, none⟩) hR u2).setCell (p := ⟨R, 3, none⟩) hR u3
theorem set4_same {S : Blocks} {w : World} {R : Nat} {u0 u1 u2 u3 : Value} (h : ¬ S R) : Same S w (set4 w R u0 u1 u2 u3) :=
 (((same_setCell (p := ⟨R, 0, none⟩) h u0).setCell (p := ⟨R, 1, none⟩) h u1).setCell (p := ⟨R, 2, none⟩) h u2).setCell (p := ⟨R, 3, none⟩) h u3
abbrev StayX (R : Nat) (W w' : World) : Prop :=
 (∀ p : Addr, p.block < W.heap.size → p.block ≠ R → w'.cell? p = W.cell? p) ∧ (∀ p : Addr, p.block < W.heap.size → w'.frozen? p = W.frozen? p) ∧ But (Is R) W w'
theorem StayX.of_stay {R : Nat} {W w' : World} (h : Stay W w') : StayX R W w' := ⟨fun p hp _ => h.1 p hp, fun p hp => h.2.1 p hp, But.of_below h.below⟩
theorem StayX.set {R o : Nat} {W w' : World} (h : StayX R W w') (u : Value) : StayX R W (w'.setCell ⟨R, o, none⟩ u) :=
 ⟨fun p hp hn => (World.cell?_setCell_other w' ⟨R, o, none⟩ p u (fun e => hn (by rw [← e]))).trans (h.1 p hp hn), fun p hp => by rw [World.frozen?_setCell]; exact h.2.1 p hp, h.2.2.setCell (p := ⟨R, o, none⟩) rfl u⟩
theorem StayX.drew {R : Nat} {W w' : World} (h : StayX R W w') : StayX R W w'.drew := ⟨h.1, h.2.1, h.2.2.drew⟩
theorem StayX.alloc {R : Nat} {W w' : World} (h : StayX R W w') (o : Obj) : StayX R W (w'.alloc o) := by
 refine ⟨fun p hp hn => ?_, fun p hp => ?_, h.2.2.alloc o⟩
 ·rw [World.cell?_alloc_lt w' o p (Nat.lt_of_lt_of_le hp h.2.2.size)]; exact h.1 p hp hn
 ·have hb := (Below.refl w'.heap.size w').alloc (Nat.le_refl _) o
  rw [hb.frozen (Nat.lt_of_lt_of_le hp h.2.2.size)]; exact h.2.1 p hp
theorem set4_cells {w : World} {R : Nat} {v0 v1 v2 v3 : Value} (u0 u1 u2 u3 : Value) (h0 : w.cell? ⟨R, 0, none⟩ = some v0) (h1 : w.cell? ⟨R, 1, none⟩ = some v1) (h2 : w.cell? ⟨R, 2, none⟩ = some v2) (h3 : w.cell? ⟨R, 3, none⟩ = some v3) :
    (set4 w R u0 u1 u2 u3).cell? ⟨R, 0, none⟩ = some u0 ∧ (set4 w R u0 u1 u2 u3).cell? ⟨R, 1, none⟩ = some u1 ∧ (set4 w R u0 u1 u2 u3).cell? ⟨R, 2, none⟩ = some u2 ∧ (set4 w R u0 u1 u2 u3).cell? ⟨R, 3, none⟩ = some u3 := by
 unfold set4
 refine ⟨?_, ?_, ?_, ?_⟩
 ·rw [World.cell?_setCell_other _ _ _ _ (by simp), World.cell?_setCell_other _ _ _ _ (by simp), World.cell?_setCell_other _ _ _ _ (by simp)]
  exact World.cell?_setCell_same' _ _ _ (by rw [h0]; rfl)
 ·rw [World.cell?_setCell_other _ _ _ _ (by simp), World.cell?_setCell_other _ _ _ _ (by simp)]
  exact World.cell?_setCell_same' _ _ _ (by rw [World.cell?_setCell_other _ _ _ _ (by simp), h1]; rfl)
 ·rw [World.cell?_setCell_other _ _ _ _ (by simp)]
  exact World.cell?_setCell_same' _ _ _ (by rw [World.cell?_setCell_other _ _ _ _ (by simp), World.cell?_setCell_other _ _ _ _ (by simp), h2]; rfl)
 ·exact World.cell?_setCell_same' _ _ _ (by rw [World.cell?_setCell_other _ _ _ _ (by simp), World.cell?_setCell_other _ _ _ _ (by simp), World.cell?_setCell_other _ _ _ _ (by simp), h3]; rfl)
theorem set4_blk {base R : Nat} {w : World} {v0 v1 v2 v3 : Value} (h : Blk base w R [v0, v1, v2, v3]) (u0 u1 u2 u3 : Value) : Blk base (set4 w R u0 u1 u2 u3) R [u0, u1, u2, u3] := by
 have h0 := h.set (i := 0) (by simp) u0
 have h1 := h0.set (i := 1) (by simp) u1
 have h2 := h1.set (i := 2) (by simp) u2
 exact h2.set (i := 3) (by simp) u3
theorem set4_but {T : Blocks} {a w : World} {R : Nat} (h : But T a w) (hR : T R ∨ a.heap.size ≤ R) (u0 u1 u2 u3 : Value) : But T a (set4 w R u0 u1 u2 u3) :=
 (((h.setNew (p := ⟨R, 0, none⟩) hR u0).setNew (p := ⟨R, 1, none⟩) hR u1).setNew (p := ⟨R, 2, none⟩) hR u2).setNew (p := ⟨R, 3, none⟩) hR u3
end Go.Proofs.YtnpgpcnkdocknaaGreatDoor
namespace Go.Proofs.YtnpgpcnkdocknaaGreatDoor
open Go
set_option linter.unusedVariables false
def depsAt (ops : Array Oper) (i : Nat) : List Nat := match ops[i]? with
 | some o => (o.after.toList.filter (Region.binds .any)).map (·.on)
 | none => []
def reach (ops : Array Oper) : Nat → List Nat → List Nat
 | 0, s => s
 | f + 1, s => s ++ reach ops f (s.flatMap (depsAt ops)).eraseDups
def guardOk (ops : Array Oper) (i : Nat) : Bool := match ops[i]? with
 | some o => match o.guard with
  | none => true
  | some (g, _) => decide (g < i)
 | none => true
def preOk (ops : Array Oper) (n : Nat) : Bool :=
 decide (n ≤ ops.size) && ((List.range ops.size).all fun i => (depsAt ops i).all (fun e => decide (e < i)) && guardOk ops i) &&
  (List.range ops.size).all fun k => decide (k < n) || (List.range k).all fun j => (reach ops ops.size (depsAt ops k)).contains j
structure PreOk (ops : Array Oper) (n : Nat) : Prop where
 le : n ≤ ops.size
 back : ∀ i < ops.size, ∀ e ∈ depsAt ops i, e < i
 gd : ∀ i < ops.size, guardOk ops i = true
 post : ∀ k, n ≤ k → k < ops.size → ∀ j < k, j ∈ reach ops ops.size (depsAt ops k)
theorem preOk_spec {ops : Array Oper} {n : Nat} (h : preOk ops n = true) : PreOk ops n := by
 simp only [preOk, Bool.and_eq_true, decide_eq_true_eq, List.all_eq_true, List.mem_range, Bool.or_eq_true, List.contains_iff_mem] at h
 exact ⟨h.1.1, fun i hi e he => (h.1.2 i hi).1 e he, fun i hi => (h.1.2 i hi).2, fun k hk hs j hj => (h.2 k hs).elim (fun h => absurd h (by omega)) (fun h => h j hj)⟩
def ClosedL (ops : Array Oper) (l : Array Bool) : Prop := ∀ i, l.getD i false = true → ∀ e ∈ depsAt ops i, l.getD e false = true
theorem reach_listed {ops : Array Oper} {l : Array Bool} (hc : ClosedL ops l) : ∀ (f : Nat) (s : List Nat), (∀ x ∈ s, l.getD x false = true) → ∀ x ∈ reach ops f s, l.getD x false = true
 | 0, s, h, x, hx => h x hx
 | f + 1, s, h, x, hx => by
  rw [reach, List.mem_append] at hx
  rcases hx with hx | hx
  ·exact h x hx
  ·refine reach_listed hc f _ (fun y hy => ?_) x hx
   rw [List.mem_eraseDups, List.mem_flatMap] at hy
   obtain ⟨z, hz, hy⟩ := hy
   exact hc z (h z hz) y hy
theorem mem_ready_deps {ops : Array Oper} {l : Array Bool} {i : Nat} (hl : l.size = ops.size) : i ∈ Region.ready .any ops l ↔ i < ops.size ∧ l.getD i false = false ∧ ∀ e ∈ depsAt ops i, l.getD e false = true := by
 unfold Region.ready
 rw [List.mem_filter, List.mem_range]
 refine and_congr_right fun hi => ?_
 have ho : ops[i]? = some ops[i] := Array.getElem?_eq_getElem hi
 have hg : l.getD i true = l.getD i false := by simp [Array.getD, hl, hi]
 rw [hg]
 simp only [ho, Option.map_some, Option.getD_some, Bool.and_eq_true, Bool.not_eq_true', Array.all_eq_true', Bool.or_eq_true]
 refine and_congr_right fun _ => ⟨fun h e he => ?_, fun h e he => ?_⟩
 ·unfold depsAt at he
  simp only [ho, List.mem_map, List.mem_filter, Array.mem_toList_iff] at he
  obtain ⟨x, ⟨h1, h2⟩, rfl⟩ := he
  rcases h x h1 with h3 | h3
  ·rw [h2] at h3; cases h3
  ·exact h3
 ·by_cases hb : Region.binds .any e = true
  ·refine .inr (h _ ?_)
   unfold depsAt
   simp only [ho, List.mem_map, List.mem_filter, Array.mem_toList_iff]
   exact ⟨e, ⟨he, hb⟩, rfl⟩
  ·exact .inl (by simpa using hb)
theorem getD_set {l : Array Bool} {i j : Nat} (hi : i < l.size) : (l.setIfInBounds i true).getD j false = if i = j then true else l.getD j false := by
 simp only [Array.getD_eq_getD_getElem?, Array.getElem?_setIfInBounds]
 split
 ·subst_vars; simp
 ·rfl
theorem ClosedL.set {ops : Array Oper} {l : Array Bool} {i : Nat} (hc : ClosedL ops l) (hl : l.size = ops.size) (hr : i ∈ Region.ready .any ops l) : ClosedL ops (l.setIfInBounds i true) := by
 obtain ⟨h1, h2, h3⟩ := (mem_ready_deps hl).1 hr
 intro j hj e he
 rw [getD_set (by omega)] at hj ⊢
 split at hj
 ·subst_vars
  split
  ·rfl
  ·exact h3 e he
 ·split
  ·rfl
  ·exact hc j hj e he
def QPre (P : Program) (ops : Array Oper) (n : Nat) (Q : Exit → Act → World → Prop) : Exit → Act → World → Prop
 | .normal, a, w => wpList P ops Q (ops.toList.drop n) a w
 | e, a, w => Q e a w
theorem LetsOut.ofPre {P : Program} {ops : Array Oper} {n : Nat} {Q : Exit → Act → World → Prop} (h : LetsOut (QPre P ops n Q)) : LetsOut Q := h
theorem Oper.wp_ofPre {P : Program} {ops : Array Oper} {n : Nat} {Q : Exit → Act → World → Prop} {o : Oper} {a : Act} {w : World} {K : Act → World → Prop} (hh : Oper.wp P o a w K (QPre P ops n Q)) : Oper.wp P o a w K Q := by
 unfold Oper.wp at *
 generalize (execOp a.eval o).run P w = r at *
 cases r with
 | ok n w' =>
  cases n <;> simp only [Oper.upon] at hh ⊢ <;>
   first
    | exact hh
    | exact Calls.mono hh (fun e w'' he => by cases e <;> exact he)
 | halt x w' => cases x <;> simp only [Oper.upon] at hh ⊢ <;> exact hh
theorem take_get {ops : Array Oper} {n i : Nat} (hi : i < n) : (ops.toList.take n).toArray[i]? = ops[i]? := by
 simp [hi]
theorem wpOp_ofPre {P : Program} {ops : Array Oper} {n i : Nat} {Q : Exit → Act → World → Prop} {a : Act} {w : World} {K : Act → World → Prop} (hg : guardOk ops i = true) (hi : i < n) (hs : i < ops.size) (hh : wpOp P (ops.toList.take n).toArray (QPre P ops n Q) i K a w) : wpOp P ops Q i K a w := by
 unfold wpOp at *
 rw [take_get hi] at hh
 have ho : ops[i]? = some ops[i] := Array.getElem?_eq_getElem hs
 simp only [ho] at hh ⊢
 have hw : Region.wanted ops[i] (yielded (ops.toList.take n).toArray a.tmps) = Region.wanted ops[i] (yielded ops a.tmps) := by
  unfold guardOk at hg
  simp only [ho] at hg
  unfold Region.wanted
  cases hgd : (ops[i]).guard with
  | none => rfl
  | some g =>
   obtain ⟨g, b⟩ := g
   rw [hgd] at hg
   simp only [decide_eq_true_eq] at hg
   simp only [yielded, take_get (show g < n by omega)]
 rw [hw] at hh
 split
 ·rename_i h; rw [if_pos h] at hh; exact hh.imp Oper.wp_ofPre (fun h => ⟨h.1, LetsOut.ofPre h.2⟩)
 ·rename_i h; rw [if_neg h] at hh; exact hh
theorem deps_take {ops : Array Oper} {n i : Nat} (hi : i < n) : depsAt (ops.toList.take n).toArray i = depsAt ops i := by
 unfold depsAt; rw [take_get hi]
theorem post_go {P : Program} {ops : Array Oper} {n : Nat} {Q : Exit → Act → World → Prop} (ok : PreOk ops n) : ∀ (m k : Nat), k + m = ops.size → n ≤ k → ∀ (fuel : Nat) (l : Array Bool) (a : Act) (w : World), l.size = ops.size → (∀ j, j < ops.size → (l.getD j false = true ↔ j < k)) → m ≤ fuel →
    wpList P ops Q (ops.toList.drop k) a w → wpAny P .any ops Q fuel l a w := by
 intro m
 induction m with
 | zero =>
  intro k hk hn fuel l a w hl hlk hm h
  have hd : ops.toList.drop k = [] := List.drop_eq_nil_of_le (by simp; omega)
  rw [hd] at h
  have hr : Region.ready .any ops l = [] := List.eq_nil_iff_forall_not_mem.2 fun i hi => by
   obtain ⟨h1, h2, _⟩ := (mem_ready_deps hl).1 hi
   have := (hlk i h1).2 (by omega)
   rw [h2] at this; cases this
  cases fuel with
  | zero => exact ⟨hr, h⟩
  | succ fuel => exact ⟨fun _ => h, fun i hi => by rw [hr] at hi; cases hi⟩
 | succ m ih =>
  intro k hk hn fuel l a w hl hlk hm h
  obtain ⟨fuel, rfl⟩ : ∃ f, fuel = f + 1 := ⟨fuel - 1, by omega⟩
  have hks : k < ops.size := by omega
  have hdr : ops.toList.drop k = ops[k] :: ops.toList.drop (k + 1) := by
   rw [List.drop_eq_getElem_cons (by simpa using hks)]; simp
  rw [hdr] at h
  have hkr : k ∈ Region.ready .any ops l := (mem_ready_deps hl).2 ⟨hks, Bool.eq_false_iff.2 (fun e => absurd ((hlk k hks).1 e) (by omega)), fun e he => (hlk e (by have := ok.back k hks e he; omega)).2 (ok.back k hks e he)⟩
  refine ⟨fun hr => absurd (hr ▸ hkr) List.not_mem_nil, fun i hi => ?_⟩
  obtain ⟨h1, h2, h3⟩ := (mem_ready_deps hl).1 hi
  have hcl : ClosedL ops l := fun j hj e he => by
   have hjs : j < ops.size := by
    rcases Nat.lt_or_ge j ops.size with h | h
    ·exact h
    ·rw [Array.getD_eq_getD_getElem?, Array.getElem?_eq_none (by omega)] at hj; cases hj
   have hb := ok.back j hjs e he
   exact (hlk e (by omega)).2 (by have := (hlk j hjs).1 hj; omega)
  have hik : i = k := by
   have hge : k ≤ i := by
    rcases Nat.lt_or_ge i k with h | h
    ·have := (hlk i h1).2 h; rw [h2] at this; cases this
    ·exact h
   rcases Nat.eq_or_lt_of_le hge with h | h
   ·exact h.symm
   ·have := reach_listed hcl _ _ h3 k (ok.post i (by omega) h1 k h)
    exact absurd ((hlk k hks).1 this) (by omega)
  subst hik
  have ho : ops[i]? = some ops[i] := Array.getElem?_eq_getElem hks
  have hK : ∀ a w, wpList P ops Q (ops.toList.drop (i + 1)) a w → wpAny P .any ops Q fuel (l.setIfInBounds i true) a w := fun a w h => ih (i + 1) (by omega) (by omega) fuel _ a w (by simpa using hl) (fun j hj => by
   rw [getD_set (by omega)]
   split
   ·subst_vars; simp
   ·rw [hlk j hj]; omega) (by omega) h
  refine wpOp_mono hK ?_
  unfold wpOp
  simp only [ho]
  unfold wpList at h
  exact h
theorem pre_go {P : Program} {ops : Array Oper} {n : Nat} {Q : Exit → Act → World → Prop} (ok : PreOk ops n) : ∀ (fuel : Nat) (lp l : Array Bool) (a : Act) (w : World), lp.size = n → l.size = ops.size → (∀ j, j < n → l.getD j false = lp.getD j false) → (∀ j, n ≤ j → j < ops.size → l.getD j false = false) → ClosedL ops l →
    wpAny P .any (ops.toList.take n).toArray (QPre P ops n Q) fuel lp a w → wpAny P .any ops Q (fuel + (ops.size - n)) l a w := by
 have hsz : (ops.toList.take n).toArray.size = n := by have := ok.le; simp; omega
 have hall : ∀ (lp l : Array Bool), lp.size = n → (∀ j, j < n → l.getD j false = lp.getD j false) → Region.ready .any (ops.toList.take n).toArray lp = [] → ∀ j, j < n → l.getD j false = true := by
  intro lp l hlp hj hr j
  induction j using Nat.strongRecOn with
  | ind j ih =>
   intro hjn
   cases e : l.getD j false
   ·exfalso
    have : j ∈ Region.ready .any (ops.toList.take n).toArray lp := (mem_ready_deps (by omega)).2 ⟨by omega, by rw [← hj j hjn]; exact e, fun d hd => by
     rw [deps_take hjn] at hd
     have hb := ok.back j (by have := ok.le; omega) d hd
     rw [← hj d (by omega)]
     exact ih d hb (by omega)⟩
    rw [hr] at this; cases this
   ·rfl
 have hfin : ∀ (fuel : Nat) (lp l : Array Bool) (a : Act) (w : World), lp.size = n → l.size = ops.size → (∀ j, j < n → l.getD j false = lp.getD j false) → (∀ j, n ≤ j → j < ops.size → l.getD j false = false) → Region.ready .any (ops.toList.take n).toArray lp = [] → wpList P ops Q (ops.toList.drop n) a w → wpAny P .any ops Q (fuel + (ops.size - n)) l a w := by
  intro fuel lp l a w hlp hl h1 h2 hr h
  refine post_go ok (ops.size - n) n (by have := ok.le; omega) (Nat.le_refl _) _ l a w hl (fun j hj => ?_) (by omega) h
  rcases Nat.lt_or_ge j n with hjn | hjn
  ·rw [hall lp l hlp h1 hr j hjn]; simp [hjn]
  ·rw [h2 j hjn hj]; simp; omega
 intro fuel
 induction fuel with
 | zero =>
  intro lp l a w hlp hl h1 h2 hc h
  exact hfin 0 lp l a w hlp hl h1 h2 h.1 h.2
 | succ fuel ih =>
  intro lp l a w hlp hl h1 h2 hc h
  by_cases hr : Region.ready .any (ops.toList.take n).toArray lp = []
  ·exact hfin _ lp l a w hlp hl h1 h2 hr (h.1 hr)
  ·have hex : ∃ j, j < n ∧ l.getD j false = false := by
     obtain ⟨j, hj⟩ := List.exists_mem_of_ne_nil _ hr
     obtain ⟨hj1, hj2, _⟩ := (mem_ready_deps (by omega)).1 hj
     exact ⟨j, by omega, by rw [h1 j (by omega)]; exact hj2⟩
   rw [Nat.succ_add]
   have hmem : ∀ i, i ∈ Region.ready .any ops l ↔ i ∈ Region.ready .any (ops.toList.take n).toArray lp := by
    intro i
    rw [mem_ready_deps hl, mem_ready_deps (show lp.size = (ops.toList.take n).toArray.size by omega)]
    constructor
    ·rintro ⟨a1, a2, a3⟩
     have hin : i < n := by
      rcases Nat.lt_or_ge i n with h | h
      ·exact h
      ·obtain ⟨j, hj1, hj2⟩ := hex
       have := reach_listed hc _ _ a3 j (ok.post i h a1 j (by omega))
       rw [hj2] at this; cases this
     refine ⟨by omega, by rw [← h1 i hin]; exact a2, fun e he => ?_⟩
     rw [deps_take hin] at he
     rw [← h1 e (by have := ok.back i a1 e he; omega)]
     exact a3 e he
    ·rintro ⟨a1, a2, a3⟩
     have hin : i < n := by omega
     have his : i < ops.size := by have := ok.le; omega
     refine ⟨his, by rw [h1 i hin]; exact a2, fun e he => ?_⟩
     rw [h1 e (by have := ok.back i his e he; omega)]
     exact a3 e (by rw [deps_take hin]; exact he)
   refine ⟨fun h0 => absurd (List.eq_nil_iff_forall_not_mem.2 fun i hi => by rw [← hmem i, h0] at hi; cases hi) hr, fun i hi => ?_⟩
   have hip := (hmem i).1 hi
   have hin : i < n := by have := ((mem_ready_deps (show lp.size = (ops.toList.take n).toArray.size by omega)).1 hip).1; omega
   have his : i < ops.size := by have := ok.le; omega
   have hw := h.2 i hip
   refine wpOp_mono (fun a' w' hK => ?_) (wpOp_ofPre (ok.gd i his) hin his hw)
   refine ih (lp.setIfInBounds i true) (l.setIfInBounds i true) a' w' (by simpa using hlp) (by simpa using hl) (fun j hj => ?_) (fun j hj hjs => ?_) (hc.set hl hi) hK
   ·rw [getD_set (by omega), getD_set (by omega), h1 j hj]
   ·rw [getD_set (by omega), if_neg (by omega)]; exact h2 j hj hjs
theorem wpAnyH_take_at {P : Program} {ops : Array Oper} {Q : Exit → Act → World → Prop} {md : Region.Mode} {S : World → Prop} {i : Nat} {oi : Oper} {v : Value} {fuel : Nat} {listed : Array Bool} {a : Act} {w : World} (dst : Option Tmp) (hi : ops[i]? = some oi) (hd : oi.dst = dst)
    (hs : Region.noSelect ops = true) (hf : Region.free md ops listed i = true) (hr : (Region.ready md ops listed).contains i = true)
    (hQ : ∀ c a w, Q (.panic c) (a.put dst v) w → Q (.panic c) a w) (hy : YieldsIf P ops S oi v a) (hS : S w)
    (h : wpAnyH P md ops Q S fuel (listed.setIfInBounds i true) (a.put dst v) w) : wpAnyH P md ops Q S (fuel + 1) listed a w := by
 subst hd
 exact wpAnyH_take hi hs hf hr hQ hy hS h
theorem wp_region_pre {P : Program} {id : Nat} {L : List Oper} (n : Nat) {Q : Exit → Act → World → Prop} {S : World → Prop} {a : Act} {w : World} (hm : P.follows .mixedOrders = true) (hok : preOk L.toArray n = true) (hS : S w.drew)
    (h : S w.drew → wpAnyH P .any (L.take n).toArray (QPre P L.toArray n Q) S n (Array.replicate n false) a w.drew) : (Code.region id L.toArray true).wp P Q a w := by
 refine wp_region_any hm ?_
 have ok := preOk_spec hok
 have h2 := pre_go ok n (Array.replicate n false) (Array.replicate L.toArray.size false) a w.drew (by simp) (by simp) (fun j hj => ?_) (fun j hj hjs => ?_) (fun j hj => ?_) (wpAny_of_held n _ a w.drew (h hS))
 ·have e : n + (L.toArray.size - n) = L.toArray.size := by have := ok.le; omega
  rw [e] at h2
  exact h2
 ·have := ok.le
  rw [Array.getD_eq_getD_getElem?, Array.getElem?_replicate, Array.getD_eq_getD_getElem?, Array.getElem?_replicate, if_pos (by omega), if_pos hj]
 ·simp only [Array.getD_eq_getD_getElem?, Array.getElem?_replicate]
  split <;> rfl
 ·simp only [Array.getD_eq_getD_getElem?, Array.getElem?_replicate] at hj
  split at hj <;> cases hj
theorem tkA {P : Program} {ops : Array Oper} {Q : Exit → Act → World → Prop} {md : Region.Mode} {S : World → Prop} {oi : Oper} {v : Value} {fuel : Nat} {listed : Array Bool} {a : Act} {w : World} (i : Nat) (d : Tmp)
    (h : wpAnyH P md ops Q S fuel (listed.setIfInBounds i true) (a.put (some d) v) w)
    (hi : ops[i]? = some oi := by rfl) (hd : oi.dst = some d := by rfl) (hs : Region.noSelect ops = true := by kernel_rfl) (hf : Region.free md ops listed i = true := by kernel_rfl) (hr : (Region.ready md ops listed).contains i = true := by kernel_rfl)
    (hQ : ∀ c a w, Q (.panic c) (a.put (some d) v) w → Q (.panic c) a w := by exact fun _ _ _ h => h) (hg : Region.wanted oi (yielded ops a.tmps) = true := by rfl)
    (hy : ∀ w, S w → (execOp a.eval oi).run P w = .ok (.value v) w := by intro w hSw; (try dsimp only at hSw); go_simp; (try with_reducible rfl)) (hS : S w := by assumption) : wpAnyH P md ops Q S (fuel + 1) listed a w :=
 wpAnyH_take_at (some d) hi hd hs hf hr hQ (.inl ⟨hg, hy⟩) hS h
end Go.Proofs.YtnpgpcnkdocknaaGreatDoor
namespace Go.Proofs.YtnpgpcnkdocknaaGreatDoor
open Go.RowKit
set_option linter.unusedVariables false
theorem rd_words (W : World) (l : List Str) (hl : ∀ s ∈ l, okS s) (hn : l.length ≤ 1000) : RdSs (W.alloc (.cells (l.map Value.string).toArray 9)) (Is W.heap.size) l (.slice (some ⟨W.heap.size, 0, none⟩) l.length l.length) := by
 refine ⟨some ⟨W.heap.size, 0, none⟩, l.length, l.map encS, rfl, Nat.le_refl _, by unfold maxLen; omega, by omega, by simp, ⟨?_, fun _ => ⟨W.heap.size, 0, rfl, rfl, ?_⟩⟩, ?_⟩
 ·intro cs hcs
  obtain ⟨s, _, rfl⟩ := List.mem_map.1 hcs
  rfl
 ·intro i cs hi j v hv
  rw [List.getElem?_map] at hi
  obtain ⟨s, hs, rfl⟩ := Option.map_eq_some_iff.1 hi
  have hB := Blk.made W (l.map Value.string) 9 (base := 0) (Nat.zero_le _)
  match j, hv with
  | 0, hv =>
   simp only [encS, List.getElem?_cons_zero, Option.some.injEq] at hv
   subst hv
   have := hB.mapAt hs
   simpa using this
 ·intro i e cs hi hc
  rw [List.getElem?_map, hi] at hc
  simp only [Option.map_some, Option.some.injEq] at hc
  subst hc
  exact ⟨rfl, hl e (List.mem_of_getElem? hi)⟩
theorem words_lit {p : Nat} (W : World) (l : List Str) (hl : ∀ s ∈ l, okS s) (hn : l.length ≤ 1000) (hp : p < W.heap.size) : WordsAt p (W.alloc (.cells (l.map Value.string).toArray 9)) l (.slice (some ⟨W.heap.size, 0, none⟩) l.length l.length) :=
 ⟨_, fun k hk => by unfold Is at hk; subst hk; exact ⟨by omega, by simp⟩, rd_words W l hl hn⟩
abbrev StP (R : Nat) (W w' : World) : Prop := (∀ q : Addr, q.block < W.heap.size → q.block ≠ R → w'.cell? q = W.cell? q) ∧ But (Is R) W w'
theorem StP.of_but {R : Nat} {W w' : World} (h : But (Is R) W w') : StP R W w' := ⟨fun q hq hn => World.cell?_of_block (h.block _ hq hn), h⟩
theorem StP.step {R : Nat} {W w1 w2 : World} (hb : But (Is R) w1 w2) (h : StP R W w1) : StP R W w2 := StP.of_but (h.2.trans hb)
def PEx (F : FuncId) (n lvl : Nat) : Prop := ∀ (p : Nat) (en : En) (ts : List LTok) (w : World) (out : PR Ex), exG n (.ex lvl) ts = some out → PsAt p en w ts → Calls Tryz.prog F #[.pointer (some ⟨p, 0, none⟩)] w (POut p en w (rdE w.heap.size p) out)
theorem ret_pq {fn : Func} {R : Ending → World → Prop} {a : Act} {w : World} {T G base : Nat} {k c : Int} {s : Str} {v : Value} (hr : fn.results = #[.cell T 80]) (ht : a.tmps.getD T undef = .pointer (some ⟨G, 0, none⟩)) (hd : a.defers = [])
    (B : Blk base w G [.int .i64 k, .int .i64 c, .string s, v]) (h : R (.returned (exV k c s v)) w) : bodyPost Tryz.prog fn R .ret a w := by
 have r0 := B.cell 0 _ rfl; have r1 := B.cell 1 _ rfl; have r2 := B.cell 2 _ rfl; have r3 := B.cell 3 _ rfl
 rw [Array.getD_eq_getD_getElem?] at ht
 exact bodyPost_ret (v := exV k c s v) (by simp [results, hr, ht, go_sem, r0, r1, r2, r3]) hd h
theorem ok_lvl (lvl : Nat) : (∀ s ∈ lvlS lvl, okS s) ∧ (lvlS lvl).length ≤ 1000 := by
 match lvl with
 | 0 => exact ⟨by intro s hs; simp only [lvlS, List.mem_cons, List.not_mem_nil, or_false] at hs; rcases hs with rfl | rfl <;> (unfold okS; decide), by decide⟩
 | 1 => exact ⟨by intro s hs; simp only [lvlS, List.mem_cons, List.not_mem_nil, or_false] at hs; rcases hs with rfl | rfl <;> (unfold okS; decide), by decide⟩
 | n + 2 => exact ⟨by intro s hs; simp only [lvlS, List.mem_cons, List.not_mem_nil, or_false] at hs; rcases hs with rfl | rfl | rfl <;> (unfold okS; decide), by simp [lvlS]⟩
theorem ne_nil {s : Str} (h : ¬ s = ⟨#[]⟩) : s.toList.isEmpty = false := by
 have h2 := str_ne h
 rw [show ByteArray.toList ⟨#[]⟩ = [] from by rw [ByteArray.toList_eq]] at h2
 cases he : s.toList with
 | nil => rw [he] at h2; cases h2
 | cons a l => rfl
set_option maxHeartbeats 4000000 in
set_option maxRecDepth 100000 in
theorem pexpr_step (n : Nat) (h1 : ∀ m, m < n → PEx 72 m 1) : PEx 44 n 0 := by
 intro p en ts w out ho h
 cases n with
 | zero => cases ho
 | succ n =>
 rw [exG_ex (by decide)] at ho
 have hlt := h.lt
 have hbl : Below w.heap.size w (w.alloc (.cells #[.int .i64 0, .int .i64 0, .string ⟨#[]⟩, .slice none 0 0] 80)) := (Below.refl _ _).alloc (Nat.le_refl _) _
 rcases PO.bind_some ho with ⟨r, e1, rfl⟩ | ⟨a, r, e1, e2⟩
 ·have HC := hid (h1 n (by omega) p en ts _ _ e1 (h.below hbl))
  have HBL := hid (But.of_b (T := Is p) hbl)
  clear h hbl ho e1 h1
  go_enter Tryz.func44, Tryz.ntmps44
  go_wp2_with (go_at_call 72; refine HC.out.mono ?_; rintro e w1 ⟨rfl, hb1⟩)
  exact ⟨rfl, rfl, HBL.out.trans hb1⟩
 ·have HC := hid (h1 n (by omega) p en ts _ _ e1 (h.below hbl))
  have HBL := hid (But.of_b (T := Is p) hbl)
  have HBX := hid (Blk.made w [.int .i64 0, .int .i64 0, .string ⟨#[]⟩, .slice none 0 0] 80 (base := 0) (Nat.zero_le _))
  have H1 := hid h1
  have HE2 := hid e2
  obtain ⟨d, hd⟩ : ∃ d, d = w.heap.size := ⟨_, rfl⟩
  have hdp : ¬ d = p := by omega
  have hdw : w.heap.size ≤ d := by omega
  have hpd : p < d := by omega
  have hpw : p < w.heap.size := hlt
  have hWd : d < (w.alloc (.cells #[.int .i64 0, .int .i64 0, .string ⟨#[]⟩, .slice none 0 0] 80)).heap.size := by simp [hd]
  have hpW : p < (w.alloc (.cells #[.int .i64 0, .int .i64 0, .string ⟨#[]⟩, .slice none 0 0] 80)).heap.size := by simp; omega
  rw [← hd] at HBX
  clear h hbl ho e1 e2 h1
  go_enter Tryz.func44, Tryz.ntmps44
  go_upto_region 1 with (fail)
  rw [← hd]
  clear hd
  generalize (w.alloc (.cells #[.int .i64 0, .int .i64 0, .string ⟨#[]⟩, .slice none 0 0] 80)) = W0 at *
  go_upto_region 2 with (go_at_call 72; refine HC.out.mono ?_; rintro e w1 ⟨x, rfl, hx, hp1, hb1⟩; obtain ⟨A, c, rfl⟩ := hx.form)
  have bl1 : Below w1.heap.size w1 (w1.alloc (.cells #[.int .i64 a.kind, .int .i64 a.num, .string a.name, .slice A a.args.length c] 80)) := (Below.refl _ _).alloc (Nat.le_refl _) _
  have HB1 := hid (HBL.out.trans (hb1.trans (But.of_b bl1)))
  have HP1 := hid (hp1.below bl1)
  have HX1 := hid (hx.below bl1)
  have HR1 := hid ((HBX.out.but hb1 (fun e => hdp e)).below bl1)
  have HY1 := hid (Blk.made w1 [.int .i64 a.kind, .int .i64 a.num, .string a.name, .slice A a.args.length c] 80 (base := 0) (Nat.zero_le _))
  obtain ⟨d1, hd1⟩ : ∃ d1, d1 = w1.heap.size := ⟨_, rfl⟩
  have hz1 := hb1.size
  have hdd : ¬ d1 = p := by omega
  have hd1d : ¬ d1 = d := by omega
  have hW0d1 : W0.heap.size ≤ d1 := by omega
  have hWd1 : d1 < (w1.alloc (.cells #[.int .i64 a.kind, .int .i64 a.num, .string a.name, .slice A a.args.length c] 80)).heap.size := by simp [hd1]
  have hpW1 : p < (w1.alloc (.cells #[.int .i64 a.kind, .int .i64 a.num, .string a.name, .slice A a.args.length c] 80)).heap.size := by simp; omega
  rw [← hd1] at HY1 ⊢
  clear hx hp1 hb1 bl1 HBX HBL HC hpW hd1
  have hW0w : w.heap.size ≤ W0.heap.size := by omega
  generalize (w1.alloc (.cells #[.int .i64 a.kind, .int .i64 a.num, .string a.name, .slice A a.args.length c] 80)) = W1 at *
  have HA := hid (show Calls Tryz.prog 41 #[.pointer (some ⟨p, 0, none⟩), .slice (some ⟨W1.heap.size, 0, none⟩) 2 2] (W1.alloc (.cells #[.string ⟨#[60]⟩, .string ⟨#[61, 61]⟩] 9)) (fun e w' => e = .returned (.string (anyG (lvlS 0) r)) ∧ w' = W1.alloc (.cells #[.string ⟨#[60]⟩, .string ⟨#[61, 61]⟩] 9)) from pany_any (HP1.out.below ((Below.refl _ _).alloc (Nat.le_refl _) (.cells ((lvlS 0).map Value.string).toArray 9))) (rd_words W1 (lvlS 0) (ok_lvl 0).1 (ok_lvl 0).2))
  have bl2 : Below W1.heap.size W1 (W1.alloc (.cells #[.string ⟨#[60]⟩, .string ⟨#[61, 61]⟩] 9)) := (Below.refl _ _).alloc (Nat.le_refl _) _
  have HB2 := hid (HB1.out.trans (But.of_b bl2))
  have HP2 := hid (HP1.out.below bl2)
  have HX2 := hid (HX1.out.below bl2)
  have HR2 := hid (HR1.out.below bl2)
  have HY2 := hid (HY1.out.below bl2)
  have hz2 := bl2.size
  clear bl2 HB1 HP1 HX1 HR1 HY1
  by_cases hs : anyG (lvlS 0) r = ⟨#[]⟩
  ·obtain ⟨m, rfl⟩ : ∃ m, n = m + 1 := by cases n with
     | zero => cases HE2.out
     | succ m => exact ⟨m, rfl⟩
   have HO := hid (show out = .ok a r by have h := HE2.out; rw [exG_stop hs] at h; exact (Option.some.inj h).symm)
   rw [hs] at HA
   clear hs HE2 H1
   go_upto_region 3 with (go_at_call 41; refine HA.out.mono ?_; rintro e wa ⟨rfl, rfl⟩)
   generalize (W1.alloc (.cells #[.string ⟨#[60]⟩, .string ⟨#[61, 61]⟩] 9)) = W2 at *
   have y0 := HY2.out.cell 0 _ rfl; have y1 := HY2.out.cell 1 _ rfl; have y2 := HY2.out.cell 2 _ rfl; have y3 := HY2.out.cell 3 _ rfl
   have r0 := HR2.out.cell 0 _ rfl; have r1 := HR2.out.cell 1 _ rfl; have r2 := HR2.out.cell 2 _ rfl; have r3 := HR2.out.cell 3 _ rfl
   have f0 := HR2.out.fr 0; have f1 := HR2.out.fr 1; have f2 := HR2.out.fr 2; have f3 := HR2.out.fr 3
   clear HA
   go_wp2
   have HF := set4_blk HR2.out (.int .i64 a.kind) (.int .i64 a.num) (.string a.name) (.slice A a.args.length c)
   have hbf : But (Is d) W2 (set4 W2 d (.int .i64 a.kind) (.int .i64 a.num) (.string a.name) (.slice A a.args.length c)) := set4_but (But.refl _ _) (.inl (show Is d d from rfl)) _ _ _ _
   have hx3 := (HX2.out.but hbf (.inl hWd)).to (lo' := w.heap.size) (y' := p) hW0w (.inr (.inr rfl))
   have hp3 := HP2.out.but hbf hpd
   have hb3 := set4_but HB2.out (.inr hdw) (.int .i64 a.kind) (.int .i64 a.num) (.string a.name) (.slice A a.args.length c)
   refine ret_pq Tryz.results44 rfl rfl HF ?_
   rw [HO.out]
   exact ⟨_, rfl, hx3, hp3, hb3⟩
  ·obtain ⟨t, r2, rfl⟩ := anyG_ne hs
   obtain ⟨m, rfl⟩ : ∃ m, n = m + 1 := by cases n with
    | zero => cases HE2.out
    | succ m => exact ⟨m, rfl⟩
   have he3 := HE2.out
   rw [exG_row hs, List.tail_cons] at he3
   have hS1 := H1.out m (by omega)
   have hs0 := ne_nil hs
   generalize anyG (lvlS 0) (t :: r2) = sg at *
   have HE3 := hid he3
   have HS1 := hid hS1
   clear he3 hS1 HE2 H1 hs
   go_upto_region 3 with (go_at_call 41; refine HA.out.mono ?_; rintro e wa ⟨rfl, rfl⟩)
   generalize (W1.alloc (.cells #[.string ⟨#[60]⟩, .string ⟨#[61, 61]⟩] 9)) = W2 at *
   clear HA
   go_upto_region 5 with (go_at_call 70; refine (ptake_any HP2.out).mono ?_; rintro e W3 ⟨rfl, hp3, hb3⟩)
   have HB3 := hid (HB2.out.trans hb3)
   have HP3 := hid hp3
   have HX3 := hid (HX2.out.but hb3 (.inr rfl))
   have HR3 := hid (HR2.out.but hb3 (fun e => hdp e))
   have HY3 := hid (HY2.out.but hb3 (fun e => hdd e))
   have hz3 := hb3.size
   clear hp3 hb3 HB2 HP2 HX2 HR2 HY2
   have hd1W : d1 < W3.heap.size := HY3.out.lt
   have hdW : d < W3.heap.size := HR3.out.lt
   have hpW3 : p < W3.heap.size := HP3.out.lt
   have y0 := HY3.out.cell 0 _ rfl; have y1 := HY3.out.cell 1 _ rfl; have y2 := HY3.out.cell 2 _ rfl; have y3 := HY3.out.cell 3 _ rfl
   rcases PO.bind_some HE3.out with ⟨q, e1, e2⟩ | ⟨b, q, e1, e2⟩
   ·have HC := hid (HS1.out p en r2 W3.drew _ e1 (HP3.out.below (Below.refl _ _).drew))
    have HO := hid e2
    clear e1 e2 HE3 HS1
    refine wp_region_pre 4 (S := (fun w' => StP p W3 w')) (by kernel_rfl) (by kernel_rfl) (StP.of_but ((But.refl _ _).drew)) (fun hHeld => ?_)
    simp only [List.take_succ_cons, List.take_zero]
    refine tkA 0 14 ?_
    refine tkA 1 15 ?_
    refine tkA 2 16 ?_
    (try simp only [Act.put, List.setIfInBounds_toArray, List.set_cons_zero, List.set_cons_succ])
    refine wpAnyH_ready (rs := [3]) (by kernel_rfl) (by simp) ?_
    refine AllReadyH.cons rfl (fun K hK => ?_) AllReadyH.nil
    go_simp
    refine HC.out.mono ?_
    rintro e w4 ⟨rfl, hb4⟩
    exact ⟨rfl, by rw [HO.out]; exact ⟨rfl, HB3.out.trans ((But.refl _ _).drew.trans hb4)⟩⟩
   ·have HC := hid (HS1.out p en r2 W3.drew _ e1 (HP3.out.below (Below.refl _ _).drew))
    have HO := hid (show out = .ok (twoX sg a b) q by simp only [if_true] at e2; exact (Option.some.inj e2).symm)
    clear e1 e2 HE3 HS1
    refine wp_region_pre 4 (S := (fun w' => StP p W3 w')) (by kernel_rfl) (by kernel_rfl) (StP.of_but ((But.refl _ _).drew)) (fun hHeld => ?_)
    simp only [List.take_succ_cons, List.take_zero]
    refine tkA 0 14 ?_
    refine tkA 1 15 ?_
    refine tkA 2 16 ?_
    (try simp only [Act.put, List.setIfInBounds_toArray, List.set_cons_zero, List.set_cons_succ])
    refine wpAnyH_ready (rs := [3]) (by kernel_rfl) (by simp) ?_
    refine AllReadyH.cons rfl (fun K hK => ?_) AllReadyH.nil
    go_simp
    refine HC.out.mono ?_
    rintro e w4 ⟨y, rfl, hy, hp4, hb4⟩
    have hst : StP p W3 w4 := StP.step hb4 hHeld
    refine hK.out _ _ ?_ (fun hHeld => ?_)
    ·exact hst
    clear hK K
    (try simp only [Act.put, List.setIfInBounds_toArray, List.set_cons_zero, List.set_cons_succ])
    refine wpAnyH_done (by kernel_rfl) ?_ _
    unfold QPre
    simp only [List.drop_succ_cons, List.drop_zero]
    have hdw4 : But (Is p) W3 w4 := (But.refl _ _).drew.trans hb4
    have HB4 := hid (HB3.out.trans hdw4)
    have HP4 := hid hp4
    have hz4 := hdw4.size
    have HR4 := hid (HR3.out.but hdw4 (fun e => hdp e))
    have hpw4 : p < w4.heap.size := by omega
    have hW3W0 : W0.heap.size ≤ W3.heap.size := by omega
    have HTW := hid (ptwo_any sg a b w4 (Rn W0.heap.size p w4) _ _ Rn.upto (HX3.out.but hdw4 (.inr rfl)) (rdE.to hy (lo' := W0.heap.size) (y' := p) hW3W0 (.inr (.inr rfl))))
    clear hy hp4 hb4 hdw4 hst hHeld HC HB3 HP3 HX3 HR3 HY3 y0 y1 y2 y3
    go_wp2_with (go_at_call 73; refine HTW.out.mono ?_; rintro e w5 ⟨U, rfl, hU, hb5⟩; obtain ⟨A9, c9, rfl⟩ := RdE.form hU; have hR5 := HR4.out.below hb5; have r0 := hR5.cell 0 _ rfl; have r1 := hR5.cell 1 _ rfl; have r2 := hR5.cell 2 _ rfl; have r3 := hR5.cell 3 _ rfl; have f0 := hR5.fr 0; have f1 := hR5.fr 1; have f2 := hR5.fr 2; have f3 := hR5.fr 3)
    have HF := set4_blk hR5 (.int .i64 (twoX sg a b).kind) (.int .i64 (twoX sg a b).num) (.string (twoX sg a b).name) (.slice A9 (twoX sg a b).args.length c9)
    have hbf : But (Is d) w5 (set4 w5 d (.int .i64 (twoX sg a b).kind) (.int .i64 (twoX sg a b).num) (.string (twoX sg a b).name) (.slice A9 (twoX sg a b).args.length c9)) := set4_but (But.refl _ _) (.inl (show Is d d from rfl)) _ _ _ _
    have hx5 : rdE W0.heap.size p w5 _ _ := rdE.two (Nat.le_trans hW3W0 hz4) hpw4 hb5.size hU
    have hx6 := (hx5.but hbf (.inl hWd)).to (lo' := w.heap.size) (y' := p) hW0w (.inr (.inr rfl))
    have hp6 := (HP4.out.below hb5).but hbf hpd
    have hb6 := set4_but (HB4.out.trans (But.of_b hb5)) (.inr hdw) (.int .i64 (twoX sg a b).kind) (.int .i64 (twoX sg a b).num) (.string (twoX sg a b).name) (.slice A9 (twoX sg a b).args.length c9)
    refine ret_pq Tryz.results44 rfl rfl HF ?_
    rw [HO.out]
    exact ⟨_, rfl, hx6, hp6, hb6⟩
end Go.Proofs.YtnpgpcnkdocknaaGreatDoor
