/- The walks of the runner's step and access. -/
import Derived.Test.YtdelngmbpjgphaaGSrSpec
import Derived.Test.YtdelngmbpjgphaaGAppStep
import Derived.BigQuiet
import Derived.WalkLawsBesides
namespace Go.Proofs.Ytdelngmbpjgphaa
open Go.RowKit
set_option linter.unusedVariables false
abbrev vI (x : Int) : Value := .int .i64 x
/-- block d holds a heap, something, and a row of accesses of its own; its blocks are X -/
def HpAt (base : Nat) (w : World) (d : Nat) (X : Blocks) (mid : List Value) (h : List Int) (tr : List Acc) : Prop :=
  ∃ o, Blk base w d (h.map vI ++ (mid ++ [o])) ∧ h.length = 8 ∧ (∀ x ∈ h, inI x) ∧ OwnAccs 23 w base Nowhere tr o ∧ X d ∧ (∀ b, X b → base ≤ b ∧ b < w.heap.size) ∧ (∀ k, o.ownBlock = some k → X k ∧ k ≠ d)
section
variable {base : Nat} {w w' : World} {d : Nat} {X : Blocks} {mid : List Value} {h : List Int} {tr : List Acc}
theorem HpAt.but {T : Blocks} (r : HpAt base w d X mid h tr) (hb : But T w w') (hT : ∀ b, X b → ¬ T b) : HpAt base w' d X mid h tr := by
  obtain ⟨o, h1, h2, h3, h4, h5, h6, h7⟩ := r
  exact ⟨o, h1.but hb (hT _ h5), h2, h3, h4.but hb (fun k hk => hT _ (h7 k hk).1), h5, fun b hx => ⟨(h6 b hx).1, Nat.lt_of_lt_of_le (h6 b hx).2 hb.size⟩, h7⟩
theorem HpAt.below (r : HpAt base w d X mid h tr) (hb : Below w.heap.size w w') : HpAt base w' d X mid h tr := r.but (T := Nowhere) (But.of_below hb) (fun _ _ h => h)
theorem HpAt.X0 (r : HpAt base w d X mid h tr) : X d := by obtain ⟨o, h1, h2, h3, h4, h5, h6, h7⟩ := r; exact h5
theorem HpAt.bd (r : HpAt base w d X mid h tr) : ∀ b, X b → base ≤ b ∧ b < w.heap.size := by obtain ⟨o, h1, h2, h3, h4, h5, h6, h7⟩ := r; exact h6
theorem HpAt.len (r : HpAt base w d X mid h tr) : h.length = 8 := by obtain ⟨o, h1, h2, h3, h4, h5, h6, h7⟩ := r; exact h2
theorem HpAt.ints (r : HpAt base w d X mid h tr) : ∀ x ∈ h, inI x := by obtain ⟨o, h1, h2, h3, h4, h5, h6, h7⟩ := r; exact h3
theorem HpAt.in_ (r : HpAt base w d X mid h tr) (n : Nat) : inI (h.getD n 0) := by
  by_cases hn : n < h.length
  · rw [List.getD_eq_getElem?_getD, List.getElem?_eq_getElem hn]; exact r.ints _ (List.getElem_mem hn)
  · rw [List.getD_eq_getElem?_getD, List.getElem?_eq_none (by omega)]; exact ⟨by decide, by decide⟩
/-- a cell of the heap -/
theorem HpAt.cell (r : HpAt base w d X mid h tr) {n : Nat} (hn : n < 8) : w.cell? ⟨d, n, none⟩ = some (vI (h.getD n 0)) := by
  obtain ⟨o, h1, h2, h3, h4, h5, h6, h7⟩ := r
  refine h1.cell n _ ?_
  rw [List.getElem?_append_left (by simpa [h2] using hn), List.getElem?_map, List.getElem?_eq_getElem (by omega), List.getD_eq_getElem?_getD, List.getElem?_eq_getElem (by omega)]
  rfl
theorem HpAt.fr (r : HpAt base w d X mid h tr) (o : Nat) : w.frozen? ⟨d, o, none⟩ = false := by obtain ⟨o', h1, _⟩ := r; exact h1.fr o
/-- what stands behind the heap -/
theorem HpAt.midAt (r : HpAt base w d X mid h tr) {n : Nat} {v : Value} (hn : mid[n]? = some v) : w.cell? ⟨d, 8 + n, none⟩ = some v := by
  obtain ⟨o, h1, h2, h3, h4, h5, h6, h7⟩ := r
  refine h1.cell _ _ ?_
  have hlt := (List.getElem?_eq_some_iff.1 hn).1
  rw [List.getElem?_append_right (by simp [h2]), List.length_map, h2, Nat.add_sub_cancel_left, List.getElem?_append_left hlt]
  exact hn
/-- a store behind the heap -/
theorem HpAt.setMid (r : HpAt base w d X mid h tr) {n : Nat} (hn : n < mid.length) (v : Value) : HpAt base (w.setCell ⟨d, 8 + n, none⟩ v) d X (mid.set n v) h tr ∧ But X w (w.setCell ⟨d, 8 + n, none⟩ v) := by
  obtain ⟨o, h1, h2, h3, h4, h5, h6, h7⟩ := r
  refine ⟨⟨o, ?_, h2, h3, h4.but ((But.refl (Is d) w).setCell (p := ⟨d, 8 + n, none⟩) rfl v) (fun k hk e => (h7 k hk).2 e), h5, fun b hb => ⟨(h6 b hb).1, by rw [size_setCell]; exact (h6 b hb).2⟩, h7⟩, (But.refl X w).setCell (p := ⟨d, 8 + n, none⟩) h5 v⟩
  have := h1.set (i := 8 + n) (by simp [h2]; omega) v
  rw [List.set_append_right _ _ (by simp [h2]), List.length_map, h2, Nat.add_sub_cancel_left, List.set_append_left _ _ hn] at this
  exact this
/-- a store into the heap -/
theorem HpAt.setHeap (r : HpAt base w d X mid h tr) {n : Nat} (hn : n < 8) (x : Int) (hx : inI x) : HpAt base (w.setCell ⟨d, n, none⟩ (vI x)) d X mid (h.set n x) tr ∧ But X w (w.setCell ⟨d, n, none⟩ (vI x)) := by
  obtain ⟨o, h1, h2, h3, h4, h5, h6, h7⟩ := r
  refine ⟨⟨o, ?_, by simpa using h2, fun y hy => ?_, h4.but ((But.refl (Is d) w).setCell (p := ⟨d, n, none⟩) rfl (vI x)) (fun k hk e => (h7 k hk).2 e), h5, fun b hb => ⟨(h6 b hb).1, by rw [size_setCell]; exact (h6 b hb).2⟩, h7⟩, (But.refl X w).setCell (p := ⟨d, n, none⟩) h5 (vI x)⟩
  · have := h1.set (i := n) (by simp [h2]; omega) (vI x)
    rw [List.set_append_left _ _ (by simp [h2]; omega), ← List.map_set] at this
    exact this
  · rcases List.mem_or_eq_of_mem_set hy with h | h
    · exact h3 y h
    · rw [h]; exact hx
/-- the row -/
theorem HpAt.row (r : HpAt base w d X mid h tr) : ∃ o, w.cell? ⟨d, 8 + mid.length, none⟩ = some o ∧ OwnAccs 23 w base Nowhere tr o ∧ (∀ k, o.ownBlock = some k → X k ∧ k ≠ d) ∧
    ∀ (W1 w1 : World) (tr' : List Acc) (v' : Value), Below w.heap.size w W1 → W1.grownBy w1 o.ownBlock → OwnAccs 23 w1 base Nowhere tr' v' → (v'.ownBlock = o.ownBlock ∨ ∃ k, v'.ownBlock = some k ∧ W1.heap.size ≤ k) →
      w1.frozen? ⟨d, 8 + mid.length, none⟩ = false ∧ (w1.cell? ⟨d, 8 + mid.length, none⟩).isSome = true ∧ ∃ X', HpAt base (w1.setCell ⟨d, 8 + mid.length, none⟩ v') d X' mid h tr' ∧ Sub X' (Plus X w.heap.size (w1.setCell ⟨d, 8 + mid.length, none⟩ v').heap.size) ∧ But X w (w1.setCell ⟨d, 8 + mid.length, none⟩ v') := by
  obtain ⟨o, h1, h2, h3, h4, h5, h6, h7⟩ := r
  have hlen : (h.map vI ++ (mid ++ [o])).length = 8 + mid.length + 1 := by simp [h2]; omega
  have hat : (h.map vI ++ (mid ++ [o]))[8 + mid.length]? = some o := by
    rw [List.getElem?_append_right (by simp [h2]), List.length_map, h2, Nat.add_sub_cancel_left, List.getElem?_append_right (Nat.le_refl _), Nat.sub_self]; rfl
  refine ⟨o, h1.cell _ _ hat, h4, h7, fun W1 w1 tr' v' hbw hg ho hown => ?_⟩
  have hz1 := hbw.size
  have hz2 := hg.size
  have hdl := h1.lt
  have hnd : ¬ (o.ownBlock = some d) := fun e => (h7 d e).2 rfl
  have hb1 : Blk base w1 d (h.map vI ++ (mid ++ [o])) := (h1.below hbw).but (But.of_grown hg) hnd
  have hownlt : ∀ k, v'.ownBlock = some k → base ≤ k ∧ k < w1.heap.size := ho.lt
  have hnd' : ∀ k, v'.ownBlock = some k → k ≠ d := fun k hk e => by
    subst e
    rcases hown with h | ⟨q, h, hq⟩
    · rw [h] at hk; exact hnd hk
    · rw [h] at hk; injection hk with hk; omega
  refine ⟨hb1.fr _, by rw [hb1.cell _ _ hat]; rfl, fun b => X b ∨ v'.ownBlock = some b, ⟨v', ?_, h2, h3, ho.but ((But.refl (Is d) w1).setCell (p := ⟨d, 8 + mid.length, none⟩) rfl v') (fun k hk e => hnd' k hk e), .inl h5, ?_, fun k hk => ⟨.inr hk, hnd' k hk⟩⟩, ?_, ?_⟩
  · have := hb1.set (i := 8 + mid.length) (by omega) v'
    rw [List.set_append_right _ _ (by simp [h2]), List.length_map, h2, Nat.add_sub_cancel_left, List.set_append_right _ _ (Nat.le_refl _), Nat.sub_self] at this
    exact this
  · rintro b (hb | hb)
    · exact ⟨(h6 b hb).1, by rw [size_setCell]; have := (h6 b hb).2; omega⟩
    · exact ⟨(hownlt b hb).1, by rw [size_setCell]; exact (hownlt b hb).2⟩
  · rintro b (hb | hb)
    · exact .inl hb
    · rcases hown with h | ⟨q, h, hq⟩
      · rw [h] at hb; exact .inl (h7 b hb).1
      · rw [h] at hb; injection hb with hb; exact .inr ⟨by omega, by rw [size_setCell]; have := (hownlt b (by rw [h, hb])).2; omega⟩
  · have hbx : But X w w1 := ((But.of_below (T := X) hbw)).trans ((But.of_grown hg).sub (fun k hk => (h7 k hk).1))
    exact hbx.setCell (p := ⟨d, 8 + mid.length, none⟩) h5 v'
end
/-- the runner that has come to m -/
def RnAt (base : Nat) (w : World) (d : Nat) (X : Blocks) (F : Nat) (m : MS) : Prop := HpAt base w d X [vI (F : Int), vI (m.st : Int)] m.h m.tr ∧ m.tr.length ≤ m.st ∧ m.st ≤ F ∧ F ≤ 2000
abbrev spentE : List PanicEntry := [{ v := .iface 127 (.agg #[]), recovered := false }]
theorem drewN_zero (w : World) : ∃ n, w.drew = w.drewN n := ⟨1, rfl⟩
set_option maxHeartbeats 400000 in
theorem step_ok {base : Nat} {w : World} {d : Nat} {X : Blocks} {F : Nat} {m : MS} (h : RnAt base w d X F m) (hlt : m.st < F) :
    Calls Try.prog 65 #[.pointer (some ⟨d, 0, none⟩)] w fun e w' => e = .returned (.tuple #[]) ∧ RnAt base w' d X F m.step ∧ But X w w' := by
  obtain ⟨h1, h2, h3, h4⟩ := h
  have c8 : w.cell? ⟨d, 8, none⟩ = some (vI (F : Int)) := HpAt.midAt h1 (n := 0) rfl
  have c9 : w.cell? ⟨d, 9, none⟩ = some (vI (m.st : Int)) := HpAt.midAt h1 (n := 1) rfl
  have f9 := HpAt.fr h1 9
  have hd : decide ((m.st : Int) = (F : Int)) = false := by simp; omega
  have H := Lib.hid h1
  have hst : (m.st : Int) ≤ 2000 := by omega
  clear h1
  go_enter Try.func65, Try.ntmps65
  go_wp2
  go_quiet (fail)
  go_wp2
  go_end0
  obtain ⟨q1, q2⟩ := HpAt.setMid (HpAt.but (T := Nowhere) H.out ((But.refl _ _).drewN nq) (fun _ _ h => h)) (n := 1) (by simp) (vI ((m.st : Int) + 1))
  have hc : ((m.step.st : Nat) : Int) = (m.st : Int) + 1 := by simp [MS.step]
  refine ⟨rfl, ⟨?_, by simp only [MS.step]; omega, by simp only [MS.step]; omega, h4⟩, (((But.refl X w).drewN nq).trans q2)⟩
  rw [hc]
  exact q1
set_option maxHeartbeats 400000 in
theorem step_no {base : Nat} {w : World} {d : Nat} {X : Blocks} {F : Nat} {m : MS} (h : RnAt base w d X F m) (hlt : ¬ m.st < F) :
    Calls Try.prog 65 #[.pointer (some ⟨d, 0, none⟩)] w fun e w' => e = .panicked spentE ∧ But X w w' := by
  obtain ⟨h1, h2, h3, h4⟩ := h
  have c8 : w.cell? ⟨d, 8, none⟩ = some (vI (F : Int)) := HpAt.midAt h1 (n := 0) rfl
  have c9 : w.cell? ⟨d, 9, none⟩ = some (vI (m.st : Int)) := HpAt.midAt h1 (n := 1) rfl
  have e : m.st = F := by omega
  rw [e] at c9
  clear h1 e h2 h3 h4 hlt
  go_enter Try.func65, Try.ntmps65
  go_wp2
  go_quiet (fail)
  go_wp2
  exact ⟨rfl, rfl, (But.refl X w).drewN nq⟩
theorem tmod8 (n : Int) : n.tmod 8 = if 0 ≤ n then n % 8 else -((-n) % 8) := by
  split
  · exact Int.tmod_eq_emod_of_nonneg (by omega)
  · rw [← Int.neg_neg n, Int.neg_tmod, Int.neg_neg, Int.tmod_eq_emod_of_nonneg (by omega)]
theorem cell_num (n : Int) : (wrap64 (n.tmod 8 + 8)).tmod 8 = n % 8 := by
  have h := tmod8 n
  unfold wrap64
  rw [Int.tmod_eq_emod_of_nonneg (by split at h <;> omega)]
  split at h <;> omega
theorem mcell_num (n : Int) : wrap64 (bits BinOp.and IntKind.u64 (IntKind.u64.wrap n) 7) = n % 8 := by
  rw [IntKind.wrap_u64]
  have h := bits_and_u64_nat (n % 18446744073709551616).toNat 7 (by omega) (by omega)
  have e : (((n % 18446744073709551616).toNat : Nat) : Int) = n % 18446744073709551616 := by omega
  rw [e, show (7 : Nat) = 2 ^ 3 - 1 from rfl, Nat.and_two_pow_sub_one_eq_mod] at h
  have e7 : ((2 ^ 3 - 1 : Nat) : Int) = 7 := rfl
  rw [e7] at h
  rw [h]
  unfold wrap64
  omega
theorem cell_any (n : Int) (w : World) : Calls Try.prog 44 #[.int .i64 n] w fun e w' => e = .returned (.int .i64 (cellN n : Int)) ∧ w = w' := by
  rw [cellN_int]
  go_enter Try.func44, Try.ntmps44
  go_wp2
  go_ret
  exact ⟨by rw [cell_num]; rfl, rfl⟩
theorem mcell_any (n : Int) (w : World) : Calls Try.prog 51 #[.int .i64 n] w fun e w' => e = .returned (.int .i64 (cellN n : Int)) ∧ w = w' := by
  rw [cellN_int]
  go_enter Try.func51, Try.ntmps51
  go_wp2
  go_ret
  exact ⟨by rw [mcell_num]; rfl, rfl⟩
set_option maxHeartbeats 1000000 in
set_option maxRecDepth 100000 in
theorem access_any {base : Nat} {w : World} {d : Nat} {X : Blocks} {F : Nat} {m : MS} (h : RnAt base w d X F m) (hlt : m.tr.length < m.st) (v : Int) (wr : Bool) (lab : Nat) (hlab : lab ≤ 1048576) :
    Calls Try.prog 66 #[.pointer (some ⟨d, 0, none⟩), vI v, .bool wr, vI (lab : Int)] w fun e w' => e = .returned (vI (cellN v : Int)) ∧ (∃ X', RnAt base w' d X' F (m.see v wr lab) ∧ Sub X' (Plus X w.heap.size w'.heap.size)) ∧ But X w w' := by
  obtain ⟨h1, h2, h3, h4⟩ := h
  obtain ⟨i0, hi, hz0, hz1, hz2⟩ := info_parts infoAcc
  obtain ⟨o, hc, ho, hX, hrow⟩ := h1.row
  have hc : w.cell? ⟨d, 10, none⟩ = some o := hc
  have HB := Lib.hid h1.bd
  have HX0 := Lib.hid h1.X0
  have hdl : d < w.heap.size := (h1.bd d h1.X0).2
  have hf := HpAt.fr h1 10
  obtain ⟨A0, c0, rfl⟩ := ho.form
  have HR := Lib.hid hrow
  have HO := Lib.hid ho
  have HX := Lib.hid hX
  clear h1 hrow ho hX
  go_enter Try.func66, Try.ntmps66
  go_wp2_with fail
  refine (cell_any v _).mono ?_
  rintro e w' ⟨rfl, rfl⟩
  have hcl := cellN_lt v
  have hbs : base ≤ w.heap.size := by have := HB.out d; have := HO.out.lt; exact (Nat.le_trans (HB.out d (HX0.out)).1 (Nat.le_of_lt hdl))
  have hok : okAcc ⟨(cellN v : Int), wr, (lab : Int)⟩ := ⟨by unfold inI; dsimp only; omega, by unfold inI; dsimp only; omega⟩
  obtain ⟨c, hcc⟩ : ∃ c : Int, c = (cellN v : Int) := ⟨_, rfl⟩
  have HC := Lib.hid hcc
  rw [← hcc] at hok
  rw [← hcc]
  clear hcc hcl
  go_wp2_with (at_builtin; refine wpList_append_one rfl _ _ 45 rfl i0 _ Try.underlying45 hi hz0 hz1 hz2 rfl (by decide) Flat.keeps HO.out (x := ⟨c, wr, (lab : Int)⟩) (cs := [.int .i64 c, .bool wr, .int .i64 (lab : Int)]) (Tx := Nowhere) ?d0 rfl rfl rfl (Sub.nowhere _) (Sub.nowhere _) not_nowhere ?d1 ?d2 ?d3 ?d4 ?_)
  case d0 => exact ⟨rfl, hok⟩
  case d1 => simp [Value.oneCell']
  case d2 => unfold maxLen; omega
  case d3 => omega
  try (case d4 => exact hbs)
  intro v5 w5 ho5 hg5 hd5
  obtain ⟨A5, c5, rfl⟩ := ho5.form
  rw [List.length_append, List.length_singleton] at ho5 hd5 ⊢
  obtain ⟨f1, f2, X', q1, q2, q3⟩ := HR.out w w5 _ _ (Below.refl _ _) hg5 ho5 (hd5.imp id (fun e => ⟨_, e, Nat.le_succ _⟩))
  have f1 : w5.frozen? ⟨d, 10, none⟩ = false := f1
  obtain ⟨u5, f2⟩ := Option.isSome_iff_exists.1 f2
  have f2 : w5.cell? ⟨d, 10, none⟩ = some u5 := f2
  have Q1 := Lib.hid q1
  have Q2 := Lib.hid q2
  have Q3 := Lib.hid q3
  clear q1 q2 q3 hc hg5 ho5 hd5
  go_wp2
  go_ret
  refine ⟨by rw [← HC.out]; rfl, ⟨X', ⟨?_, ?_, h3, h4⟩, Q2.out⟩, Q3.out⟩
  · have := Q1.out
    simp only [MS.see]
    rw [← HC.out]
    exact this
  · simp only [MS.see, List.length_append, List.length_singleton]
    omega
end Go.Proofs.Ytdelngmbpjgphaa
