/- The walk of unfold.Unfold. -/
import Derived.Test.YtdelngmbpjgphaaUn14
import Derived.Test.YtdelngmbpjgphaaGWrL
import Derived.Defers
import Derived.Recover
namespace Go.Proofs.Ytdelngmbpjgphaa
open Go.RowKit
set_option linter.unusedVariables false
/-- what unfolding gives: the term, the heap, what was wrong -/
def unfE (l : List St) (f : Int) (h : List Int) : Tm × List Int × Int :=
  if wrongR l f ≠ 0 then (zeroT, List.replicate 8 0, wrongR l f)
  else match blU f.toNat l [] 0 (fun m => some (zeroT, m)) ⟨h, 0⟩ with
    | some x => (x.1, x.2.h, 0)
    | none => (zeroT, List.replicate 8 0, 5)
/-- the closure that recovers, of a frame that returns -/
theorem ucatch_idle (p q r : Addr) (w : World) :
    CallsD Try.prog 25 #[.pointer (some p), .pointer (some q), .pointer (some r)] .returning w fun e u' w' => e = .returned (.tuple #[]) ∧ u' = .returning ∧ w' = w := by
  refine callsD_of_wpS Try.func25 rfl fun c₀ cs hu => ?_
  apply wpS_seq
  apply wpS_region
  simp [wpOpsS, go_sem, recoverD, hu, Try.ntmps25, Exit.thenS]
  apply wpS_seq
  apply wpS_region
  simp [wpOpsS, go_sem, Exit.thenS]
  refine wpS_cond (t := false) (by simp [Act.eval, Array.replicate]) ?_
  simp only [Bool.false_eq_true, if_false]
  refine wpS_of_wp (wp_skip ?_)
  cases c₀
  simp_all [bodyPostS, results, Try.results25]
/-- boxes of the results: a term, a heap, what was wrong -/
def UBx (base : Nat) (w : World) (g : Nat) (t h : List Value) (e : Value) : Prop := Blk base w g t ∧ Blk base w (g + 1) h ∧ Blk base w (g + 1 + 1) [e]
set_option maxHeartbeats 4000000 in
set_option maxRecDepth 100000 in
/-- the same, of a frame that ends for lack of fuel -/
theorem ucatch_spent (base g : Nat) (t h : List Value) (e : Value) (w : World) (hb : UBx base w g t h e) (ht : t.length = 5) (hh : h.length = 8) :
    CallsD Try.prog 25 #[.pointer (some ⟨g, 0, none⟩), .pointer (some ⟨g + 1, 0, none⟩), .pointer (some ⟨g + 1 + 1, 0, none⟩)] (.panicking spentU) w fun e u' w' =>
      e = .returned (.tuple #[]) ∧ u' = .panicking [{ v := .iface 77 (.agg #[]), recovered := true }] ∧ UBx base w' g [.int .i64 0, .int .i64 0, .bool false, .int .i64 0, .slice none 0 0] [.int .i64 0, .int .i64 0, .int .i64 0, .int .i64 0, .int .i64 0, .int .i64 0, .int .i64 0, .int .i64 0] (vI 5) ∧ But (fun b => b = g ∨ b = g + 1 ∨ b = g + 1 + 1) w w' := by
  have hta : ∀ w, (Instr.typeAssert (.iface 77 (.agg #[])) 20 77 true).run Try.prog w = .ok (.tuple #[.agg #[], .bool true]) w := fun w => by kernel_rfl
  refine callsD_of_wpS Try.func25 rfl fun c₀ cs hu => ?_
  apply wpS_seq
  apply wpS_region
  simp [wpOpsS, go_sem, recoverD, hu, Try.ntmps25, Exit.thenS]
  apply wpS_seq
  apply wpS_region
  simp [wpOpsS, go_sem, Exit.thenS]
  refine wpS_cond (t := true) (by simp [Act.eval, Array.replicate]) ?_
  simp only [if_true]
  refine wpS_of_wp ?_
  simp only [Array.replicate_succ, Array.replicate_zero, List.push_toArray, List.append_toArray, List.nil_append, List.cons_append, List.setIfInBounds_toArray, List.set_cons_zero, List.set_cons_succ]
  obtain ⟨t0, t1, t2, t3, t4, rfl⟩ : ∃ a b c d e, t = [a, b, c, d, e] := by
    match t, ht with
    | [a, b, c, d, e], _ => exact ⟨a, b, c, d, e, rfl⟩
  obtain ⟨h0, h1, h2, h3, h4, h5, h6, h7, rfl⟩ : ∃ a b c d e f i j, h = [a, b, c, d, e, f, i, j] := by
    match h, hh with
    | [a, b, c, d, e, f, i, j], _ => exact ⟨a, b, c, d, e, f, i, j, rfl⟩
  have hg1 := hb.1.lt
  have hg2 := hb.2.1.lt
  have hg3 := hb.2.2.lt
  have HB0 := Lib.hid hb
  have HBB := Lib.hid (But.refl (fun b => b = g ∨ b = g + 1 ∨ b = g + 1 + 1) w)
  have u0 := hb.1.cell 0 _ rfl; have u1 := hb.1.cell 1 _ rfl; have u2 := hb.1.cell 2 _ rfl; have u3 := hb.1.cell 3 _ rfl; have u4 := hb.1.cell 4 _ rfl
  have v0 := hb.2.1.cell 0 _ rfl; have v1 := hb.2.1.cell 1 _ rfl; have v2 := hb.2.1.cell 2 _ rfl; have v3 := hb.2.1.cell 3 _ rfl; have v4 := hb.2.1.cell 4 _ rfl; have v5 := hb.2.1.cell 5 _ rfl; have v6 := hb.2.1.cell 6 _ rfl; have v7 := hb.2.1.cell 7 _ rfl
  have x0 := hb.2.2.cell 0 _ rfl
  have uf := hb.1.fr
  have vf := hb.2.1.fr
  have xf := hb.2.2.fr
  clear hb ht hh
  go_wp2
  clear u0 u1 u2 u3 u4 v0 v1 v2 v3 v4 v5 v6 v7 x0 uf vf xf hg1 hg2 hg3
  have HU : UBx base (((((((((((((((w.setCell ⟨g, 0, none⟩ (.int .i64 0)).setCell ⟨g, 1, none⟩ (.int .i64 0)).setCell ⟨g, 2, none⟩ (.bool false)).setCell ⟨g, 3, none⟩ (.int .i64 0)).setCell ⟨g, 4, none⟩ (.slice none 0 0)).setCell ⟨g + 1, 0, none⟩ (.int .i64 0)).setCell ⟨g + 1, 1, none⟩ (.int .i64 0)).setCell ⟨g + 1, 2, none⟩ (.int .i64 0)).setCell ⟨g + 1, 3, none⟩ (.int .i64 0)).setCell ⟨g + 1, 4, none⟩ (.int .i64 0)).setCell ⟨g + 1, 5, none⟩ (.int .i64 0)).setCell ⟨g + 1, 6, none⟩ (.int .i64 0)).setCell ⟨g + 1, 7, none⟩ (.int .i64 0)).setCell ⟨g + 1 + 1, 0, none⟩ (vI 5)).alloc (.cells #[] 77)) g [.int .i64 0, .int .i64 0, .bool false, .int .i64 0, .slice none 0 0] [.int .i64 0, .int .i64 0, .int .i64 0, .int .i64 0, .int .i64 0, .int .i64 0, .int .i64 0, .int .i64 0] (vI 5) := by
    have h : UBx base ((((((((((((((w.setCell ⟨g, 0, none⟩ (.int .i64 0)).setCell ⟨g, 1, none⟩ (.int .i64 0)).setCell ⟨g, 2, none⟩ (.bool false)).setCell ⟨g, 3, none⟩ (.int .i64 0)).setCell ⟨g, 4, none⟩ (.slice none 0 0)).setCell ⟨g + 1, 0, none⟩ (.int .i64 0)).setCell ⟨g + 1, 1, none⟩ (.int .i64 0)).setCell ⟨g + 1, 2, none⟩ (.int .i64 0)).setCell ⟨g + 1, 3, none⟩ (.int .i64 0)).setCell ⟨g + 1, 4, none⟩ (.int .i64 0)).setCell ⟨g + 1, 5, none⟩ (.int .i64 0)).setCell ⟨g + 1, 6, none⟩ (.int .i64 0)).setCell ⟨g + 1, 7, none⟩ (.int .i64 0)).setCell ⟨g + 1 + 1, 0, none⟩ (vI 5)) g [.int .i64 0, .int .i64 0, .bool false, .int .i64 0, .slice none 0 0] [.int .i64 0, .int .i64 0, .int .i64 0, .int .i64 0, .int .i64 0, .int .i64 0, .int .i64 0, .int .i64 0] (vI 5) := ⟨(((((((((((((((HB0.out.1).set (i := 0) (by simp) (.int .i64 0)).set (i := 1) (by simp) (.int .i64 0)).set (i := 2) (by simp) (.bool false)).set (i := 3) (by simp) (.int .i64 0)).set (i := 4) (by simp) (.slice none 0 0)).other (p := ⟨g + 1, 0, none⟩) (by dsimp only; omega) (.int .i64 0)).other (p := ⟨g + 1, 1, none⟩) (by dsimp only; omega) (.int .i64 0)).other (p := ⟨g + 1, 2, none⟩) (by dsimp only; omega) (.int .i64 0)).other (p := ⟨g + 1, 3, none⟩) (by dsimp only; omega) (.int .i64 0)).other (p := ⟨g + 1, 4, none⟩) (by dsimp only; omega) (.int .i64 0)).other (p := ⟨g + 1, 5, none⟩) (by dsimp only; omega) (.int .i64 0)).other (p := ⟨g + 1, 6, none⟩) (by dsimp only; omega) (.int .i64 0)).other (p := ⟨g + 1, 7, none⟩) (by dsimp only; omega) (.int .i64 0)).other (p := ⟨g + 1 + 1, 0, none⟩) (by dsimp only; omega) (vI 5)), (((((((((((((((HB0.out.2.1).other (p := ⟨g, 0, none⟩) (by dsimp only; omega) (.int .i64 0)).other (p := ⟨g, 1, none⟩) (by dsimp only; omega) (.int .i64 0)).other (p := ⟨g, 2, none⟩) (by dsimp only; omega) (.bool false)).other (p := ⟨g, 3, none⟩) (by dsimp only; omega) (.int .i64 0)).other (p := ⟨g, 4, none⟩) (by dsimp only; omega) (.slice none 0 0)).set (i := 0) (by simp) (.int .i64 0)).set (i := 1) (by simp) (.int .i64 0)).set (i := 2) (by simp) (.int .i64 0)).set (i := 3) (by simp) (.int .i64 0)).set (i := 4) (by simp) (.int .i64 0)).set (i := 5) (by simp) (.int .i64 0)).set (i := 6) (by simp) (.int .i64 0)).set (i := 7) (by simp) (.int .i64 0)).other (p := ⟨g + 1 + 1, 0, none⟩) (by dsimp only; omega) (vI 5)), (((((((((((((((HB0.out.2.2).other (p := ⟨g, 0, none⟩) (by dsimp only; omega) (.int .i64 0)).other (p := ⟨g, 1, none⟩) (by dsimp only; omega) (.int .i64 0)).other (p := ⟨g, 2, none⟩) (by dsimp only; omega) (.bool false)).other (p := ⟨g, 3, none⟩) (by dsimp only; omega) (.int .i64 0)).other (p := ⟨g, 4, none⟩) (by dsimp only; omega) (.slice none 0 0)).other (p := ⟨g + 1, 0, none⟩) (by dsimp only; omega) (.int .i64 0)).other (p := ⟨g + 1, 1, none⟩) (by dsimp only; omega) (.int .i64 0)).other (p := ⟨g + 1, 2, none⟩) (by dsimp only; omega) (.int .i64 0)).other (p := ⟨g + 1, 3, none⟩) (by dsimp only; omega) (.int .i64 0)).other (p := ⟨g + 1, 4, none⟩) (by dsimp only; omega) (.int .i64 0)).other (p := ⟨g + 1, 5, none⟩) (by dsimp only; omega) (.int .i64 0)).other (p := ⟨g + 1, 6, none⟩) (by dsimp only; omega) (.int .i64 0)).other (p := ⟨g + 1, 7, none⟩) (by dsimp only; omega) (.int .i64 0)).set (i := 0) (by simp) (vI 5))⟩
    exact ⟨h.1.al' _, h.2.1.al' _, h.2.2.al' _⟩
  have HT : But (fun b => b = g ∨ b = g + 1 ∨ b = g + 1 + 1) w (((((((((((((((w.setCell ⟨g, 0, none⟩ (.int .i64 0)).setCell ⟨g, 1, none⟩ (.int .i64 0)).setCell ⟨g, 2, none⟩ (.bool false)).setCell ⟨g, 3, none⟩ (.int .i64 0)).setCell ⟨g, 4, none⟩ (.slice none 0 0)).setCell ⟨g + 1, 0, none⟩ (.int .i64 0)).setCell ⟨g + 1, 1, none⟩ (.int .i64 0)).setCell ⟨g + 1, 2, none⟩ (.int .i64 0)).setCell ⟨g + 1, 3, none⟩ (.int .i64 0)).setCell ⟨g + 1, 4, none⟩ (.int .i64 0)).setCell ⟨g + 1, 5, none⟩ (.int .i64 0)).setCell ⟨g + 1, 6, none⟩ (.int .i64 0)).setCell ⟨g + 1, 7, none⟩ (.int .i64 0)).setCell ⟨g + 1 + 1, 0, none⟩ (vI 5)).alloc (.cells #[] 77)) := (((((((((((((((HBB.out.setCell (p := ⟨g, 0, none⟩) (.inl rfl) (.int .i64 0)).setCell (p := ⟨g, 1, none⟩) (.inl rfl) (.int .i64 0)).setCell (p := ⟨g, 2, none⟩) (.inl rfl) (.bool false)).setCell (p := ⟨g, 3, none⟩) (.inl rfl) (.int .i64 0)).setCell (p := ⟨g, 4, none⟩) (.inl rfl) (.slice none 0 0)).setCell (p := ⟨g + 1, 0, none⟩) (.inr (.inl rfl)) (.int .i64 0)).setCell (p := ⟨g + 1, 1, none⟩) (.inr (.inl rfl)) (.int .i64 0)).setCell (p := ⟨g + 1, 2, none⟩) (.inr (.inl rfl)) (.int .i64 0)).setCell (p := ⟨g + 1, 3, none⟩) (.inr (.inl rfl)) (.int .i64 0)).setCell (p := ⟨g + 1, 4, none⟩) (.inr (.inl rfl)) (.int .i64 0)).setCell (p := ⟨g + 1, 5, none⟩) (.inr (.inl rfl)) (.int .i64 0)).setCell (p := ⟨g + 1, 6, none⟩) (.inr (.inl rfl)) (.int .i64 0)).setCell (p := ⟨g + 1, 7, none⟩) (.inr (.inl rfl)) (.int .i64 0)).setCell (p := ⟨g + 1 + 1, 0, none⟩) (.inr (.inr rfl)) (vI 5))).alloc _
  generalize (((((((((((((((w.setCell ⟨g, 0, none⟩ (.int .i64 0)).setCell ⟨g, 1, none⟩ (.int .i64 0)).setCell ⟨g, 2, none⟩ (.bool false)).setCell ⟨g, 3, none⟩ (.int .i64 0)).setCell ⟨g, 4, none⟩ (.slice none 0 0)).setCell ⟨g + 1, 0, none⟩ (.int .i64 0)).setCell ⟨g + 1, 1, none⟩ (.int .i64 0)).setCell ⟨g + 1, 2, none⟩ (.int .i64 0)).setCell ⟨g + 1, 3, none⟩ (.int .i64 0)).setCell ⟨g + 1, 4, none⟩ (.int .i64 0)).setCell ⟨g + 1, 5, none⟩ (.int .i64 0)).setCell ⟨g + 1, 6, none⟩ (.int .i64 0)).setCell ⟨g + 1, 7, none⟩ (.int .i64 0)).setCell ⟨g + 1 + 1, 0, none⟩ (vI 5)).alloc (.cells #[] 77)) = WF at *
  simp [bodyPostS, results, Try.results25]
  exact ⟨HU, HT⟩
theorem zero_in : ∀ x ∈ List.replicate 8 (0 : Int), inI x := fun x hx => by rw [List.eq_of_mem_replicate hx]; exact ⟨by decide, by decide⟩
set_option maxHeartbeats 4000000 in
set_option maxRecDepth 100000 in
theorem unfold_any (l : List St) (f : Int) (h : List Int) (w : World) (S : Blocks) (v : Value) (hS : Sub S (Upto w.heap.size)) (r : RdSts w S l v) (hwt : St.wts l ≤ 1048576) (hl8 : h.length = 8) (hin : ∀ x ∈ h, inI x) :
    Calls Try.prog 9 #[v, .agg (h.map vI).toArray, vI f] w fun e w' => (∃ V, e = .returned (.tuple #[V, .agg ((unfE l f h).2.1.map vI).toArray, vI (unfE l f h).2.2]) ∧ FrT (Upto w.heap.size) w' (unfE l f h).1 V) ∧ (unfE l f h).2.1.length = 8 ∧ (∀ x ∈ (unfE l f h).2.1, inI x) ∧ Below w.heap.size w w' := by
  obtain ⟨a0, a1, a2, a3, a4, a5, a6, a7, rfl⟩ := list8 hl8
  have hmf : ∀ (fn : Fn) (first cap : Array Value) (w : World), (Instr.makeFunc fn first cap).run Try.prog w = .ok (.func fn first cap) w := fun _ _ _ _ => rfl
  have bA : Below w.heap.size w ((((w.alloc (.cells #[vI a0, vI a1, vI a2, vI a3, vI a4, vI a5, vI a6, vI a7] 38)).alloc (.cells [.int .i64 0, .int .i64 0, .bool false, .int .i64 0, .slice none 0 0].toArray 26)).alloc (.cells [.int .i64 0, .int .i64 0, .int .i64 0, .int .i64 0, .int .i64 0, .int .i64 0, .int .i64 0, .int .i64 0].toArray 38)).alloc (.cells #[.int .i64 0] 29)) := ((((Below.refl _ _).alloc (Nat.le_refl _) _).alloc (by simp) _).alloc (by simp; omega) _).alloc (by simp; omega) _
  have H0 := Lib.hid (show Blk w.heap.size ((((w.alloc (.cells #[vI a0, vI a1, vI a2, vI a3, vI a4, vI a5, vI a6, vI a7] 38)).alloc (.cells [.int .i64 0, .int .i64 0, .bool false, .int .i64 0, .slice none 0 0].toArray 26)).alloc (.cells [.int .i64 0, .int .i64 0, .int .i64 0, .int .i64 0, .int .i64 0, .int .i64 0, .int .i64 0, .int .i64 0].toArray 38)).alloc (.cells #[.int .i64 0] 29)) w.heap.size [vI a0, vI a1, vI a2, vI a3, vI a4, vI a5, vI a6, vI a7] from (((Blk.made w [vI a0, vI a1, vI a2, vI a3, vI a4, vI a5, vI a6, vI a7] 38 (Nat.le_refl _)).al' _).al' _).al' _)
  have HU := Lib.hid (show UBx w.heap.size ((((w.alloc (.cells #[vI a0, vI a1, vI a2, vI a3, vI a4, vI a5, vI a6, vI a7] 38)).alloc (.cells [.int .i64 0, .int .i64 0, .bool false, .int .i64 0, .slice none 0 0].toArray 26)).alloc (.cells [.int .i64 0, .int .i64 0, .int .i64 0, .int .i64 0, .int .i64 0, .int .i64 0, .int .i64 0, .int .i64 0].toArray 38)).alloc (.cells #[.int .i64 0] 29)) (w.heap.size + 1) [.int .i64 0, .int .i64 0, .bool false, .int .i64 0, .slice none 0 0] [.int .i64 0, .int .i64 0, .int .i64 0, .int .i64 0, .int .i64 0, .int .i64 0, .int .i64 0, .int .i64 0] (.int .i64 0) from by
    have e1 : ((w.alloc (.cells #[vI a0, vI a1, vI a2, vI a3, vI a4, vI a5, vI a6, vI a7] 38))).heap.size = w.heap.size + 1 := by simp
    have e2 : ((((w.alloc (.cells #[vI a0, vI a1, vI a2, vI a3, vI a4, vI a5, vI a6, vI a7] 38))).alloc (.cells [.int .i64 0, .int .i64 0, .bool false, .int .i64 0, .slice none 0 0].toArray 26))).heap.size = w.heap.size + 1 + 1 := by simp
    have e3 : ((((((w.alloc (.cells #[vI a0, vI a1, vI a2, vI a3, vI a4, vI a5, vI a6, vI a7] 38))).alloc (.cells [.int .i64 0, .int .i64 0, .bool false, .int .i64 0, .slice none 0 0].toArray 26))).alloc (.cells [.int .i64 0, .int .i64 0, .int .i64 0, .int .i64 0, .int .i64 0, .int .i64 0, .int .i64 0, .int .i64 0].toArray 38))).heap.size = w.heap.size + 1 + 1 + 1 := by simp
    have h1 := ((Blk.made (w.alloc (.cells #[vI a0, vI a1, vI a2, vI a3, vI a4, vI a5, vI a6, vI a7] 38)) [.int .i64 0, .int .i64 0, .bool false, .int .i64 0, .slice none 0 0] 26 (base := w.heap.size) (by simp)).al' (.cells [.int .i64 0, .int .i64 0, .int .i64 0, .int .i64 0, .int .i64 0, .int .i64 0, .int .i64 0, .int .i64 0].toArray 38)).al' (.cells #[.int .i64 0] 29)
    have h2 := (Blk.made (((w.alloc (.cells #[vI a0, vI a1, vI a2, vI a3, vI a4, vI a5, vI a6, vI a7] 38))).alloc (.cells [.int .i64 0, .int .i64 0, .bool false, .int .i64 0, .slice none 0 0].toArray 26)) [.int .i64 0, .int .i64 0, .int .i64 0, .int .i64 0, .int .i64 0, .int .i64 0, .int .i64 0, .int .i64 0] 38 (base := w.heap.size) (by simp; omega)).al' (.cells #[.int .i64 0] 29)
    have h3 := Blk.made (((((w.alloc (.cells #[vI a0, vI a1, vI a2, vI a3, vI a4, vI a5, vI a6, vI a7] 38))).alloc (.cells [.int .i64 0, .int .i64 0, .bool false, .int .i64 0, .slice none 0 0].toArray 26))).alloc (.cells [.int .i64 0, .int .i64 0, .int .i64 0, .int .i64 0, .int .i64 0, .int .i64 0, .int .i64 0, .int .i64 0].toArray 38)) [.int .i64 0] 29 (base := w.heap.size) (by simp; omega)
    rw [e1] at h1
    rw [e2] at h2
    rw [e3] at h3
    exact ⟨h1, h2, h3⟩)
  have BL := Lib.hid bA
  have R := Lib.hid (r.go RdSt.keeps bA hS (Sub.refl _))
  have HS := Lib.hid hS
  have HIN := Lib.hid hin
  clear r hS hin bA
  simp only [List.map]
  go_enter_defers Try.func9, Try.ntmps9
  go_upto_region 1 with (fail)
  generalize ((((w.alloc (.cells #[vI a0, vI a1, vI a2, vI a3, vI a4, vI a5, vI a6, vI a7] 38)).alloc (.cells [.int .i64 0, .int .i64 0, .bool false, .int .i64 0, .slice none 0 0].toArray 26)).alloc (.cells [.int .i64 0, .int .i64 0, .int .i64 0, .int .i64 0, .int .i64 0, .int .i64 0, .int .i64 0, .int .i64 0].toArray 38)).alloc (.cells #[.int .i64 0] 29)) = W0 at *
  go_wp2_with fail
  refine (wrong_any l f W0 S v (HS.out.trans (Sub.upto BL.out.size)) R.out hwt).mono ?_
  rintro e w1 ⟨rfl, hb⟩
  have BL1 := Lib.hid (BL.out.trans (hb.mono BL.out.size))
  have H01 := Lib.hid (H0.out.below hb)
  have HB0 := Lib.hid (show UBx w.heap.size w1 (w.heap.size + 1) [.int .i64 0, .int .i64 0, .bool false, .int .i64 0, .slice none 0 0] [.int .i64 0, .int .i64 0, .int .i64 0, .int .i64 0, .int .i64 0, .int .i64 0, .int .i64 0, .int .i64 0] (.int .i64 0) from ⟨HU.out.1.below hb, HU.out.2.1.below hb, HU.out.2.2.below hb⟩)
  have R1 := Lib.hid (R.out.go RdSt.keeps hb (HS.out.trans (Sub.upto BL.out.size)) (Sub.refl _))
  clear hb BL H0 HU R
  obtain ⟨g, hg⟩ : ∃ g, g = w.heap.size + 1 := ⟨_, rfl⟩
  rw [← hg] at HB0 ⊢
  have hgw : w.heap.size < g := by omega
  have hgn : w.heap.size + 1 = g := hg.symm
  clear hg
  have c0 := H01.out.cell 0 _ rfl; have c1 := H01.out.cell 1 _ rfl; have c2 := H01.out.cell 2 _ rfl; have c3 := H01.out.cell 3 _ rfl; have c4 := H01.out.cell 4 _ rfl; have c5 := H01.out.cell 5 _ rfl; have c6 := H01.out.cell 6 _ rfl; have c7 := H01.out.cell 7 _ rfl
  have u0 := HB0.out.1.cell 0 _ rfl; have u1 := HB0.out.1.cell 1 _ rfl; have u2 := HB0.out.1.cell 2 _ rfl; have u3 := HB0.out.1.cell 3 _ rfl; have u4 := HB0.out.1.cell 4 _ rfl
  have q0 := HB0.out.2.1.cell 0 _ rfl; have q1 := HB0.out.2.1.cell 1 _ rfl; have q2 := HB0.out.2.1.cell 2 _ rfl; have q3 := HB0.out.2.1.cell 3 _ rfl; have q4 := HB0.out.2.1.cell 4 _ rfl; have q5 := HB0.out.2.1.cell 5 _ rfl; have q6 := HB0.out.2.1.cell 6 _ rfl; have q7 := HB0.out.2.1.cell 7 _ rfl
  have x0 := HB0.out.2.2.cell 0 _ rfl
  have uf := HB0.out.1.fr
  have vf := HB0.out.2.1.fr
  have xf := HB0.out.2.2.fr
  by_cases hz : wrongR l f = 0
  · have hzz := wrongR_zero hz
    rw [hz]
    obtain ⟨F, hF⟩ : ∃ F : Nat, f = (F : Int) := ⟨f.toNat, by omega⟩
    subst hF
    have hF2 : F ≤ 2000 := by omega
    have bB : Below w1.heap.size w1 (w1.alloc (.cells #[vI a0, vI a1, vI a2, vI a3, vI a4, vI a5, vI a6, vI a7, vI (F : Int), .int .i64 0] 81)) := (Below.refl _ _).alloc (Nat.le_refl _) _
    have HA := Lib.hid (show BdAt (w1.alloc (.cells #[vI a0, vI a1, vI a2, vI a3, vI a4, vI a5, vI a6, vI a7, vI (F : Int), .int .i64 0] 81)) w1.heap.size F ⟨[a0, a1, a2, a3, a4, a5, a6, a7], 0⟩ from ⟨⟨Blk.made w1 [vI a0, vI a1, vI a2, vI a3, vI a4, vI a5, vI a6, vI a7, vI (F : Int), .int .i64 0] 81 (Nat.zero_le _), rfl, HIN.out⟩, Nat.zero_le _, hF2⟩)
    have HB2 := Lib.hid (show UBx w.heap.size (w1.alloc (.cells #[vI a0, vI a1, vI a2, vI a3, vI a4, vI a5, vI a6, vI a7, vI (F : Int), .int .i64 0] 81)) g [.int .i64 0, .int .i64 0, .bool false, .int .i64 0, .slice none 0 0] [.int .i64 0, .int .i64 0, .int .i64 0, .int .i64 0, .int .i64 0, .int .i64 0, .int .i64 0, .int .i64 0] (.int .i64 0) from ⟨HB0.out.1.below bB, HB0.out.2.1.below bB, HB0.out.2.2.below bB⟩)
    have R2 := Lib.hid (R1.out.go RdSt.keeps bB (HS.out.trans (Sub.upto BL1.out.size)) (Sub.refl _))
    have BL2 := Lib.hid (BL1.out.trans (bB.mono BL1.out.size))
    have hgl := HB0.out.2.2.lt
    have hww := BL1.out.size
    clear bB
    go_upto_region 6 with (fail)
    generalize (w1.alloc (.cells #[vI a0, vI a1, vI a2, vI a3, vI a4, vI a5, vI a6, vI a7, vI (F : Int), .int .i64 0] 81)) = W2 at *
    obtain ⟨d, hd⟩ : ∃ d, d = w1.heap.size := ⟨_, rfl⟩
    rw [← hd] at HA ⊢
    have hgd : g + 1 + 1 < d := by omega
    have hwd : w.heap.size ≤ d := by omega
    clear hd c0 c1 c2 c3 c4 c5 c6 c7 u0 u1 u2 u3 u4 q0 q1 q2 q3 q4 q5 q6 q7 x0 uf vf xf HB0 BL1 R1 H01
    have hlab := labelsL_le l
    have C := Lib.hid (fun res hr => pbu_all F l w.heap.size W2 d ⟨[a0, a1, a2, a3, a4, a5, a6, a7], 0⟩ [] 0 S v (.slice none 0 0) _ (fun m => some (zeroT, m)) HA.out hwd HS.out R2.out (FrX.nil (by simp [maxLen])) (by simp) (thenNothing F d _ W2) (by omega) hwt res hr)
    have hrE : unfE l (F : Int) [a0, a1, a2, a3, a4, a5, a6, a7] = match blU F l [] 0 (fun m => some (zeroT, m)) ⟨[a0, a1, a2, a3, a4, a5, a6, a7], 0⟩ with | some x => (x.1, x.2.h, 0) | none => (zeroT, List.replicate 8 0, 5) := by
      unfold unfE
      rw [if_neg (by simpa using hz), Int.toNat_natCast]
    have nd : ∀ k, k < d → ¬ Is d k := fun k hk e => by have e : k = d := e; omega
    cases hres : blU F l [] 0 (fun m => some (zeroT, m)) ⟨[a0, a1, a2, a3, a4, a5, a6, a7], 0⟩ with
    | none =>
      rw [hres] at hrE
      have HE := Lib.hid hrE
      clear hrE
      go_wp2_with fail
      refine (C.out none hres).mono ?_
      rintro e w4 ⟨rfl, hb⟩
      have HB4 := Lib.hid (show UBx w.heap.size w4 g [.int .i64 0, .int .i64 0, .bool false, .int .i64 0, .slice none 0 0] [.int .i64 0, .int .i64 0, .int .i64 0, .int .i64 0, .int .i64 0, .int .i64 0, .int .i64 0, .int .i64 0] (.int .i64 0) from ⟨HB2.out.1.but hb (nd _ (by omega)), HB2.out.2.1.but hb (nd _ (by omega)), HB2.out.2.2.but hb (nd _ (by omega))⟩)
      have BL4 := Lib.hid (BL2.out.trans (hb.below BL2.out.size (fun k e => by have e2 : k = d := e; omega)))
      clear hb
      go_wp2
      refine leaves_cons (f := 25) (args := #[.pointer (some ⟨g, 0, none⟩), .pointer (some ⟨g + 1, 0, none⟩), .pointer (some ⟨g + 1 + 1, 0, none⟩)]) (by simp) (by simp [go_sem]) ?_
      refine (ucatch_spent w.heap.size g _ _ _ w4 HB4.out rfl rfl).mono ?_
      rintro e u' w'' ⟨rfl, rfl, hbx, hbt⟩
      have u0 := hbx.1.cell 0 _ rfl; have u1 := hbx.1.cell 1 _ rfl; have u2 := hbx.1.cell 2 _ rfl; have u3 := hbx.1.cell 3 _ rfl; have u4 := hbx.1.cell 4 _ rfl
      have q0 := hbx.2.1.cell 0 _ rfl; have q1 := hbx.2.1.cell 1 _ rfl; have q2 := hbx.2.1.cell 2 _ rfl; have q3 := hbx.2.1.cell 3 _ rfl; have q4 := hbx.2.1.cell 4 _ rfl; have q5 := hbx.2.1.cell 5 _ rfl; have q6 := hbx.2.1.cell 6 _ rfl; have q7 := hbx.2.1.cell 7 _ rfl
      have x0 := hbx.2.2.cell 0 _ rfl
      have BB := Lib.hid (BL4.out.trans (hbt.below BL4.out.size (fun k e => by rcases e with e | e | e <;> omega)))
      clear hbx hbt
      simp [Leaves, settle, results, Try.results9, go_sem, u0, u1, u2, u3, u4, q0, q1, q2, q3, q4, q5, q6, q7, x0]
      rw [HE.out]
      exact ⟨⟨_, ⟨rfl, rfl, rfl⟩, FrT.leaf ⟨by decide, by decide⟩ ⟨by decide, by decide⟩ ⟨by decide, by decide⟩⟩, rfl, zero_in, BB.out⟩
    | some x =>
      obtain ⟨t, m1⟩ := x
      rw [hres] at hrE
      have HE := Lib.hid hrE
      clear hrE
      go_wp2_with fail
      refine (C.out (some (t, m1)) hres).mono ?_
      rintro e w4 ⟨⟨V, rfl, hf⟩, ha4, -, hb⟩
      obtain ⟨k5, c5, wr5, lb5, A5, n5, cap5, rfl⟩ := hf.form
      obtain ⟨hh, sn⟩ := m1
      have hsw : w.heap.size ≤ W2.heap.size := BL2.out.size
      have HB4 := Lib.hid (show UBx w.heap.size w4 g [.int .i64 0, .int .i64 0, .bool false, .int .i64 0, .slice none 0 0] [.int .i64 0, .int .i64 0, .int .i64 0, .int .i64 0, .int .i64 0, .int .i64 0, .int .i64 0, .int .i64 0] (.int .i64 0) from ⟨HB2.out.1.but hb (nd _ (by omega)), HB2.out.2.1.but hb (nd _ (by omega)), HB2.out.2.2.but hb (nd _ (by omega))⟩)
      have BL4 := Lib.hid (BL2.out.trans (hb.below BL2.out.size (fun k e => by have e2 : k = d := e; omega)))
      have hgW : g + 1 + 1 < W2.heap.size := HB2.out.2.2.lt
      have HFT := Lib.hid (show FrT (Upto W2.heap.size) w4 t (tmV k5 c5 wr5 lb5 (.slice A5 n5 cap5)) from hf)
      have HA4 := Lib.hid ha4
      have hl8 : hh.length = 8 := ha4.1.2.1
      have hin8 : ∀ x ∈ hh, inI x := ha4.1.2.2
      obtain ⟨y0, y1, y2, y3, y4, y5, y6, y7, rfl⟩ := list8 hl8
      have u0 := HB4.out.1.cell 0 _ rfl; have u1 := HB4.out.1.cell 1 _ rfl; have u2 := HB4.out.1.cell 2 _ rfl; have u3 := HB4.out.1.cell 3 _ rfl; have u4 := HB4.out.1.cell 4 _ rfl
      have uf := HB4.out.1.fr
      clear hf ha4 hb
      go_upto_region 7 with (fail)
      have BF := set5_blk HB4.out.1 (.int .i64 k5) (.int .i64 c5) (.bool wr5) (.int .i64 lb5) (.slice A5 n5 cap5)
      have bg : But (Is g) w4 (((((w4.setCell ⟨g, 0, none⟩ (.int .i64 k5)).setCell ⟨g, 1, none⟩ (.int .i64 c5)).setCell ⟨g, 2, none⟩ (.bool wr5)).setCell ⟨g, 3, none⟩ (.int .i64 lb5)).setCell ⟨g, 4, none⟩ (.slice A5 n5 cap5)) := set5_but (But.refl _ _) (.inl (show Is g g from rfl)) _ _ _ _ _
      have HB0 := Lib.hid (show UBx w.heap.size (((((w4.setCell ⟨g, 0, none⟩ (.int .i64 k5)).setCell ⟨g, 1, none⟩ (.int .i64 c5)).setCell ⟨g, 2, none⟩ (.bool wr5)).setCell ⟨g, 3, none⟩ (.int .i64 lb5)).setCell ⟨g, 4, none⟩ (.slice A5 n5 cap5)) g [.int .i64 k5, .int .i64 c5, .bool wr5, .int .i64 lb5, .slice A5 n5 cap5] [.int .i64 0, .int .i64 0, .int .i64 0, .int .i64 0, .int .i64 0, .int .i64 0, .int .i64 0, .int .i64 0] (.int .i64 0) from ⟨BF, HB4.out.2.1.but bg (fun e => by have e : g + 1 = g := e; omega), HB4.out.2.2.but bg (fun e => by have e : g + 1 + 1 = g := e; omega)⟩)
      have HFT5 := Lib.hid (HFT.out.but (bg.sub (fun k e => by have e : k = g := e; subst e; unfold Upto; omega)))
      have HA5 := Lib.hid (HA4.out.but bg (fun e => by have e : d = g := e; omega))
      have BL5 := Lib.hid (BL4.out.trans (bg.below BL4.out.size (fun k e => by have e : k = g := e; omega)))
      clear u0 u1 u2 u3 u4 uf BF bg HB4 HFT HA4 BL4
      generalize (((((w4.setCell ⟨g, 0, none⟩ (.int .i64 k5)).setCell ⟨g, 1, none⟩ (.int .i64 c5)).setCell ⟨g, 2, none⟩ (.bool wr5)).setCell ⟨g, 3, none⟩ (.int .i64 lb5)).setCell ⟨g, 4, none⟩ (.slice A5 n5 cap5)) = W5 at *
      have u0 := HB0.out.1.cell 0 _ rfl; have u1 := HB0.out.1.cell 1 _ rfl; have u2 := HB0.out.1.cell 2 _ rfl; have u3 := HB0.out.1.cell 3 _ rfl; have u4 := HB0.out.1.cell 4 _ rfl
      have q0 := HB0.out.2.1.cell 0 _ rfl; have q1 := HB0.out.2.1.cell 1 _ rfl; have q2 := HB0.out.2.1.cell 2 _ rfl; have q3 := HB0.out.2.1.cell 3 _ rfl; have q4 := HB0.out.2.1.cell 4 _ rfl; have q5 := HB0.out.2.1.cell 5 _ rfl; have q6 := HB0.out.2.1.cell 6 _ rfl; have q7 := HB0.out.2.1.cell 7 _ rfl
      have x0 := HB0.out.2.2.cell 0 _ rfl
      have uf := HB0.out.1.fr
      have vf := HB0.out.2.1.fr
      have xf := HB0.out.2.2.fr
      have z0 : W5.cell? ⟨d, 0, none⟩ = some (vI y0) := HtAt.cell HA5.out.1 (n := 0) (by decide); have z1 : W5.cell? ⟨d, 1, none⟩ = some (vI y1) := HtAt.cell HA5.out.1 (n := 1) (by decide); have z2 : W5.cell? ⟨d, 2, none⟩ = some (vI y2) := HtAt.cell HA5.out.1 (n := 2) (by decide); have z3 : W5.cell? ⟨d, 3, none⟩ = some (vI y3) := HtAt.cell HA5.out.1 (n := 3) (by decide); have z4 : W5.cell? ⟨d, 4, none⟩ = some (vI y4) := HtAt.cell HA5.out.1 (n := 4) (by decide); have z5 : W5.cell? ⟨d, 5, none⟩ = some (vI y5) := HtAt.cell HA5.out.1 (n := 5) (by decide); have z6 : W5.cell? ⟨d, 6, none⟩ = some (vI y6) := HtAt.cell HA5.out.1 (n := 6) (by decide); have z7 : W5.cell? ⟨d, 7, none⟩ = some (vI y7) := HtAt.cell HA5.out.1 (n := 7) (by decide)
      have hne1 : d ≠ g := by omega
      have hne2 : d ≠ g + 1 := by omega
      have hne3 : d ≠ g + 1 + 1 := by omega
      go_region
      all_goals
        have HBB := Lib.hid (But.refl (fun b => b = g ∨ b = g + 1 ∨ b = g + 1 + 1) W5)
        have HF : UBx w.heap.size (((((((((((((((W5.setCell ⟨g, 0, none⟩ (.int .i64 k5)).setCell ⟨g, 1, none⟩ (.int .i64 c5)).setCell ⟨g, 2, none⟩ (.bool wr5)).setCell ⟨g, 3, none⟩ (.int .i64 lb5)).setCell ⟨g, 4, none⟩ (.slice A5 n5 cap5)).setCell ⟨g + 1, 0, none⟩ (vI y0)).setCell ⟨g + 1, 1, none⟩ (vI y1)).setCell ⟨g + 1, 2, none⟩ (vI y2)).setCell ⟨g + 1, 3, none⟩ (vI y3)).setCell ⟨g + 1, 4, none⟩ (vI y4)).setCell ⟨g + 1, 5, none⟩ (vI y5)).setCell ⟨g + 1, 6, none⟩ (vI y6)).setCell ⟨g + 1, 7, none⟩ (vI y7)).setCell ⟨g + 1 + 1, 0, none⟩ (.int .i64 0)).drew) g [.int .i64 k5, .int .i64 c5, .bool wr5, .int .i64 lb5, .slice A5 n5 cap5] [vI y0, vI y1, vI y2, vI y3, vI y4, vI y5, vI y6, vI y7] (.int .i64 0) := by
          have h : UBx w.heap.size ((((((((((((((W5.setCell ⟨g, 0, none⟩ (.int .i64 k5)).setCell ⟨g, 1, none⟩ (.int .i64 c5)).setCell ⟨g, 2, none⟩ (.bool wr5)).setCell ⟨g, 3, none⟩ (.int .i64 lb5)).setCell ⟨g, 4, none⟩ (.slice A5 n5 cap5)).setCell ⟨g + 1, 0, none⟩ (vI y0)).setCell ⟨g + 1, 1, none⟩ (vI y1)).setCell ⟨g + 1, 2, none⟩ (vI y2)).setCell ⟨g + 1, 3, none⟩ (vI y3)).setCell ⟨g + 1, 4, none⟩ (vI y4)).setCell ⟨g + 1, 5, none⟩ (vI y5)).setCell ⟨g + 1, 6, none⟩ (vI y6)).setCell ⟨g + 1, 7, none⟩ (vI y7)).setCell ⟨g + 1 + 1, 0, none⟩ (.int .i64 0)) g [.int .i64 k5, .int .i64 c5, .bool wr5, .int .i64 lb5, .slice A5 n5 cap5] [vI y0, vI y1, vI y2, vI y3, vI y4, vI y5, vI y6, vI y7] (.int .i64 0) := ⟨(((((((((((((((HB0.out.1).set (i := 0) (by simp) (.int .i64 k5)).set (i := 1) (by simp) (.int .i64 c5)).set (i := 2) (by simp) (.bool wr5)).set (i := 3) (by simp) (.int .i64 lb5)).set (i := 4) (by simp) (.slice A5 n5 cap5)).other (p := ⟨g + 1, 0, none⟩) (by dsimp only; omega) (vI y0)).other (p := ⟨g + 1, 1, none⟩) (by dsimp only; omega) (vI y1)).other (p := ⟨g + 1, 2, none⟩) (by dsimp only; omega) (vI y2)).other (p := ⟨g + 1, 3, none⟩) (by dsimp only; omega) (vI y3)).other (p := ⟨g + 1, 4, none⟩) (by dsimp only; omega) (vI y4)).other (p := ⟨g + 1, 5, none⟩) (by dsimp only; omega) (vI y5)).other (p := ⟨g + 1, 6, none⟩) (by dsimp only; omega) (vI y6)).other (p := ⟨g + 1, 7, none⟩) (by dsimp only; omega) (vI y7)).other (p := ⟨g + 1 + 1, 0, none⟩) (by dsimp only; omega) (.int .i64 0)), (((((((((((((((HB0.out.2.1).other (p := ⟨g, 0, none⟩) (by dsimp only; omega) (.int .i64 k5)).other (p := ⟨g, 1, none⟩) (by dsimp only; omega) (.int .i64 c5)).other (p := ⟨g, 2, none⟩) (by dsimp only; omega) (.bool wr5)).other (p := ⟨g, 3, none⟩) (by dsimp only; omega) (.int .i64 lb5)).other (p := ⟨g, 4, none⟩) (by dsimp only; omega) (.slice A5 n5 cap5)).set (i := 0) (by simp) (vI y0)).set (i := 1) (by simp) (vI y1)).set (i := 2) (by simp) (vI y2)).set (i := 3) (by simp) (vI y3)).set (i := 4) (by simp) (vI y4)).set (i := 5) (by simp) (vI y5)).set (i := 6) (by simp) (vI y6)).set (i := 7) (by simp) (vI y7)).other (p := ⟨g + 1 + 1, 0, none⟩) (by dsimp only; omega) (.int .i64 0)), (((((((((((((((HB0.out.2.2).other (p := ⟨g, 0, none⟩) (by dsimp only; omega) (.int .i64 k5)).other (p := ⟨g, 1, none⟩) (by dsimp only; omega) (.int .i64 c5)).other (p := ⟨g, 2, none⟩) (by dsimp only; omega) (.bool wr5)).other (p := ⟨g, 3, none⟩) (by dsimp only; omega) (.int .i64 lb5)).other (p := ⟨g, 4, none⟩) (by dsimp only; omega) (.slice A5 n5 cap5)).other (p := ⟨g + 1, 0, none⟩) (by dsimp only; omega) (vI y0)).other (p := ⟨g + 1, 1, none⟩) (by dsimp only; omega) (vI y1)).other (p := ⟨g + 1, 2, none⟩) (by dsimp only; omega) (vI y2)).other (p := ⟨g + 1, 3, none⟩) (by dsimp only; omega) (vI y3)).other (p := ⟨g + 1, 4, none⟩) (by dsimp only; omega) (vI y4)).other (p := ⟨g + 1, 5, none⟩) (by dsimp only; omega) (vI y5)).other (p := ⟨g + 1, 6, none⟩) (by dsimp only; omega) (vI y6)).other (p := ⟨g + 1, 7, none⟩) (by dsimp only; omega) (vI y7)).set (i := 0) (by simp) (.int .i64 0))⟩
          exact ⟨h.1.drew, h.2.1.drew, h.2.2.drew⟩
        have HT := Lib.hid (show But (fun b => b = g ∨ b = g + 1 ∨ b = g + 1 + 1) W5 (((((((((((((((W5.setCell ⟨g, 0, none⟩ (.int .i64 k5)).setCell ⟨g, 1, none⟩ (.int .i64 c5)).setCell ⟨g, 2, none⟩ (.bool wr5)).setCell ⟨g, 3, none⟩ (.int .i64 lb5)).setCell ⟨g, 4, none⟩ (.slice A5 n5 cap5)).setCell ⟨g + 1, 0, none⟩ (vI y0)).setCell ⟨g + 1, 1, none⟩ (vI y1)).setCell ⟨g + 1, 2, none⟩ (vI y2)).setCell ⟨g + 1, 3, none⟩ (vI y3)).setCell ⟨g + 1, 4, none⟩ (vI y4)).setCell ⟨g + 1, 5, none⟩ (vI y5)).setCell ⟨g + 1, 6, none⟩ (vI y6)).setCell ⟨g + 1, 7, none⟩ (vI y7)).setCell ⟨g + 1 + 1, 0, none⟩ (.int .i64 0)).drew) from (((((((((((((((HBB.out.setCell (p := ⟨g, 0, none⟩) (.inl rfl) (.int .i64 k5)).setCell (p := ⟨g, 1, none⟩) (.inl rfl) (.int .i64 c5)).setCell (p := ⟨g, 2, none⟩) (.inl rfl) (.bool wr5)).setCell (p := ⟨g, 3, none⟩) (.inl rfl) (.int .i64 lb5)).setCell (p := ⟨g, 4, none⟩) (.inl rfl) (.slice A5 n5 cap5)).setCell (p := ⟨g + 1, 0, none⟩) (.inr (.inl rfl)) (vI y0)).setCell (p := ⟨g + 1, 1, none⟩) (.inr (.inl rfl)) (vI y1)).setCell (p := ⟨g + 1, 2, none⟩) (.inr (.inl rfl)) (vI y2)).setCell (p := ⟨g + 1, 3, none⟩) (.inr (.inl rfl)) (vI y3)).setCell (p := ⟨g + 1, 4, none⟩) (.inr (.inl rfl)) (vI y4)).setCell (p := ⟨g + 1, 5, none⟩) (.inr (.inl rfl)) (vI y5)).setCell (p := ⟨g + 1, 6, none⟩) (.inr (.inl rfl)) (vI y6)).setCell (p := ⟨g + 1, 7, none⟩) (.inr (.inl rfl)) (vI y7)).setCell (p := ⟨g + 1 + 1, 0, none⟩) (.inr (.inr rfl)) (.int .i64 0))).drew)
        have BB := Lib.hid (BL5.out.trans (HT.out.below BL5.out.size (fun k e => by rcases e with e | e | e <;> omega)))
        have HFF := Lib.hid (HFT5.out.but (HT.out.sub (fun k e => by rcases e with e | e | e <;> (subst e; unfold Upto; omega))))
        clear u0 u1 u2 u3 u4 q0 q1 q2 q3 q4 q5 q6 q7 z0 z1 z2 z3 z4 z5 z6 z7 x0 uf vf xf HB0 HBB HT
        generalize (((((((((((((((W5.setCell ⟨g, 0, none⟩ (.int .i64 k5)).setCell ⟨g, 1, none⟩ (.int .i64 c5)).setCell ⟨g, 2, none⟩ (.bool wr5)).setCell ⟨g, 3, none⟩ (.int .i64 lb5)).setCell ⟨g, 4, none⟩ (.slice A5 n5 cap5)).setCell ⟨g + 1, 0, none⟩ (vI y0)).setCell ⟨g + 1, 1, none⟩ (vI y1)).setCell ⟨g + 1, 2, none⟩ (vI y2)).setCell ⟨g + 1, 3, none⟩ (vI y3)).setCell ⟨g + 1, 4, none⟩ (vI y4)).setCell ⟨g + 1, 5, none⟩ (vI y5)).setCell ⟨g + 1, 6, none⟩ (vI y6)).setCell ⟨g + 1, 7, none⟩ (vI y7)).setCell ⟨g + 1 + 1, 0, none⟩ (.int .i64 0)).drew) = WF at *
        have u0 := HF.1.cell 0 _ rfl; have u1 := HF.1.cell 1 _ rfl; have u2 := HF.1.cell 2 _ rfl; have u3 := HF.1.cell 3 _ rfl; have u4 := HF.1.cell 4 _ rfl
        have q0 := HF.2.1.cell 0 _ rfl; have q1 := HF.2.1.cell 1 _ rfl; have q2 := HF.2.1.cell 2 _ rfl; have q3 := HF.2.1.cell 3 _ rfl; have q4 := HF.2.1.cell 4 _ rfl; have q5 := HF.2.1.cell 5 _ rfl; have q6 := HF.2.1.cell 6 _ rfl; have q7 := HF.2.1.cell 7 _ rfl
        have x0 := HF.2.2.cell 0 _ rfl
        go_wp2
        refine leaves_cons (f := 25) (args := #[.pointer (some ⟨g, 0, none⟩), .pointer (some ⟨g + 1, 0, none⟩), .pointer (some ⟨g + 1 + 1, 0, none⟩)]) (by simp) (by simp [go_sem]) ?_
        refine (ucatch_idle _ _ _ _).mono ?_
        rintro e u' w'' ⟨rfl, rfl, rfl⟩
        simp [Leaves, settle, results, Try.results9, go_sem, u0, u1, u2, u3, u4, q0, q1, q2, q3, q4, q5, q6, q7, x0]
        rw [HE.out]
        exact ⟨⟨_, ⟨rfl, rfl, rfl⟩, HFF.out.fewer (Sub.upto hsw)⟩, rfl, hin8, BB.out⟩
  · clear c0 c1 c2 c3 c4 c5 c6 c7
    have hz2 : (wrongR l f != 0) = true := by simpa using hz
    go_upto_region 3 with (fail)
    go_region
    have HBB := Lib.hid (But.refl (fun b => b = g ∨ b = g + 1 ∨ b = g + 1 + 1) w1)
    have HF : UBx w.heap.size (((((((((((((((w1.setCell ⟨g, 0, none⟩ (.int .i64 0)).setCell ⟨g, 1, none⟩ (.int .i64 0)).setCell ⟨g, 2, none⟩ (.bool false)).setCell ⟨g, 3, none⟩ (.int .i64 0)).setCell ⟨g, 4, none⟩ (.slice none 0 0)).setCell ⟨g + 1, 0, none⟩ (.int .i64 0)).setCell ⟨g + 1, 1, none⟩ (.int .i64 0)).setCell ⟨g + 1, 2, none⟩ (.int .i64 0)).setCell ⟨g + 1, 3, none⟩ (.int .i64 0)).setCell ⟨g + 1, 4, none⟩ (.int .i64 0)).setCell ⟨g + 1, 5, none⟩ (.int .i64 0)).setCell ⟨g + 1, 6, none⟩ (.int .i64 0)).setCell ⟨g + 1, 7, none⟩ (.int .i64 0)).setCell ⟨g + 1 + 1, 0, none⟩ (.int .i64 (wrongR l f))).drew) g [.int .i64 0, .int .i64 0, .bool false, .int .i64 0, .slice none 0 0] [.int .i64 0, .int .i64 0, .int .i64 0, .int .i64 0, .int .i64 0, .int .i64 0, .int .i64 0, .int .i64 0] (.int .i64 (wrongR l f)) := by
      have h : UBx w.heap.size ((((((((((((((w1.setCell ⟨g, 0, none⟩ (.int .i64 0)).setCell ⟨g, 1, none⟩ (.int .i64 0)).setCell ⟨g, 2, none⟩ (.bool false)).setCell ⟨g, 3, none⟩ (.int .i64 0)).setCell ⟨g, 4, none⟩ (.slice none 0 0)).setCell ⟨g + 1, 0, none⟩ (.int .i64 0)).setCell ⟨g + 1, 1, none⟩ (.int .i64 0)).setCell ⟨g + 1, 2, none⟩ (.int .i64 0)).setCell ⟨g + 1, 3, none⟩ (.int .i64 0)).setCell ⟨g + 1, 4, none⟩ (.int .i64 0)).setCell ⟨g + 1, 5, none⟩ (.int .i64 0)).setCell ⟨g + 1, 6, none⟩ (.int .i64 0)).setCell ⟨g + 1, 7, none⟩ (.int .i64 0)).setCell ⟨g + 1 + 1, 0, none⟩ (.int .i64 (wrongR l f))) g [.int .i64 0, .int .i64 0, .bool false, .int .i64 0, .slice none 0 0] [.int .i64 0, .int .i64 0, .int .i64 0, .int .i64 0, .int .i64 0, .int .i64 0, .int .i64 0, .int .i64 0] (.int .i64 (wrongR l f)) := ⟨(((((((((((((((HB0.out.1).set (i := 0) (by simp) (.int .i64 0)).set (i := 1) (by simp) (.int .i64 0)).set (i := 2) (by simp) (.bool false)).set (i := 3) (by simp) (.int .i64 0)).set (i := 4) (by simp) (.slice none 0 0)).other (p := ⟨g + 1, 0, none⟩) (by dsimp only; omega) (.int .i64 0)).other (p := ⟨g + 1, 1, none⟩) (by dsimp only; omega) (.int .i64 0)).other (p := ⟨g + 1, 2, none⟩) (by dsimp only; omega) (.int .i64 0)).other (p := ⟨g + 1, 3, none⟩) (by dsimp only; omega) (.int .i64 0)).other (p := ⟨g + 1, 4, none⟩) (by dsimp only; omega) (.int .i64 0)).other (p := ⟨g + 1, 5, none⟩) (by dsimp only; omega) (.int .i64 0)).other (p := ⟨g + 1, 6, none⟩) (by dsimp only; omega) (.int .i64 0)).other (p := ⟨g + 1, 7, none⟩) (by dsimp only; omega) (.int .i64 0)).other (p := ⟨g + 1 + 1, 0, none⟩) (by dsimp only; omega) (.int .i64 (wrongR l f))), (((((((((((((((HB0.out.2.1).other (p := ⟨g, 0, none⟩) (by dsimp only; omega) (.int .i64 0)).other (p := ⟨g, 1, none⟩) (by dsimp only; omega) (.int .i64 0)).other (p := ⟨g, 2, none⟩) (by dsimp only; omega) (.bool false)).other (p := ⟨g, 3, none⟩) (by dsimp only; omega) (.int .i64 0)).other (p := ⟨g, 4, none⟩) (by dsimp only; omega) (.slice none 0 0)).set (i := 0) (by simp) (.int .i64 0)).set (i := 1) (by simp) (.int .i64 0)).set (i := 2) (by simp) (.int .i64 0)).set (i := 3) (by simp) (.int .i64 0)).set (i := 4) (by simp) (.int .i64 0)).set (i := 5) (by simp) (.int .i64 0)).set (i := 6) (by simp) (.int .i64 0)).set (i := 7) (by simp) (.int .i64 0)).other (p := ⟨g + 1 + 1, 0, none⟩) (by dsimp only; omega) (.int .i64 (wrongR l f))), (((((((((((((((HB0.out.2.2).other (p := ⟨g, 0, none⟩) (by dsimp only; omega) (.int .i64 0)).other (p := ⟨g, 1, none⟩) (by dsimp only; omega) (.int .i64 0)).other (p := ⟨g, 2, none⟩) (by dsimp only; omega) (.bool false)).other (p := ⟨g, 3, none⟩) (by dsimp only; omega) (.int .i64 0)).other (p := ⟨g, 4, none⟩) (by dsimp only; omega) (.slice none 0 0)).other (p := ⟨g + 1, 0, none⟩) (by dsimp only; omega) (.int .i64 0)).other (p := ⟨g + 1, 1, none⟩) (by dsimp only; omega) (.int .i64 0)).other (p := ⟨g + 1, 2, none⟩) (by dsimp only; omega) (.int .i64 0)).other (p := ⟨g + 1, 3, none⟩) (by dsimp only; omega) (.int .i64 0)).other (p := ⟨g + 1, 4, none⟩) (by dsimp only; omega) (.int .i64 0)).other (p := ⟨g + 1, 5, none⟩) (by dsimp only; omega) (.int .i64 0)).other (p := ⟨g + 1, 6, none⟩) (by dsimp only; omega) (.int .i64 0)).other (p := ⟨g + 1, 7, none⟩) (by dsimp only; omega) (.int .i64 0)).set (i := 0) (by simp) (.int .i64 (wrongR l f)))⟩
      exact ⟨h.1.drew, h.2.1.drew, h.2.2.drew⟩
    have HT := Lib.hid (show But (fun b => b = g ∨ b = g + 1 ∨ b = g + 1 + 1) w1 (((((((((((((((w1.setCell ⟨g, 0, none⟩ (.int .i64 0)).setCell ⟨g, 1, none⟩ (.int .i64 0)).setCell ⟨g, 2, none⟩ (.bool false)).setCell ⟨g, 3, none⟩ (.int .i64 0)).setCell ⟨g, 4, none⟩ (.slice none 0 0)).setCell ⟨g + 1, 0, none⟩ (.int .i64 0)).setCell ⟨g + 1, 1, none⟩ (.int .i64 0)).setCell ⟨g + 1, 2, none⟩ (.int .i64 0)).setCell ⟨g + 1, 3, none⟩ (.int .i64 0)).setCell ⟨g + 1, 4, none⟩ (.int .i64 0)).setCell ⟨g + 1, 5, none⟩ (.int .i64 0)).setCell ⟨g + 1, 6, none⟩ (.int .i64 0)).setCell ⟨g + 1, 7, none⟩ (.int .i64 0)).setCell ⟨g + 1 + 1, 0, none⟩ (.int .i64 (wrongR l f))).drew) from (((((((((((((((HBB.out.setCell (p := ⟨g, 0, none⟩) (.inl rfl) (.int .i64 0)).setCell (p := ⟨g, 1, none⟩) (.inl rfl) (.int .i64 0)).setCell (p := ⟨g, 2, none⟩) (.inl rfl) (.bool false)).setCell (p := ⟨g, 3, none⟩) (.inl rfl) (.int .i64 0)).setCell (p := ⟨g, 4, none⟩) (.inl rfl) (.slice none 0 0)).setCell (p := ⟨g + 1, 0, none⟩) (.inr (.inl rfl)) (.int .i64 0)).setCell (p := ⟨g + 1, 1, none⟩) (.inr (.inl rfl)) (.int .i64 0)).setCell (p := ⟨g + 1, 2, none⟩) (.inr (.inl rfl)) (.int .i64 0)).setCell (p := ⟨g + 1, 3, none⟩) (.inr (.inl rfl)) (.int .i64 0)).setCell (p := ⟨g + 1, 4, none⟩) (.inr (.inl rfl)) (.int .i64 0)).setCell (p := ⟨g + 1, 5, none⟩) (.inr (.inl rfl)) (.int .i64 0)).setCell (p := ⟨g + 1, 6, none⟩) (.inr (.inl rfl)) (.int .i64 0)).setCell (p := ⟨g + 1, 7, none⟩) (.inr (.inl rfl)) (.int .i64 0)).setCell (p := ⟨g + 1 + 1, 0, none⟩) (.inr (.inr rfl)) (.int .i64 (wrongR l f)))).drew)
    have BB := Lib.hid (BL1.out.trans (HT.out.below BL1.out.size (fun k e => by rcases e with e | e | e <;> omega)))
    clear u0 u1 u2 u3 u4 q0 q1 q2 q3 q4 q5 q6 q7 x0 uf vf xf HB0
    generalize (((((((((((((((w1.setCell ⟨g, 0, none⟩ (.int .i64 0)).setCell ⟨g, 1, none⟩ (.int .i64 0)).setCell ⟨g, 2, none⟩ (.bool false)).setCell ⟨g, 3, none⟩ (.int .i64 0)).setCell ⟨g, 4, none⟩ (.slice none 0 0)).setCell ⟨g + 1, 0, none⟩ (.int .i64 0)).setCell ⟨g + 1, 1, none⟩ (.int .i64 0)).setCell ⟨g + 1, 2, none⟩ (.int .i64 0)).setCell ⟨g + 1, 3, none⟩ (.int .i64 0)).setCell ⟨g + 1, 4, none⟩ (.int .i64 0)).setCell ⟨g + 1, 5, none⟩ (.int .i64 0)).setCell ⟨g + 1, 6, none⟩ (.int .i64 0)).setCell ⟨g + 1, 7, none⟩ (.int .i64 0)).setCell ⟨g + 1 + 1, 0, none⟩ (.int .i64 (wrongR l f))).drew) = WF at *
    have u0 := HF.1.cell 0 _ rfl; have u1 := HF.1.cell 1 _ rfl; have u2 := HF.1.cell 2 _ rfl; have u3 := HF.1.cell 3 _ rfl; have u4 := HF.1.cell 4 _ rfl
    have q0 := HF.2.1.cell 0 _ rfl; have q1 := HF.2.1.cell 1 _ rfl; have q2 := HF.2.1.cell 2 _ rfl; have q3 := HF.2.1.cell 3 _ rfl; have q4 := HF.2.1.cell 4 _ rfl; have q5 := HF.2.1.cell 5 _ rfl; have q6 := HF.2.1.cell 6 _ rfl; have q7 := HF.2.1.cell 7 _ rfl
    have x0 := HF.2.2.cell 0 _ rfl
    have HE := Lib.hid (show unfE l f [a0, a1, a2, a3, a4, a5, a6, a7] = (zeroT, List.replicate 8 0, wrongR l f) by unfold unfE; rw [if_pos (by simpa using hz)])
    go_wp2
    simp [bodyPostD, Leaves, results, Try.results9, go_sem, u0, u1, u2, u3, u4, q0, q1, q2, q3, q4, q5, q6, q7, x0]
    rw [HE.out]
    exact ⟨⟨_, ⟨rfl, rfl, rfl⟩, FrT.leaf ⟨by decide, by decide⟩ ⟨by decide, by decide⟩ ⟨by decide, by decide⟩⟩, rfl, zero_in, BB.out⟩
end Go.Proofs.Ytdelngmbpjgphaa
