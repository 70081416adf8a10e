/- The walks of serial.Wrong and serial.run. -/
import Derived.Test.YtdelngmbpjgphaaSr4
import Derived.Test.YtdelngmbpjgphaaScLf
import Derived.Defers
import Derived.Recover
namespace Go.Proofs.Ytdelngmbpjgphaa
open Go.RowKit
set_option linter.unusedVariables false
/-- what is wrong ahead of a run -/
def wrongR (l : List St) (f : Int) : Int := if lfree l [] ≠ [] then 4 else if f < 0 ∨ 2000 < f then 2 else 0
theorem wrongR_zero {l : List St} {f : Int} (h : wrongR l f = 0) : 0 ≤ f ∧ f ≤ 2000 := by
  unfold wrongR at h
  split at h
  · cases h
  · split at h
    · cases h
    · omega
theorem len_pos {α : Type} {l : List α} (h : l ≠ []) : 0 < l.length := by cases l with | nil => exact absurd rfl h | cons => simp
set_option maxHeartbeats 400000 in
theorem wrong_any (l : List St) (f : Int) (w : World) (S : Blocks) (v : Value) (hS : Sub S (Upto w.heap.size)) (r : RdSts w S l v) (hwt : St.wts l ≤ 1048576) :
    Calls Try.prog 16 #[v, vI f] w fun e w' => e = .returned (vI (wrongR l f)) ∧ Below w.heap.size w w' := by
  have C := Lib.hid (free_any l w S v hS r hwt)
  have HW := Lib.hid (show wrongR l f = if lfree l [] ≠ [] then 4 else if f < 0 ∨ 2000 < f then 2 else 0 from rfl)
  clear r hS
  go_enter Try.func16, Try.ntmps16
  go_wp2_with fail
  refine C.out.mono ?_
  rintro e w1 ⟨x, rfl, hx, hb⟩
  obtain ⟨A, c, rfl, -⟩ := hx.form
  clear hx
  by_cases hl : lfree l [] = []
  · have hl0 : (lfree l []).length = 0 := by rw [hl]; rfl
    rw [hl0]
    rw [if_neg (by simpa using hl)] at HW
    by_cases h0 : f < 0
    · rw [if_pos (.inl h0)] at HW
      go_wp2
      go_ret
      exact ⟨by rw [HW.out]; rfl, hb⟩
    · by_cases h2 : 2000 < f
      · rw [if_pos (.inr h2)] at HW
        go_wp2
        go_ret
        exact ⟨by rw [HW.out]; rfl, hb⟩
      · rw [if_neg (by omega)] at HW
        go_wp2
        go_ret
        exact ⟨by rw [HW.out]; rfl, hb⟩
  · have hl0 : 0 < (lfree l []).length := len_pos hl
    have hl1 : (0 : Int) < ((lfree l []).length : Int) := by omega
    rw [if_pos hl] at HW
    go_wp2
    go_ret
    exact ⟨by rw [HW.out]; rfl, hb⟩
/-- what a run gives: the heap, the steps, the accesses, what was wrong -/
def runE (l : List St) (f : Int) (h : List Int) : MS × Int :=
  if wrongR l f ≠ 0 then (⟨List.replicate 8 0, 0, []⟩, wrongR l f)
  else match blR f.toNat l [] 0 ⟨h, 0, []⟩ with
    | some m => (m, 0)
    | none => (⟨List.replicate 8 0, 0, []⟩, 5)
theorem zero_at (w : World) (base : Nat) (hb : base ≤ w.heap.size) : HpAt base (w.alloc (.cells #[.int .i64 0, .int .i64 0, .int .i64 0, .int .i64 0, .int .i64 0, .int .i64 0, .int .i64 0, .int .i64 0, .int .i64 0, .int .i64 0, .slice none 0 0] 94)) w.heap.size (Is w.heap.size) [vI 0, vI 0] (List.replicate 8 0) [] :=
  ⟨.slice none 0 0, Blk.made w _ 94 hb, rfl, fun x hx => by rw [List.eq_of_mem_replicate hx]; exact ⟨by decide, by decide⟩, OwnL.nil _ _ _, rfl, fun b hb2 => by have e : b = w.heap.size := hb2; subst e; exact ⟨hb, by simp⟩, fun k hk => by cases hk⟩
/-- the closure that recovers, of a frame that returns -/
theorem catch_idle (p q : Addr) (w : World) :
    CallsD Try.prog 52 #[.pointer (some p), .pointer (some q)] .returning w fun e u' w' => e = .returned (.tuple #[]) ∧ u' = .returning ∧ w' = w := by
  refine callsD_of_wpS Try.func52 rfl fun c₀ cs hu => ?_
  apply wpS_seq
  apply wpS_region
  simp [wpOpsS, go_sem, recoverD, hu, Try.ntmps52, Exit.thenS]
  apply wpS_seq
  apply wpS_region
  simp [wpOpsS, go_sem, Exit.thenS]
  refine wpS_cond (t := false) (by simp [Act.eval, Array.replicate]) ?_
  simp only [Bool.false_eq_true, if_false]
  refine wpS_of_wp (wp_skip ?_)
  cases c₀
  simp_all [bodyPostS, results, Try.results52]
set_option maxRecDepth 100000 in
/-- the same, of a frame that ends for lack of fuel -/
theorem catch_spent (b1 b2 : Nat) (v0 v1 : Value) (w : World) (hne : b1 ≠ b2) (hp : w.cell? ⟨b1, 0, none⟩ = some v0) (hq : w.cell? ⟨b2, 0, none⟩ = some v1) (fp : w.frozen? ⟨b1, 0, none⟩ = false) (fq : w.frozen? ⟨b2, 0, none⟩ = false) :
    CallsD Try.prog 52 #[.pointer (some ⟨b1, 0, none⟩), .pointer (some ⟨b2, 0, none⟩)] (.panicking spentE) w fun e u' w' =>
      e = .returned (.tuple #[]) ∧ u' = .panicking [{ v := .iface 127 (.agg #[]), recovered := true }] ∧ w' = (((w.setCell ⟨b1, 0, none⟩ (.pointer (some ⟨w.heap.size + 1, 0, none⟩))).setCell ⟨b2, 0, none⟩ (vI 5)).alloc (.cells #[] 127)).alloc (.cells #[.int .i64 0, .int .i64 0, .int .i64 0, .int .i64 0, .int .i64 0, .int .i64 0, .int .i64 0, .int .i64 0, .int .i64 0, .int .i64 0, .slice none 0 0] 94) := by
  have hlt1 : b1 < w.heap.size := World.block_lt_of_cell? w _ hp
  have hlt2 : b2 < w.heap.size := World.block_lt_of_cell? w _ hq
  have hta : ∀ w, (Instr.typeAssert (.iface 127 (.agg #[])) 20 127 true).run Try.prog w = .ok (.tuple #[.agg #[], .bool true]) w := fun w => by kernel_rfl
  refine callsD_of_wpS Try.func52 rfl fun c₀ cs hu => ?_
  apply wpS_seq
  apply wpS_region
  simp [wpOpsS, go_sem, recoverD, hu, Try.ntmps52, Exit.thenS]
  apply wpS_seq
  apply wpS_region
  simp [wpOpsS, go_sem, Exit.thenS]
  refine wpS_cond (t := true) (by simp [Act.eval, Array.replicate]) ?_
  simp only [if_true]
  refine wpS_of_wp ?_
  simp only [Array.replicate_succ, Array.replicate_zero, List.push_toArray, List.append_toArray, List.nil_append, List.cons_append, List.setIfInBounds_toArray, List.set_cons_zero, List.set_cons_succ]
  go_wp2
  simp [bodyPostS, results, Try.results52]
set_option maxHeartbeats 2000000 in
set_option maxRecDepth 100000 in
theorem run_any (l : List St) (f : Int) (h : List Int) (w : World) (S : Blocks) (v : Value) (hS : Sub S (Upto w.heap.size)) (r : RdSts w S l v) (hwt : St.wts l ≤ 1048576) (hl8 : h.length = 8) (hin : ∀ x ∈ h, inI x) :
    Calls Try.prog 30 #[v, .agg (h.map vI).toArray, vI f] w fun e w' => ∃ d X z, e = .returned (.tuple #[.pointer (some ⟨d, 0, none⟩), vI (runE l f h).2]) ∧ HpAt w.heap.size w' d X [z, vI ((runE l f h).1.st : Int)] (runE l f h).1.h (runE l f h).1.tr ∧ (runE l f h).1.tr.length ≤ 2000 ∧ Below w.heap.size w w' := by
  obtain ⟨a0, a1, a2, a3, a4, a5, a6, a7, rfl⟩ := list8 hl8
  have hmf : ∀ (fn : Fn) (first cap : Array Value) (w : World), (Instr.makeFunc fn first cap).run Try.prog w = .ok (.func fn first cap) w := fun _ _ _ _ => rfl
  have bA : Below w.heap.size w (((w.alloc (.cells #[vI a0, vI a1, vI a2, vI a3, vI a4, vI a5, vI a6, vI a7] 38)).alloc (.cells #[.pointer none] 90)).alloc (.cells #[.int .i64 0] 29)) := (((Below.refl _ _).alloc (Nat.le_refl _) _).alloc (by simp) _).alloc (by simp; omega) _
  have B0 := (Blk.made w [vI a0, vI a1, vI a2, vI a3, vI a4, vI a5, vI a6, vI a7] 38 (base := 0) (Nat.zero_le _)).below (w' := (((w.alloc (.cells #[vI a0, vI a1, vI a2, vI a3, vI a4, vI a5, vI a6, vI a7] 38)).alloc (.cells #[.pointer none] 90)).alloc (.cells #[.int .i64 0] 29))) (((Below.refl _ _).alloc (Nat.le_refl _) _).alloc (by simp) _)
  have B1 := (Blk.made (w.alloc (.cells #[vI a0, vI a1, vI a2, vI a3, vI a4, vI a5, vI a6, vI a7] 38)) [.pointer none] 90 (base := w.heap.size) (by simp)).below (w' := (((w.alloc (.cells #[vI a0, vI a1, vI a2, vI a3, vI a4, vI a5, vI a6, vI a7] 38)).alloc (.cells #[.pointer none] 90)).alloc (.cells #[.int .i64 0] 29))) ((Below.refl _ _).alloc (Nat.le_refl _) _)
  have B2 := Blk.made ((w.alloc (.cells #[vI a0, vI a1, vI a2, vI a3, vI a4, vI a5, vI a6, vI a7] 38)).alloc (.cells #[.pointer none] 90)) [.int .i64 0] 29 (base := w.heap.size) (by simp; omega)
  rw [show (w.alloc (.cells #[vI a0, vI a1, vI a2, vI a3, vI a4, vI a5, vI a6, vI a7] 38)).heap.size = w.heap.size + 1 by simp] at B1
  rw [show ((w.alloc (.cells #[vI a0, vI a1, vI a2, vI a3, vI a4, vI a5, vI a6, vI a7] 38)).alloc (.cells #[.pointer none] 90)).heap.size = w.heap.size + 1 + 1 by simp] at B2
  have BL := Lib.hid bA
  have H0 := Lib.hid B0
  have H1 := Lib.hid B1
  have H2 := Lib.hid B2
  have R := Lib.hid (r.go RdSt.keeps bA hS (Sub.refl _))
  have HS := Lib.hid hS
  have HIN := Lib.hid hin
  clear r hS hin bA B0 B1 B2
  simp only [List.map]
  go_enter_defers Try.func30, Try.ntmps30
  go_upto_region 1 with (fail)
  generalize (((w.alloc (.cells #[vI a0, vI a1, vI a2, vI a3, vI a4, vI a5, vI a6, vI a7] 38)).alloc (.cells #[.pointer none] 90)).alloc (.cells #[.int .i64 0] 29)) = W0 at *
  go_wp2_with fail
  refine (wrong_any l f W0 S v (HS.out.trans (Sub.upto BL.out.size)) R.out hwt).mono ?_
  rintro e w1 ⟨rfl, hb⟩
  have BL1 := Lib.hid (BL.out.trans (hb.mono BL.out.size))
  have H01 := Lib.hid (H0.out.below hb)
  have H11 := Lib.hid (H1.out.below hb)
  have H21 := Lib.hid (H2.out.below hb)
  have R1 := Lib.hid (R.out.go RdSt.keeps hb (HS.out.trans (Sub.upto BL.out.size)) (Sub.refl _))
  clear hb BL H0 H1 H2 R
  have c0 := H01.out.cell 0 _ rfl; have c1 := H01.out.cell 1 _ rfl; have c2 := H01.out.cell 2 _ rfl; have c3 := H01.out.cell 3 _ rfl; have c4 := H01.out.cell 4 _ rfl; have c5 := H01.out.cell 5 _ rfl; have c6 := H01.out.cell 6 _ rfl; have c7 := H01.out.cell 7 _ rfl
  have r0 := H11.out.cell 0 _ rfl
  have e0 := H21.out.cell 0 _ rfl
  have rf := H11.out.fr 0
  have ef := H21.out.fr 0
  have r0a := fun o => (H11.out.below ((Below.refl _ _).alloc (Nat.le_refl _) o)).cell 0 _ rfl
  have rfa := fun o => (H11.out.below ((Below.refl _ _).alloc (Nat.le_refl _) o)).fr 0
  have e0a := fun o => (H21.out.below ((Below.refl _ _).alloc (Nat.le_refl _) o)).cell 0 _ rfl
  have efa := fun o => (H21.out.below ((Below.refl _ _).alloc (Nat.le_refl _) o)).fr 0
  have hzl : w.heap.size + 1 + 1 < w1.heap.size := H21.out.lt
  by_cases hz : wrongR l f = 0
  · have hzz := wrongR_zero hz
    rw [hz]
    obtain ⟨F, hF⟩ : ∃ F : Nat, f = (F : Int) := ⟨f.toNat, by omega⟩
    subst hF
    have hF2 : F ≤ 2000 := by omega
    have bB : Below w1.heap.size w1 (w1.alloc (.cells #[vI a0, vI a1, vI a2, vI a3, vI a4, vI a5, vI a6, vI a7, vI (F : Int), .int .i64 0, .slice none 0 0] 94)) := (Below.refl _ _).alloc (Nat.le_refl _) _
    have H12 := H11.out.below bB
    have hne : w.heap.size + 1 ≠ w1.heap.size := by omega
    have HP : HpAt w.heap.size (((w1.alloc (.cells #[vI a0, vI a1, vI a2, vI a3, vI a4, vI a5, vI a6, vI a7, vI (F : Int), .int .i64 0, .slice none 0 0] 94))).setCell ⟨w.heap.size + 1, 0, none⟩ (.pointer (some ⟨w1.heap.size, 0, none⟩))) w1.heap.size (Is w1.heap.size) [vI (F : Int), vI ((0 : Nat) : Int)] [a0, a1, a2, a3, a4, a5, a6, a7] [] := by
      refine HpAt.but (T := Is (w.heap.size + 1)) (w := (w1.alloc (.cells #[vI a0, vI a1, vI a2, vI a3, vI a4, vI a5, vI a6, vI a7, vI (F : Int), .int .i64 0, .slice none 0 0] 94))) ⟨.slice none 0 0, Blk.made w1 _ 94 BL1.out.size, rfl, HIN.out, OwnL.nil _ _ _, rfl, fun b hb2 => by have e : b = w1.heap.size := hb2; subst e; exact ⟨BL1.out.size, by simp⟩, fun k hk => by cases hk⟩ ((But.refl (Is (w.heap.size + 1)) _).setCell (p := ⟨w.heap.size + 1, 0, none⟩) rfl _) ?_
      intro b hb e
      have e1 : b = w1.heap.size := hb
      have e2 : b = w.heap.size + 1 := e
      omega
    have hbut : But (Is (w.heap.size + 1)) w1 (((w1.alloc (.cells #[vI a0, vI a1, vI a2, vI a3, vI a4, vI a5, vI a6, vI a7, vI (F : Int), .int .i64 0, .slice none 0 0] 94))).setCell ⟨w.heap.size + 1, 0, none⟩ (.pointer (some ⟨w1.heap.size, 0, none⟩))) := (But.of_below (T := Is (w.heap.size + 1)) bB).setCell (p := ⟨w.heap.size + 1, 0, none⟩) rfl _
    have HPH := Lib.hid HP
    have HBT := Lib.hid hbut
    have H13 := Lib.hid (H12.set (i := 0) (by simp) (.pointer (some ⟨w1.heap.size, 0, none⟩)))
    have H23 := Lib.hid (H21.out.but hbut (fun e => by have e2 : w.heap.size + 1 + 1 = w.heap.size + 1 := e; omega))
    have hsz3 := hbut.size
    clear H12 HP hbut bB
    go_upto_region 6 with (fail)
    have R3 := Lib.hid (R1.out.keep RdSt.keeps (Sub.refl _) (HBT.out.same (HS.out.trans (Sub.upto BL1.out.size)) (fun k hk e => by have e2 : k = w.heap.size + 1 := e; have := HS.out k hk; simp only [Upto] at this; omega)))
    have BL3 := Lib.hid (BL1.out.trans (HBT.out.below BL1.out.size (fun k e => by have e2 : k = w.heap.size + 1 := e; omega)))
    generalize (((w1.alloc (.cells #[vI a0, vI a1, vI a2, vI a3, vI a4, vI a5, vI a6, vI a7, vI (F : Int), .int .i64 0, .slice none 0 0] 94))).setCell ⟨w.heap.size + 1, 0, none⟩ (.pointer (some ⟨w1.heap.size, 0, none⟩))) = W3 at *
    obtain ⟨d, hd⟩ : ∃ d, d = w1.heap.size := ⟨_, rfl⟩
    rw [← hd] at HPH H13 hne hzl
    rw [← hd]
    have hdl : d < W3.heap.size := (HPH.out.bd d rfl).2
    clear hd r0a rfa e0a efa r0 e0 rf ef c0 c1 c2 c3 c4 c5 c6 c7
    have hat : RnAt w.heap.size W3 d (Is d) F ⟨[a0, a1, a2, a3, a4, a5, a6, a7], 0, []⟩ := ⟨HPH.out, by simp, by simp, hF2⟩
    have hlab := labelsL_le l
    have C := Lib.hid (fun res hr => pblk_all F l w.heap.size W3 d (Is d) ⟨[a0, a1, a2, a3, a4, a5, a6, a7], 0, []⟩ [] 0 S v (.slice none 0 0) hat HS.out R3.out (FrX.nil (by simp [maxLen])) (by simp) (by omega) hwt res hr)
    have hrE : runE l (F : Int) [a0, a1, a2, a3, a4, a5, a6, a7] = match blR F l [] 0 ⟨[a0, a1, a2, a3, a4, a5, a6, a7], 0, []⟩ with | some m => (m, 0) | none => (⟨List.replicate 8 0, 0, []⟩, 5) := by
      unfold runE
      rw [if_neg (by simpa using hz), Int.toNat_natCast]
    have HE := Lib.hid hrE
    have n1 : ¬ Is d (w.heap.size + 1) := fun e => by have e2 : w.heap.size + 1 = d := e; omega
    have n2 : ¬ Is d (w.heap.size + 1 + 1) := fun e => by have e2 : w.heap.size + 1 + 1 = d := e; omega
    clear hat hrE
    have q0 := H13.out.cell 0 _ rfl
    cases hres : blR F l [] 0 ⟨[a0, a1, a2, a3, a4, a5, a6, a7], 0, []⟩ with
    | some m =>
      rw [hres] at HE
      go_wp2_with fail
      refine (C.out _ hres).mono ?_
      rintro e w4 ⟨rfl, ⟨X4, ha, hs⟩, hb⟩
      have HLEN := Lib.hid (show m.tr.length ≤ 2000 by have h1 := ha.2.1; have h2 := ha.2.2.1; omega)
      have H14 := Lib.hid (H13.out.but hb n1)
      have H24 := Lib.hid (H23.out.but hb n2)
      have r0 := H14.out.cell 0 _ rfl
      have rf := H14.out.fr 0
      have e0 := H24.out.cell 0 _ rfl
      have ef := H24.out.fr 0
      go_wp2
      have hbz : But (Is2 (w.heap.size + 1) (w.heap.size + 1 + 1)) w4 ((w4.setCell ⟨w.heap.size + 1, 0, none⟩ (.pointer (some ⟨d, 0, none⟩))).setCell ⟨w.heap.size + 1 + 1, 0, none⟩ (.int .i64 0)) := ((But.refl (Is2 (w.heap.size + 1) (w.heap.size + 1 + 1)) w4).setCell (p := ⟨w.heap.size + 1, 0, none⟩) (.inl rfl) _).setCell (p := ⟨w.heap.size + 1 + 1, 0, none⟩) (.inr rfl) _
      have HP := Lib.hid (HpAt.but ha.1 hbz (fun b hb e => by
        rcases hs b hb with e2 | e2
        · have e3 : b = d := e2
          rcases e with e | e <;> omega
        · rcases e with e | e <;> omega))
      have HB := Lib.hid (show Below w.heap.size w ((w4.setCell ⟨w.heap.size + 1, 0, none⟩ (.pointer (some ⟨d, 0, none⟩))).setCell ⟨w.heap.size + 1 + 1, 0, none⟩ (.int .i64 0)) from (BL3.out.trans (hb.below BL3.out.size (fun k e => by have e2 : k = d := e; omega))).trans (hbz.below (Nat.le_trans BL3.out.size hb.size) (fun k e => by rcases e with e | e <;> omega)))
      have g1 := ((H14.out.set (i := 0) (by simp) (.pointer (some ⟨d, 0, none⟩))).other (p := ⟨w.heap.size + 1 + 1, 0, none⟩) (by simp) (.int .i64 0)).cell 0 _ rfl
      have g2 := ((H24.out.other (p := ⟨w.heap.size + 1, 0, none⟩) (by simp) (.pointer (some ⟨d, 0, none⟩))).set (i := 0) (by simp) (.int .i64 0)).cell 0 _ rfl
      generalize ((w4.setCell ⟨w.heap.size + 1, 0, none⟩ (.pointer (some ⟨d, 0, none⟩))).setCell ⟨w.heap.size + 1 + 1, 0, none⟩ (.int .i64 0)) = WF at *
      refine leaves_cons (f := 52) (args := #[.pointer (some ⟨w.heap.size + 1, 0, none⟩), .pointer (some ⟨w.heap.size + 1 + 1, 0, none⟩)]) (by simp) (by simp [go_sem]) ?_
      refine (catch_idle _ _ _).mono ?_
      rintro e u' w'' ⟨rfl, rfl, rfl⟩
      simp [Leaves, settle, results, Try.results30, go_sem, g1, g2]
      rw [HE.out]
      exact ⟨d, ⟨rfl, rfl⟩, ⟨X4, _, HP.out⟩, HLEN.out, HB.out⟩
    | none =>
      rw [hres] at HE
      go_wp2_with fail
      refine (C.out _ hres).mono ?_
      rintro e w4 ⟨rfl, hb⟩
      have H14 := Lib.hid (H13.out.but hb n1)
      have H24 := Lib.hid (H23.out.but hb n2)
      go_wp2
      refine leaves_cons (f := 52) (args := #[.pointer (some ⟨w.heap.size + 1, 0, none⟩), .pointer (some ⟨w.heap.size + 1 + 1, 0, none⟩)]) (by simp) (by simp [go_sem]) ?_
      refine (catch_spent _ _ _ _ _ (by omega) (H14.out.cell 0 _ rfl) (H24.out.cell 0 _ rfl) (H14.out.fr 0) (H24.out.fr 0)).mono ?_
      rintro e u' w'' ⟨rfl, rfl, rfl⟩
      have hszG : ((((w4.setCell ⟨w.heap.size + 1, 0, none⟩ (.pointer (some ⟨w4.heap.size + 1, 0, none⟩))).setCell ⟨w.heap.size + 1 + 1, 0, none⟩ (vI 5)).alloc (.cells #[] 127))).heap.size = w4.heap.size + 1 := by simp
      have hbG : But (Is2 (w.heap.size + 1) (w.heap.size + 1 + 1)) w4 (((w4.setCell ⟨w.heap.size + 1, 0, none⟩ (.pointer (some ⟨w4.heap.size + 1, 0, none⟩))).setCell ⟨w.heap.size + 1 + 1, 0, none⟩ (vI 5)).alloc (.cells #[] 127)) := (((But.refl (Is2 (w.heap.size + 1) (w.heap.size + 1 + 1)) w4).setCell (p := ⟨w.heap.size + 1, 0, none⟩) (.inl rfl) _).setCell (p := ⟨w.heap.size + 1 + 1, 0, none⟩) (.inr rfl) _).alloc _
      have hBG : Below w.heap.size w (((w4.setCell ⟨w.heap.size + 1, 0, none⟩ (.pointer (some ⟨w4.heap.size + 1, 0, none⟩))).setCell ⟨w.heap.size + 1 + 1, 0, none⟩ (vI 5)).alloc (.cells #[] 127)) := (BL3.out.trans (hb.below BL3.out.size (fun k e => by have e2 : k = d := e; omega))).trans (hbG.below (Nat.le_trans BL3.out.size hb.size) (fun k e => by rcases e with e | e <;> omega))
      have hG : Below ((((w4.setCell ⟨w.heap.size + 1, 0, none⟩ (.pointer (some ⟨w4.heap.size + 1, 0, none⟩))).setCell ⟨w.heap.size + 1 + 1, 0, none⟩ (vI 5)).alloc (.cells #[] 127))).heap.size (((w4.setCell ⟨w.heap.size + 1, 0, none⟩ (.pointer (some ⟨w4.heap.size + 1, 0, none⟩))).setCell ⟨w.heap.size + 1 + 1, 0, none⟩ (vI 5)).alloc (.cells #[] 127)) (((((w4.setCell ⟨w.heap.size + 1, 0, none⟩ (.pointer (some ⟨w4.heap.size + 1, 0, none⟩))).setCell ⟨w.heap.size + 1 + 1, 0, none⟩ (vI 5)).alloc (.cells #[] 127))).alloc (.cells #[.int .i64 0, .int .i64 0, .int .i64 0, .int .i64 0, .int .i64 0, .int .i64 0, .int .i64 0, .int .i64 0, .int .i64 0, .int .i64 0, .slice none 0 0] 94)) := (Below.refl _ _).alloc (Nat.le_refl _) _
      have HP := Lib.hid (zero_at (((w4.setCell ⟨w.heap.size + 1, 0, none⟩ (.pointer (some ⟨w4.heap.size + 1, 0, none⟩))).setCell ⟨w.heap.size + 1 + 1, 0, none⟩ (vI 5)).alloc (.cells #[] 127)) w.heap.size hBG.size)
      have HB := Lib.hid (show Below w.heap.size w (((((w4.setCell ⟨w.heap.size + 1, 0, none⟩ (.pointer (some ⟨w4.heap.size + 1, 0, none⟩))).setCell ⟨w.heap.size + 1 + 1, 0, none⟩ (vI 5)).alloc (.cells #[] 127))).alloc (.cells #[.int .i64 0, .int .i64 0, .int .i64 0, .int .i64 0, .int .i64 0, .int .i64 0, .int .i64 0, .int .i64 0, .int .i64 0, .int .i64 0, .slice none 0 0] 94)) from hBG.trans (hG.mono hBG.size))
      have bx : ∀ o, Below ((w4.setCell ⟨w.heap.size + 1, 0, none⟩ (.pointer (some ⟨w4.heap.size + 1, 0, none⟩))).setCell ⟨w.heap.size + 1 + 1, 0, none⟩ (vI 5)).heap.size ((w4.setCell ⟨w.heap.size + 1, 0, none⟩ (.pointer (some ⟨w4.heap.size + 1, 0, none⟩))).setCell ⟨w.heap.size + 1 + 1, 0, none⟩ (vI 5)) (((w4.setCell ⟨w.heap.size + 1, 0, none⟩ (.pointer (some ⟨w4.heap.size + 1, 0, none⟩))).setCell ⟨w.heap.size + 1 + 1, 0, none⟩ (vI 5)).alloc o) := fun o => (Below.refl _ _).alloc (Nat.le_refl _) o
      have g1 := ((((H14.out.set (i := 0) (by simp) (.pointer (some ⟨w4.heap.size + 1, 0, none⟩))).other (p := ⟨w.heap.size + 1 + 1, 0, none⟩) (by simp) (vI 5)).below (bx _)).below hG).cell 0 _ rfl
      have g2 := ((((H24.out.other (p := ⟨w.heap.size + 1, 0, none⟩) (by simp) (.pointer (some ⟨w4.heap.size + 1, 0, none⟩))).set (i := 0) (by simp) (vI 5)).below (bx _)).below hG).cell 0 _ rfl
      rw [hszG] at HP
      generalize (((((w4.setCell ⟨w.heap.size + 1, 0, none⟩ (.pointer (some ⟨w4.heap.size + 1, 0, none⟩))).setCell ⟨w.heap.size + 1 + 1, 0, none⟩ (vI 5)).alloc (.cells #[] 127))).alloc (.cells #[.int .i64 0, .int .i64 0, .int .i64 0, .int .i64 0, .int .i64 0, .int .i64 0, .int .i64 0, .int .i64 0, .int .i64 0, .int .i64 0, .slice none 0 0] 94)) = WF at *
      simp [Leaves, settle, results, Try.results30, go_sem, g1, g2]
      rw [HE.out]
      exact ⟨w4.heap.size + 1, ⟨rfl, rfl⟩, ⟨_, _, HP.out⟩, Nat.zero_le _, HB.out⟩
  · go_wp2
    have hZ : Below w1.heap.size w1 (w1.alloc (.cells #[.int .i64 0, .int .i64 0, .int .i64 0, .int .i64 0, .int .i64 0, .int .i64 0, .int .i64 0, .int .i64 0, .int .i64 0, .int .i64 0, .slice none 0 0] 94)) := (Below.refl _ _).alloc (Nat.le_refl _) _
    have hbz : But (Is2 (w.heap.size + 1) (w.heap.size + 1 + 1)) (w1.alloc (.cells #[.int .i64 0, .int .i64 0, .int .i64 0, .int .i64 0, .int .i64 0, .int .i64 0, .int .i64 0, .int .i64 0, .int .i64 0, .int .i64 0, .slice none 0 0] 94)) ((((w1.alloc (.cells #[.int .i64 0, .int .i64 0, .int .i64 0, .int .i64 0, .int .i64 0, .int .i64 0, .int .i64 0, .int .i64 0, .int .i64 0, .int .i64 0, .slice none 0 0] 94))).setCell ⟨w.heap.size + 1, 0, none⟩ (.pointer (some ⟨w1.heap.size, 0, none⟩))).setCell ⟨w.heap.size + 1 + 1, 0, none⟩ (.int .i64 (wrongR l f))) := ((But.refl (Is2 (w.heap.size + 1) (w.heap.size + 1 + 1)) _).setCell (p := ⟨w.heap.size + 1, 0, none⟩) (.inl rfl) _).setCell (p := ⟨w.heap.size + 1 + 1, 0, none⟩) (.inr rfl) _
    have HP := Lib.hid (HpAt.but (zero_at w1 w.heap.size BL1.out.size) hbz (fun b hb e => by have e3 : b = w1.heap.size := hb; rcases e with e | e <;> omega))
    have HB := Lib.hid (show Below w.heap.size w ((((w1.alloc (.cells #[.int .i64 0, .int .i64 0, .int .i64 0, .int .i64 0, .int .i64 0, .int .i64 0, .int .i64 0, .int .i64 0, .int .i64 0, .int .i64 0, .slice none 0 0] 94))).setCell ⟨w.heap.size + 1, 0, none⟩ (.pointer (some ⟨w1.heap.size, 0, none⟩))).setCell ⟨w.heap.size + 1 + 1, 0, none⟩ (.int .i64 (wrongR l f))) from (BL1.out.trans (hZ.mono BL1.out.size)).trans (hbz.below (Nat.le_trans BL1.out.size hZ.size) (fun k e => by rcases e with e | e <;> omega)))
    have g1 := (((H11.out.below hZ).set (i := 0) (by simp) (.pointer (some ⟨w1.heap.size, 0, none⟩))).other (p := ⟨w.heap.size + 1 + 1, 0, none⟩) (by simp) (.int .i64 (wrongR l f))).cell 0 _ rfl
    have g2 := (((H21.out.below hZ).other (p := ⟨w.heap.size + 1, 0, none⟩) (by simp) (.pointer (some ⟨w1.heap.size, 0, none⟩))).set (i := 0) (by simp) (.int .i64 (wrongR l f))).cell 0 _ rfl
    have HE := Lib.hid (show runE l f [a0, a1, a2, a3, a4, a5, a6, a7] = (⟨List.replicate 8 0, 0, []⟩, wrongR l f) by unfold runE; rw [if_pos (by simpa using hz)])
    generalize ((((w1.alloc (.cells #[.int .i64 0, .int .i64 0, .int .i64 0, .int .i64 0, .int .i64 0, .int .i64 0, .int .i64 0, .int .i64 0, .int .i64 0, .int .i64 0, .slice none 0 0] 94))).setCell ⟨w.heap.size + 1, 0, none⟩ (.pointer (some ⟨w1.heap.size, 0, none⟩))).setCell ⟨w.heap.size + 1 + 1, 0, none⟩ (.int .i64 (wrongR l f))) = WF at *
    simp [bodyPostD, Leaves, results, Try.results30, go_sem, g1, g2]
    rw [HE.out]
    exact ⟨_, ⟨rfl, rfl⟩, ⟨_, _, HP.out⟩, Nat.zero_le _, HB.out⟩
end Go.Proofs.Ytdelngmbpjgphaa
