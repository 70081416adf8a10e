/- Texts merged: RegInvIn, Rn4b, Rn6. -/
import Derived.Test.YtnpgpcnkdocknaaGreatDoorGEtW
import Derived.OrdersIn
import Derived.TacticsIn
import Derived.Test.YtnpgpcnkdocknaaGreatDoorGRn3
namespace Go.Proofs.YtnpgpcnkdocknaaGreatDoor
open Go
set_option linter.unusedVariables false
theorem wpAnyIn_inv {F : Fence} {n : Nat} {P : Program} {ops : Array Oper} {Q : Exit → Act → World → Prop} (I : Array Bool → Act → World → Prop)
    (hstep : ∀ l a w i, l.size = ops.size → I l a w → i < ops.size → l.getD i false = false → (∀ e ∈ depsAt ops i, l.getD e false = true) → wpOpIn F n P ops Q i (I (l.setIfInBounds i true)) a w)
    (hend : ∀ l a w, l.size = ops.size → I l a w → Region.ready .any ops l = [] → Q .normal a w) :
    ∀ (fuel : Nat) (l : Array Bool) (a : Act) (w : World), l.size = ops.size → I l a w → notYet l ≤ fuel → wpAnyIn F n P .any ops Q fuel l a w := by
 intro fuel
 induction fuel with
 | zero =>
  intro l a w hl hI hn
  have hr : Region.ready .any ops l = [] := by
   refine List.eq_nil_iff_forall_not_mem.2 fun i hi => ?_
   obtain ⟨h1, h2, _⟩ := (mem_ready_deps hl).1 hi
   have := notYet_set (by omega) h2
   omega
  exact ⟨hr, hend l a w hl hI hr⟩
 | succ fuel ih =>
  intro l a w hl hI hn
  refine ⟨hend l a w hl hI, fun i hi => ?_⟩
  obtain ⟨h1, h2, h3⟩ := (mem_ready_deps hl).1 hi
  refine wpOpIn_mono (fun a' w' h' => ih _ a' w' (by simpa using hl) h' ?_) (hstep l a w i hl hI h1 h2 h3)
  have := notYet_set (by omega) h2
  omega
theorem wpIn_region_invC {F : Fence} {n : Nat} {P : Program} {id : Nat} {ops : Array Oper} {Q : Exit → Act → World → Prop} {a : Act} {w : World} (hm : P.follows .mixedOrders = true) (I : Array Bool → Act → World → Prop)
    (h0 : I (Array.replicate ops.size false) a w.drew)
    (hstep : ∀ l a w i, l.size = ops.size → ClosedL ops l → I l a w → i < ops.size → l.getD i false = false → (∀ e ∈ depsAt ops i, l.getD e false = true) → wpOpIn F n P ops Q i (I (l.setIfInBounds i true)) a w)
    (hend : ∀ l a w, l.size = ops.size → (∀ j, j < ops.size → l.getD j false = true) → I l a w → Q .normal a w)
    (hback : ∀ i < ops.size, ∀ e ∈ depsAt ops i, e < i) : (Code.region id ops true).wpIn F n P Q a w := by
 refine wpIn_region_any hm ?_
 refine wpAnyIn_inv (fun l a w => ClosedL ops l ∧ I l a w) (fun l a w i hl hI hi hn hd => ?_) (fun l a w hl hI hr => ?_) _ _ _ _ (by simp) ⟨fun i hi => ?_, h0⟩ ?_
 ·have h := hstep l a w i hl hI.1 hI.2 hi hn hd
  exact wpOpIn_mono (fun a' w' h' => ⟨hI.1.setD hl hi hn hd, h'⟩) h
 ·refine hend l a w hl (fun j hj => ?_) hI.2
  induction j using Nat.strongRecOn with
  | ind j ih =>
   cases e : l.getD j false
   ·exfalso
    have : j ∈ Region.ready .any ops l := (mem_ready_deps hl).2 ⟨hj, e, fun d hd => ih d (hback j hj d hd) (by have := hback j hj d hd; omega)⟩
    rw [hr] at this; cases this
   ·rfl
 ·simp only [Array.getD_eq_getD_getElem?, Array.getElem?_replicate] at hi
  split at hi <;> cases hi
 ·unfold notYet
  exact Nat.le_trans List.countP_le_length (by simp)
theorem Oper.wpIn_ofOne {F : Fence} {n : Nat} {P : Program} {Q : Exit → Act → World → Prop} {o : Oper} {a : Act} {w : World} {K K' : Act → World → Prop} (hh : Oper.wpIn F n P o a w K' (QOne K Q)) : Oper.wpIn F n P o a w K' Q := by
 unfold Oper.wpIn at *
 refine ⟨hh.1, ?_⟩
 have hh := hh.2
 generalize (o.semAt F.round a.eval).run P w = r at *
 cases r with
 | ok x w' =>
  cases x <;> simp only [Oper.uponIn] at hh ⊢ <;>
   first
    | exact hh
    | exact ⟨hh.1, CallsIn.mono hh.2 (fun e w'' he => by cases e <;> exact he)⟩
    | exact ⟨hh.1, RoundIn.mono hh.2 (fun e w'' he => by cases e <;> exact he)⟩
 | halt x w' => cases x <;> simp only [Oper.uponIn] at hh ⊢ <;> exact hh
theorem wpOpIn_of_list {F : Fence} {n : Nat} {P : Program} {ops : Array Oper} {Q : Exit → Act → World → Prop} {i : Nat} {o : Oper} {a : Act} {w : World} {K : Act → World → Prop} (ho : ops[i]? = some o) (h : wpListIn F n P ops (QOne K Q) [o] a w) : wpOpIn F n P ops Q i K a w := by
 unfold wpOpIn
 rw [ho]
 unfold wpListIn at h
 have e : wpListIn F n P ops (QOne K Q) [] = K := rfl
 rw [e] at h
 simp only
 split
 ·rename_i hw; rw [if_pos hw] at h; exact Oper.wpIn_ofOne h
 ·rename_i hw; rw [if_neg hw] at h; exact h
end Go.Proofs.YtnpgpcnkdocknaaGreatDoor
namespace Go.Proofs.YtnpgpcnkdocknaaGreatDoor
open Go.RowKit Go.Shelf
set_option linter.unusedVariables false
attribute [local go_sem] Oper.semAt_some
theorem newS_at (W : World) (v : Value) (t : TypeId) : (W.alloc (.cells #[v] t)).cell? ⟨W.heap.size, 0, none⟩ = some v := by
 have h := World.alloc_heap_new W (.cells #[v] t)
 simp only [World.cell?, h]
 rfl
def NmC (z g : Nat) (s : Str) (W : World) : Prop := W.cell? ⟨g, 0, none⟩ = some (.pointer (some ⟨z, 0, none⟩)) ∧ W.cell? ⟨g + 1, 0, none⟩ = some (.int .i64 2) ∧ W.cell? ⟨g + 1, 2, none⟩ = some (.string s) ∧
 (W.cell? ⟨g + 1 + 1, 0, none⟩ = some (.int .i64 0) ∧ W.cell? ⟨g + 1 + 1, 1, none⟩ = some (.int .i64 0) ∧ W.cell? ⟨g + 1 + 1, 2, none⟩ = some (.string ⟨#[]⟩) ∧ W.cell? ⟨g + 1 + 1, 3, none⟩ = some (.slice none 0 0)) ∧
 W.frozen? ⟨g + 1 + 1, 0, none⟩ = false ∧ W.frozen? ⟨g + 1 + 1, 1, none⟩ = false ∧ W.frozen? ⟨g + 1 + 1, 2, none⟩ = false ∧ W.frozen? ⟨g + 1 + 1, 3, none⟩ = false
def NmR (g : Nat) (x : Str) (W : World) : Prop := W.cell? ⟨g + 1 + 1, 0, none⟩ = some (.int .i64 2) ∧ W.cell? ⟨g + 1 + 1, 1, none⟩ = some (.int .i64 0) ∧ W.cell? ⟨g + 1 + 1, 2, none⟩ = some (.string x) ∧ W.cell? ⟨g + 1 + 1, 3, none⟩ = some (.slice none 0 0)
theorem NmC.set {z g : Nat} {s : Str} {W : World} (h : NmC z g s W) (x : Str) : NmR g x (set4 W (g + 1 + 1) (.int .i64 2) (.int .i64 0) (.string x) (.slice none 0 0)) := by
 obtain ⟨_, _, _, ⟨r0, r1, r2, r3⟩, _⟩ := h
 exact set4_cells _ _ _ _ r0 r1 r2 r3
theorem set4_keeps (w : World) (R : Nat) (u0 u1 u2 u3 : Value) : KeepsOthers w (set4 w R u0 u1 u2 u3) :=
 (((KeepsOthers.setCell _ _ _).trans (KeepsOthers.setCell _ _ _)).trans (KeepsOthers.setCell _ _ _)).trans (KeepsOthers.setCell _ _ _)
theorem NmC.kept {z g : Nat} {s : Str} {W W' : World} {row : Option Nat} (h : NmC z g s W) (hg : W.grownBy W' row) (hr : ∀ r, row = some r → ∃ o : Obj, W.heap[r]? = some o ∧ o.isCells = false) : NmC z g s W' := by
 obtain ⟨a, b, c, ⟨r0, r1, r2, r3⟩, f0, f1, f2, f3⟩ := h
 exact ⟨cell_kept a hg hr, cell_kept b hg hr, cell_kept c hg hr, ⟨cell_kept r0 hg hr, cell_kept r1 hg hr, cell_kept r2 hg hr, cell_kept r3 hg hr⟩, (frozen_kept r0 hg hr).trans f0, (frozen_kept r1 hg hr).trans f1, (frozen_kept r2 hg hr).trans f2, (frozen_kept r3 hg hr).trans f3⟩
theorem NmR.kept {g : Nat} {x : Str} {W W' : World} {row : Option Nat} (h : NmR g x W) (hg : W.grownBy W' row) (hr : ∀ r, row = some r → ∃ o : Obj, W.heap[r]? = some o ∧ o.isCells = false) : NmR g x W' :=
 ⟨cell_kept h.1 hg hr, cell_kept h.2.1 hg hr, cell_kept h.2.2.1 hg hr, cell_kept h.2.2.2 hg hr⟩
set_option maxHeartbeats 2000000 in
set_option maxRecDepth 100000 in
theorem rx_name (V : Env) (t : Ex) (ht : t.two = none) (h2 : t.kind = 2) : RXs V t := by
 intro base z m w S U vo vn hm hbw hVl hS r
 obtain ⟨k, c, s, args, v, rfl, rfl, hk, hc, hs, hargs⟩ := id r
 obtain ⟨A, cap, rfl, hcl, hcm, _⟩ := hargs.form
 simp only [Ex.kind] at h2
 subst h2
 have bl1 : Below w.heap.size w (w.alloc (.cells #[.pointer (some ⟨z, 0, none⟩)] 108)) := (Below.refl _ _).alloc (Nat.le_refl _) _
 have bl2 : Below w.heap.size w (((w.alloc (.cells #[.pointer (some ⟨z, 0, none⟩)] 108))).alloc (.cells #[.int .i64 2, .int .i64 c, .string s, .slice A args.length cap] 80)) := bl1.alloc (by simp) _
 have bel : Below w.heap.size w (((((w.alloc (.cells #[.pointer (some ⟨z, 0, none⟩)] 108))).alloc (.cells #[.int .i64 2, .int .i64 c, .string s, .slice A args.length cap] 80))).alloc (.cells #[.int .i64 0, .int .i64 0, .string ⟨#[]⟩, .slice none 0 0] 80)) := bl2.alloc (by simp; omega) _
 have HX := hid (show renE V (.mk 2 c s args) = nameE (look V s) by rw [renE_none ht]; rfl)
 have HK := hid hs
 have BP := (Blk.made w [.pointer (some ⟨z, 0, none⟩)] 108 (base := 0) (Nat.zero_le _)).below (w' := (((((w.alloc (.cells #[.pointer (some ⟨z, 0, none⟩)] 108))).alloc (.cells #[.int .i64 2, .int .i64 c, .string s, .slice A args.length cap] 80))).alloc (.cells #[.int .i64 0, .int .i64 0, .string ⟨#[]⟩, .slice none 0 0] 80))) (((Below.refl _ _).alloc (Nat.le_refl _) _).alloc (by simp) _)
 have BX := (Blk.made (w.alloc (.cells #[.pointer (some ⟨z, 0, none⟩)] 108)) [.int .i64 2, .int .i64 c, .string s, .slice A args.length cap] 80 (base := 0) (Nat.zero_le _)).below (w' := (((((w.alloc (.cells #[.pointer (some ⟨z, 0, none⟩)] 108))).alloc (.cells #[.int .i64 2, .int .i64 c, .string s, .slice A args.length cap] 80))).alloc (.cells #[.int .i64 0, .int .i64 0, .string ⟨#[]⟩, .slice none 0 0] 80))) ((Below.refl _ _).alloc (Nat.le_refl _) _)
 have BR := Blk.made (((w.alloc (.cells #[.pointer (some ⟨z, 0, none⟩)] 108))).alloc (.cells #[.int .i64 2, .int .i64 c, .string s, .slice A args.length cap] 80)) [.int .i64 0, .int .i64 0, .string ⟨#[]⟩, .slice none 0 0] 80 (base := 0) (Nat.zero_le _)
 simp only [World.size_alloc] at BX BR
 have NM := hid (show NmC z w.heap.size s (((((w.alloc (.cells #[.pointer (some ⟨z, 0, none⟩)] 108))).alloc (.cells #[.int .i64 2, .int .i64 c, .string s, .slice A args.length cap] 80))).alloc (.cells #[.int .i64 0, .int .i64 0, .string ⟨#[]⟩, .slice none 0 0] 80)) from ⟨BP.cell 0 _ rfl, BX.cell 0 _ rfl, BX.cell 2 _ rfl, ⟨BR.cell 0 _ rfl, BR.cell 1 _ rfl, BR.cell 2 _ rfl, BR.cell 3 _ rfl⟩, BR.fr 0, BR.fr 1, BR.fr 2, BR.fr 3⟩)
 have BEL := hid bel
 have RM := hid (hm.below bel)
 have HM := hid hm
 unfold maxLen at hcm
 unfold exV
 obtain ⟨lo, hlo⟩ : ∃ lo, lo = (V.map (·.1)).reverse := ⟨_, rfl⟩
 obtain ⟨ln, hln⟩ : ∃ ln, ln = (V.map (·.2)).reverse := ⟨_, rfl⟩
 have hl1 : lo.length = V.length := by rw [hlo]; simp
 have hl2 : ln.length = lo.length := by rw [hlo, hln]; simp
 have HLO := hid hlo
 have HLN := hid hln
 unfold RmAt at RM HM
 rw [← hlo, ← hln] at RM HM
 obtain ⟨Ao, co, rfl⟩ := HM.out.oo.form
 obtain ⟨An, cn, rfl⟩ := HM.out.on.form
 have HLE := hid (show lo.length ≤ 1073741000 by omega)
 have HL2 := hid hl2
 have hzl := HM.out.bl.lt
 have hzz := RM.out.bl.cell 0 _ rfl
 have HON := hid (HM.out.on.toRd (bytes := 16) Flat.keeps (by omega) (S' := Upto w.heap.size) (Sub.nowhere _) (fun b _ hb => hb))
 have HOL := hid (HM.out.oo.toRd (bytes := 16) Flat.keeps (by omega) (S' := Upto w.heap.size) (Sub.nowhere _) (fun b _ hb => hb))
 have HCN := hid (show w.cell? ⟨z, 1, none⟩ = some (.slice An ln.length cn) from HM.out.bl.cell 1 _ rfl)
 clear hargs r bl1 bl2 bel hk hc hs hS ht hm BP BX BR hlo hln hl1 hl2 HM
 refine (callsIn_wide (n := 3)).1 ?_
 refine callsIn_of_wp_marks Tryz.func47 rfl trivial ?_ rfl
 simp only [Tryz.ntmps47, List.size_toArray, List.length_cons, List.length_nil, Nat.reduceAdd, Nat.reduceSub, Array.replicate_succ, Array.replicate_zero, List.push_toArray, List.append_toArray, List.nil_append, List.cons_append]
 gi_wp2
 refine ⟨trivial, ?_⟩
 refine (backS_in Fence.wide _ trivial rfl _ _ _ _).mono ?_
 rintro e w2 ⟨rfl, rfl⟩
 clear hzz
 gi_wp2
 have hcS : (((((((w.alloc (.cells #[.pointer (some ⟨z, 0, none⟩)] 108))).alloc (.cells #[.int .i64 2, .int .i64 c, .string s, .slice A args.length cap] 80))).alloc (.cells #[.int .i64 0, .int .i64 0, .string ⟨#[]⟩, .slice none 0 0] 80))).alloc (.cells #[.slice Ao lo.length co] 37)).cell? ⟨((((((w.alloc (.cells #[.pointer (some ⟨z, 0, none⟩)] 108))).alloc (.cells #[.int .i64 2, .int .i64 c, .string s, .slice A args.length cap] 80))).alloc (.cells #[.int .i64 0, .int .i64 0, .string ⟨#[]⟩, .slice none 0 0] 80))).heap.size, 0, none⟩ = some (.slice Ao lo.length co) := newS_at _ _ _
 have hbS : Below ((((((w.alloc (.cells #[.pointer (some ⟨z, 0, none⟩)] 108))).alloc (.cells #[.int .i64 2, .int .i64 c, .string s, .slice A args.length cap] 80))).alloc (.cells #[.int .i64 0, .int .i64 0, .string ⟨#[]⟩, .slice none 0 0] 80))).heap.size ((((((w.alloc (.cells #[.pointer (some ⟨z, 0, none⟩)] 108))).alloc (.cells #[.int .i64 2, .int .i64 c, .string s, .slice A args.length cap] 80))).alloc (.cells #[.int .i64 0, .int .i64 0, .string ⟨#[]⟩, .slice none 0 0] 80))) (((((((w.alloc (.cells #[.pointer (some ⟨z, 0, none⟩)] 108))).alloc (.cells #[.int .i64 2, .int .i64 c, .string s, .slice A args.length cap] 80))).alloc (.cells #[.int .i64 0, .int .i64 0, .string ⟨#[]⟩, .slice none 0 0] 80))).alloc (.cells #[.slice Ao lo.length co] 37)) := (Below.refl _ _).alloc (Nat.le_refl _) _
 have hsz0 : (((((((w.alloc (.cells #[.pointer (some ⟨z, 0, none⟩)] 108))).alloc (.cells #[.int .i64 2, .int .i64 c, .string s, .slice A args.length cap] 80))).alloc (.cells #[.int .i64 0, .int .i64 0, .string ⟨#[]⟩, .slice none 0 0] 80))).alloc (.cells #[.slice Ao lo.length co] 37)).heap.size = w.heap.size + 1 + 1 + 1 + 1 := by simp
 have hszB : ((((((w.alloc (.cells #[.pointer (some ⟨z, 0, none⟩)] 108))).alloc (.cells #[.int .i64 2, .int .i64 c, .string s, .slice A args.length cap] 80))).alloc (.cells #[.int .i64 0, .int .i64 0, .string ⟨#[]⟩, .slice none 0 0] 80))).heap.size = w.heap.size + 1 + 1 + 1 := by simp
 have NM0 := hid (NM.out.kept (World.grownBy_alloc ((((((w.alloc (.cells #[.pointer (some ⟨z, 0, none⟩)] 108))).alloc (.cells #[.int .i64 2, .int .i64 c, .string s, .slice A args.length cap] 80))).alloc (.cells #[.int .i64 0, .int .i64 0, .string ⟨#[]⟩, .slice none 0 0] 80))) (.cells #[.slice Ao lo.length co] 37) none) (fun r e => by cases e))
 have hB0 := hid (BEL.out.trans (hbS.mono BEL.out.size))
 rw [hszB] at hcS
 have HCS := hid hcS
 clear hcS hbS hszB BEL RM NM
 generalize ((((((w.alloc (.cells #[.pointer (some ⟨z, 0, none⟩)] 108))).alloc (.cells #[.int .i64 2, .int .i64 c, .string s, .slice A args.length cap] 80))).alloc (.cells #[.int .i64 0, .int .i64 0, .string ⟨#[]⟩, .slice none 0 0] 80))).alloc (.cells #[.slice Ao lo.length co] 37) = W0 at *
 obtain ⟨g, hg⟩ : ∃ g, g = w.heap.size := ⟨_, rfl⟩
 rw [← hg] at hsz0 NM0 HCS hzl ⊢
 have hgw : w.heap.size ≤ g := by omega
 have hzw : z < w.heap.size := by omega
 clear hg
 have REO := hid (HOL.out.go Flat.keeps hB0.out (Sub.refl _) (Sub.refl _))
 have hS0 : Sub (Upto w.heap.size) (Upto W0.heap.size) := Sub.upto hB0.out.size
 refine wpIn_rangeFunc_ownH rfl (by omega) (gf := 100) (lb := #[.pointer (some ⟨g + 1 + 1 + 1, 0, none⟩)]) rfl trivial (enters_of Tryz.func100 (by kernel_rfl) rfl)
  (backS_stops Fence.wide _ trivial rfl (by omega) (g + 1 + 1 + 1) W0.heap.size Ao co lo (Upto w.heap.size) hS0 W0 (by omega) (Nat.le_refl _) (by have := HLE.out; omega) HCS.out REO.out) belowK_t (belowK_b (Nat.le_refl _)) (Below.refl _ _) (fun _ => rfl)
  (fun pre W => (((∀ p ∈ pre, lo[p.1] ≠ s) ∧ NmC z g s W) ∧ Below w.heap.size w W) ∧ Below W0.heap.size W0 W)
  (fun c pre W => (c = .ret ∧ ∃ ini last x, pre = ini ++ [last] ∧ (∀ p ∈ ini, lo[p.1] ≠ s) ∧ lo[last.1] = s ∧ ln[last.1]? = some x ∧ NmR g x W) ∧ Below w.heap.size w W)
  (OwnFrom.and (OwnFrom.and (Own.from (fun s A B row hs hg hr => ⟨hs.1, hs.2.kept hg hr⟩) _) (ownFrom_below (Nat.le_refl _) (by have := hB0.out.size; omega))) (ownFrom_below (Nat.le_refl _) (Nat.le_refl _)))
  (fun c => OwnFrom.and (Own.from (fun s A B row hs hg hr => by obtain ⟨hc, ini, last, x, e1, e2, e3, e4, e5⟩ := hs; exact ⟨hc, ini, last, x, e1, e2, e3, e4, e5.kept hg hr⟩) _) (ownFrom_below (Nat.le_refl _) (by have := hB0.out.size; omega)))
  ⟨⟨⟨by simp, NM0.out⟩, hB0.out⟩, Below.refl _ _⟩
  (fun x a' W => a' = { tmps := #[.pointer (some ⟨z, 0, none⟩), .agg #[.int .i64 2, .int .i64 c, .string s, .slice A args.length cap], .pointer (some ⟨g, 0, none⟩), .pointer (some ⟨g + 1, 0, none⟩), .pointer (some ⟨g + 1 + 1, 0, none⟩), .int .i64 (x.1 : Int), .string lo[x.1], .pointer (some ⟨g + 1, 0, none⟩), .int .i64 2, .bool false, .bool false, undef, undef, undef, .bool false, .bool false, undef, undef, undef, undef, .bool false,
   undef, undef, undef, undef, undef, undef, undef, undef, undef, undef, undef, undef, undef, undef, undef, undef, .pointer (some ⟨g + 1, 0, none⟩), .int .i64 2, .bool false, .bool false, undef, undef, undef, undef, undef, .bool true, .bool true, .pointer (some ⟨z, 0, none⟩), .pointer (some ⟨z, 0, none⟩), .pointer (some ⟨z, 0, none⟩), .slice Ao lo.length co, .func (.func 100) #[] #[.pointer (some ⟨g + 1 + 1 + 1, 0, none⟩)], .int .i64 (x.1 : Int), .string lo[x.1], undef, undef, undef, undef, undef, undef, undef, undef, undef, undef, undef, undef, undef, undef, undef, undef, undef, undef, undef, undef], defers := [] })
  (fun x a' _ X Y row hs hg hr => hs)
  ?assign ?body ?done ?stop
 case assign =>
  rintro l pre x W K ⟨⟨⟨hp, hc⟩, hB1⟩, hB2⟩ hK
  gi_wp2
  exact hK _ _ (KeepsFrom.refl _ _) (Below.refl _ _) ⟨⟨⟨hp, hc⟩, hB1⟩, hB2⟩ rfl
 case body =>
  rintro l pre x a' W hl ⟨r, hr⟩ ⟨⟨⟨hp, hc⟩, hB1⟩, hB2⟩ rfl hlt
  have hC := hid hc
  obtain ⟨c0, x0, x2, ⟨r0, r1, r2, r3⟩, f0, f1, f2, f3⟩ := hc
  have HB1 := hid hB1
  have HP := hid hp
  have hxl := x.2
  by_cases hx : lo[x.1] = s
  ·have es : (lo[x.1].toList == s.toList) = true := by rw [hx]; simp
   have HXX := hid hx
   have hxn : x.1 < ln.length := by have := HL2.out; omega
   obtain ⟨b, off, rfl, hb, hok, hcx⟩ := RdSs.at1 HON.out hxn
   have hcx' := (hB1.cell (p := ⟨b, off + x.1, none⟩) hb).trans hcx
   have hzn := (hB1.cell (p := ⟨z, 1, none⟩) hzw).trans HCN.out
   have hx0 : (0 : Int) ≤ (x.1 : Int) := by omega
   have hx1 : (x.1 : Int) < (ln.length : Int) := by omega
   have HLX := hid (show ln[x.1]? = some ln[x.1] from List.getElem?_eq_getElem hxn)
   obtain ⟨y, hy⟩ : ∃ y, y = lo[x.1] := ⟨_, rfl⟩
   rw [← hy] at es ⊢
   clear hy
   generalize ln[x.1] = u at hcx' HLX hok hcx
   obtain ⟨q, hq⟩ : ∃ q, q = x.1 := ⟨_, rfl⟩
   rw [← hq] at hcx' hx0 hx1 ⊢
   have HQ := hid hq
   have hbW : b < W.heap.size := Nat.lt_of_lt_of_le hb hB1.size
   clear hx hB1 hp hcx hb hq hxn hok
   gi_wp2
   have HU := hid HLX.out
   obtain ⟨I, hI⟩ : ∃ I : Array Bool → Act → World → Prop, I = (fun (lq : Array Bool) (a : Act) (wx : World) => ∃ (u59 u60 u61 u62 u63 u64 u65 u66 u67 u68 : Value), a = ⟨#[.pointer (some ⟨z, 0, none⟩), .agg #[.int .i64 2, .int .i64 c, .string s, .slice A args.length cap], .pointer (some ⟨g, 0, none⟩), .pointer (some ⟨g + 1, 0, none⟩), .pointer (some ⟨g + 1 + 1, 0, none⟩), .int .i64 (q : Int), .string y, .pointer (some ⟨g + 1, 0, none⟩), .int .i64 2, .bool false, .bool false, undef, undef, undef, .bool false, .bool false, undef, undef, undef, undef, .bool false, undef, undef, undef, undef, undef, undef, undef, undef, undef, undef, undef, undef, undef, undef, undef, undef, .pointer (some ⟨g + 1, 0, none⟩), .int .i64 2, .bool false, .bool false, undef, undef, undef, undef, undef, .bool true, .bool true, .pointer (some ⟨z, 0, none⟩), .pointer (some ⟨z, 0, none⟩), .pointer (some ⟨z, 0, none⟩), .slice Ao lo.length co, .func (.func 100) #[] #[.pointer (some ⟨g + 1 + 1 + 1, 0, none⟩)], .int .i64 (q : Int), .string y, .string y, .pointer (some ⟨g + 1, 2, none⟩), .string s, .bool true, u59, u60, u61, u62, u63, u64, u65, u66, u67, u68, undef, undef, undef, undef, undef, undef], []⟩ ∧ Hid (lq.getD 10 false = false → wx = W.drew) ∧ Hid (lq.getD 10 false = true → wx = set4 W.drew (g + 1 + 1) (.int .i64 2) (.int .i64 0) (.string u) (.slice none 0 0)) ∧ Hid (lq.getD 0 false = true → u59 = .pointer (some ⟨g + 1, 0, none⟩)) ∧ Hid (lq.getD 1 false = true → u60 = .int .i64 2) ∧ Hid (lq.getD 2 false = true → u61 = .pointer (some ⟨z, 0, none⟩)) ∧ Hid (lq.getD 3 false = true → u62 = .pointer (some ⟨z, 0, none⟩)) ∧ Hid (lq.getD 4 false = true → u63 = .pointer (some ⟨z, 1, none⟩)) ∧ Hid (lq.getD 5 false = true → u64 = .slice (some ⟨b, off, none⟩) ln.length cn) ∧ Hid (lq.getD 6 false = true → u65 = .int .i64 (q : Int)) ∧ Hid (lq.getD 7 false = true → u66 = .pointer (some ⟨b, off + q, none⟩)) ∧ Hid (lq.getD 8 false = true → u67 = .string u) ∧ Hid (lq.getD 9 false = true → u68 = .agg #[.int .i64 2, .int .i64 0, .string u, .slice none 0 0])) := ⟨_, rfl⟩
   have HI := hid hI
   clear hI
   refine wpIn_region_invC (by kernel_rfl) I ?_ ?_ ?_ ?_
   ·rw [HI.out]
    exact ⟨undef, undef, undef, undef, undef, undef, undef, undef, undef, undef, rfl, hid (fun _ => rfl), hid (fun h => by simp at h), hid (fun h => by simp at h), hid (fun h => by simp at h), hid (fun h => by simp at h), hid (fun h => by simp at h), hid (fun h => by simp at h), hid (fun h => by simp at h), hid (fun h => by simp at h), hid (fun h => by simp at h), hid (fun h => by simp at h), hid (fun h => by simp at h)⟩
   ·intro lq a wx i hl hc hI0 hi hn hd
    rw [HI.out] at hI0
    obtain ⟨u59, u60, u61, u62, u63, u64, u65, u66, u67, u68, rfl, hW0, hW1, f0, f1, f2, f3, f4, f5, f6, f7, f8, f9⟩ := hI0
    have hs : ∀ j, (lq.setIfInBounds i true).getD j false = if i = j then true else lq.getD j false := fun j => getD_set (by omega)
    have hk : ∀ j, i ≠ j → (lq.setIfInBounds i true).getD j false = lq.getD j false := fun j h => by rw [hs, if_neg h]
    replace hi : i < 11 := hi
    have hcase : i = 0 ∨ i = 1 ∨ i = 2 ∨ i = 3 ∨ i = 4 ∨ i = 5 ∨ i = 6 ∨ i = 7 ∨ i = 8 ∨ i = 9 ∨ i = 10 := by omega
    rcases hcase with rfl | rfl | rfl | rfl | rfl | rfl | rfl | rfl | rfl | rfl | rfl
    ·skip
     have nst : lq.getD 10 false = false := by
      cases e : lq.getD 10 false
      ·rfl
      ·have := hc 10 e 0 (by decide); rw [hn] at this; cases this
     obtain rfl := hW0.out nst
     refine wpOpIn_of_list (by rfl) ?_
     gi_wp2
     show I _ _ _
     rw [HI.out]
     exact ⟨_, _, _, _, _, _, _, _, _, _, rfl, hid (fun _ => rfl), hid (fun h => by rw [hk 10 (by decide), nst] at h; cases h), hid (fun _ => rfl), kf_ f1, kf_ f2, kf_ f3, kf_ f4, kf_ f5, kf_ f6, kf_ f7, kf_ f8, kf_ f9⟩
    ·skip
     have d0 : lq.getD 0 false = true := hd 0 (by decide)
     obtain rfl := f0.out d0
     have nst : lq.getD 10 false = false := by
      cases e : lq.getD 10 false
      ·rfl
      ·have := hc 10 e 1 (by decide); rw [hn] at this; cases this
     obtain rfl := hW0.out nst
     refine wpOpIn_of_list (by rfl) ?_
     gi_wp2
     show I _ _ _
     rw [HI.out]
     exact ⟨_, _, _, _, _, _, _, _, _, _, rfl, hid (fun _ => rfl), hid (fun h => by rw [hk 10 (by decide), nst] at h; cases h), hid (fun _ => rfl), hid (fun _ => rfl), kf_ f2, kf_ f3, kf_ f4, kf_ f5, kf_ f6, kf_ f7, kf_ f8, kf_ f9⟩
    ·skip
     have nst : lq.getD 10 false = false := by
      cases e : lq.getD 10 false
      ·rfl
      ·have := hc 10 e 2 (by decide); rw [hn] at this; cases this
     obtain rfl := hW0.out nst
     refine wpOpIn_of_list (by rfl) ?_
     gi_wp2
     show I _ _ _
     rw [HI.out]
     exact ⟨_, _, _, _, _, _, _, _, _, _, rfl, hid (fun _ => rfl), hid (fun h => by rw [hk 10 (by decide), nst] at h; cases h), kf_ f0, kf_ f1, hid (fun _ => rfl), kf_ f3, kf_ f4, kf_ f5, kf_ f6, kf_ f7, kf_ f8, kf_ f9⟩
    ·skip
     have d2 : lq.getD 2 false = true := hd 2 (by decide)
     obtain rfl := f2.out d2
     have nst : lq.getD 10 false = false := by
      cases e : lq.getD 10 false
      ·rfl
      ·have := hc 10 e 3 (by decide); rw [hn] at this; cases this
     obtain rfl := hW0.out nst
     refine wpOpIn_of_list (by rfl) ?_
     gi_wp2
     show I _ _ _
     rw [HI.out]
     exact ⟨_, _, _, _, _, _, _, _, _, _, rfl, hid (fun _ => rfl), hid (fun h => by rw [hk 10 (by decide), nst] at h; cases h), kf_ f0, kf_ f1, hid (fun _ => rfl), hid (fun _ => rfl), kf_ f4, kf_ f5, kf_ f6, kf_ f7, kf_ f8, kf_ f9⟩
    ·skip
     have d3 : lq.getD 3 false = true := hd 3 (by decide)
     obtain rfl := f3.out d3
     have nst : lq.getD 10 false = false := by
      cases e : lq.getD 10 false
      ·rfl
      ·have := hc 10 e 4 (by decide); rw [hn] at this; cases this
     obtain rfl := hW0.out nst
     refine wpOpIn_of_list (by rfl) ?_
     gi_wp2
     show I _ _ _
     rw [HI.out]
     exact ⟨_, _, _, _, _, _, _, _, _, _, rfl, hid (fun _ => rfl), hid (fun h => by rw [hk 10 (by decide), nst] at h; cases h), kf_ f0, kf_ f1, kf_ f2, hid (fun _ => rfl), hid (fun _ => rfl), kf_ f5, kf_ f6, kf_ f7, kf_ f8, kf_ f9⟩
    ·skip
     have d4 : lq.getD 4 false = true := hd 4 (by decide)
     obtain rfl := f4.out d4
     have nst : lq.getD 10 false = false := by
      cases e : lq.getD 10 false
      ·rfl
      ·have := hc 10 e 5 (by decide); rw [hn] at this; cases this
     obtain rfl := hW0.out nst
     refine wpOpIn_of_list (by rfl) ?_
     gi_wp2
     show I _ _ _
     rw [HI.out]
     exact ⟨_, _, _, _, _, _, _, _, _, _, rfl, hid (fun _ => rfl), hid (fun h => by rw [hk 10 (by decide), nst] at h; cases h), kf_ f0, kf_ f1, kf_ f2, kf_ f3, hid (fun _ => rfl), hid (fun _ => rfl), kf_ f6, kf_ f7, kf_ f8, kf_ f9⟩
    ·skip
     have nst : lq.getD 10 false = false := by
      cases e : lq.getD 10 false
      ·rfl
      ·have := hc 10 e 6 (by decide); rw [hn] at this; cases this
     obtain rfl := hW0.out nst
     refine wpOpIn_of_list (by rfl) ?_
     gi_wp2
     show I _ _ _
     rw [HI.out]
     exact ⟨_, _, _, _, _, _, _, _, _, _, rfl, hid (fun _ => rfl), hid (fun h => by rw [hk 10 (by decide), nst] at h; cases h), kf_ f0, kf_ f1, kf_ f2, kf_ f3, kf_ f4, kf_ f5, hid (fun _ => rfl), kf_ f7, kf_ f8, kf_ f9⟩
    ·skip
     have d5 : lq.getD 5 false = true := hd 5 (by decide)
     have d6 : lq.getD 6 false = true := hd 6 (by decide)
     obtain rfl := f5.out d5
     obtain rfl := f6.out d6
     have nst : lq.getD 10 false = false := by
      cases e : lq.getD 10 false
      ·rfl
      ·have := hc 10 e 7 (by decide); rw [hn] at this; cases this
     obtain rfl := hW0.out nst
     refine wpOpIn_of_list (by rfl) ?_
     gi_wp2
     show I _ _ _
     rw [HI.out]
     exact ⟨_, _, _, _, _, _, _, _, _, _, rfl, hid (fun _ => rfl), hid (fun h => by rw [hk 10 (by decide), nst] at h; cases h), kf_ f0, kf_ f1, kf_ f2, kf_ f3, kf_ f4, hid (fun _ => rfl), hid (fun _ => rfl), hid (fun _ => rfl), kf_ f8, kf_ f9⟩
    ·skip
     have d7 : lq.getD 7 false = true := hd 7 (by decide)
     obtain rfl := f7.out d7
     have nst : lq.getD 10 false = false := by
      cases e : lq.getD 10 false
      ·rfl
      ·have := hc 10 e 8 (by decide); rw [hn] at this; cases this
     obtain rfl := hW0.out nst
     refine wpOpIn_of_list (by rfl) ?_
     gi_wp2
     show I _ _ _
     rw [HI.out]
     exact ⟨_, _, _, _, _, _, _, _, _, _, rfl, hid (fun _ => rfl), hid (fun h => by rw [hk 10 (by decide), nst] at h; cases h), kf_ f0, kf_ f1, kf_ f2, kf_ f3, kf_ f4, kf_ f5, kf_ f6, hid (fun _ => rfl), hid (fun _ => rfl), kf_ f9⟩
    ·skip
     have d1 : lq.getD 1 false = true := hd 1 (by decide)
     have d8 : lq.getD 8 false = true := hd 8 (by decide)
     obtain rfl := f1.out d1
     obtain rfl := f8.out d8
     have nst : lq.getD 10 false = false := by
      cases e : lq.getD 10 false
      ·rfl
      ·have := hc 10 e 9 (by decide); rw [hn] at this; cases this
     obtain rfl := hW0.out nst
     refine wpOpIn_of_list (by rfl) ?_
     gi_wp2
     show I _ _ _
     rw [HI.out]
     exact ⟨_, _, _, _, _, _, _, _, _, _, rfl, hid (fun _ => rfl), hid (fun h => by rw [hk 10 (by decide), nst] at h; cases h), kf_ f0, hid (fun _ => rfl), kf_ f2, kf_ f3, kf_ f4, kf_ f5, kf_ f6, kf_ f7, hid (fun _ => rfl), hid (fun _ => rfl)⟩
    ·skip
     have d9 : lq.getD 9 false = true := hd 9 (by decide)
     obtain rfl := f9.out d9
     obtain rfl := hW0.out hn
     refine wpOpIn_of_list (by rfl) ?_
     gi_wp2
     show I _ _ _
     rw [HI.out]
     exact ⟨_, _, _, _, _, _, _, _, _, _, rfl, hid (fun h => by rw [hs, if_pos rfl] at h; cases h), hid (fun _ => rfl), kf_ f0, kf_ f1, kf_ f2, kf_ f3, kf_ f4, kf_ f5, kf_ f6, kf_ f7, kf_ f8, hid (fun _ => rfl)⟩
   ·intro lq a wx hl hall hI0
    rw [HI.out] at hI0
    obtain ⟨u59, u60, u61, u62, u63, u64, u65, u66, u67, u68, rfl, hW0, hW1, f0, f1, f2, f3, f4, f5, f6, f7, f8, f9⟩ := hI0
    obtain rfl := hW1.out (hall 10 (by decide))
    obtain rfl := f0.out (hall 0 (by decide))
    obtain rfl := f1.out (hall 1 (by decide))
    obtain rfl := f2.out (hall 2 (by decide))
    obtain rfl := f3.out (hall 3 (by decide))
    obtain rfl := f4.out (hall 4 (by decide))
    obtain rfl := f5.out (hall 5 (by decide))
    obtain rfl := f6.out (hall 6 (by decide))
    obtain rfl := f7.out (hall 7 (by decide))
    obtain rfl := f8.out (hall 8 (by decide))
    obtain rfl := f9.out (hall 9 (by decide))
    clear hW0 hW1 f0 f1 f2 f3 f4 f5 f6 f7 f8 f9 hall HI
    gi_wp2
    exact ⟨((KeepsOthers.drew W).trans (set4_keeps _ _ _ _ _ _)).from _, ⟨rfl, pre, x, _, rfl, HP.out, HXX.out, HU.out, NmC.set (W := W.drew) hC.out _⟩, set4_below HB1.out.drew (by omega)⟩
   ·decide
  ·have es : (lo[x.1].toList == s.toList) = false := str_ne hx
   have HXX := hid hx
   clear hx hB1 hp
   gi_wp2
   exact ⟨KeepsFrom.refl _ _, Below.refl _ _, ⟨⟨fun p hp' => (List.mem_append.1 hp').elim (HP.out p) (fun e => by rw [List.mem_singleton.1 e]; exact HXX.out), hC.out⟩, HB1.out⟩, hB2⟩
 case done =>
  rintro D ys W hD rfl ⟨⟨⟨hne, hc⟩, hB⟩, _⟩ hK
  have hC := hid hc
  have HNE := hid hne
  have HB := hid hB
  obtain ⟨c0, x0, x2, ⟨r0, r1, r2, r3⟩, f0, f1, f2, f3⟩ := hc
  clear hne hB
  gi_wp2
  have hR := NmC.set hC.out s
  have hK' := (set4_keeps W (g + 1 + 1) (.int .i64 2) (.int .i64 0) (.string s) (.slice none 0 0)).same D _ hK rfl
  refine ⟨by simp, .inl ⟨_, _, rfl, run_takeDeferred hK', ?_⟩⟩
  have hR' := hR.kept (grownBy_putObj' _ D (.deferred none)) (fun r e => by cases e; exact ⟨_, hK', rfl⟩)
  have hbf : Below w.heap.size w ((set4 W (g + 1 + 1) (.int .i64 2) (.int .i64 0) (.string s) (.slice none 0 0)).putObj D (.deferred none)) := (set4_below HB.out (by omega)).trans (belowK_b (w := w) (Nat.le_refl _) _ D _ _ (by omega) hK' rfl rfl)
  show LeavesInM _ _ _ _ _ _ _ _ ((set4 W (g + 1 + 1) (.int .i64 2) (.int .i64 0) (.string s) (.slice none 0 0)).putObj D (.deferred none))
  generalize (set4 W (g + 1 + 1) (.int .i64 2) (.int .i64 0) (.string s) (.slice none 0 0)).putObj D (.deferred none) = WF at *
  obtain ⟨t0, t1, t2, t3⟩ := hR'
  refine ⟨.agg #[.int .i64 2, .int .i64 0, .string s, .slice none 0 0], ?_, ⟨_, rfl, ?_, hbf⟩⟩
  ·simp [results, Tryz.results47, go_sem, t0, t1, t2, t3]
  ·rw [HX.out, look_all (V := V) (s := s) (fun j y hj => by
     have e := HLO.out
     have hlt : j < lo.length := by rw [e]; exact (List.getElem?_eq_some_iff.1 hj).1
     have h9 := HNE.out ⟨j, hlt⟩ ((comesF_mem lo).2 (by omega))
     rw [← e, List.getElem?_eq_getElem hlt, Option.some.injEq] at hj
     rw [← hj]; exact h9)]
   exact RdE.leaf _ _ (by decide) (by decide) HK.out
 case stop =>
  rintro D c' pre W hD ⟨k, hk, rfl⟩ ⟨⟨rfl, ini, last, x, e1, e2, e3, e4, hcr⟩, hB⟩ hK
  gi_wp2
  refine ⟨by simp, .inl ⟨_, _, rfl, run_takeDeferred hK, ?_⟩⟩
  have hR' := hcr.kept (grownBy_putObj' _ D (.deferred none)) (fun r e => by cases e; exact ⟨_, hK, rfl⟩)
  have hbf : Below w.heap.size w (W.putObj D (.deferred none)) := hB.trans (belowK_b (w := w) (Nat.le_refl _) _ D _ _ (by omega) hK rfl rfl)
  generalize W.putObj D (.deferred none) = WF at *
  obtain ⟨t0, t1, t2, t3⟩ := hR'
  refine ⟨.agg #[.int .i64 2, .int .i64 0, .string x, .slice none 0 0], ?_, ⟨_, rfl, ?_, hbf⟩⟩
  ·simp [results, Tryz.results47, go_sem, t0, t1, t2, t3]
  ·have hox : okS x := by
     obtain ⟨hx1, hx2⟩ := List.getElem?_eq_some_iff.1 e4
     rw [← hx2]
     exact RdL.oks HON.out _ (List.getElem_mem _)
   have hll := last.2
   have eo := HLO.out
   have en := HLN.out
   rw [HX.out, look_back (V := V) (s := s) (n := x) (i := last.1) (by rw [← show lo.length = V.length by rw [eo]; simp]; exact hll) (fun j y hj hy => by
    have hlt : j < lo.length := by rw [eo]; exact (List.getElem?_eq_some_iff.1 hy).1
    rw [← eo, List.getElem?_eq_getElem hlt, Option.some.injEq] at hy
    rw [← hy]
    refine e2 ⟨j, hlt⟩ ?_
    have hpre : (⟨j, hlt⟩ : Fin lo.length) ∈ comesF lo k := (comesF_mem lo).2 (by
     have hl : last ∈ comesF lo k := by rw [e1]; simp
     have := (comesF_mem lo).1 hl
     show lo.length - k ≤ j
     omega)
    rw [e1, List.mem_append] at hpre
    rcases hpre with h | h
    ·exact h
    ·have h := congrArg Fin.val (List.mem_singleton.1 h)
     simp only at h; omega) (by rw [← eo, List.getElem?_eq_getElem hll]; exact congrArg some e3) (by rw [← en]; exact e4)]
   exact RdE.leaf _ _ (by decide) (by decide) hox
theorem rx_all (V : Env) (t : Ex) : RXs V t := Ex.ind (fun t ht => by
 by_cases h : t.kind = 2
 ·exact rx_name V t ht h
 ·exact rx_leaf V t ht h) (fun t a b ht ha hb => rx_two V t a b ht ha hb) t
end Go.Proofs.YtnpgpcnkdocknaaGreatDoor
namespace Go.Proofs.YtnpgpcnkdocknaaGreatDoor
open Go.RowKit
set_option linter.unusedVariables false
theorem Two.cut {base z : Nat} {w0 w : World} {lo X ln Y : List Str} {uo un x0 x1 : Value} {Ao An : Option Addr} {n n' co cn : Nat} {c : Int} (h : Two base z w0 uo un w (lo ++ X) (ln ++ Y) (.slice Ao n co) (.slice An n' cn) x0 x1 c) : Two base z w0 uo un w lo ln (.slice Ao lo.length co) (.slice An ln.length cn) x0 x1 c := by
 have h1 := OwnL.take h.oo (m := lo.length) (by simp)
 have h2 := OwnL.take h.on (m := ln.length) (by simp)
 rw [List.take_left] at h1 h2
 have e1 : (Value.slice Ao lo.length co).ownBlock = (Value.slice Ao n co).ownBlock := by cases Ao <;> rfl
 have e2 : (Value.slice An ln.length cn).ownBlock = (Value.slice An n' cn).ownBlock := by cases An <;> rfl
 have a1 := h.no
 have a2 := h.nn
 have a3 := h.di
 have a4 := h.fo
 have a5 := h.fn
 rw [← e1] at a1 a3 a4
 rw [← e2] at a2 a3 a5
 exact ⟨h.bl, h.zl, h1, h2, a1, a2, a3, a4, a5, h.but⟩
def RSs (l : List St) : Prop := ∀ (base z m : Nat) (w : World) (S : Blocks) (V : Env) (vo vn v : Value), 0 < base → PowT w → RmAt base z w V m vo vn → base ≤ w.heap.size → Sub S (Upto base) → RdSts w S l v → St.wts l ≤ 67108864 → m + St.wts l ≤ 1073741824 → V.length + St.wts l ≤ 1073741000 →
 Calls Tryz.prog 27 #[.pointer (some ⟨z, 0, none⟩), v] w fun e w' => ∃ x vo' vn', e = .returned x ∧ Two base z w vo vn w' ((renP l V m).2.1.map (·.1)).reverse ((renP l V m).2.1.map (·.2)).reverse vo' vn' vo' vn' (((renL l V m).2 : Nat) : Int) ∧ StR w.heap.size vo' vn' w' (renL l V m).1 x
set_option maxHeartbeats 4000000 in
set_option maxRecDepth 100000 in
theorem blk_any (l : List St) (hl : RSs l) (base z m : Nat) (w : World) (S : Blocks) (V : Env) (vo vn v : Value) (hg : 0 < base) (hT : PowT w) (h : RmAt base z w V m vo vn) (hb : base ≤ w.heap.size) (hS : Sub S (Upto base)) (r : RdSts w S l v) (h1 : St.wts l ≤ 67108864) (h2 : m + St.wts l ≤ 1073741824) (h3 : V.length + St.wts l ≤ 1073741000) :
    Calls Tryz.prog 49 #[.pointer (some ⟨z, 0, none⟩), v] w fun e w' => ∃ x vo' vn', e = .returned x ∧ Two base z w vo vn w' (V.map (·.1)).reverse (V.map (·.2)).reverse vo' vn' vo' vn' (((renL l V m).2 : Nat) : Int) ∧ StR w.heap.size vo' vn' w' (renL l V m).1 x := by
 have HSP := hid (hl base z m w S V vo vn v hg hT h hb hS r h1 h2 h3)
 obtain ⟨X, hX, hXl⟩ := renP_env V m _ l rfl
 have hlw := len_wts l
 unfold RmAt at h
 have k0 := h.bl.cell 0 _ rfl
 obtain ⟨Ao, co, rfl⟩ := h.oo.form
 obtain ⟨An, cn, rfl⟩ := h.on.form
 obtain ⟨A5, c5, rfl, -⟩ := r.form
 have hlen : (V.map (·.1)).reverse.length = V.length := by simp
 have hlen2 : (V.map (·.2)).reverse.length = V.length := by simp
 have HX := hid hX
 rw [hlen] at k0 HSP h ⊢
 rw [hlen2] at HSP h ⊢
 have HR := hid h
 have hzl := h.bl.lt
 clear h hl r hX hlen hlen2 hT hS
 obtain ⟨n, hn⟩ : ∃ n, n = V.length := ⟨_, rfl⟩
 rw [← hn] at k0 HSP HR ⊢
 have HN := hid hn
 clear hn
 go_enter Tryz.func49, Tryz.ntmps49
 go_wp2_with fail
 refine HSP.out.mono ?_
 rintro e w3 ⟨x, vo3, vn3, rfl, ht3, hx3⟩
 rw [HX.out, List.map_append, List.map_append, List.reverse_append, List.reverse_append] at ht3
 obtain ⟨A3, c3, rfl⟩ := ht3.oo.form
 obtain ⟨A4, c4, rfl⟩ := ht3.on.form
 have hcp := ht3.oo.cap_le
 have hcq := ht3.on.cap_le
 have hl3 : ((V.map (·.1)).reverse ++ (X.map (·.1)).reverse).length = n + X.length := by rw [HN.out]; simp
 have hl4 : ((V.map (·.2)).reverse ++ (X.map (·.2)).reverse).length = n + X.length := by rw [HN.out]; simp
 rw [hl3] at hcp ht3 hx3
 rw [hl4] at hcq ht3 hx3
 have j0 := ht3.bl.cell 0 _ rfl
 have j1 := ht3.bl.cell 1 _ rfl
 have HT3 := hid ht3
 have HX3 := hid hx3
 have hzl3 := ht3.bl.lt
 unfold maxLen at hcp hcq
 have hb1 : n ≤ c3 := by omega
 have hb2 : (n : Int) ≤ (c3 : Int) := by omega
 have hb3 : (0 : Int) ≤ (n : Int) := by omega
 have hb4 : n ≤ c4 := by omega
 have hb5 : (n : Int) ≤ (c4 : Int) := by omega
 have hf0 := ht3.bl.fr 0
 have hf1 := ht3.bl.fr 1
 clear ht3 hx3 hl3 hl4 HSP k0
 have hcm3 := hcp.2
 have hcm4 := hcq.2
 clear hcp hcq
 generalize n + X.length = n3 at *
 go_upto_region 3 with (fail)
 obtain ⟨I, hI⟩ : ∃ I : Array Bool → Act → World → Prop, I = (fun (lq : Array Bool) (aq : Act) (wx : World) => ∃ (u15 u16 u17 u18 u19 u20 u21 u22 u23 u24 u25 u26 u27 u28 u29 u30 u31 u32 : Value), aq = ⟨#[.pointer (some ⟨z, 0, none⟩), .slice A5 l.length c5, undef, undef, .slice none 0 0, .int .i64 (n : Int), x, .pointer (some ⟨z, 0, none⟩), .pointer (some ⟨z, 0, none⟩), .pointer (some ⟨z, 0, none⟩), .slice Ao n co, .int .i64 (n : Int), .pointer (some ⟨z, 0, none⟩), .slice A5 l.length c5, x, u15, u16, u17, u18, u19, u20, u21, u22, u23, u24, u25, u26, u27, u28, u29, u30, u31, u32, undef], []⟩ ∧ Hid (lq.getD 16 false = false → wx = w3.drew) ∧ Hid (lq.getD 16 false = true → lq.getD 19 false = false → wx = (w3.drew.setCell ⟨z, 0, none⟩ (.slice A3 n c3))) ∧ Hid (lq.getD 19 false = true → wx = ((w3.drew.setCell ⟨z, 0, none⟩ (.slice A3 n c3)).setCell ⟨z, 1, none⟩ (.slice A4 n c4))) ∧ Hid (lq.getD 0 false = true → u15 = .pointer (some ⟨z, 0, none⟩)) ∧ Hid (lq.getD 1 false = true → u16 = .pointer (some ⟨z, 0, none⟩)) ∧ Hid (lq.getD 2 false = true → u17 = .pointer (some ⟨z, 0, none⟩)) ∧ Hid (lq.getD 3 false = true → u18 = .pointer (some ⟨z, 0, none⟩)) ∧ Hid (lq.getD 4 false = true → u19 = .pointer (some ⟨z, 0, none⟩)) ∧ Hid (lq.getD 5 false = true → u20 = .slice A3 n3 c3) ∧ Hid (lq.getD 6 false = true → u21 = .int .i64 (n : Int)) ∧ Hid (lq.getD 7 false = true → u22 = .slice A3 n c3) ∧ Hid (lq.getD 8 false = true → u23 = .pointer (some ⟨z, 0, none⟩)) ∧ Hid (lq.getD 9 false = true → u24 = .pointer (some ⟨z, 0, none⟩)) ∧ Hid (lq.getD 10 false = true → u25 = .pointer (some ⟨z, 1, none⟩)) ∧ Hid (lq.getD 11 false = true → u26 = .slice A4 n3 c4) ∧ Hid (lq.getD 12 false = true → u27 = .int .i64 (n : Int)) ∧ Hid (lq.getD 13 false = true → u28 = .slice A4 n c4) ∧ Hid (lq.getD 14 false = true → u29 = .pointer (some ⟨z, 0, none⟩)) ∧ Hid (lq.getD 15 false = true → u30 = .pointer (some ⟨z, 0, none⟩)) ∧ Hid (lq.getD 17 false = true → u31 = .pointer (some ⟨z, 0, none⟩)) ∧ Hid (lq.getD 18 false = true → u32 = .pointer (some ⟨z, 1, none⟩))) := ⟨_, rfl⟩
 have HI := hid hI
 clear hI
 refine wp_region_invC (by kernel_rfl) I ?_ ?_ ?_ ?_
 ·rw [HI.out]
  exact ⟨_, _, _, _, _, _, _, _, _, _, _, _, _, _, _, _, _, _, rfl, hid (fun _ => rfl), hid (fun h => by simp at h), hid (fun h => by simp at h), hid (fun h => by simp at h), hid (fun h => by simp at h), hid (fun h => by simp at h), hid (fun h => by simp at h), hid (fun h => by simp at h), hid (fun h => by simp at h), hid (fun h => by simp at h), hid (fun h => by simp at h), hid (fun h => by simp at h), hid (fun h => by simp at h), hid (fun h => by simp at h), hid (fun h => by simp at h), hid (fun h => by simp at h), hid (fun h => by simp at h), hid (fun h => by simp at h), hid (fun h => by simp at h), hid (fun h => by simp at h), hid (fun h => by simp at h)⟩
 ·intro lq aq wx i hl hc hI0 hi hn hd
  rw [HI.out] at hI0
  obtain ⟨u15, u16, u17, u18, u19, u20, u21, u22, u23, u24, u25, u26, u27, u28, u29, u30, u31, u32, rfl, hW0, hW1, hW2, f0, f1, f2, f3, f4, f5, f6, f7, f8, f9, f10, f11, f12, f13, f14, f15, f17, f18⟩ := hI0
  have hs : ∀ j, (lq.setIfInBounds i true).getD j false = if i = j then true else lq.getD j false := fun j => getD_set (by omega)
  have hk : ∀ j, i ≠ j → (lq.setIfInBounds i true).getD j false = lq.getD j false := fun j h => by rw [hs, if_neg h]
  replace hi : i < 20 := hi
  have hcase : i = 0 ∨ i = 1 ∨ i = 2 ∨ i = 3 ∨ i = 4 ∨ i = 5 ∨ i = 6 ∨ i = 7 ∨ i = 8 ∨ i = 9 ∨ i = 10 ∨ i = 11 ∨ i = 12 ∨ i = 13 ∨ i = 14 ∨ i = 15 ∨ i = 16 ∨ i = 17 ∨ i = 18 ∨ i = 19 := by omega
  rcases hcase with rfl | rfl | rfl | rfl | rfl | rfl | rfl | rfl | rfl | rfl | rfl | rfl | rfl | rfl | rfl | rfl | rfl | rfl | rfl | rfl
  ·skip
   refine wpOp_of_list (by rfl) ?_
   go_wp2_with fail
   show I _ _ _
   rw [HI.out]
   exact ⟨_, _, _, _, _, _, _, _, _, _, _, _, _, _, _, _, _, _, rfl, kf_ hW0, kf2_ hW1, kf_ hW2, hid (fun _ => rfl), kf_ f1, kf_ f2, kf_ f3, kf_ f4, kf_ f5, kf_ f6, kf_ f7, kf_ f8, kf_ f9, kf_ f10, kf_ f11, kf_ f12, kf_ f13, kf_ f14, kf_ f15, kf_ f17, kf_ f18⟩
  ·skip
   refine wpOp_of_list (by rfl) ?_
   go_wp2_with fail
   show I _ _ _
   rw [HI.out]
   exact ⟨_, _, _, _, _, _, _, _, _, _, _, _, _, _, _, _, _, _, rfl, kf_ hW0, kf2_ hW1, kf_ hW2, kf_ f0, hid (fun _ => rfl), kf_ f2, kf_ f3, kf_ f4, kf_ f5, kf_ f6, kf_ f7, kf_ f8, kf_ f9, kf_ f10, kf_ f11, kf_ f12, kf_ f13, kf_ f14, kf_ f15, kf_ f17, kf_ f18⟩
  ·skip
   refine wpOp_of_list (by rfl) ?_
   go_wp2_with fail
   show I _ _ _
   rw [HI.out]
   exact ⟨_, _, _, _, _, _, _, _, _, _, _, _, _, _, _, _, _, _, rfl, kf_ hW0, kf2_ hW1, kf_ hW2, kf_ f0, kf_ f1, hid (fun _ => rfl), kf_ f3, kf_ f4, kf_ f5, kf_ f6, kf_ f7, kf_ f8, kf_ f9, kf_ f10, kf_ f11, kf_ f12, kf_ f13, kf_ f14, kf_ f15, kf_ f17, kf_ f18⟩
  ·skip
   have d2 : lq.getD 2 false = true := hd 2 (by decide)
   obtain rfl := f2.out d2
   refine wpOp_of_list (by rfl) ?_
   go_wp2_with fail
   show I _ _ _
   rw [HI.out]
   exact ⟨_, _, _, _, _, _, _, _, _, _, _, _, _, _, _, _, _, _, rfl, kf_ hW0, kf2_ hW1, kf_ hW2, kf_ f0, kf_ f1, hid (fun _ => rfl), hid (fun _ => rfl), kf_ f4, kf_ f5, kf_ f6, kf_ f7, kf_ f8, kf_ f9, kf_ f10, kf_ f11, kf_ f12, kf_ f13, kf_ f14, kf_ f15, kf_ f17, kf_ f18⟩
  ·skip
   have d3 : lq.getD 3 false = true := hd 3 (by decide)
   obtain rfl := f3.out d3
   refine wpOp_of_list (by rfl) ?_
   go_wp2_with fail
   show I _ _ _
   rw [HI.out]
   exact ⟨_, _, _, _, _, _, _, _, _, _, _, _, _, _, _, _, _, _, rfl, kf_ hW0, kf2_ hW1, kf_ hW2, kf_ f0, kf_ f1, kf_ f2, hid (fun _ => rfl), hid (fun _ => rfl), kf_ f5, kf_ f6, kf_ f7, kf_ f8, kf_ f9, kf_ f10, kf_ f11, kf_ f12, kf_ f13, kf_ f14, kf_ f15, kf_ f17, kf_ f18⟩
  ·skip
   have d4 : lq.getD 4 false = true := hd 4 (by decide)
   obtain rfl := f4.out d4
   have nst16 : lq.getD 16 false = false := by
    cases e : lq.getD 16 false
    ·rfl
    ·have := hc 16 e 5 (by decide); rw [hn] at this; cases this
   obtain rfl := hW0.out nst16
   refine wpOp_of_list (by rfl) ?_
   go_wp2_with fail
   show I _ _ _
   rw [HI.out]
   exact ⟨_, _, _, _, _, _, _, _, _, _, _, _, _, _, _, _, _, _, rfl, hid (fun _ => rfl), hid (fun h _ => by rw [hk 16 (by decide), nst16] at h; cases h), hid (fun h => by rw [hk 19 (by decide)] at h; have h9 := hc 19 h 16 (by decide); rw [nst16] at h9; cases h9), kf_ f0, kf_ f1, kf_ f2, kf_ f3, hid (fun _ => rfl), hid (fun _ => rfl), kf_ f6, kf_ f7, kf_ f8, kf_ f9, kf_ f10, kf_ f11, kf_ f12, kf_ f13, kf_ f14, kf_ f15, kf_ f17, kf_ f18⟩
  ·skip
   refine wpOp_of_list (by rfl) ?_
   go_wp2_with fail
   show I _ _ _
   rw [HI.out]
   exact ⟨_, _, _, _, _, _, _, _, _, _, _, _, _, _, _, _, _, _, rfl, kf_ hW0, kf2_ hW1, kf_ hW2, kf_ f0, kf_ f1, kf_ f2, kf_ f3, kf_ f4, kf_ f5, hid (fun _ => rfl), kf_ f7, kf_ f8, kf_ f9, kf_ f10, kf_ f11, kf_ f12, kf_ f13, kf_ f14, kf_ f15, kf_ f17, kf_ f18⟩
  ·skip
   have d5 : lq.getD 5 false = true := hd 5 (by decide)
   have d6 : lq.getD 6 false = true := hd 6 (by decide)
   obtain rfl := f5.out d5
   obtain rfl := f6.out d6
   refine wpOp_of_list (by rfl) ?_
   go_wp2_with fail
   show I _ _ _
   rw [HI.out]
   exact ⟨_, _, _, _, _, _, _, _, _, _, _, _, _, _, _, _, _, _, rfl, kf_ hW0, kf2_ hW1, kf_ hW2, kf_ f0, kf_ f1, kf_ f2, kf_ f3, kf_ f4, hid (fun _ => rfl), hid (fun _ => rfl), hid (fun _ => rfl), kf_ f8, kf_ f9, kf_ f10, kf_ f11, kf_ f12, kf_ f13, kf_ f14, kf_ f15, kf_ f17, kf_ f18⟩
  ·skip
   refine wpOp_of_list (by rfl) ?_
   go_wp2_with fail
   show I _ _ _
   rw [HI.out]
   exact ⟨_, _, _, _, _, _, _, _, _, _, _, _, _, _, _, _, _, _, rfl, kf_ hW0, kf2_ hW1, kf_ hW2, kf_ f0, kf_ f1, kf_ f2, kf_ f3, kf_ f4, kf_ f5, kf_ f6, kf_ f7, hid (fun _ => rfl), kf_ f9, kf_ f10, kf_ f11, kf_ f12, kf_ f13, kf_ f14, kf_ f15, kf_ f17, kf_ f18⟩
  ·skip
   have d8 : lq.getD 8 false = true := hd 8 (by decide)
   obtain rfl := f8.out d8
   refine wpOp_of_list (by rfl) ?_
   go_wp2_with fail
   show I _ _ _
   rw [HI.out]
   exact ⟨_, _, _, _, _, _, _, _, _, _, _, _, _, _, _, _, _, _, rfl, kf_ hW0, kf2_ hW1, kf_ hW2, kf_ f0, kf_ f1, kf_ f2, kf_ f3, kf_ f4, kf_ f5, kf_ f6, kf_ f7, hid (fun _ => rfl), hid (fun _ => rfl), kf_ f10, kf_ f11, kf_ f12, kf_ f13, kf_ f14, kf_ f15, kf_ f17, kf_ f18⟩
  ·skip
   have d9 : lq.getD 9 false = true := hd 9 (by decide)
   obtain rfl := f9.out d9
   refine wpOp_of_list (by rfl) ?_
   go_wp2_with fail
   show I _ _ _
   rw [HI.out]
   exact ⟨_, _, _, _, _, _, _, _, _, _, _, _, _, _, _, _, _, _, rfl, kf_ hW0, kf2_ hW1, kf_ hW2, kf_ f0, kf_ f1, kf_ f2, kf_ f3, kf_ f4, kf_ f5, kf_ f6, kf_ f7, kf_ f8, hid (fun _ => rfl), hid (fun _ => rfl), kf_ f11, kf_ f12, kf_ f13, kf_ f14, kf_ f15, kf_ f17, kf_ f18⟩
  ·skip
   have d10 : lq.getD 10 false = true := hd 10 (by decide)
   obtain rfl := f10.out d10
   have nst16 : lq.getD 16 false = false := by
    cases e : lq.getD 16 false
    ·rfl
    ·have := hc 16 e 11 (by decide); rw [hn] at this; cases this
   obtain rfl := hW0.out nst16
   refine wpOp_of_list (by rfl) ?_
   go_wp2_with fail
   show I _ _ _
   rw [HI.out]
   exact ⟨_, _, _, _, _, _, _, _, _, _, _, _, _, _, _, _, _, _, rfl, hid (fun _ => rfl), hid (fun h _ => by rw [hk 16 (by decide), nst16] at h; cases h), hid (fun h => by rw [hk 19 (by decide)] at h; have h9 := hc 19 h 16 (by decide); rw [nst16] at h9; cases h9), kf_ f0, kf_ f1, kf_ f2, kf_ f3, kf_ f4, kf_ f5, kf_ f6, kf_ f7, kf_ f8, kf_ f9, hid (fun _ => rfl), hid (fun _ => rfl), kf_ f12, kf_ f13, kf_ f14, kf_ f15, kf_ f17, kf_ f18⟩
  ·skip
   refine wpOp_of_list (by rfl) ?_
   go_wp2_with fail
   show I _ _ _
   rw [HI.out]
   exact ⟨_, _, _, _, _, _, _, _, _, _, _, _, _, _, _, _, _, _, rfl, kf_ hW0, kf2_ hW1, kf_ hW2, kf_ f0, kf_ f1, kf_ f2, kf_ f3, kf_ f4, kf_ f5, kf_ f6, kf_ f7, kf_ f8, kf_ f9, kf_ f10, kf_ f11, hid (fun _ => rfl), kf_ f13, kf_ f14, kf_ f15, kf_ f17, kf_ f18⟩
  ·skip
   have d11 : lq.getD 11 false = true := hd 11 (by decide)
   have d12 : lq.getD 12 false = true := hd 12 (by decide)
   obtain rfl := f11.out d11
   obtain rfl := f12.out d12
   refine wpOp_of_list (by rfl) ?_
   go_wp2_with fail
   show I _ _ _
   rw [HI.out]
   exact ⟨_, _, _, _, _, _, _, _, _, _, _, _, _, _, _, _, _, _, rfl, kf_ hW0, kf2_ hW1, kf_ hW2, kf_ f0, kf_ f1, kf_ f2, kf_ f3, kf_ f4, kf_ f5, kf_ f6, kf_ f7, kf_ f8, kf_ f9, kf_ f10, hid (fun _ => rfl), hid (fun _ => rfl), hid (fun _ => rfl), kf_ f14, kf_ f15, kf_ f17, kf_ f18⟩
  ·skip
   have d0 : lq.getD 0 false = true := hd 0 (by decide)
   obtain rfl := f0.out d0
   refine wpOp_of_list (by rfl) ?_
   go_wp2_with fail
   show I _ _ _
   rw [HI.out]
   exact ⟨_, _, _, _, _, _, _, _, _, _, _, _, _, _, _, _, _, _, rfl, kf_ hW0, kf2_ hW1, kf_ hW2, hid (fun _ => rfl), kf_ f1, kf_ f2, kf_ f3, kf_ f4, kf_ f5, kf_ f6, kf_ f7, kf_ f8, kf_ f9, kf_ f10, kf_ f11, kf_ f12, kf_ f13, hid (fun _ => rfl), kf_ f15, kf_ f17, kf_ f18⟩
  ·skip
   have d14 : lq.getD 14 false = true := hd 14 (by decide)
   obtain rfl := f14.out d14
   refine wpOp_of_list (by rfl) ?_
   go_wp2_with fail
   show I _ _ _
   rw [HI.out]
   exact ⟨_, _, _, _, _, _, _, _, _, _, _, _, _, _, _, _, _, _, rfl, kf_ hW0, kf2_ hW1, kf_ hW2, kf_ f0, kf_ f1, kf_ f2, kf_ f3, kf_ f4, kf_ f5, kf_ f6, kf_ f7, kf_ f8, kf_ f9, kf_ f10, kf_ f11, kf_ f12, kf_ f13, hid (fun _ => rfl), hid (fun _ => rfl), kf_ f17, kf_ f18⟩
  ·skip
   have d7 : lq.getD 7 false = true := hd 7 (by decide)
   have d15 : lq.getD 15 false = true := hd 15 (by decide)
   obtain rfl := f15.out d15
   obtain rfl := f7.out d7
   obtain rfl := hW0.out hn
   refine wpOp_of_list (by rfl) ?_
   go_wp2_with fail
   show I _ _ _
   rw [HI.out]
   exact ⟨_, _, _, _, _, _, _, _, _, _, _, _, _, _, _, _, _, _, rfl, hid (fun h' => by rw [hs, if_pos rfl] at h'; cases h'), hid (fun _ _ => rfl), hid (fun h => by rw [hk 19 (by decide)] at h; have h9 := hc 19 h 16 (by decide); rw [hn] at h9; cases h9), kf_ f0, kf_ f1, kf_ f2, kf_ f3, kf_ f4, kf_ f5, kf_ f6, hid (fun _ => rfl), kf_ f8, kf_ f9, kf_ f10, kf_ f11, kf_ f12, kf_ f13, kf_ f14, hid (fun _ => rfl), kf_ f17, kf_ f18⟩
  ·skip
   have d1 : lq.getD 1 false = true := hd 1 (by decide)
   obtain rfl := f1.out d1
   refine wpOp_of_list (by rfl) ?_
   go_wp2_with fail
   show I _ _ _
   rw [HI.out]
   exact ⟨_, _, _, _, _, _, _, _, _, _, _, _, _, _, _, _, _, _, rfl, kf_ hW0, kf2_ hW1, kf_ hW2, kf_ f0, hid (fun _ => rfl), kf_ f2, kf_ f3, kf_ f4, kf_ f5, kf_ f6, kf_ f7, kf_ f8, kf_ f9, kf_ f10, kf_ f11, kf_ f12, kf_ f13, kf_ f14, kf_ f15, hid (fun _ => rfl), kf_ f18⟩
  ·skip
   have d17 : lq.getD 17 false = true := hd 17 (by decide)
   obtain rfl := f17.out d17
   refine wpOp_of_list (by rfl) ?_
   go_wp2_with fail
   show I _ _ _
   rw [HI.out]
   exact ⟨_, _, _, _, _, _, _, _, _, _, _, _, _, _, _, _, _, _, rfl, kf_ hW0, kf2_ hW1, kf_ hW2, kf_ f0, kf_ f1, kf_ f2, kf_ f3, kf_ f4, kf_ f5, kf_ f6, kf_ f7, kf_ f8, kf_ f9, kf_ f10, kf_ f11, kf_ f12, kf_ f13, kf_ f14, kf_ f15, hid (fun _ => rfl), hid (fun _ => rfl)⟩
  ·skip
   have d13 : lq.getD 13 false = true := hd 13 (by decide)
   have d16 : lq.getD 16 false = true := hd 16 (by decide)
   have d18 : lq.getD 18 false = true := hd 18 (by decide)
   obtain rfl := f18.out d18
   obtain rfl := f13.out d13
   obtain rfl := hW1.out d16 hn
   refine wpOp_of_list (by rfl) ?_
   go_wp2_with fail
   show I _ _ _
   rw [HI.out]
   exact ⟨_, _, _, _, _, _, _, _, _, _, _, _, _, _, _, _, _, _, rfl, hid (fun h' => by rw [hk 16 (by decide), d16] at h'; cases h'), hid (fun _ h' => by rw [hs, if_pos rfl] at h'; cases h'), hid (fun _ => rfl), kf_ f0, kf_ f1, kf_ f2, kf_ f3, kf_ f4, kf_ f5, kf_ f6, kf_ f7, kf_ f8, kf_ f9, kf_ f10, kf_ f11, kf_ f12, hid (fun _ => rfl), kf_ f14, kf_ f15, kf_ f17, hid (fun _ => rfl)⟩
 ·intro lq aq wx hl hall hI0
  rw [HI.out] at hI0
  obtain ⟨u15, u16, u17, u18, u19, u20, u21, u22, u23, u24, u25, u26, u27, u28, u29, u30, u31, u32, rfl, hW0, hW1, hW2, f0, f1, f2, f3, f4, f5, f6, f7, f8, f9, f10, f11, f12, f13, f14, f15, f17, f18⟩ := hI0
  obtain rfl := hW2.out (hall 19 (by decide))
  obtain rfl := f0.out (hall 0 (by decide))
  obtain rfl := f1.out (hall 1 (by decide))
  obtain rfl := f2.out (hall 2 (by decide))
  obtain rfl := f3.out (hall 3 (by decide))
  obtain rfl := f4.out (hall 4 (by decide))
  obtain rfl := f5.out (hall 5 (by decide))
  obtain rfl := f6.out (hall 6 (by decide))
  obtain rfl := f7.out (hall 7 (by decide))
  obtain rfl := f8.out (hall 8 (by decide))
  obtain rfl := f9.out (hall 9 (by decide))
  obtain rfl := f10.out (hall 10 (by decide))
  obtain rfl := f11.out (hall 11 (by decide))
  obtain rfl := f12.out (hall 12 (by decide))
  obtain rfl := f13.out (hall 13 (by decide))
  obtain rfl := f14.out (hall 14 (by decide))
  obtain rfl := f15.out (hall 15 (by decide))
  obtain rfl := f17.out (hall 17 (by decide))
  obtain rfl := f18.out (hall 18 (by decide))
  clear hW0 hW1 hW2 f0 f1 f2 f3 f4 f5 f6 f7 f8 f9 f10 f11 f12 f13 f14 f15 f17 f18 hall HI
  have T4 := (HT3.out.drew.set (i := 0) (by decide) (.slice A3 n c3) _ _ _ rfl).set (i := 1) (by decide) (.slice A4 n c4) _ _ _ rfl
  have X4 := (((HX3.out.below (Below.refl _ _).drew).set (y := z) (o := 0) hzl (.slice A3 n c3))).set (y := z) (o := 1) hzl (.slice A4 n c4)
  have T5 := Two.cut T4
  have e1 : (V.map (·.1)).reverse.length = n := by rw [HN.out]; simp
  have e2 : (V.map (·.2)).reverse.length = n := by rw [HN.out]; simp
  rw [e1, e2] at T5
  go_wp2
  go_ret
  obtain ⟨T6, hT6, r6⟩ := X4
  have eo : (Value.slice A3 n c3).ownBlock = (Value.slice A3 n3 c3).ownBlock := by cases A3 <;> rfl
  have en : (Value.slice A4 n c4).ownBlock = (Value.slice A4 n3 c4).ownBlock := by cases A4 <;> rfl
  exact ⟨_, _, _, rfl, T5, T6, fun k hk => by rw [eo, en]; exact hT6 k hk, r6⟩
 ·decide
end Go.Proofs.YtnpgpcnkdocknaaGreatDoor
