/- The walk of graph.first: a set's least number. -/
import Derived.Test.YtknaoianhjeccaaDoorGs2
namespace Go.Proofs.YtknaoianhjeccaaDoor
open Go.RowKit Go.Shelf
set_option linter.unusedVariables false
attribute [local go_sem] Oper.semAt_some
theorem new_at (W : World) (v : Value) (t : TypeId) : (W.alloc (.cells #[v] t)).cell? ⟨W.heap.size, 0, none⟩ = some v := by
  have h := World.alloc_heap_new W (.cells #[v] t)
  simp only [World.cell?, h]
  rfl
/-- the first, or -1 -/
def headI (l : List Nat) : Int := match l with | [] => -1 | n :: _ => n
set_option maxHeartbeats 1600000 in
set_option maxRecDepth 100000 in
theorem first_any (l : List Nat) (w : World) (S : Blocks) (v : Value) (hS : Sub S (Upto w.heap.size)) (hT : Tab w) (re : RdU w S l v) :
    Calls Tryd.prog 41 #[v] w fun e w' => e = .returned (.int .i64 (headI (memB l l.length))) ∧ Below w.heap.size w w' := by
  obtain ⟨A, cap, rfl, hl, hcm, hby⟩ := re.form
  have RE := Lib.hid re
  have HS := Lib.hid hS
  have HT := Lib.hid hT
  clear re hS hT
  refine (callsIn_wide (n := 3)).1 ?_
  refine callsIn_of_wp_marks Tryd.func41 rfl trivial ?_ rfl
  simp only [Tryd.ntmps41, List.size_toArray, List.length_cons, List.length_nil, Nat.reduceAdd, Nat.reduceSub, Array.replicate_succ, Array.replicate_zero, List.push_toArray, List.append_toArray, List.nil_append, List.cons_append]
  gi_wp2
  refine ⟨trivial, ?_⟩
  refine (all_in _ _ _ _ _).mono ?_
  rintro e w2 ⟨rfl, rfl⟩
  gi_wp2
  have b1 : Below w.heap.size w (((w.alloc (.cells #[.int .i64 0] 3))).alloc (.cells #[.slice A l.length cap] 53)) := ((Below.refl _ _).alloc (Nat.le_refl _) _).alloc (by simp) _
  have hcS : (((w.alloc (.cells #[.int .i64 0] 3))).alloc (.cells #[.slice A l.length cap] 53)).cell? ⟨((w.alloc (.cells #[.int .i64 0] 3))).heap.size, 0, none⟩ = some (.slice A l.length cap) := new_at _ _ _
  have hr0 := (Blk.made w [.int .i64 0] 3 (base := 0) (Nat.zero_le _)).below ((Below.refl _ _).alloc (Nat.le_refl _) (.cells #[.slice A l.length cap] 53))
  have kr : (((w.alloc (.cells #[.int .i64 0] 3))).alloc (.cells #[.slice A l.length cap] 53)).cell? ⟨w.heap.size, 0, none⟩ = some (.int .i64 0) := hr0.cell 0 _ rfl
  have fr : (((w.alloc (.cells #[.int .i64 0] 3))).alloc (.cells #[.slice A l.length cap] 53)).frozen? ⟨w.heap.size, 0, none⟩ = false := hr0.fr 0
  have REW := Lib.hid (RE.out.keep Flat.keeps (Sub.refl _) (same_of_below b1 HS.out))
  have TW := HT.out.go b1
  have hsz0 : (((w.alloc (.cells #[.int .i64 0] 3))).alloc (.cells #[.slice A l.length cap] 53)).heap.size = w.heap.size + 1 + 1 := by simp
  rw [show ((w.alloc (.cells #[.int .i64 0] 3))).heap.size = w.heap.size + 1 by simp] at hcS
  obtain ⟨W0, hW0⟩ : ∃ W0, ((w.alloc (.cells #[.int .i64 0] 3))).alloc (.cells #[.slice A l.length cap] 53) = W0 := ⟨_, rfl⟩
  rw [hW0] at hcS kr fr b1 REW TW hsz0 ⊢
  clear hW0 hr0
  have hS0 : Sub S (Upto W0.heap.size) := HS.out.trans (Sub.upto (by omega))
  have hg0 : 0 < W0.heap.size := TW.2
  refine wpIn_rangeFunc_ownH rfl (by omega) (gf := 30) (lb := #[.pointer (some ⟨w.heap.size + 1, 0, none⟩)]) rfl trivial (enters_of Tryd.func30 (by kernel_rfl) rfl)
    (all_stops _ (by omega) (w.heap.size + 1) W0.heap.size A cap l S hS0 W0 (by omega) (Nat.le_refl _) TW hg0 hcS REW.out) belowK_t (belowK_b (Nat.le_refl _)) (Below.refl _ _) (fun _ => rfl)
    (fun pre W => ((pre = [] ∧ W.cell? ⟨w.heap.size, 0, none⟩ = some (.int .i64 0) ∧ W.frozen? ⟨w.heap.size, 0, none⟩ = false) ∧ Below w.heap.size w W) ∧ Below W0.heap.size W0 W)
    (fun c pre W => (c = .ret ∧ ∃ x : Nat, pre = [x] ∧ W.cell? ⟨w.heap.size, 0, none⟩ = some (.int .i64 (x : Int))) ∧ Below w.heap.size w W)
    (OwnFrom.and (OwnFrom.and (Own.from (fun s A B row hs hg hr => ⟨hs.1, cell_kept hs.2.1 hg hr, (frozen_kept hs.2.1 hg hr).trans hs.2.2⟩) _) (ownFrom_below (Nat.le_refl _) (by omega))) (ownFrom_below (Nat.le_refl _) (Nat.le_refl _)))
    (fun c => OwnFrom.and (Own.from (fun s A B row hs hg hr => by obtain ⟨hc, x, e1, e4⟩ := hs; exact ⟨hc, x, e1, cell_kept e4 hg hr⟩) _) (ownFrom_below (Nat.le_refl _) (by omega)))
    ⟨⟨⟨rfl, kr, fr⟩, b1⟩, Below.refl _ _⟩
    (fun x a' W => a' = { tmps := #[.slice A l.length cap, undef, .pointer (some ⟨w.heap.size, 0, none⟩), .int .i64 (x : Int), .slice A l.length cap, .func (.func 30) #[] #[.pointer (some ⟨w.heap.size + 1, 0, none⟩)], .int .i64 (x : Int), undef], defers := [] })
    (fun x a' _ X Y row hs hg hr => hs)
    ?assign ?body ?done ?stop
  case assign =>
    rintro l' pre x W K ⟨⟨⟨hp, cr, cf⟩, hB1⟩, hB2⟩ hK
    gi_wp2
    exact hK _ _ (KeepsFrom.refl _ _) (Below.refl _ _) ⟨⟨⟨hp, cr, cf⟩, hB1⟩, hB2⟩ rfl
  case body =>
    rintro l' pre x a' W hl' ⟨r, hr⟩ ⟨⟨⟨hp, cr, cf⟩, hB1⟩, hB2⟩ rfl hlt
    subst hp
    gi_wp2
    exact ⟨(KeepsOthers.setCell _ _ _).from _, ⟨rfl, x, rfl, World.cell?_setCell_same' _ _ _ (by rw [cr]; rfl)⟩, hB1.setCell (p := ⟨w.heap.size, 0, none⟩) (Nat.le_refl _) _⟩
  case done =>
    rintro D ys W hD hys ⟨⟨⟨rfl, cr, cf⟩, hB⟩, _⟩ hK
    have HH := Lib.hid (show headI (memB l l.length) = -1 by rw [← hys]; rfl)
    clear hys
    gi_wp2
    have hK' := (KeepsOthers.setCell W ⟨w.heap.size, 0, none⟩ (.int .i64 (-1))).same D _ hK rfl
    refine ⟨by simp, .inl ⟨_, _, rfl, run_takeDeferred hK', ?_⟩⟩
    have hc5 := cell_kept (World.cell?_setCell_same' W ⟨w.heap.size, 0, none⟩ (.int .i64 (-1)) (by rw [cr]; rfl)) (grownBy_putObj' _ D (.deferred none)) (fun r e => by cases e; exact ⟨_, hK', rfl⟩)
    refine ⟨.int .i64 (-1), ?_, by rw [HH.out], (hB.setCell (p := ⟨w.heap.size, 0, none⟩) (Nat.le_refl _) _).trans (belowK_b (w := w) (Nat.le_refl _) _ D _ _ (by omega) hK' rfl rfl)⟩
    simp [results, Tryd.f41, go_sem, hc5]
  case stop =>
    rintro D c' pre W hD hpre ⟨⟨rfl, x, rfl, hcr⟩, hB⟩ hK
    have HH := Lib.hid (show headI (memB l l.length) = (x : Int) by obtain ⟨t, ht⟩ := hpre; rw [← ht]; rfl)
    gi_wp2
    refine ⟨by simp, .inl ⟨_, _, rfl, run_takeDeferred hK, ?_⟩⟩
    have hc5 := cell_kept hcr (grownBy_putObj' _ D (.deferred none)) (fun r e => by cases e; exact ⟨_, hK, rfl⟩)
    refine ⟨.int .i64 (x : Int), ?_, by rw [HH.out], hB.trans (belowK_b (w := w) (Nat.le_refl _) W D _ _ (by omega) hK rfl rfl)⟩
    simp [results, Tryd.f41, go_sem, hc5]
end Go.Proofs.YtknaoianhjeccaaDoor
