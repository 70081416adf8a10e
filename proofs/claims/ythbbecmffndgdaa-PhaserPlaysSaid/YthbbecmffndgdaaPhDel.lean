/- slices.DeleteFunc at numbers, by the shelf's contract. -/
import Derived.Shelf.SlicesE.DeleteFunc
import Derived.Test.YthbbecmffndgdaaIntL
import Derived.Test.YthbbecmffndgdaaBlk
import Derived.Test.YthbbecmffndgdaaRowAt
namespace Go.Proofs.Ythbbecmffndgdaa
open Go.Shelf Go.RowKit Go.Lib Go.Sort
set_option linter.unusedVariables false
def laysDel_ren : Go.Shelf.Ren := ⟨fun | 10 => 31 | 6 => 62 | n => n, fun | 22 => 70 | 23 => 3 | 25 => 74 | 3 => 3 | 4 => 4 | 0 => 0 | n => n, fun | n => n⟩
theorem laysDel : Go.Proofs.SlLaysH.n10 Try.prog laysDel_ren where
  mixed := by kernel_rfl
  f6 := ⟨Try.f62.name, by decide, Try.func62.trans (congrArg some (by kernel_rfl))⟩
  f10 := ⟨Try.f31.name, by decide, Try.func31.trans (congrArg some (by kernel_rfl))⟩
  t0 := Try.underlying0
  a0 := Try.isAgg0
  z0 := Try.sizeOf0
  v0 := Try.zeroValue0
  t3 := Try.underlying3
  a3 := Try.isAgg3
  z3 := Try.sizeOf3
  v3 := Try.zeroValue3
  t4 := Try.underlying4
  a4 := Try.isAgg4
  z4 := Try.sizeOf4
  v4 := Try.zeroValue4
  t22 := Try.underlying70
  a22 := Try.isAgg70
  z22 := Try.sizeOf70
  v22 := Try.zeroValue70
  a23 := Try.isAgg3
  z23 := Try.sizeOf3
  t25 := Try.underlying74
  a25 := Try.isAgg74
  z25 := Try.sizeOf74
  v25 := Try.zeroValue74
theorem gives_lit (x y : Int) (B : Nat) (W : World) (hc : W.cell? ⟨B, 0, none⟩ = some (.int .i64 x)) :
    FnGives Try.prog 32 #[.pointer (some ⟨B, 0, none⟩)] #[.int .i64 y] (.bool (decide (y = x))) W := by
  show Calls Try.prog 32 #[.int .i64 y, .pointer (some ⟨B, 0, none⟩)] W _
  go_enter Try.func32, Try.ntmps32
  go_wp2
  all_goals (go_ret; exact ⟨by simp; rfl, 0, rfl⟩)
set_option maxHeartbeats 400000 in
theorem del_any (l : List Int) (hok : ∀ y ∈ l, inI y) (x : Int) (B g cap : Nat) (w : World) (hB : B < w.heap.size) (hne : B ≠ g) (hcell : w.cell? ⟨B, 0, none⟩ = some (.int .i64 x)) (hg : g < w.heap.size) (hfr : ∀ o, w.frozen? ⟨g, o, none⟩ = false) (hl : ∀ (q : Nat) (hq : q < l.length), w.cell? ⟨g, q, none⟩ = some (.int .i64 l[q])) (hcap : l.length ≤ cap) (hmax : cap ≤ maxLen) (hby : l.length * 8 ≤ 140737488355328) :
    Calls Try.prog 31 #[.slice (some ⟨g, 0, none⟩) l.length cap, .func (.func 32) #[] #[.pointer (some ⟨B, 0, none⟩)]] w fun e w' => ∃ u, e = .returned u ∧ RdI w' (Is g) (l.filter fun y => !decide (y = x)) u ∧ But (Is g) w w' := by
  have eg : ∀ args w, (callFunc 32 args).run Try.prog w = .ok (.enter 32 args) w := enters_of Try.func32 (by kernel_rfl) rfl
  have hm := hmax
  unfold maxLen at hm
  have hH : Holds (Value.int .i64) w g 0 l.toArray := fun j hj => by
    have hj' : j < l.length := by simpa using hj
    refine ⟨?_, by rw [Nat.zero_add]; exact hfr _⟩
    rw [Nat.zero_add, hl j hj', getElem!_pos l.toArray j hj]
    simp
  have hp : PredAt Try.prog 32 #[.pointer (some ⟨B, 0, none⟩)] (Value.int .i64) (fun y => decide (y = x)) w := fun W y hb => gives_lit x y B W ((hb.cell (p := ⟨B, 0, none⟩) hB).trans hcell)
  have hpo : PredOver Try.prog 32 #[.pointer (some ⟨B, 0, none⟩)] (Value.int .i64) (fun y => decide (y = x)) g 0 l.toArray.size w := fun n os dk y _ => gives_lit x y B _ (by
    unfold sortWorld
    rw [cell?_grow _ _ _ (by show B < (putRow _ _ _ _ _).heap.size; rw [size_putRow]; exact hB), cell?_putRow_other _ _ g 0 _ _ (Or.inl hne)]
    exact hcell)
  have hcon := AnyE.slices_DeleteFunc laysDel (Value.int .i64) (fun _ => rfl) (fun y => decide (y = x)) 32 #[.pointer (some ⟨B, 0, none⟩)] eg 0 (fun w => by kernel_rfl) g 0 cap l.toArray w hp hpo hH (by simp; omega) (by simpa using hcap)
  have e1 : l.toArray.size = l.length := by simp
  rw [e1] at hcon
  refine Calls.mono hcon ?_
  rintro e w' ⟨rfl, q, rfl⟩
  have hfl : (l.filter fun y => !decide (y = x)).length ≤ l.length := List.length_filter_le _ _
  generalize hF : (l.filter fun y => !decide (y = x)) = F at *
  have hFok : ∀ y ∈ F, inI y := fun y hy => by rw [← hF] at hy; exact hok y (List.mem_filter.1 hy).1
  have hsz : (F ++ List.replicate (l.length - F.length) 0).toArray.size = l.toArray.size := by simp; omega
  have hbut : But (Is g) w (putRow (Value.int .i64) (Sort.ahead w q) g 0 (F ++ List.replicate (l.length - F.length) 0).toArray) := by
    refine ⟨rfl, rfl, rfl, by rw [size_putRow]; exact Nat.le_refl _, fun k hk hne => ?_⟩
    have h : (putRow (Value.int .i64) (Sort.ahead w q) g 0 (F ++ List.replicate (l.length - F.length) 0).toArray).heap[k]? = (Sort.ahead w q).heap[k]? := by
      unfold putRow mapBlock
      simp only [Array.getElem?_modify]
      rw [if_neg (fun e => hne e.symm)]
    exact h
  refine ⟨_, rfl, ?_, hbut⟩
  have hat : RowAt encI 1 0 (putRow (Value.int .i64) (Sort.ahead w q) g 0 (F ++ List.replicate (l.length - F.length) 0).toArray) g F := by
    refine ⟨Nat.zero_le _, by rw [size_putRow]; exact hg, fun i y hy j v hv => ?_, fun o => by rw [frozen?_putRow]; exact hfr o⟩
    have hi := (List.getElem?_eq_some_iff.1 hy).1
    have h := cell?_putRow (Value.int .i64) (Sort.ahead w q) g 0 l.toArray (F ++ List.replicate (l.length - F.length) 0).toArray (holds_ahead (Value.int .i64) w q g 0 l.toArray hH) hsz i (by simp; omega)
    match j, hv with
    | 0, hv =>
      simp [encI] at hv
      subst hv
      rw [Nat.mul_one, Nat.add_zero]
      rw [Nat.zero_add] at h
      rw [h]
      congr 2
      rw [getElem!_pos _ i (by simp; omega)]
      simp only [List.getElem_toArray]
      rw [List.getElem_append_left hi]
      exact ((List.getElem?_eq_some_iff.1 hy).2)
    | j + 1, hv => simp [encI] at hv
  exact hat.toRd (fun _ => rfl) hFok rfl (Nat.le_trans hfl hcap) hmax (by have := Nat.mul_le_mul_right 8 hfl; omega)
end Go.Proofs.Ythbbecmffndgdaa
