/- slices.Index, Contains and Clone at numbers. -/
import Derived.Test.YthbbecmffndgdaaFlat
import Derived.Test.YthbbecmffndgdaaBut
namespace Go.Proofs.Ythbbecmffndgdaa
open Go.RowKit
set_option linter.unusedVariables false
theorem infoInt : (Try.prog.info? 3).map (fun i => (i.zero, i.size, i.bytes)) = some (some (.int .i64 0), 1, 8) := by kernel_rfl
def FoundI (k : Int) (l : List Int) (x : Int) : Prop := decide (0 ≤ k) = l.contains x
theorem take_contains (l : List Int) (x : Int) (q : Nat) (h : q < l.length) : (l.take (q + 1)).contains x = ((l.take q).contains x || (x == l[q])) := by
  rw [List.take_succ_eq_append_getElem h, List.contains_append, List.contains_cons, List.contains_nil, Bool.or_false]
set_option maxHeartbeats 400000 in
/-- at its first place, or -1 -/
theorem indexI (l : List Int) (x : Int) (w : World) (S : Blocks) (v : Value) (r : RdI w S l v) :
    Calls Try.prog 61 #[v, .int .i64 x] w fun e w' => (∃ k : Int, e = .returned (.int .i64 k) ∧ -1 ≤ k ∧ k ≤ l.length ∧ FoundI k l x) ∧ w = w' := by
  obtain ⟨A, cap, rfl, hl, hcm, hby⟩ := r.form
  unfold maxLen at hcm
  go_enter Try.func61, Try.ntmps61
  go_wp2
  go_loop [8] (fun t => ∃ q : Nat, q ≤ l.length ∧ t = .int .i64 q ∧ Hid ((l.take q).contains x = false)) (fun t => l.length - (intOf t).toNat)
  case atStart => exact ⟨0, by omega, rfl, Lib.hid rfl⟩
  case round =>
    obtain ⟨q, hq, rfl, HQ⟩ := hrel
    by_cases hlt : q < l.length
    · obtain ⟨b, off, rfl, _, hok, hc⟩ := RdI.at1 r hlt
      have HT := Lib.hid (take_contains l x q hlt)
      cases he : (x == l[q])
      · have HQ2 := Lib.hid (show (l.take (q + 1)).contains x = false by rw [HT.out, HQ.out, he]; rfl)
        clear HT r
        go_wp2
        go_round
        case rel => exact ⟨q + 1, by omega, by go_num, HQ2⟩
        case measure => simp [intOf]; omega
      · have HZ := show FoundI (q : Int) l x by
          unfold FoundI
          have h1 : (l.take (q + 1)).contains x = true := by rw [HT.out, he]; simp
          have h2 : l.contains x = true := by rw [List.contains_iff_mem] at h1 ⊢; exact List.mem_of_mem_take h1
          rw [h2]; simp
        clear HT r
        go_wp2
        go_ret
        exact ⟨⟨(q : Int), rfl, by omega, by omega, HZ⟩, rfl⟩
    · have hqn : q = l.length := by omega
      subst hqn
      have HZ := show FoundI (-1) l x by
        unfold FoundI
        have h := HQ.out
        rw [List.take_length] at h
        rw [h]; rfl
      clear HQ r
      go_wp2
      go_ret
      exact ⟨⟨-1, rfl, by omega, by omega, HZ⟩, rfl⟩
set_option maxHeartbeats 400000 in
theorem containsI (l : List Int) (x : Int) (w : World) (S : Blocks) (v : Value) (r : RdI w S l v) :
    Calls Try.prog 29 #[v, .int .i64 x] w fun e w' => e = .returned (.bool (l.contains x)) ∧ w = w' := by
  have R := Lib.hid r
  clear r
  go_enter Try.func29, Try.ntmps29
  go_wp2_with fail
  refine (indexI l x _ _ _ R.out).mono ?_
  rintro e w' ⟨⟨k, rfl, h1, h2, h3⟩, rfl⟩
  go_wp2
  go_ret
  exact ⟨by rw [← h3]; rfl, rfl⟩
set_option maxHeartbeats 400000 in
set_option maxRecDepth 100000 in
theorem cloneI (l : List Int) (w : World) (S : Blocks) (v : Value) (hS : Sub S (Upto w.heap.size)) (r : RdI w S l v) :
    Calls Try.prog 30 #[v] w fun e w' => ∃ u, e = .returned u ∧ OwnI 3 w' w.heap.size Nowhere l u ∧ Below w.heap.size w w' := by
  obtain ⟨A, cap, rfl, hl, hcm, hby⟩ := r.form
  have hm := hcm
  unfold maxLen at hcm
  obtain ⟨i0, hi, hz0, hz1, hz2⟩ := info_parts infoInt
  rcases A with _ | a
  · have hl0 : l = [] := by
      rcases Nat.eq_zero_or_pos l.length with h | h
      · exact List.eq_nil_of_length_eq_zero h
      · obtain ⟨b, off, h1, _⟩ := RdI.at1 r h
        cases h1
    subst hl0
    have hnil := fun (w : World) (a : Option Addr) (n c : Nat) => Lib.run_eql_slice_nil (P := Try.prog) w 70 3 a n c 0 0 Try.underlying70
    go_enter Try.func30, Try.ntmps30
    go_wp2
    go_ret
    exact ⟨_, rfl, OwnL.nil _ _ _, Below.refl _ _⟩
  · have hnil := fun (w : World) (a : Option Addr) (n c : Nat) => Lib.run_eql_slice_nil (P := Try.prog) w 70 3 a n c 0 0 Try.underlying70
    have hb0 : Below w.heap.size w (w.alloc (.cells #[] 3)) := (Below.refl _ _).alloc (Nat.le_refl _) _
    have ho : OwnI 3 (w.alloc (.cells #[] 3)) w.heap.size Nowhere [] (.slice (some ⟨w.heap.size, 0, none⟩) 0 0) := OwnL.empty w (Nat.le_refl _)
    have hx := (r.go Flat.keeps hb0 hS (Sub.refl _)).bare Nowhere
    go_enter Try.func30, Try.ntmps30
    go_wp2_with (at_builtin; refine wpList_append_list rfl _ _ 70 rfl i0 _ Try.underlying70 hi hz0 hz1 hz2 rfl (by decide) Flat.keeps ho hx rfl rfl (Sub.nowhere _) (Sub.nowhere _) not_nowhere oneI ?c3 ?c4 ?c5 ?_)
    case c3 => simp; omega
    case c4 => simp; omega
    case c5 => simp
    intro v1 w1 ho1 hg1 _
    have hb1 : Below w.heap.size w w1 := hb0.grown hg1 (by simp) (fun k hk => by simp [Value.ownBlock] at hk; omega)
    clear hg1 hb0 ho hx hnil
    go_wp2
    go_ret
    exact ⟨_, rfl, ho1, hb1⟩
end Go.Proofs.Ythbbecmffndgdaa
