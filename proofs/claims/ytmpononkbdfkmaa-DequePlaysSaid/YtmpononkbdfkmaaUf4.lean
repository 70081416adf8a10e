/- The walks of num and do. -/
import Derived.Test.YtmpononkbdfkmaaUf3
namespace Go.Proofs.Ytmpononkbdfkmaa
open Go.RowKit
set_option linter.unusedVariables false

def FG (base n : Nat) (w : World) (b gu gs : Nat) (sz : List Nat) (rt h : Nat → Nat) : Prop := ∃ up, Forest base n w b gu gs up sz ∧ Good n up sz rt h
theorem FG.but {base n : Nat} {w w' : World} {b gu gs : Nat} {sz : List Nat} {rt h : Nat → Nat} {T : Blocks} (f : FG base n w b gu gs sz rt h) (k : But T w w') (tb : ¬ T b) (tu : ¬ T gu) (ts : ¬ T gs) : FG base n w' b gu gs sz rt h := by
  obtain ⟨up, f, g⟩ := f
  exact ⟨up, f.but k tb tu ts, g⟩
theorem head_fg {base n : Nat} {w : World} {b gu gs : Nat} {sz : List Nat} {rt h : Nat → Nat} (f : FG base n w b gu gs sz rt h) (i : Nat) (hi : i < n) :
    Calls Try.prog 112 #[.pointer (some ⟨b, 0, none⟩), .int .i64 (i : Int)] w fun e w' => e = .returned (.int .i64 (rt i : Int)) ∧ FG base n w' b gu gs sz rt h ∧ But (Is gu) w w' := by
  obtain ⟨up, f, g⟩ := f
  refine (head_any f g i hi).mono ?_
  rintro e w' ⟨rfl, up', f', g', h'⟩
  exact ⟨rfl, ⟨up', f', g'⟩, h'⟩
theorem num_any (x : Bool) (w : World) : Calls Try.prog 111 #[.bool x] w fun e w' => e = .returned (.int .i64 (if x then 1 else 0)) ∧ w = w' := by
  cases x
  · go_enter Try.func111, Try.ntmps111
    go_wp2
    go_ret
    exact ⟨rfl, rfl⟩
  · go_enter Try.func111, Try.ntmps111
    go_wp2
    go_ret
    exact ⟨rfl, rfl⟩
/-- what a call of Head keeps, with two cells of a block that is neither the forest's row of ups nor young -/
theorem ds_drew {base n : Nat} {w w' : World} {b gu gs B : Nat} {sz : List Nat} {rt h : Nat → Nat} {c1 c2 c3 : Value}
    (x : FG base n w' b gu gs sz rt h ∧ But (Is2 gu gs) w w' ∧ w'.cell? ⟨B, 1, none⟩ = some c1 ∧ w'.cell? ⟨B, 2, none⟩ = some c2 ∧ w'.cell? ⟨b, 1, none⟩ = some c3) :
    FG base n w'.drew b gu gs sz rt h ∧ But (Is2 gu gs) w w'.drew ∧ w'.drew.cell? ⟨B, 1, none⟩ = some c1 ∧ w'.drew.cell? ⟨B, 2, none⟩ = some c2 ∧ w'.drew.cell? ⟨b, 1, none⟩ = some c3 :=
  ⟨x.1.but (T := Nowhere) ((But.refl _ _).drew) (fun h => h) (fun h => h) (fun h => h), x.2.1.drew, x.2.2⟩
theorem ds_call {base n : Nat} {w w' w'' : World} {b gu gs B : Nat} {sz : List Nat} {rt h : Nat → Nat} {c1 c2 c3 : Value} (hB : B ≠ gu)
    (x : FG base n w' b gu gs sz rt h ∧ But (Is2 gu gs) w w' ∧ w'.cell? ⟨B, 1, none⟩ = some c1 ∧ w'.cell? ⟨B, 2, none⟩ = some c2 ∧ w'.cell? ⟨b, 1, none⟩ = some c3) (f : FG base n w'' b gu gs sz rt h) (k : But (Is gu) w' w'') :
    FG base n w'' b gu gs sz rt h ∧ But (Is2 gu gs) w w'' ∧ w''.cell? ⟨B, 1, none⟩ = some c1 ∧ w''.cell? ⟨B, 2, none⟩ = some c2 ∧ w''.cell? ⟨b, 1, none⟩ = some c3 := by
  have hbu : b ≠ gu := by obtain ⟨_, f, _⟩ := f; exact f.bu
  exact ⟨f, x.2.1.trans (k.sub (fun _ e => .inl e)), k.cell hB x.2.2.1, k.cell hB x.2.2.2.1, k.cell hbu x.2.2.2.2⟩
theorem ds_end {base n : Nat} {w w' : World} {b gu gs : Nat} {sz : List Nat} {rt h s : Nat → Nat} {R : Prop} (l : Link n rt s) (x : FG base n w' b gu gs sz rt h ∧ But (Is2 gu gs) w w' ∧ R) : SetsAt base n w' b gu gs s ∧ But (Is2 gu gs) w w' := by
  obtain ⟨⟨up, f, g⟩, k, _⟩ := x
  exact ⟨⟨up, sz, rt, h, f, g, l⟩, k⟩
theorem ds3_drew {base n : Nat} {w w' : World} {b gu gs B r : Nat} {sz : List Nat} {rt h : Nat → Nat} {c1 c2 c3 : Value}
    (x : FG base n w' b gu gs sz rt h ∧ But (Is2 gu gs) w w' ∧ w'.cell? ⟨B, 1, none⟩ = some c1 ∧ w'.cell? ⟨gs, r, none⟩ = some c2 ∧ w'.cell? ⟨b, 1, none⟩ = some c3) :
    FG base n w'.drew b gu gs sz rt h ∧ But (Is2 gu gs) w w'.drew ∧ w'.drew.cell? ⟨B, 1, none⟩ = some c1 ∧ w'.drew.cell? ⟨gs, r, none⟩ = some c2 ∧ w'.drew.cell? ⟨b, 1, none⟩ = some c3 :=
  ⟨x.1.but (T := Nowhere) ((But.refl _ _).drew) (fun h => h) (fun h => h) (fun h => h), x.2.1.drew, x.2.2⟩
theorem ds3_call {base n : Nat} {w w' w'' : World} {b gu gs B r : Nat} {sz : List Nat} {rt h : Nat → Nat} {c1 c2 c3 : Value} (hB : B ≠ gu)
    (x : FG base n w' b gu gs sz rt h ∧ But (Is2 gu gs) w w' ∧ w'.cell? ⟨B, 1, none⟩ = some c1 ∧ w'.cell? ⟨gs, r, none⟩ = some c2 ∧ w'.cell? ⟨b, 1, none⟩ = some c3) (f : FG base n w'' b gu gs sz rt h) (k : But (Is gu) w' w'') :
    FG base n w'' b gu gs sz rt h ∧ But (Is2 gu gs) w w'' ∧ w''.cell? ⟨B, 1, none⟩ = some c1 ∧ w''.cell? ⟨gs, r, none⟩ = some c2 ∧ w''.cell? ⟨b, 1, none⟩ = some c3 := by
  have hbu : b ≠ gu := by obtain ⟨_, f, _⟩ := f; exact f.bu
  have hsu : gs ≠ gu := by obtain ⟨_, f, _⟩ := f; exact fun e => f.us e.symm
  exact ⟨f, x.2.1.trans (k.sub (fun _ e => .inl e)), k.cell hB x.2.2.1, k.cell hsu x.2.2.2.1, k.cell hbu x.2.2.2.2⟩
def okUOp (o : UOp) : Prop := inI o.k ∧ inI o.i ∧ inI o.j
def encUOp (o : UOp) : List Value := [.int .i64 o.k, .int .i64 o.i, .int .i64 o.j]

set_option maxHeartbeats 1000000 in
theorem do_any {base n : Nat} {w : World} {b gu gs : Nat} {s : Nat → Nat} (f0 : SetsAt base n w b gu gs s) (k i j : Int) :
    Calls Try.prog 81 #[.pointer (some ⟨b, 0, none⟩), .agg #[.int .i64 k, .int .i64 i, .int .i64 j]] w fun e w' => e = .returned (.int .i64 (uAns n s ⟨k, i, j⟩).2) ∧
      SetsAt base n w' b gu gs (uAns n s ⟨k, i, j⟩).1 ∧ But (Is2 gu gs) w w' := by
  obtain ⟨up, sz, rt, h, f0, g0, l0⟩ := f0
  have F0 := Lib.hid f0
  have G0 := Lib.hid g0
  have L0 := Lib.hid l0
  have hlt : b < w.heap.size := F0.out.b2
  have hlu : gu < w.heap.size := F0.out.u2
  have hls : gs < w.heap.size := F0.out.s2
  have hc0 := F0.out.c0
  have hn := F0.out.n1
  clear f0 g0 l0
  by_cases hi : okP n i = true
  · have hi' := hi
    simp only [okP, Bool.and_eq_true, decide_eq_true_eq] at hi'
    obtain ⟨i, rfl⟩ := Int.eq_ofNat_of_zero_le hi'.1
    have hi0 : (0 : Int) ≤ (i : Int) := by omega
    have hin : (i : Int) < (n : Int) := hi'.2
    have hinn : i < n := by omega
    have hin0 : ¬ (i : Int) < 0 := by omega
    have hni : ¬ n ≤ i := by omega
    by_cases hk3 : k = 3
    · subst hk3
      have hr : Hid (uAns n s ⟨3, i, j⟩ = (s, (cntL n rt (rt i) : Int))) := Lib.hid (by simp only [uAns, hi]; rw [L0.out.cnt hinn]; simp)
      rw [hr.out]
      have hB : w.heap.size ≠ gu := by omega
      have hc1 := F0.out.c1
      have hrl := G0.out.rt_lt i hinn
      have hri : (rt i : Int) < (n : Int) := by omega
      have hcr := F0.out.szs (rt i) _ (G0.out.cnt i hinn)
      clear hr hi hi'
      go_enter Try.func81, Try.ntmps81
      go_wp2
      obtain ⟨W, hW⟩ : ∃ W : World, W = w.alloc (.cells #[.int .i64 3, .int .i64 (i : Int), .int .i64 j] 108) := ⟨_, rfl⟩
      have hS : FG base n W b gu gs sz rt h ∧ But (Is2 gu gs) w W ∧ W.cell? ⟨w.heap.size, 1, none⟩ = some (.int .i64 (i : Int)) ∧ W.cell? ⟨gs, rt i, none⟩ = some (.int .i64 (cntL n rt (rt i) : Int)) ∧ W.cell? ⟨b, 1, none⟩ = some (.slice (some ⟨gs, 0, none⟩) n n) := by
        rw [hW]
        refine ⟨⟨up, F0.out.below ((Below.refl _ _).alloc (Nat.le_refl _) _), G0.out⟩, (But.refl _ _).alloc _, ?_, by rw [World.cell?_alloc_lt _ _ _ hls]; exact hcr, by rw [World.cell?_alloc_lt _ _ _ hlt]; exact hc1⟩
        all_goals simp
      rw [← hW]
      clear hW F0 G0 hc0
      go_region_held3 (fun w' => FG base n w' b gu gs sz rt h ∧ But (Is2 gu gs) w w' ∧ w'.cell? ⟨w.heap.size, 1, none⟩ = some (.int .i64 (i : Int)) ∧ w'.cell? ⟨gs, rt i, none⟩ = some (.int .i64 (cntL n rt (rt i) : Int)) ∧ w'.cell? ⟨b, 1, none⟩ = some (.slice (some ⟨gs, 0, none⟩) n n)) (first | exact hS | assumption | exact ds3_drew (by assumption))
        ((go_at_call_of 112 (Value.int .i64 (i : Int)); refine (head_fg (And.left (by assumption)) i hinn).mono ?_; rintro e w' ⟨rfl, f1, k1⟩; have hst1 := ds3_call hB (by assumption) f1 k1; clear f1 k1))
      all_goals go_wp2
      all_goals go_ret
      all_goals exact ⟨rfl, ds_end L0.out (by assumption)⟩
    · have hk3' : (k == 3) = false := by simpa using hk3
      have hk3n : (k != 3) = true := by simpa using hk3
      by_cases hj : okP n j = true
      · have hj' := hj
        simp only [okP, Bool.and_eq_true, decide_eq_true_eq] at hj'
        obtain ⟨j, rfl⟩ := Int.eq_ofNat_of_zero_le hj'.1
        have hj0 : (0 : Int) ≤ (j : Int) := by omega
        have hjn : (j : Int) < (n : Int) := hj'.2
        have hjnn : j < n := by omega
        have hjn0 : ¬ (j : Int) < 0 := by omega
        have hnj : ¬ n ≤ j := by omega
        by_cases hk1 : k = 1
        · subst hk1
          rcases Decidable.em (s i = s j) with e | e
          · have hr : Hid (uAns n s ⟨1, i, j⟩ = (s, 0)) := Lib.hid (by simp [uAns, hi, hj, e])
            have ED := Lib.hid e
            rw [hr.out]
            clear hk3 hj hi hj' hi' hr e
            go_enter Try.func81, Try.ntmps81
            go_wp2_with fail
            refine (join_any2 (base := base) (s := s) ⟨up, sz, rt, h, F0.out.below ((Below.refl _ _).alloc (Nat.le_refl _) _), G0.out, L0.out⟩ i j hinn hjnn).mono ?_
            rintro e w1 ⟨⟨a, rfl⟩, hs1, hb1⟩
            rw [if_pos ED.out] at hs1
            have hd : decide (s i = s j) = true := decide_eq_true ED.out
            rw [hd]
            have HS1 := Lib.hid hs1
            have hb2 : But (Is2 gu gs) w w1 := ((But.refl _ _).alloc _).trans hb1
            clear hs1 hb1 hd
            go_wp2_with fail
            refine (num_any _ _).mono ?_
            rintro e _ ⟨rfl, rfl⟩
            go_wp2
            go_ret
            exact ⟨rfl, HS1.out, hb2⟩
          · have hr : Hid (uAns n s ⟨1, i, j⟩ = (joinS s (s i) (s j), 1)) := Lib.hid (by simp [uAns, hi, hj, e])
            have ED := Lib.hid e
            rw [hr.out]
            clear hk3 hj hi hj' hi' hr e
            go_enter Try.func81, Try.ntmps81
            go_wp2_with fail
            refine (join_any2 (base := base) (s := s) ⟨up, sz, rt, h, F0.out.below ((Below.refl _ _).alloc (Nat.le_refl _) _), G0.out, L0.out⟩ i j hinn hjnn).mono ?_
            rintro e w1 ⟨⟨a, rfl⟩, hs1, hb1⟩
            rw [if_neg ED.out] at hs1
            have hd : decide (s i = s j) = false := decide_eq_false ED.out
            rw [hd]
            have HS1 := Lib.hid hs1
            have hb2 : But (Is2 gu gs) w w1 := ((But.refl _ _).alloc _).trans hb1
            clear hs1 hb1 hd
            go_wp2_with fail
            refine (num_any _ _).mono ?_
            rintro e _ ⟨rfl, rfl⟩
            go_wp2
            go_ret
            exact ⟨rfl, HS1.out, hb2⟩
        · have hk1' : (k == 1) = false := by simpa using hk1
          by_cases hk2 : k = 2
          · subst hk2
            have hB : w.heap.size ≠ gu := by omega
            have hc1 := F0.out.c1
            rcases Decidable.em (rt i = rt j) with e | e
            · have hr : Hid (uAns n s ⟨2, i, j⟩ = (s, 1)) := Lib.hid (by have := L0.out i j hinn hjnn; simp only [uAns, hi, hj]; simp [this.symm, e])
              have hq1 : ((rt i : Int) == (rt j : Int)) = true := by simp [e]
              have hq2 : decide (rt i = rt j) = true := by simp [e]
              have hq3 : (rt i == rt j) = true := by simp [e]
              rw [hr.out]
              clear hr hk1 hk3 hj hi hj' hi' e
              go_enter Try.func81, Try.ntmps81
              go_wp2
              obtain ⟨W, hW⟩ : ∃ W : World, W = w.alloc (.cells #[.int .i64 2, .int .i64 (i : Int), .int .i64 (j : Int)] 108) := ⟨_, rfl⟩
              have hS : FG base n W b gu gs sz rt h ∧ But (Is2 gu gs) w W ∧ W.cell? ⟨w.heap.size, 1, none⟩ = some (.int .i64 (i : Int)) ∧ W.cell? ⟨w.heap.size, 2, none⟩ = some (.int .i64 (j : Int)) ∧ W.cell? ⟨b, 1, none⟩ = some (.slice (some ⟨gs, 0, none⟩) n n) := by
                rw [hW]
                refine ⟨⟨up, F0.out.below ((Below.refl _ _).alloc (Nat.le_refl _) _), G0.out⟩, (But.refl _ _).alloc _, ?_, ?_, by rw [World.cell?_alloc_lt _ _ _ hlt]; exact hc1⟩
                all_goals simp
              rw [← hW]
              clear hW F0 G0 hc0
              go_region_held3 (fun w' => FG base n w' b gu gs sz rt h ∧ But (Is2 gu gs) w w' ∧ w'.cell? ⟨w.heap.size, 1, none⟩ = some (.int .i64 (i : Int)) ∧ w'.cell? ⟨w.heap.size, 2, none⟩ = some (.int .i64 (j : Int)) ∧ w'.cell? ⟨b, 1, none⟩ = some (.slice (some ⟨gs, 0, none⟩) n n)) (first | exact hS | assumption | exact ds_drew (by assumption))
                (first
                  | (go_at_call_of 112 (Value.int .i64 (i : Int)); refine (head_fg (And.left (by assumption)) i hinn).mono ?_; rintro e w' ⟨rfl, f1, k1⟩; have hst1 := ds_call hB (by assumption) f1 k1; clear f1 k1)
                  | (go_at_call_of 112 (Value.int .i64 (j : Int)); refine (head_fg (And.left (by assumption)) j hjnn).mono ?_; rintro e w' ⟨rfl, f1, k1⟩; have hst1 := ds_call hB (by assumption) f1 k1; clear f1 k1)
                  | (go_at_call 111; refine (num_any _ _).mono ?_; rintro e _ ⟨rfl, rfl⟩))
              all_goals go_wp2
              all_goals go_ret
              all_goals exact ⟨rfl, ds_end L0.out (by assumption)⟩
            · have hr : Hid (uAns n s ⟨2, i, j⟩ = (s, 0)) := Lib.hid (by have := L0.out i j hinn hjnn; simp only [uAns, hi, hj]; simp [this.symm, e])
              have hq1 : ((rt i : Int) == (rt j : Int)) = false := by simp; omega
              have hq2 : decide (rt i = rt j) = false := by simp [e]
              have hq3 : (rt i == rt j) = false := by simp [e]
              rw [hr.out]
              clear hr hk1 hk3 hj hi hj' hi' e
              go_enter Try.func81, Try.ntmps81
              go_wp2
              obtain ⟨W, hW⟩ : ∃ W : World, W = w.alloc (.cells #[.int .i64 2, .int .i64 (i : Int), .int .i64 (j : Int)] 108) := ⟨_, rfl⟩
              have hS : FG base n W b gu gs sz rt h ∧ But (Is2 gu gs) w W ∧ W.cell? ⟨w.heap.size, 1, none⟩ = some (.int .i64 (i : Int)) ∧ W.cell? ⟨w.heap.size, 2, none⟩ = some (.int .i64 (j : Int)) ∧ W.cell? ⟨b, 1, none⟩ = some (.slice (some ⟨gs, 0, none⟩) n n) := by
                rw [hW]
                refine ⟨⟨up, F0.out.below ((Below.refl _ _).alloc (Nat.le_refl _) _), G0.out⟩, (But.refl _ _).alloc _, ?_, ?_, by rw [World.cell?_alloc_lt _ _ _ hlt]; exact hc1⟩
                all_goals simp
              rw [← hW]
              clear hW F0 G0 hc0
              go_region_held3 (fun w' => FG base n w' b gu gs sz rt h ∧ But (Is2 gu gs) w w' ∧ w'.cell? ⟨w.heap.size, 1, none⟩ = some (.int .i64 (i : Int)) ∧ w'.cell? ⟨w.heap.size, 2, none⟩ = some (.int .i64 (j : Int)) ∧ w'.cell? ⟨b, 1, none⟩ = some (.slice (some ⟨gs, 0, none⟩) n n)) (first | exact hS | assumption | exact ds_drew (by assumption))
                (first
                  | (go_at_call_of 112 (Value.int .i64 (i : Int)); refine (head_fg (And.left (by assumption)) i hinn).mono ?_; rintro e w' ⟨rfl, f1, k1⟩; have hst1 := ds_call hB (by assumption) f1 k1; clear f1 k1)
                  | (go_at_call_of 112 (Value.int .i64 (j : Int)); refine (head_fg (And.left (by assumption)) j hjnn).mono ?_; rintro e w' ⟨rfl, f1, k1⟩; have hst1 := ds_call hB (by assumption) f1 k1; clear f1 k1)
                  | (go_at_call 111; refine (num_any _ _).mono ?_; rintro e _ ⟨rfl, rfl⟩))
              all_goals go_wp2
              all_goals go_ret
              all_goals exact ⟨rfl, ds_end L0.out (by assumption)⟩
          · have hk2' : (k == 2) = false := by simpa using hk2
            have hr : Hid (uAns n s ⟨k, i, j⟩ = (s, -1)) := Lib.hid (by simp [uAns, hk1, hk2, hk3])
            rw [hr.out]
            clear hr hk1 hk2 hk3 hj hi hj' hi'
            go_enter Try.func81, Try.ntmps81
            go_wp2
            go_ret
            exact ⟨rfl, ⟨up, sz, rt, h, F0.out.below ((Below.refl _ _).alloc (Nat.le_refl _) _), G0.out, L0.out⟩, (But.refl _ _).alloc _⟩
      · have hr : Hid (uAns n s ⟨k, i, j⟩ = (s, -1)) := Lib.hid (by simp [uAns, hj, hk3])
        have hj' : j < 0 ∨ (n : Int) ≤ j := by simp [okP] at hj; omega
        rw [hr.out]
        clear hr hk3 hi hi' hj
        rcases hj' with hj' | hj'
        · go_enter Try.func81, Try.ntmps81
          go_wp2
          go_ret
          exact ⟨rfl, ⟨up, sz, rt, h, F0.out.below ((Below.refl _ _).alloc (Nat.le_refl _) _), G0.out, L0.out⟩, (But.refl _ _).alloc _⟩
        · have hj2 : ¬ j < 0 := by omega
          go_enter Try.func81, Try.ntmps81
          go_wp2
          go_ret
          exact ⟨rfl, ⟨up, sz, rt, h, F0.out.below ((Below.refl _ _).alloc (Nat.le_refl _) _), G0.out, L0.out⟩, (But.refl _ _).alloc _⟩
  · have hr : Hid (uAns n s ⟨k, i, j⟩ = (s, -1)) := Lib.hid (by simp [uAns, hi])
    have hi' : i < 0 ∨ (n : Int) ≤ i := by simp [okP] at hi; omega
    rw [hr.out]
    rcases hi' with hi' | hi'
    · go_enter Try.func81, Try.ntmps81
      go_wp2
      go_ret
      exact ⟨rfl, ⟨up, sz, rt, h, F0.out.below ((Below.refl _ _).alloc (Nat.le_refl _) _), G0.out, L0.out⟩, (But.refl _ _).alloc _⟩
    · have hi2 : ¬ i < 0 := by omega
      go_enter Try.func81, Try.ntmps81
      go_wp2
      go_ret
      exact ⟨rfl, ⟨up, sz, rt, h, F0.out.below ((Below.refl _ _).alloc (Nat.le_refl _) _), G0.out, L0.out⟩, (But.refl _ _).alloc _⟩
end Go.Proofs.Ytmpononkbdfkmaa
