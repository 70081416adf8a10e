/- The walk of do. -/
import Derived.Test.YtmpononkbdfkmaaDq2
namespace Go.Proofs.Ytmpononkbdfkmaa
open Go.RowKit
set_option linter.unusedVariables false
theorem do_end {base : Nat} {w w1 w2 : World} {d N : Nat} {X X' : Blocks} {l : List Int} (h : DqAt base w2 d X' N l) (hs : Sub X' (Plus X w1.heap.size w2.heap.size)) (hb : But X w1 w2) (hw : w.heap.size ≤ w1.heap.size) (hbw : But X w w1)
    {b : Nat} (hbn : w.heap.size ≤ b) (hbx : b < w1.heap.size) (hX : ¬ X b) (v0 v1 : Value) :
    DqAt base ((w2.setCell ⟨b, 0, none⟩ v0).setCell ⟨b, 1, none⟩ v1) d X' N l ∧ Sub X' (Plus X w.heap.size ((w2.setCell ⟨b, 0, none⟩ v0).setCell ⟨b, 1, none⟩ v1).heap.size) ∧ But X w ((w2.setCell ⟨b, 0, none⟩ v0).setCell ⟨b, 1, none⟩ v1) := by
  have hn : ∀ k, X' k → ¬ Is b k := fun k hk e => by
    unfold Is at e; subst e
    rcases hs _ hk with h | h
    · exact hX h
    · omega
  refine ⟨h.but (T := Is b) (((But.refl (Is b) w2).setCell (p := ⟨b, 0, none⟩) rfl v0).setCell (p := ⟨b, 1, none⟩) rfl v1) hn, ?_, ((hbw.trans hb).setNew (p := ⟨b, 0, none⟩) (.inr hbn) v0).setNew (p := ⟨b, 1, none⟩) (.inr hbn) v1⟩
  rw [size_setCell, size_setCell]
  exact hs.trans (Sub.plus_mono hw (Nat.le_refl _))
set_option maxHeartbeats 1000000 in
theorem dqdo_any {base : Nat} {w : World} {d N : Nat} {X : Blocks} {l : List Int} (h : DqAt base w d X N l) (hN : N ≤ 8796093022208) (hlN : l.length < N) (k n : Int) :
    Calls Try.prog 77 #[.pointer (some ⟨d, 0, none⟩), .agg #[.int .i64 k, .int .i64 n]] w fun e w' => e = .returned (.agg #[.int .i64 (dAns l ⟨k, n⟩).2.1, .int .i64 (dAns l ⟨k, n⟩).2.2]) ∧ ∃ X', DqAt base w' d X' N (dAns l ⟨k, n⟩).1 ∧ Sub X' (Plus X w.heap.size w'.heap.size) ∧ But X w w' := by
  have hXd : ∀ b, X b → b < w.heap.size := by obtain ⟨_, _, _, _, _, _, _, _, h5, _⟩ := h; exact fun b hb => (h5 b hb).2
  have H0 := Lib.hid h
  clear h
  by_cases h1 : k = 1
  · subst h1
    have HA := Lib.hid (show dAns l ⟨1, n⟩ = (l ++ [n], (0, 0)) by simp [dAns])
    go_enter Try.func77, Try.ntmps77
    go_wp2_with fail
    refine (push_any (base := base) (N := N) (X := X) (l := l) (H0.out.but (T := Nowhere) ((((But.refl _ _).alloc _).alloc _)) (fun _ _ h => h)) hN hlN n).mono ?_
    rintro e w2 ⟨rfl, X', hd, hs, hb⟩
    have hn0 : ¬ X (w.heap.size + 1) := fun hx => by have := hXd _ hx; omega
    have R0 := Blk.made (w.alloc (.cells #[.int .i64 1, .int .i64 n] 99)) [.int .i64 0, .int .i64 0] 43 (base := 0) (Nat.zero_le _)
    have hz0 : (w.alloc (.cells #[.int .i64 1, .int .i64 n] 99)).heap.size = w.heap.size + 1 := by simp
    rw [hz0] at R0
    have R1 := R0.but hb hn0
    have r0 := R1.cell 0 _ rfl
    have r1 := R1.cell 1 _ rfl
    have rf0 := R1.fr 0
    have rf1 := R1.fr 1
    have hlt := R1.lt
    have HB := Lib.hid hb
    have HD := Lib.hid hd
    have HS := Lib.hid hs
    clear hb hd hs R0 hz0 R1
    go_wp2
    refine bodyPost_ret (v := .agg #[.int .i64 0, .int .i64 0]) (by simp [results, Try.results77, go_sem, r0, r1]) rfl ?_
    rw [HA.out]
    exact ⟨rfl, _, do_end HD.out HS.out HB.out (by simp; omega) (((But.refl _ _).alloc _).alloc _) (by omega) (by simp) hn0 _ _⟩
  · by_cases h2 : k = 2
    · subst h2
      rcases List.eq_nil_or_concat l with rfl | ⟨l, x, hlx⟩
      · clear h1
        have HA := Lib.hid (show dAns [] ⟨2, n⟩ = ([], (7, 0)) by simp [dAns])
        go_enter Try.func77, Try.ntmps77
        go_wp2_with fail
        refine (pop_nil (base := base) (N := N) (X := X) (H0.out.but (T := Nowhere) ((((But.refl _ _).alloc _).alloc _)) (fun _ _ h => h))).mono ?_
        rintro e w2 ⟨rfl, rfl⟩
        go_wp2
        refine bodyPost_ret (v := .agg #[.int .i64 7, .int .i64 0]) (by simp [results, Try.results77, go_sem]) rfl ?_
        rw [HA.out]
        exact ⟨rfl, X, H0.out.but (T := Nowhere) ((((But.refl _ _).alloc _).alloc _)) (fun _ _ h => h), Sub.plus _ _ _, ((But.refl _ _).alloc _).alloc _⟩
      · rw [List.concat_eq_append] at hlx
        subst hlx
        clear h1
        have HA := Lib.hid (show dAns (l ++ [x]) ⟨2, n⟩ = (l, (0, x)) by simp [dAns])
        go_enter Try.func77, Try.ntmps77
        go_wp2_with fail
        refine (pop_snoc (base := base) (N := N) (X := X) (l := l) (x := x) (H0.out.but (T := Nowhere) ((((But.refl _ _).alloc _).alloc _)) (fun _ _ h => h)) hN).mono ?_
        rintro e w2 ⟨rfl, hd, hb⟩
        have hn0 : ¬ X (w.heap.size + 1) := fun hx => by have := hXd _ hx; omega
        have R0 := Blk.made (w.alloc (.cells #[.int .i64 2, .int .i64 n] 99)) [.int .i64 0, .int .i64 0] 43 (base := 0) (Nat.zero_le _)
        have hz0 : (w.alloc (.cells #[.int .i64 2, .int .i64 n] 99)).heap.size = w.heap.size + 1 := by simp
        rw [hz0] at R0
        obtain ⟨X', hs⟩ : ∃ X', X' = X ∧ Sub X' (Plus X ((w.alloc (.cells #[.int .i64 2, .int .i64 n] 99)).alloc (.cells #[.int .i64 0, .int .i64 0] 43)).heap.size w2.heap.size) := ⟨X, rfl, Sub.plus _ _ _⟩
        obtain ⟨rfl, hs⟩ := hs
        have R1 := R0.but hb hn0
        have r0 := R1.cell 0 _ rfl
        have r1 := R1.cell 1 _ rfl
        have rf0 := R1.fr 0
        have rf1 := R1.fr 1
        have hlt := R1.lt
        have HB := Lib.hid hb
        have HD := Lib.hid hd
        have HS := Lib.hid hs
        clear hb hd hs R0 hz0 R1
        go_wp2
        refine bodyPost_ret (v := .agg #[.int .i64 0, .int .i64 x]) (by simp [results, Try.results77, go_sem, r0, r1]) rfl ?_
        rw [HA.out]
        exact ⟨rfl, _, do_end HD.out HS.out HB.out (by simp; omega) (((But.refl _ _).alloc _).alloc _) (by omega) (by simp) hn0 _ _⟩
    · by_cases h3 : k = 3
      · subst h3
        rcases l with _ | ⟨x, l⟩
        · clear h1 h2
          have HA := Lib.hid (show dAns [] ⟨3, n⟩ = ([], (7, 0)) by simp [dAns])
          go_enter Try.func77, Try.ntmps77
          go_wp2_with fail
          refine (steal_nil (base := base) (N := N) (X := X) (H0.out.but (T := Nowhere) ((((But.refl _ _).alloc _).alloc _)) (fun _ _ h => h))).mono ?_
          rintro e w2 ⟨rfl, rfl⟩
          go_wp2
          refine bodyPost_ret (v := .agg #[.int .i64 7, .int .i64 0]) (by simp [results, Try.results77, go_sem]) rfl ?_
          rw [HA.out]
          exact ⟨rfl, X, H0.out.but (T := Nowhere) ((((But.refl _ _).alloc _).alloc _)) (fun _ _ h => h), Sub.plus _ _ _, ((But.refl _ _).alloc _).alloc _⟩
        · clear h1 h2
          have HA := Lib.hid (show dAns (x :: l) ⟨3, n⟩ = (l, (0, x)) by simp [dAns])
          go_enter Try.func77, Try.ntmps77
          go_wp2_with fail
          refine (steal_cons (base := base) (N := N) (X := X) (l := l) (x := x) (H0.out.but (T := Nowhere) ((((But.refl _ _).alloc _).alloc _)) (fun _ _ h => h)) hN).mono ?_
          rintro e w2 ⟨rfl, hd, hb⟩
          have hn0 : ¬ X (w.heap.size + 1) := fun hx => by have := hXd _ hx; omega
          have R0 := Blk.made (w.alloc (.cells #[.int .i64 3, .int .i64 n] 99)) [.int .i64 0, .int .i64 0] 43 (base := 0) (Nat.zero_le _)
          have hz0 : (w.alloc (.cells #[.int .i64 3, .int .i64 n] 99)).heap.size = w.heap.size + 1 := by simp
          rw [hz0] at R0
          obtain ⟨X', hs⟩ : ∃ X', X' = X ∧ Sub X' (Plus X ((w.alloc (.cells #[.int .i64 3, .int .i64 n] 99)).alloc (.cells #[.int .i64 0, .int .i64 0] 43)).heap.size w2.heap.size) := ⟨X, rfl, Sub.plus _ _ _⟩
          obtain ⟨rfl, hs⟩ := hs
          have R1 := R0.but hb hn0
          have r0 := R1.cell 0 _ rfl
          have r1 := R1.cell 1 _ rfl
          have rf0 := R1.fr 0
          have rf1 := R1.fr 1
          have hlt := R1.lt
          have HB := Lib.hid hb
          have HD := Lib.hid hd
          have HS := Lib.hid hs
          clear hb hd hs R0 hz0 R1
          go_wp2
          refine bodyPost_ret (v := .agg #[.int .i64 0, .int .i64 x]) (by simp [results, Try.results77, go_sem, r0, r1]) rfl ?_
          rw [HA.out]
          exact ⟨rfl, _, do_end HD.out HS.out HB.out (by simp; omega) (((But.refl _ _).alloc _).alloc _) (by omega) (by simp) hn0 _ _⟩
      · have HA := Lib.hid (show dAns l ⟨k, n⟩ = (l, (9, 0)) by simp [dAns, h1, h2, h3])
        have e1 : (k == 1) = false := by simpa using h1
        have e2 : (k == 2) = false := by simpa using h2
        have e3 : (k == 3) = false := by simpa using h3
        clear h1 h2 h3
        go_enter Try.func77, Try.ntmps77
        go_wp2
        refine bodyPost_ret (v := .agg #[.int .i64 9, .int .i64 0]) (by simp [results, Try.results77, go_sem]) rfl ?_
        rw [HA.out]
        exact ⟨rfl, X, H0.out.but (T := Nowhere) ((((But.refl _ _).alloc _).alloc _)) (fun _ _ h => h), Sub.plus _ _ _, ((But.refl _ _).alloc _).alloc _⟩
end Go.Proofs.Ytmpononkbdfkmaa
