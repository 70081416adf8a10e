/- The walk of within. -/
import Derived.Test.YthbbecmffndgdaaSc4
namespace Go.Proofs.Ythbbecmffndgdaa
open Go.RowKit
set_option linter.unusedVariables false
theorem OwnL.take {α : Type} {rd : World → Blocks → α → List Value → Prop} {size : Nat} {E : TypeId} {w : World} {base : Nat} {S : Blocks} {l : List α} {A : Option Addr} {n c m : Nat} (h : OwnL rd size E w base S l (.slice A n c)) (hm : m ≤ l.length) : OwnL rd size E w base S (l.take m) (.slice A m c) := by
  obtain ⟨T, css, t1, t2, t3, h1, h2, h3, h4⟩ := h
  have hl : (l.take m).length = m := by simp; omega
  have hfl : ∀ (css : List (List Value)), (∀ cs ∈ css, cs.length = size) → ∀ m, (css.take m).flatten = css.flatten.take (m * size) := by
    intro css
    induction css with
    | nil => intro _ m; simp
    | cons x r ih =>
      intro hs m
      cases m with
      | zero => simp
      | succ m =>
        have hx : x.length = size := hs x (by simp)
        rw [List.take_succ_cons, List.flatten_cons, List.flatten_cons, ih (fun cs h => hs cs (by simp [h]))]
        rw [show (m + 1) * size = x.length + m * size by rw [hx, Nat.succ_mul]; omega, List.take_length_add_append]
  have hcl : (css.take m).flatten.length = m * size := by
    have : ∀ (css : List (List Value)), (∀ cs ∈ css, cs.length = size) → css.flatten.length = css.length * size := by
      intro css
      induction css with
      | nil => intro _; simp
      | cons x r ih => intro hs; rw [List.flatten_cons, List.length_append, ih (fun cs h => hs cs (by simp [h])), hs x (by simp), List.length_cons, Nat.succ_mul]; omega
    rw [this _ (fun cs h => h2 cs (List.mem_of_mem_take h)), List.length_take, Nat.min_eq_left (by rw [h1]; exact hm)]
  refine ⟨T, css.take m, t1, t2, (by cases A <;> exact t3), by simp [h1], fun cs h => h2 cs (List.mem_of_mem_take h), ?_, fun i e cs hi hc => ?_⟩
  · rw [hl]
    obtain ⟨e, h3⟩ := h3
    refine ⟨hcl, ?_⟩
    rcases h3 with ⟨hv, h0⟩ | ⟨g, cap, cur, hv, hbg, hg, hn, hcap, hsz, htake⟩
    · injection hv with e1 e2 e3
      subst e1 e3
      left
      have : m = 0 := by omega
      subst this
      exact ⟨rfl, rfl⟩
    · injection hv with e1 e2 e3
      subst e1 e3
      refine .inr ⟨g, c, cur, rfl, hbg, hg, by omega, hcap, hsz, ?_⟩
      rw [hfl css h2 m, ← htake, List.take_take, Nat.min_eq_left (Nat.mul_le_mul_right _ hm)]
  · rw [List.getElem?_take] at hi hc
    split at hi
    · rename_i hlt
      rw [if_pos hlt] at hc
      exact h4 i e cs hi hc
    · cases hi
theorem OwnL.cap_le {α : Type} {rd : World → Blocks → α → List Value → Prop} {size : Nat} {E : TypeId} {w : World} {base : Nat} {S : Blocks} {l : List α} {A : Option Addr} {n c : Nat} (h : OwnL rd size E w base S l (.slice A n c)) : l.length ≤ c ∧ c ≤ maxLen := by
  obtain ⟨T, css, _, _, _, h1, h2, h3, h4⟩ := h
  rcases h3.2 with ⟨hv, h0⟩ | ⟨g, cap, cur, hv, hbg, hg, hn, hcap, hsz, htake⟩
  · injection hv with e1 e2 e3
    subst e3
    exact ⟨by omega, by simp [maxLen]⟩
  · injection hv with e1 e2 e3
    subst e3
    exact ⟨hn, hcap⟩
theorem Wk.cut {base : Nat} {w : World} {z n c : Nat} {B X F : List Str} {A : Option Addr} {vf : Value} (h : Wk base w z (B ++ X) F (.slice A n c) vf) :
    Wk base (w.setCell ⟨z, 0, none⟩ (.slice A B.length c)) z B F (.slice A B.length c) vf := by
  have hset := (But.refl (Is z) w).setCell (p := ⟨z, 0, none⟩) rfl (.slice A B.length c)
  have ht := OwnL.take h.ob (m := B.length) (by simp)
  rw [List.take_left] at ht
  have ho : (Value.slice A B.length c).ownBlock = (Value.slice A n c).ownBlock := by cases A <;> rfl
  have hnb := h.nb
  have hnbf := h.nbf
  rw [← ho] at hnb hnbf
  exact ⟨h.blk.set (i := 0) (by simp) _, ht.but hset (fun k hk e => hnb k hk e), h.of_.but hset (fun k hk e => h.nf k hk e), hnb, h.nf, hnbf⟩
def STs (l : List St) : Prop := ∀ (base : Nat) (w : World) (S : Blocks) (z : Nat) (B F : List Str) (vb vf v : Value), Sub S (Upto base) → base ≤ w.heap.size → RdSts w S l v → Wk base w z B F vb vf → St.wts l ≤ 1048576 → B.length + St.wts l ≤ 1073741824 → F.length + St.wts l ≤ 1073741824 →
  Calls Try.prog 25 #[.pointer (some ⟨z, 0, none⟩), v] w fun e w' => (∃ x, e = .returned x) ∧ ∃ vb' vf', Wk base w' z (B ++ bindsL l) (merge F (lfree l B)) vb' vf' ∧ But (WT z vb vf) w w' ∧ New w vb vb' ∧ New w vf vf'
set_option maxHeartbeats 2000000 in
set_option maxRecDepth 100000 in
theorem within_any (l : List St) (hl : STs l) (more : List Str) (base : Nat) (w : World) (S : Blocks) (z : Nat) (B F : List Str) (vb vf v u : Value) (hS : Sub S (Upto base)) (hbs : base ≤ w.heap.size) (r : RdSts w S l v) (hm : FrS w more u) (hw : Wk base w z B F vb vf)
    (h1 : St.wts l ≤ 1048576) (h2 : B.length + more.length + St.wts l ≤ 1073741824) (h3 : F.length + St.wts l ≤ 1073741824) :
    Calls Try.prog 56 #[.pointer (some ⟨z, 0, none⟩), v, u] w fun e w' => (∃ x, e = .returned x) ∧ ∃ vb' vf', Wk base w' z B (merge F (lfree l (B ++ more))) vb' vf' ∧ But (WT z vb vf) w w' ∧ New w vb vb' ∧ New w vf vf' := by
  obtain ⟨i0, hi, hz0, hz1', hz2⟩ := info_parts infoStr
  obtain ⟨A, c, rfl⟩ := hw.ob.form
  obtain ⟨T, hT, rT⟩ := hm
  obtain ⟨A1, c1, rfl, _, _, _⟩ := rT.form
  have HW := Lib.hid hw
  have HR := Lib.hid r
  have HS := Lib.hid hS
  have HL := Lib.hid hl
  have k0 := hw.blk.cell 0 _ rfl
  clear hw r hS hl
  go_enter Try.func56, Try.ntmps56
  go_wp2_with (at_builtin; refine wpList_append_list rfl _ _ 24 rfl i0 _ Try.underlying24 hi hz0 hz1' hz2 rfl (by decide) Flat.keeps HW.out.ob (rT.bare Nowhere) rfl rfl (Sub.nowhere _) (Sub.nowhere _) not_nowhere oneS ?c3 ?c4 ?c5 ?_)
  case c3 => unfold maxLen; omega
  case c4 => omega
  try (case c5 => exact hbs)
  intro v2 w2 ho2 hg2 hn2
  obtain ⟨A2, c2, hv2⟩ := ho2.form
  rw [List.length_append] at hv2
  subst hv2
  obtain ⟨p1, p2, p3⟩ := Wk.pushB HW.out hg2 ho2 (own_cases hn2 (Nat.le_refl _))
  have hOk2 := grown_cell hg2 k0 (fun e => HW.out.nb z e rfl)
  have hOf2 : w2.frozen? ⟨z, 0, none⟩ = false := grown_frozen hg2 (HW.out.blk.fr 0) HW.out.blk.lt (fun e => HW.out.nb z e rfl)
  have P1 := Lib.hid p1
  have P2 := Lib.hid p2
  have P3 := Lib.hid p3
  have RW := Lib.hid (HR.out.keep RdSt.keeps (Sub.refl _) (p2.same (HS.out.trans (Sub.upto hbs)) (fun k hk h => by have := HW.out.ge k h; have := HS.out k hk; unfold Upto at this; omega)))
  have HZ := Lib.hid p2.size
  have HBL := Lib.hid (show (B ++ more).length + St.wts l ≤ 1073741824 by simp; omega)
  clear ho2 hg2 hn2 p1 p2 p3 k0 rT hT
  go_wp2_with fail
  refine (HL.out base _ S z (B ++ more) F _ vf v HS.out (Nat.le_trans hbs HZ.out) RW.out P1.out h1 HBL.out h3).mono ?_
  rintro e w3 ⟨⟨x, rfl⟩, vb3, vf3, q1, q2, q3, q4⟩
  obtain ⟨A3, c3, rfl⟩ := q1.ob.form
  have k0 := q1.blk.cell 0 _ rfl
  have kf := q1.blk.fr 0
  have Q1 := Lib.hid q1
  have Q2 := Lib.hid q2
  have Q3 := Lib.hid q3
  have Q4 := Lib.hid q4
  have hbl : B.length ≤ (B ++ more ++ bindsL l).length := by simp only [List.length_append]; omega
  have hcp := q1.ob.cap_le
  have hcm := hcp.2
  unfold maxLen at hcm
  have hbc : B.length ≤ c3 := by omega
  have hbi : (B.length : Int) ≤ (c3 : Int) := by omega
  have hb0 : (0 : Int) ≤ (B.length : Int) := by omega
  clear hcp hbl
  generalize (B ++ more ++ bindsL l).length = n3 at *
  clear q1 q2 q3 q4 hOk2 hOf2
  go_wp2
  go_end0
  have hcut := Wk.cut (X := more ++ bindsL l) (by rw [← List.append_assoc]; exact Q1.out)
  refine ⟨⟨_, rfl⟩, _, vf3, hcut, (WT.step P2.out Q2.out P3.out (New.refl _ _)).setCell (p := ⟨z, 0, none⟩) (.inl rfl) _, ?_, fun k hk => (Q4.out k hk).imp id (fun h => Nat.le_trans P2.out.size h)⟩
  intro k hk
  exact (P3.out.trans Q3.out P2.out.size) k (by rw [← hk]; cases A3 <;> rfl)
end Go.Proofs.Ythbbecmffndgdaa
