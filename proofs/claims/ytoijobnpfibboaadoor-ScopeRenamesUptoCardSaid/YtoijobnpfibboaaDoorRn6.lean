/- The walk of the renamer's block. -/
import Derived.Test.YtoijobnpfibboaaDoorRn5
import Derived.Test.YtoijobnpfibboaaDoorRn4b
namespace Go.Proofs.YtoijobnpfibboaaDoor
open Go.RowKit
set_option linter.unusedVariables false
theorem Two.cut {base z : Nat} {w0 w : World} {lo X ln Y : List Str} {uo un x0 x1 : Value} {Ao An : Option Addr} {n n' co cn : Nat} {c : Int} (h : Two base z w0 uo un w (lo ++ X) (ln ++ Y) (.slice Ao n co) (.slice An n' cn) x0 x1 c) : Two base z w0 uo un w lo ln (.slice Ao lo.length co) (.slice An ln.length cn) x0 x1 c := by
  have h1 := OwnL.take h.oo (m := lo.length) (by simp)
  have h2 := OwnL.take h.on (m := ln.length) (by simp)
  rw [List.take_left] at h1 h2
  have e1 : (Value.slice Ao lo.length co).ownBlock = (Value.slice Ao n co).ownBlock := by cases Ao <;> rfl
  have e2 : (Value.slice An ln.length cn).ownBlock = (Value.slice An n' cn).ownBlock := by cases An <;> rfl
  have a1 := h.no
  have a2 := h.nn
  have a3 := h.di
  have a4 := h.fo
  have a5 := h.fn
  rw [← e1] at a1 a3 a4
  rw [← e2] at a2 a3 a5
  exact ⟨h.bl, h.zl, h1, h2, a1, a2, a3, a4, a5, h.but⟩
theorem renS_env (s : St) (V : Env) (m : Nat) : ∃ X, (renS s V m).2.1 = X ++ V ∧ X.length ≤ 1 := by
  obtain ⟨k, n, a, b, body, els⟩ := s
  rw [renS]
  split
  · exact ⟨[(n, vN m)], rfl, by simp⟩
  · split
    · exact ⟨[], rfl, by simp⟩
    · split
      · exact ⟨[], rfl, by simp⟩
      · split
        · exact ⟨[], rfl, by simp⟩
        · split
          · exact ⟨[], rfl, by simp⟩
          · exact ⟨[], rfl, by simp⟩
theorem renP_env (V : Env) (m : Nat) : ∀ (k : Nat) (l : List St), l.length = k → ∃ X, (renP l V m).2.1 = X ++ V ∧ X.length ≤ l.length := by
  intro k
  induction k with
  | zero =>
    intro l hl
    obtain rfl := List.eq_nil_of_length_eq_zero hl
    exact ⟨[], rfl, by simp⟩
  | succ k ih =>
    intro l hl
    rcases List.eq_nil_or_concat l with rfl | ⟨l', s, rfl⟩
    · simp at hl
    · rw [List.concat_eq_append] at hl ⊢
      obtain ⟨X, h1, h2⟩ := ih l' (by simpa using hl)
      obtain ⟨Y, h3, h4⟩ := renS_env s (renP l' V m).2.1 (renP l' V m).2.2
      refine ⟨Y ++ X, ?_, by simp; omega⟩
      rw [renP_snoc]
      unfold stepR
      rw [h3, h1, List.append_assoc]
theorem len_wts (l : List St) : l.length ≤ St.wts l := by
  induction l with
  | nil => simp
  | cons s r ih => rw [St.wts]; have := s.wt_pos; simp; omega
/-- stmts' contract -/
def RSs (l : List St) : Prop := ∀ (base z m : Nat) (w : World) (S : Blocks) (V : Env) (vo vn v : Value), 0 < base → PowT w → RmAt base z w V m vo vn → base ≤ w.heap.size → Sub S (Upto base) → RdSts w S l v → St.wts l ≤ 1048576 → m + St.wts l ≤ 1073741824 → V.length + St.wts l ≤ 1073741000 →
  Calls Tryd.prog 8 #[.pointer (some ⟨z, 0, none⟩), v] w fun e w' => ∃ x vo' vn', e = .returned x ∧ Two base z w vo vn w' ((renP l V m).2.1.map (·.1)).reverse ((renP l V m).2.1.map (·.2)).reverse vo' vn' vo' vn' (((renL l V m).2 : Nat) : Int) ∧ StR w.heap.size vo' vn' w' (renL l V m).1 x
set_option maxHeartbeats 4000000 in
set_option maxRecDepth 100000 in
theorem blk_any (l : List St) (hl : RSs l) (base z m : Nat) (w : World) (S : Blocks) (V : Env) (vo vn v : Value) (hg : 0 < base) (hT : PowT w) (h : RmAt base z w V m vo vn) (hb : base ≤ w.heap.size) (hS : Sub S (Upto base)) (r : RdSts w S l v) (h1 : St.wts l ≤ 1048576) (h2 : m + St.wts l ≤ 1073741824) (h3 : V.length + St.wts l ≤ 1073741000) :
    Calls Tryd.prog 13 #[.pointer (some ⟨z, 0, none⟩), v] w fun e w' => ∃ x vo' vn', e = .returned x ∧ Two base z w vo vn w' (V.map (·.1)).reverse (V.map (·.2)).reverse vo' vn' vo' vn' (((renL l V m).2 : Nat) : Int) ∧ StR w.heap.size vo' vn' w' (renL l V m).1 x := by
  have HSP := Lib.hid (hl base z m w S V vo vn v hg hT h hb hS r h1 h2 h3)
  obtain ⟨X, hX, hXl⟩ := renP_env V m _ l rfl
  have hlw := len_wts l
  unfold RmAt at h
  have k0 := h.bl.cell 0 _ rfl
  obtain ⟨Ao, co, rfl⟩ := h.oo.form
  obtain ⟨An, cn, rfl⟩ := h.on.form
  obtain ⟨A5, c5, rfl, -⟩ := r.form
  have hlen : (V.map (·.1)).reverse.length = V.length := by simp
  have hlen2 : (V.map (·.2)).reverse.length = V.length := by simp
  have HX := Lib.hid hX
  rw [hlen] at k0 HSP h ⊢
  rw [hlen2] at HSP h ⊢
  have HR := Lib.hid h
  have hzl := h.bl.lt
  clear h hl r hX hlen hlen2 hT hS
  obtain ⟨n, hn⟩ : ∃ n, n = V.length := ⟨_, rfl⟩
  rw [← hn] at k0 HSP HR ⊢
  have HN := Lib.hid hn
  clear hn
  go_enter Tryd.func13, Tryd.ntmps13
  go_wp2_with fail
  refine HSP.out.mono ?_
  rintro e w3 ⟨x, vo3, vn3, rfl, ht3, hx3⟩
  rw [HX.out, List.map_append, List.map_append, List.reverse_append, List.reverse_append] at ht3
  obtain ⟨A3, c3, rfl⟩ := ht3.oo.form
  obtain ⟨A4, c4, rfl⟩ := ht3.on.form
  have hcp := ht3.oo.cap_le
  have hcq := ht3.on.cap_le
  have hl3 : ((V.map (·.1)).reverse ++ (X.map (·.1)).reverse).length = n + X.length := by rw [HN.out]; simp
  have hl4 : ((V.map (·.2)).reverse ++ (X.map (·.2)).reverse).length = n + X.length := by rw [HN.out]; simp
  rw [hl3] at hcp ht3 hx3
  rw [hl4] at hcq ht3 hx3
  have j0 := ht3.bl.cell 0 _ rfl
  have j1 := ht3.bl.cell 1 _ rfl
  have HT3 := Lib.hid ht3
  have HX3 := Lib.hid hx3
  have hzl3 := ht3.bl.lt
  unfold maxLen at hcp hcq
  have hb1 : n ≤ c3 := by omega
  have hb2 : (n : Int) ≤ (c3 : Int) := by omega
  have hb3 : (0 : Int) ≤ (n : Int) := by omega
  have hb4 : n ≤ c4 := by omega
  have hb5 : (n : Int) ≤ (c4 : Int) := by omega
  have hf0 := ht3.bl.fr 0
  have hf1 := ht3.bl.fr 1
  clear ht3 hx3 hl3 hl4 HSP k0
  have hcm3 := hcp.2
  have hcm4 := hcq.2
  clear hcp hcq
  generalize n + X.length = n3 at *
  go_upto_region 3 with (fail)
  obtain ⟨I, hI⟩ : ∃ I : Array Bool → Act → World → Prop, I = (fun (lq : Array Bool) (a : Act) (wx : World) => ∃ (u15 u16 u17 u18 u19 u20 u21 u22 u23 u24 u25 u26 u27 u28 u29 u30 u31 u32 : Value), a = ⟨#[.pointer (some ⟨z, 0, none⟩), .slice A5 l.length c5, undef, undef, .slice none 0 0, .int .i64 (n : Int), x, .pointer (some ⟨z, 0, none⟩), .pointer (some ⟨z, 0, none⟩), .pointer (some ⟨z, 0, none⟩), .slice Ao n co, .int .i64 (n : Int), .pointer (some ⟨z, 0, none⟩), .slice A5 l.length c5, x, u15, u16, u17, u18, u19, u20, u21, u22, u23, u24, u25, u26, u27, u28, u29, u30, u31, u32, undef], []⟩ ∧ Hid (lq.getD 16 false = false → wx = w3.drew) ∧ Hid (lq.getD 16 false = true → lq.getD 19 false = false → wx = (w3.drew.setCell ⟨z, 0, none⟩ (.slice A3 n c3))) ∧ Hid (lq.getD 19 false = true → wx = ((w3.drew.setCell ⟨z, 0, none⟩ (.slice A3 n c3)).setCell ⟨z, 1, none⟩ (.slice A4 n c4))) ∧ Hid (lq.getD 0 false = true → u15 = .pointer (some ⟨z, 0, none⟩)) ∧ Hid (lq.getD 1 false = true → u16 = .pointer (some ⟨z, 0, none⟩)) ∧ Hid (lq.getD 2 false = true → u17 = .pointer (some ⟨z, 0, none⟩)) ∧ Hid (lq.getD 3 false = true → u18 = .pointer (some ⟨z, 0, none⟩)) ∧ Hid (lq.getD 4 false = true → u19 = .pointer (some ⟨z, 0, none⟩)) ∧ Hid (lq.getD 5 false = true → u20 = .slice A3 n3 c3) ∧ Hid (lq.getD 6 false = true → u21 = .int .i64 (n : Int)) ∧ Hid (lq.getD 7 false = true → u22 = .slice A3 n c3) ∧ Hid (lq.getD 8 false = true → u23 = .pointer (some ⟨z, 0, none⟩)) ∧ Hid (lq.getD 9 false = true → u24 = .pointer (some ⟨z, 0, none⟩)) ∧ Hid (lq.getD 10 false = true → u25 = .pointer (some ⟨z, 1, none⟩)) ∧ Hid (lq.getD 11 false = true → u26 = .slice A4 n3 c4) ∧ Hid (lq.getD 12 false = true → u27 = .int .i64 (n : Int)) ∧ Hid (lq.getD 13 false = true → u28 = .slice A4 n c4) ∧ Hid (lq.getD 14 false = true → u29 = .pointer (some ⟨z, 0, none⟩)) ∧ Hid (lq.getD 15 false = true → u30 = .pointer (some ⟨z, 0, none⟩)) ∧ Hid (lq.getD 17 false = true → u31 = .pointer (some ⟨z, 0, none⟩)) ∧ Hid (lq.getD 18 false = true → u32 = .pointer (some ⟨z, 1, none⟩))) := ⟨_, rfl⟩
  have HI := Lib.hid hI
  clear hI
  refine wp_region_invC (by kernel_rfl) I ?_ ?_ ?_ ?_
  · rw [HI.out]
    exact ⟨undef, undef, undef, undef, undef, undef, undef, undef, undef, undef, undef, undef, undef, undef, undef, undef, undef, undef, rfl, Lib.hid (fun _ => rfl), Lib.hid (fun h => by simp at h), Lib.hid (fun h => by simp at h), Lib.hid (fun h => by simp at h), Lib.hid (fun h => by simp at h), Lib.hid (fun h => by simp at h), Lib.hid (fun h => by simp at h), Lib.hid (fun h => by simp at h), Lib.hid (fun h => by simp at h), Lib.hid (fun h => by simp at h), Lib.hid (fun h => by simp at h), Lib.hid (fun h => by simp at h), Lib.hid (fun h => by simp at h), Lib.hid (fun h => by simp at h), Lib.hid (fun h => by simp at h), Lib.hid (fun h => by simp at h), Lib.hid (fun h => by simp at h), Lib.hid (fun h => by simp at h), Lib.hid (fun h => by simp at h), Lib.hid (fun h => by simp at h), Lib.hid (fun h => by simp at h)⟩
  · intro lq a wx i hl hc hI0 hi hn hd
    rw [HI.out] at hI0
    obtain ⟨u15, u16, u17, u18, u19, u20, u21, u22, u23, u24, u25, u26, u27, u28, u29, u30, u31, u32, rfl, hW0, hW1, hW2, f0, f1, f2, f3, f4, f5, f6, f7, f8, f9, f10, f11, f12, f13, f14, f15, f17, f18⟩ := hI0
    have hs : ∀ j, (lq.setIfInBounds i true).getD j false = if i = j then true else lq.getD j false := fun j => getD_set (by omega)
    have hk : ∀ j, i ≠ j → (lq.setIfInBounds i true).getD j false = lq.getD j false := fun j h => by rw [hs, if_neg h]
    replace hi : i < 20 := hi
    have hcase : i = 0 ∨ i = 1 ∨ i = 2 ∨ i = 3 ∨ i = 4 ∨ i = 5 ∨ i = 6 ∨ i = 7 ∨ i = 8 ∨ i = 9 ∨ i = 10 ∨ i = 11 ∨ i = 12 ∨ i = 13 ∨ i = 14 ∨ i = 15 ∨ i = 16 ∨ i = 17 ∨ i = 18 ∨ i = 19 := by omega
    rcases hcase with rfl | rfl | rfl | rfl | rfl | rfl | rfl | rfl | rfl | rfl | rfl | rfl | rfl | rfl | rfl | rfl | rfl | rfl | rfl | rfl
    · skip
      refine wpOp_of_list (by rfl) ?_
      go_wp2_with fail
      show I _ _ _
      rw [HI.out]
      exact ⟨_, _, _, _, _, _, _, _, _, _, _, _, _, _, _, _, _, _, rfl, Lib.hid (fun h' => hW0.out (by rwa [hk 16 (by decide)] at h')), Lib.hid (fun h h' => hW1.out (by rwa [hk 16 (by decide)] at h) (by rwa [hk 19 (by decide)] at h')), Lib.hid (fun h => hW2.out (by rwa [hk 19 (by decide)] at h)), Lib.hid (fun _ => rfl), Lib.hid (fun h => f1.out (by rwa [hk 1 (by decide)] at h)), Lib.hid (fun h => f2.out (by rwa [hk 2 (by decide)] at h)), Lib.hid (fun h => f3.out (by rwa [hk 3 (by decide)] at h)), Lib.hid (fun h => f4.out (by rwa [hk 4 (by decide)] at h)), Lib.hid (fun h => f5.out (by rwa [hk 5 (by decide)] at h)), Lib.hid (fun h => f6.out (by rwa [hk 6 (by decide)] at h)), Lib.hid (fun h => f7.out (by rwa [hk 7 (by decide)] at h)), Lib.hid (fun h => f8.out (by rwa [hk 8 (by decide)] at h)), Lib.hid (fun h => f9.out (by rwa [hk 9 (by decide)] at h)), Lib.hid (fun h => f10.out (by rwa [hk 10 (by decide)] at h)), Lib.hid (fun h => f11.out (by rwa [hk 11 (by decide)] at h)), Lib.hid (fun h => f12.out (by rwa [hk 12 (by decide)] at h)), Lib.hid (fun h => f13.out (by rwa [hk 13 (by decide)] at h)), Lib.hid (fun h => f14.out (by rwa [hk 14 (by decide)] at h)), Lib.hid (fun h => f15.out (by rwa [hk 15 (by decide)] at h)), Lib.hid (fun h => f17.out (by rwa [hk 17 (by decide)] at h)), Lib.hid (fun h => f18.out (by rwa [hk 18 (by decide)] at h))⟩
    · skip
      refine wpOp_of_list (by rfl) ?_
      go_wp2_with fail
      show I _ _ _
      rw [HI.out]
      exact ⟨_, _, _, _, _, _, _, _, _, _, _, _, _, _, _, _, _, _, rfl, Lib.hid (fun h' => hW0.out (by rwa [hk 16 (by decide)] at h')), Lib.hid (fun h h' => hW1.out (by rwa [hk 16 (by decide)] at h) (by rwa [hk 19 (by decide)] at h')), Lib.hid (fun h => hW2.out (by rwa [hk 19 (by decide)] at h)), Lib.hid (fun h => f0.out (by rwa [hk 0 (by decide)] at h)), Lib.hid (fun _ => rfl), Lib.hid (fun h => f2.out (by rwa [hk 2 (by decide)] at h)), Lib.hid (fun h => f3.out (by rwa [hk 3 (by decide)] at h)), Lib.hid (fun h => f4.out (by rwa [hk 4 (by decide)] at h)), Lib.hid (fun h => f5.out (by rwa [hk 5 (by decide)] at h)), Lib.hid (fun h => f6.out (by rwa [hk 6 (by decide)] at h)), Lib.hid (fun h => f7.out (by rwa [hk 7 (by decide)] at h)), Lib.hid (fun h => f8.out (by rwa [hk 8 (by decide)] at h)), Lib.hid (fun h => f9.out (by rwa [hk 9 (by decide)] at h)), Lib.hid (fun h => f10.out (by rwa [hk 10 (by decide)] at h)), Lib.hid (fun h => f11.out (by rwa [hk 11 (by decide)] at h)), Lib.hid (fun h => f12.out (by rwa [hk 12 (by decide)] at h)), Lib.hid (fun h => f13.out (by rwa [hk 13 (by decide)] at h)), Lib.hid (fun h => f14.out (by rwa [hk 14 (by decide)] at h)), Lib.hid (fun h => f15.out (by rwa [hk 15 (by decide)] at h)), Lib.hid (fun h => f17.out (by rwa [hk 17 (by decide)] at h)), Lib.hid (fun h => f18.out (by rwa [hk 18 (by decide)] at h))⟩
    · skip
      refine wpOp_of_list (by rfl) ?_
      go_wp2_with fail
      show I _ _ _
      rw [HI.out]
      exact ⟨_, _, _, _, _, _, _, _, _, _, _, _, _, _, _, _, _, _, rfl, Lib.hid (fun h' => hW0.out (by rwa [hk 16 (by decide)] at h')), Lib.hid (fun h h' => hW1.out (by rwa [hk 16 (by decide)] at h) (by rwa [hk 19 (by decide)] at h')), Lib.hid (fun h => hW2.out (by rwa [hk 19 (by decide)] at h)), Lib.hid (fun h => f0.out (by rwa [hk 0 (by decide)] at h)), Lib.hid (fun h => f1.out (by rwa [hk 1 (by decide)] at h)), Lib.hid (fun _ => rfl), Lib.hid (fun h => f3.out (by rwa [hk 3 (by decide)] at h)), Lib.hid (fun h => f4.out (by rwa [hk 4 (by decide)] at h)), Lib.hid (fun h => f5.out (by rwa [hk 5 (by decide)] at h)), Lib.hid (fun h => f6.out (by rwa [hk 6 (by decide)] at h)), Lib.hid (fun h => f7.out (by rwa [hk 7 (by decide)] at h)), Lib.hid (fun h => f8.out (by rwa [hk 8 (by decide)] at h)), Lib.hid (fun h => f9.out (by rwa [hk 9 (by decide)] at h)), Lib.hid (fun h => f10.out (by rwa [hk 10 (by decide)] at h)), Lib.hid (fun h => f11.out (by rwa [hk 11 (by decide)] at h)), Lib.hid (fun h => f12.out (by rwa [hk 12 (by decide)] at h)), Lib.hid (fun h => f13.out (by rwa [hk 13 (by decide)] at h)), Lib.hid (fun h => f14.out (by rwa [hk 14 (by decide)] at h)), Lib.hid (fun h => f15.out (by rwa [hk 15 (by decide)] at h)), Lib.hid (fun h => f17.out (by rwa [hk 17 (by decide)] at h)), Lib.hid (fun h => f18.out (by rwa [hk 18 (by decide)] at h))⟩
    · skip
      have d2 : lq.getD 2 false = true := hd 2 (by decide)
      obtain rfl := f2.out d2
      refine wpOp_of_list (by rfl) ?_
      go_wp2_with fail
      show I _ _ _
      rw [HI.out]
      exact ⟨_, _, _, _, _, _, _, _, _, _, _, _, _, _, _, _, _, _, rfl, Lib.hid (fun h' => hW0.out (by rwa [hk 16 (by decide)] at h')), Lib.hid (fun h h' => hW1.out (by rwa [hk 16 (by decide)] at h) (by rwa [hk 19 (by decide)] at h')), Lib.hid (fun h => hW2.out (by rwa [hk 19 (by decide)] at h)), Lib.hid (fun h => f0.out (by rwa [hk 0 (by decide)] at h)), Lib.hid (fun h => f1.out (by rwa [hk 1 (by decide)] at h)), Lib.hid (fun _ => rfl), Lib.hid (fun _ => rfl), Lib.hid (fun h => f4.out (by rwa [hk 4 (by decide)] at h)), Lib.hid (fun h => f5.out (by rwa [hk 5 (by decide)] at h)), Lib.hid (fun h => f6.out (by rwa [hk 6 (by decide)] at h)), Lib.hid (fun h => f7.out (by rwa [hk 7 (by decide)] at h)), Lib.hid (fun h => f8.out (by rwa [hk 8 (by decide)] at h)), Lib.hid (fun h => f9.out (by rwa [hk 9 (by decide)] at h)), Lib.hid (fun h => f10.out (by rwa [hk 10 (by decide)] at h)), Lib.hid (fun h => f11.out (by rwa [hk 11 (by decide)] at h)), Lib.hid (fun h => f12.out (by rwa [hk 12 (by decide)] at h)), Lib.hid (fun h => f13.out (by rwa [hk 13 (by decide)] at h)), Lib.hid (fun h => f14.out (by rwa [hk 14 (by decide)] at h)), Lib.hid (fun h => f15.out (by rwa [hk 15 (by decide)] at h)), Lib.hid (fun h => f17.out (by rwa [hk 17 (by decide)] at h)), Lib.hid (fun h => f18.out (by rwa [hk 18 (by decide)] at h))⟩
    · skip
      have d3 : lq.getD 3 false = true := hd 3 (by decide)
      obtain rfl := f3.out d3
      refine wpOp_of_list (by rfl) ?_
      go_wp2_with fail
      show I _ _ _
      rw [HI.out]
      exact ⟨_, _, _, _, _, _, _, _, _, _, _, _, _, _, _, _, _, _, rfl, Lib.hid (fun h' => hW0.out (by rwa [hk 16 (by decide)] at h')), Lib.hid (fun h h' => hW1.out (by rwa [hk 16 (by decide)] at h) (by rwa [hk 19 (by decide)] at h')), Lib.hid (fun h => hW2.out (by rwa [hk 19 (by decide)] at h)), Lib.hid (fun h => f0.out (by rwa [hk 0 (by decide)] at h)), Lib.hid (fun h => f1.out (by rwa [hk 1 (by decide)] at h)), Lib.hid (fun h => f2.out (by rwa [hk 2 (by decide)] at h)), Lib.hid (fun _ => rfl), Lib.hid (fun _ => rfl), Lib.hid (fun h => f5.out (by rwa [hk 5 (by decide)] at h)), Lib.hid (fun h => f6.out (by rwa [hk 6 (by decide)] at h)), Lib.hid (fun h => f7.out (by rwa [hk 7 (by decide)] at h)), Lib.hid (fun h => f8.out (by rwa [hk 8 (by decide)] at h)), Lib.hid (fun h => f9.out (by rwa [hk 9 (by decide)] at h)), Lib.hid (fun h => f10.out (by rwa [hk 10 (by decide)] at h)), Lib.hid (fun h => f11.out (by rwa [hk 11 (by decide)] at h)), Lib.hid (fun h => f12.out (by rwa [hk 12 (by decide)] at h)), Lib.hid (fun h => f13.out (by rwa [hk 13 (by decide)] at h)), Lib.hid (fun h => f14.out (by rwa [hk 14 (by decide)] at h)), Lib.hid (fun h => f15.out (by rwa [hk 15 (by decide)] at h)), Lib.hid (fun h => f17.out (by rwa [hk 17 (by decide)] at h)), Lib.hid (fun h => f18.out (by rwa [hk 18 (by decide)] at h))⟩
    · skip
      have d4 : lq.getD 4 false = true := hd 4 (by decide)
      obtain rfl := f4.out d4
      have nst16 : lq.getD 16 false = false := by
        cases e : lq.getD 16 false
        · rfl
        · have := hc 16 e 5 (by decide); rw [hn] at this; cases this
      obtain rfl := hW0.out nst16
      refine wpOp_of_list (by rfl) ?_
      go_wp2_with fail
      show I _ _ _
      rw [HI.out]
      exact ⟨_, _, _, _, _, _, _, _, _, _, _, _, _, _, _, _, _, _, rfl, Lib.hid (fun _ => rfl), Lib.hid (fun h _ => by rw [hk 16 (by decide), nst16] at h; cases h), Lib.hid (fun h => by rw [hk 19 (by decide)] at h; have h9 := hc 19 h 16 (by decide); rw [nst16] at h9; cases h9), Lib.hid (fun h => f0.out (by rwa [hk 0 (by decide)] at h)), Lib.hid (fun h => f1.out (by rwa [hk 1 (by decide)] at h)), Lib.hid (fun h => f2.out (by rwa [hk 2 (by decide)] at h)), Lib.hid (fun h => f3.out (by rwa [hk 3 (by decide)] at h)), Lib.hid (fun _ => rfl), Lib.hid (fun _ => rfl), Lib.hid (fun h => f6.out (by rwa [hk 6 (by decide)] at h)), Lib.hid (fun h => f7.out (by rwa [hk 7 (by decide)] at h)), Lib.hid (fun h => f8.out (by rwa [hk 8 (by decide)] at h)), Lib.hid (fun h => f9.out (by rwa [hk 9 (by decide)] at h)), Lib.hid (fun h => f10.out (by rwa [hk 10 (by decide)] at h)), Lib.hid (fun h => f11.out (by rwa [hk 11 (by decide)] at h)), Lib.hid (fun h => f12.out (by rwa [hk 12 (by decide)] at h)), Lib.hid (fun h => f13.out (by rwa [hk 13 (by decide)] at h)), Lib.hid (fun h => f14.out (by rwa [hk 14 (by decide)] at h)), Lib.hid (fun h => f15.out (by rwa [hk 15 (by decide)] at h)), Lib.hid (fun h => f17.out (by rwa [hk 17 (by decide)] at h)), Lib.hid (fun h => f18.out (by rwa [hk 18 (by decide)] at h))⟩
    · skip
      refine wpOp_of_list (by rfl) ?_
      go_wp2_with fail
      show I _ _ _
      rw [HI.out]
      exact ⟨_, _, _, _, _, _, _, _, _, _, _, _, _, _, _, _, _, _, rfl, Lib.hid (fun h' => hW0.out (by rwa [hk 16 (by decide)] at h')), Lib.hid (fun h h' => hW1.out (by rwa [hk 16 (by decide)] at h) (by rwa [hk 19 (by decide)] at h')), Lib.hid (fun h => hW2.out (by rwa [hk 19 (by decide)] at h)), Lib.hid (fun h => f0.out (by rwa [hk 0 (by decide)] at h)), Lib.hid (fun h => f1.out (by rwa [hk 1 (by decide)] at h)), Lib.hid (fun h => f2.out (by rwa [hk 2 (by decide)] at h)), Lib.hid (fun h => f3.out (by rwa [hk 3 (by decide)] at h)), Lib.hid (fun h => f4.out (by rwa [hk 4 (by decide)] at h)), Lib.hid (fun h => f5.out (by rwa [hk 5 (by decide)] at h)), Lib.hid (fun _ => rfl), Lib.hid (fun h => f7.out (by rwa [hk 7 (by decide)] at h)), Lib.hid (fun h => f8.out (by rwa [hk 8 (by decide)] at h)), Lib.hid (fun h => f9.out (by rwa [hk 9 (by decide)] at h)), Lib.hid (fun h => f10.out (by rwa [hk 10 (by decide)] at h)), Lib.hid (fun h => f11.out (by rwa [hk 11 (by decide)] at h)), Lib.hid (fun h => f12.out (by rwa [hk 12 (by decide)] at h)), Lib.hid (fun h => f13.out (by rwa [hk 13 (by decide)] at h)), Lib.hid (fun h => f14.out (by rwa [hk 14 (by decide)] at h)), Lib.hid (fun h => f15.out (by rwa [hk 15 (by decide)] at h)), Lib.hid (fun h => f17.out (by rwa [hk 17 (by decide)] at h)), Lib.hid (fun h => f18.out (by rwa [hk 18 (by decide)] at h))⟩
    · skip
      have d5 : lq.getD 5 false = true := hd 5 (by decide)
      have d6 : lq.getD 6 false = true := hd 6 (by decide)
      obtain rfl := f5.out d5
      obtain rfl := f6.out d6
      refine wpOp_of_list (by rfl) ?_
      go_wp2_with fail
      show I _ _ _
      rw [HI.out]
      exact ⟨_, _, _, _, _, _, _, _, _, _, _, _, _, _, _, _, _, _, rfl, Lib.hid (fun h' => hW0.out (by rwa [hk 16 (by decide)] at h')), Lib.hid (fun h h' => hW1.out (by rwa [hk 16 (by decide)] at h) (by rwa [hk 19 (by decide)] at h')), Lib.hid (fun h => hW2.out (by rwa [hk 19 (by decide)] at h)), Lib.hid (fun h => f0.out (by rwa [hk 0 (by decide)] at h)), Lib.hid (fun h => f1.out (by rwa [hk 1 (by decide)] at h)), Lib.hid (fun h => f2.out (by rwa [hk 2 (by decide)] at h)), Lib.hid (fun h => f3.out (by rwa [hk 3 (by decide)] at h)), Lib.hid (fun h => f4.out (by rwa [hk 4 (by decide)] at h)), Lib.hid (fun _ => rfl), Lib.hid (fun _ => rfl), Lib.hid (fun _ => rfl), Lib.hid (fun h => f8.out (by rwa [hk 8 (by decide)] at h)), Lib.hid (fun h => f9.out (by rwa [hk 9 (by decide)] at h)), Lib.hid (fun h => f10.out (by rwa [hk 10 (by decide)] at h)), Lib.hid (fun h => f11.out (by rwa [hk 11 (by decide)] at h)), Lib.hid (fun h => f12.out (by rwa [hk 12 (by decide)] at h)), Lib.hid (fun h => f13.out (by rwa [hk 13 (by decide)] at h)), Lib.hid (fun h => f14.out (by rwa [hk 14 (by decide)] at h)), Lib.hid (fun h => f15.out (by rwa [hk 15 (by decide)] at h)), Lib.hid (fun h => f17.out (by rwa [hk 17 (by decide)] at h)), Lib.hid (fun h => f18.out (by rwa [hk 18 (by decide)] at h))⟩
    · skip
      refine wpOp_of_list (by rfl) ?_
      go_wp2_with fail
      show I _ _ _
      rw [HI.out]
      exact ⟨_, _, _, _, _, _, _, _, _, _, _, _, _, _, _, _, _, _, rfl, Lib.hid (fun h' => hW0.out (by rwa [hk 16 (by decide)] at h')), Lib.hid (fun h h' => hW1.out (by rwa [hk 16 (by decide)] at h) (by rwa [hk 19 (by decide)] at h')), Lib.hid (fun h => hW2.out (by rwa [hk 19 (by decide)] at h)), Lib.hid (fun h => f0.out (by rwa [hk 0 (by decide)] at h)), Lib.hid (fun h => f1.out (by rwa [hk 1 (by decide)] at h)), Lib.hid (fun h => f2.out (by rwa [hk 2 (by decide)] at h)), Lib.hid (fun h => f3.out (by rwa [hk 3 (by decide)] at h)), Lib.hid (fun h => f4.out (by rwa [hk 4 (by decide)] at h)), Lib.hid (fun h => f5.out (by rwa [hk 5 (by decide)] at h)), Lib.hid (fun h => f6.out (by rwa [hk 6 (by decide)] at h)), Lib.hid (fun h => f7.out (by rwa [hk 7 (by decide)] at h)), Lib.hid (fun _ => rfl), Lib.hid (fun h => f9.out (by rwa [hk 9 (by decide)] at h)), Lib.hid (fun h => f10.out (by rwa [hk 10 (by decide)] at h)), Lib.hid (fun h => f11.out (by rwa [hk 11 (by decide)] at h)), Lib.hid (fun h => f12.out (by rwa [hk 12 (by decide)] at h)), Lib.hid (fun h => f13.out (by rwa [hk 13 (by decide)] at h)), Lib.hid (fun h => f14.out (by rwa [hk 14 (by decide)] at h)), Lib.hid (fun h => f15.out (by rwa [hk 15 (by decide)] at h)), Lib.hid (fun h => f17.out (by rwa [hk 17 (by decide)] at h)), Lib.hid (fun h => f18.out (by rwa [hk 18 (by decide)] at h))⟩
    · skip
      have d8 : lq.getD 8 false = true := hd 8 (by decide)
      obtain rfl := f8.out d8
      refine wpOp_of_list (by rfl) ?_
      go_wp2_with fail
      show I _ _ _
      rw [HI.out]
      exact ⟨_, _, _, _, _, _, _, _, _, _, _, _, _, _, _, _, _, _, rfl, Lib.hid (fun h' => hW0.out (by rwa [hk 16 (by decide)] at h')), Lib.hid (fun h h' => hW1.out (by rwa [hk 16 (by decide)] at h) (by rwa [hk 19 (by decide)] at h')), Lib.hid (fun h => hW2.out (by rwa [hk 19 (by decide)] at h)), Lib.hid (fun h => f0.out (by rwa [hk 0 (by decide)] at h)), Lib.hid (fun h => f1.out (by rwa [hk 1 (by decide)] at h)), Lib.hid (fun h => f2.out (by rwa [hk 2 (by decide)] at h)), Lib.hid (fun h => f3.out (by rwa [hk 3 (by decide)] at h)), Lib.hid (fun h => f4.out (by rwa [hk 4 (by decide)] at h)), Lib.hid (fun h => f5.out (by rwa [hk 5 (by decide)] at h)), Lib.hid (fun h => f6.out (by rwa [hk 6 (by decide)] at h)), Lib.hid (fun h => f7.out (by rwa [hk 7 (by decide)] at h)), Lib.hid (fun _ => rfl), Lib.hid (fun _ => rfl), Lib.hid (fun h => f10.out (by rwa [hk 10 (by decide)] at h)), Lib.hid (fun h => f11.out (by rwa [hk 11 (by decide)] at h)), Lib.hid (fun h => f12.out (by rwa [hk 12 (by decide)] at h)), Lib.hid (fun h => f13.out (by rwa [hk 13 (by decide)] at h)), Lib.hid (fun h => f14.out (by rwa [hk 14 (by decide)] at h)), Lib.hid (fun h => f15.out (by rwa [hk 15 (by decide)] at h)), Lib.hid (fun h => f17.out (by rwa [hk 17 (by decide)] at h)), Lib.hid (fun h => f18.out (by rwa [hk 18 (by decide)] at h))⟩
    · skip
      have d9 : lq.getD 9 false = true := hd 9 (by decide)
      obtain rfl := f9.out d9
      refine wpOp_of_list (by rfl) ?_
      go_wp2_with fail
      show I _ _ _
      rw [HI.out]
      exact ⟨_, _, _, _, _, _, _, _, _, _, _, _, _, _, _, _, _, _, rfl, Lib.hid (fun h' => hW0.out (by rwa [hk 16 (by decide)] at h')), Lib.hid (fun h h' => hW1.out (by rwa [hk 16 (by decide)] at h) (by rwa [hk 19 (by decide)] at h')), Lib.hid (fun h => hW2.out (by rwa [hk 19 (by decide)] at h)), Lib.hid (fun h => f0.out (by rwa [hk 0 (by decide)] at h)), Lib.hid (fun h => f1.out (by rwa [hk 1 (by decide)] at h)), Lib.hid (fun h => f2.out (by rwa [hk 2 (by decide)] at h)), Lib.hid (fun h => f3.out (by rwa [hk 3 (by decide)] at h)), Lib.hid (fun h => f4.out (by rwa [hk 4 (by decide)] at h)), Lib.hid (fun h => f5.out (by rwa [hk 5 (by decide)] at h)), Lib.hid (fun h => f6.out (by rwa [hk 6 (by decide)] at h)), Lib.hid (fun h => f7.out (by rwa [hk 7 (by decide)] at h)), Lib.hid (fun h => f8.out (by rwa [hk 8 (by decide)] at h)), Lib.hid (fun _ => rfl), Lib.hid (fun _ => rfl), Lib.hid (fun h => f11.out (by rwa [hk 11 (by decide)] at h)), Lib.hid (fun h => f12.out (by rwa [hk 12 (by decide)] at h)), Lib.hid (fun h => f13.out (by rwa [hk 13 (by decide)] at h)), Lib.hid (fun h => f14.out (by rwa [hk 14 (by decide)] at h)), Lib.hid (fun h => f15.out (by rwa [hk 15 (by decide)] at h)), Lib.hid (fun h => f17.out (by rwa [hk 17 (by decide)] at h)), Lib.hid (fun h => f18.out (by rwa [hk 18 (by decide)] at h))⟩
    · skip
      have d10 : lq.getD 10 false = true := hd 10 (by decide)
      obtain rfl := f10.out d10
      have nst16 : lq.getD 16 false = false := by
        cases e : lq.getD 16 false
        · rfl
        · have := hc 16 e 11 (by decide); rw [hn] at this; cases this
      obtain rfl := hW0.out nst16
      refine wpOp_of_list (by rfl) ?_
      go_wp2_with fail
      show I _ _ _
      rw [HI.out]
      exact ⟨_, _, _, _, _, _, _, _, _, _, _, _, _, _, _, _, _, _, rfl, Lib.hid (fun _ => rfl), Lib.hid (fun h _ => by rw [hk 16 (by decide), nst16] at h; cases h), Lib.hid (fun h => by rw [hk 19 (by decide)] at h; have h9 := hc 19 h 16 (by decide); rw [nst16] at h9; cases h9), Lib.hid (fun h => f0.out (by rwa [hk 0 (by decide)] at h)), Lib.hid (fun h => f1.out (by rwa [hk 1 (by decide)] at h)), Lib.hid (fun h => f2.out (by rwa [hk 2 (by decide)] at h)), Lib.hid (fun h => f3.out (by rwa [hk 3 (by decide)] at h)), Lib.hid (fun h => f4.out (by rwa [hk 4 (by decide)] at h)), Lib.hid (fun h => f5.out (by rwa [hk 5 (by decide)] at h)), Lib.hid (fun h => f6.out (by rwa [hk 6 (by decide)] at h)), Lib.hid (fun h => f7.out (by rwa [hk 7 (by decide)] at h)), Lib.hid (fun h => f8.out (by rwa [hk 8 (by decide)] at h)), Lib.hid (fun h => f9.out (by rwa [hk 9 (by decide)] at h)), Lib.hid (fun _ => rfl), Lib.hid (fun _ => rfl), Lib.hid (fun h => f12.out (by rwa [hk 12 (by decide)] at h)), Lib.hid (fun h => f13.out (by rwa [hk 13 (by decide)] at h)), Lib.hid (fun h => f14.out (by rwa [hk 14 (by decide)] at h)), Lib.hid (fun h => f15.out (by rwa [hk 15 (by decide)] at h)), Lib.hid (fun h => f17.out (by rwa [hk 17 (by decide)] at h)), Lib.hid (fun h => f18.out (by rwa [hk 18 (by decide)] at h))⟩
    · skip
      refine wpOp_of_list (by rfl) ?_
      go_wp2_with fail
      show I _ _ _
      rw [HI.out]
      exact ⟨_, _, _, _, _, _, _, _, _, _, _, _, _, _, _, _, _, _, rfl, Lib.hid (fun h' => hW0.out (by rwa [hk 16 (by decide)] at h')), Lib.hid (fun h h' => hW1.out (by rwa [hk 16 (by decide)] at h) (by rwa [hk 19 (by decide)] at h')), Lib.hid (fun h => hW2.out (by rwa [hk 19 (by decide)] at h)), Lib.hid (fun h => f0.out (by rwa [hk 0 (by decide)] at h)), Lib.hid (fun h => f1.out (by rwa [hk 1 (by decide)] at h)), Lib.hid (fun h => f2.out (by rwa [hk 2 (by decide)] at h)), Lib.hid (fun h => f3.out (by rwa [hk 3 (by decide)] at h)), Lib.hid (fun h => f4.out (by rwa [hk 4 (by decide)] at h)), Lib.hid (fun h => f5.out (by rwa [hk 5 (by decide)] at h)), Lib.hid (fun h => f6.out (by rwa [hk 6 (by decide)] at h)), Lib.hid (fun h => f7.out (by rwa [hk 7 (by decide)] at h)), Lib.hid (fun h => f8.out (by rwa [hk 8 (by decide)] at h)), Lib.hid (fun h => f9.out (by rwa [hk 9 (by decide)] at h)), Lib.hid (fun h => f10.out (by rwa [hk 10 (by decide)] at h)), Lib.hid (fun h => f11.out (by rwa [hk 11 (by decide)] at h)), Lib.hid (fun _ => rfl), Lib.hid (fun h => f13.out (by rwa [hk 13 (by decide)] at h)), Lib.hid (fun h => f14.out (by rwa [hk 14 (by decide)] at h)), Lib.hid (fun h => f15.out (by rwa [hk 15 (by decide)] at h)), Lib.hid (fun h => f17.out (by rwa [hk 17 (by decide)] at h)), Lib.hid (fun h => f18.out (by rwa [hk 18 (by decide)] at h))⟩
    · skip
      have d11 : lq.getD 11 false = true := hd 11 (by decide)
      have d12 : lq.getD 12 false = true := hd 12 (by decide)
      obtain rfl := f11.out d11
      obtain rfl := f12.out d12
      refine wpOp_of_list (by rfl) ?_
      go_wp2_with fail
      show I _ _ _
      rw [HI.out]
      exact ⟨_, _, _, _, _, _, _, _, _, _, _, _, _, _, _, _, _, _, rfl, Lib.hid (fun h' => hW0.out (by rwa [hk 16 (by decide)] at h')), Lib.hid (fun h h' => hW1.out (by rwa [hk 16 (by decide)] at h) (by rwa [hk 19 (by decide)] at h')), Lib.hid (fun h => hW2.out (by rwa [hk 19 (by decide)] at h)), Lib.hid (fun h => f0.out (by rwa [hk 0 (by decide)] at h)), Lib.hid (fun h => f1.out (by rwa [hk 1 (by decide)] at h)), Lib.hid (fun h => f2.out (by rwa [hk 2 (by decide)] at h)), Lib.hid (fun h => f3.out (by rwa [hk 3 (by decide)] at h)), Lib.hid (fun h => f4.out (by rwa [hk 4 (by decide)] at h)), Lib.hid (fun h => f5.out (by rwa [hk 5 (by decide)] at h)), Lib.hid (fun h => f6.out (by rwa [hk 6 (by decide)] at h)), Lib.hid (fun h => f7.out (by rwa [hk 7 (by decide)] at h)), Lib.hid (fun h => f8.out (by rwa [hk 8 (by decide)] at h)), Lib.hid (fun h => f9.out (by rwa [hk 9 (by decide)] at h)), Lib.hid (fun h => f10.out (by rwa [hk 10 (by decide)] at h)), Lib.hid (fun _ => rfl), Lib.hid (fun _ => rfl), Lib.hid (fun _ => rfl), Lib.hid (fun h => f14.out (by rwa [hk 14 (by decide)] at h)), Lib.hid (fun h => f15.out (by rwa [hk 15 (by decide)] at h)), Lib.hid (fun h => f17.out (by rwa [hk 17 (by decide)] at h)), Lib.hid (fun h => f18.out (by rwa [hk 18 (by decide)] at h))⟩
    · skip
      have d0 : lq.getD 0 false = true := hd 0 (by decide)
      obtain rfl := f0.out d0
      refine wpOp_of_list (by rfl) ?_
      go_wp2_with fail
      show I _ _ _
      rw [HI.out]
      exact ⟨_, _, _, _, _, _, _, _, _, _, _, _, _, _, _, _, _, _, rfl, Lib.hid (fun h' => hW0.out (by rwa [hk 16 (by decide)] at h')), Lib.hid (fun h h' => hW1.out (by rwa [hk 16 (by decide)] at h) (by rwa [hk 19 (by decide)] at h')), Lib.hid (fun h => hW2.out (by rwa [hk 19 (by decide)] at h)), Lib.hid (fun _ => rfl), Lib.hid (fun h => f1.out (by rwa [hk 1 (by decide)] at h)), Lib.hid (fun h => f2.out (by rwa [hk 2 (by decide)] at h)), Lib.hid (fun h => f3.out (by rwa [hk 3 (by decide)] at h)), Lib.hid (fun h => f4.out (by rwa [hk 4 (by decide)] at h)), Lib.hid (fun h => f5.out (by rwa [hk 5 (by decide)] at h)), Lib.hid (fun h => f6.out (by rwa [hk 6 (by decide)] at h)), Lib.hid (fun h => f7.out (by rwa [hk 7 (by decide)] at h)), Lib.hid (fun h => f8.out (by rwa [hk 8 (by decide)] at h)), Lib.hid (fun h => f9.out (by rwa [hk 9 (by decide)] at h)), Lib.hid (fun h => f10.out (by rwa [hk 10 (by decide)] at h)), Lib.hid (fun h => f11.out (by rwa [hk 11 (by decide)] at h)), Lib.hid (fun h => f12.out (by rwa [hk 12 (by decide)] at h)), Lib.hid (fun h => f13.out (by rwa [hk 13 (by decide)] at h)), Lib.hid (fun _ => rfl), Lib.hid (fun h => f15.out (by rwa [hk 15 (by decide)] at h)), Lib.hid (fun h => f17.out (by rwa [hk 17 (by decide)] at h)), Lib.hid (fun h => f18.out (by rwa [hk 18 (by decide)] at h))⟩
    · skip
      have d14 : lq.getD 14 false = true := hd 14 (by decide)
      obtain rfl := f14.out d14
      refine wpOp_of_list (by rfl) ?_
      go_wp2_with fail
      show I _ _ _
      rw [HI.out]
      exact ⟨_, _, _, _, _, _, _, _, _, _, _, _, _, _, _, _, _, _, rfl, Lib.hid (fun h' => hW0.out (by rwa [hk 16 (by decide)] at h')), Lib.hid (fun h h' => hW1.out (by rwa [hk 16 (by decide)] at h) (by rwa [hk 19 (by decide)] at h')), Lib.hid (fun h => hW2.out (by rwa [hk 19 (by decide)] at h)), Lib.hid (fun h => f0.out (by rwa [hk 0 (by decide)] at h)), Lib.hid (fun h => f1.out (by rwa [hk 1 (by decide)] at h)), Lib.hid (fun h => f2.out (by rwa [hk 2 (by decide)] at h)), Lib.hid (fun h => f3.out (by rwa [hk 3 (by decide)] at h)), Lib.hid (fun h => f4.out (by rwa [hk 4 (by decide)] at h)), Lib.hid (fun h => f5.out (by rwa [hk 5 (by decide)] at h)), Lib.hid (fun h => f6.out (by rwa [hk 6 (by decide)] at h)), Lib.hid (fun h => f7.out (by rwa [hk 7 (by decide)] at h)), Lib.hid (fun h => f8.out (by rwa [hk 8 (by decide)] at h)), Lib.hid (fun h => f9.out (by rwa [hk 9 (by decide)] at h)), Lib.hid (fun h => f10.out (by rwa [hk 10 (by decide)] at h)), Lib.hid (fun h => f11.out (by rwa [hk 11 (by decide)] at h)), Lib.hid (fun h => f12.out (by rwa [hk 12 (by decide)] at h)), Lib.hid (fun h => f13.out (by rwa [hk 13 (by decide)] at h)), Lib.hid (fun _ => rfl), Lib.hid (fun _ => rfl), Lib.hid (fun h => f17.out (by rwa [hk 17 (by decide)] at h)), Lib.hid (fun h => f18.out (by rwa [hk 18 (by decide)] at h))⟩
    · skip
      have d7 : lq.getD 7 false = true := hd 7 (by decide)
      have d15 : lq.getD 15 false = true := hd 15 (by decide)
      obtain rfl := f15.out d15
      obtain rfl := f7.out d7
      obtain rfl := hW0.out hn
      refine wpOp_of_list (by rfl) ?_
      go_wp2_with fail
      show I _ _ _
      rw [HI.out]
      exact ⟨_, _, _, _, _, _, _, _, _, _, _, _, _, _, _, _, _, _, rfl, Lib.hid (fun h' => by rw [hs, if_pos rfl] at h'; cases h'), Lib.hid (fun _ _ => rfl), Lib.hid (fun h => by rw [hk 19 (by decide)] at h; have h9 := hc 19 h 16 (by decide); rw [hn] at h9; cases h9), Lib.hid (fun h => f0.out (by rwa [hk 0 (by decide)] at h)), Lib.hid (fun h => f1.out (by rwa [hk 1 (by decide)] at h)), Lib.hid (fun h => f2.out (by rwa [hk 2 (by decide)] at h)), Lib.hid (fun h => f3.out (by rwa [hk 3 (by decide)] at h)), Lib.hid (fun h => f4.out (by rwa [hk 4 (by decide)] at h)), Lib.hid (fun h => f5.out (by rwa [hk 5 (by decide)] at h)), Lib.hid (fun h => f6.out (by rwa [hk 6 (by decide)] at h)), Lib.hid (fun _ => rfl), Lib.hid (fun h => f8.out (by rwa [hk 8 (by decide)] at h)), Lib.hid (fun h => f9.out (by rwa [hk 9 (by decide)] at h)), Lib.hid (fun h => f10.out (by rwa [hk 10 (by decide)] at h)), Lib.hid (fun h => f11.out (by rwa [hk 11 (by decide)] at h)), Lib.hid (fun h => f12.out (by rwa [hk 12 (by decide)] at h)), Lib.hid (fun h => f13.out (by rwa [hk 13 (by decide)] at h)), Lib.hid (fun h => f14.out (by rwa [hk 14 (by decide)] at h)), Lib.hid (fun _ => rfl), Lib.hid (fun h => f17.out (by rwa [hk 17 (by decide)] at h)), Lib.hid (fun h => f18.out (by rwa [hk 18 (by decide)] at h))⟩
    · skip
      have d1 : lq.getD 1 false = true := hd 1 (by decide)
      obtain rfl := f1.out d1
      refine wpOp_of_list (by rfl) ?_
      go_wp2_with fail
      show I _ _ _
      rw [HI.out]
      exact ⟨_, _, _, _, _, _, _, _, _, _, _, _, _, _, _, _, _, _, rfl, Lib.hid (fun h' => hW0.out (by rwa [hk 16 (by decide)] at h')), Lib.hid (fun h h' => hW1.out (by rwa [hk 16 (by decide)] at h) (by rwa [hk 19 (by decide)] at h')), Lib.hid (fun h => hW2.out (by rwa [hk 19 (by decide)] at h)), Lib.hid (fun h => f0.out (by rwa [hk 0 (by decide)] at h)), Lib.hid (fun _ => rfl), Lib.hid (fun h => f2.out (by rwa [hk 2 (by decide)] at h)), Lib.hid (fun h => f3.out (by rwa [hk 3 (by decide)] at h)), Lib.hid (fun h => f4.out (by rwa [hk 4 (by decide)] at h)), Lib.hid (fun h => f5.out (by rwa [hk 5 (by decide)] at h)), Lib.hid (fun h => f6.out (by rwa [hk 6 (by decide)] at h)), Lib.hid (fun h => f7.out (by rwa [hk 7 (by decide)] at h)), Lib.hid (fun h => f8.out (by rwa [hk 8 (by decide)] at h)), Lib.hid (fun h => f9.out (by rwa [hk 9 (by decide)] at h)), Lib.hid (fun h => f10.out (by rwa [hk 10 (by decide)] at h)), Lib.hid (fun h => f11.out (by rwa [hk 11 (by decide)] at h)), Lib.hid (fun h => f12.out (by rwa [hk 12 (by decide)] at h)), Lib.hid (fun h => f13.out (by rwa [hk 13 (by decide)] at h)), Lib.hid (fun h => f14.out (by rwa [hk 14 (by decide)] at h)), Lib.hid (fun h => f15.out (by rwa [hk 15 (by decide)] at h)), Lib.hid (fun _ => rfl), Lib.hid (fun h => f18.out (by rwa [hk 18 (by decide)] at h))⟩
    · skip
      have d17 : lq.getD 17 false = true := hd 17 (by decide)
      obtain rfl := f17.out d17
      refine wpOp_of_list (by rfl) ?_
      go_wp2_with fail
      show I _ _ _
      rw [HI.out]
      exact ⟨_, _, _, _, _, _, _, _, _, _, _, _, _, _, _, _, _, _, rfl, Lib.hid (fun h' => hW0.out (by rwa [hk 16 (by decide)] at h')), Lib.hid (fun h h' => hW1.out (by rwa [hk 16 (by decide)] at h) (by rwa [hk 19 (by decide)] at h')), Lib.hid (fun h => hW2.out (by rwa [hk 19 (by decide)] at h)), Lib.hid (fun h => f0.out (by rwa [hk 0 (by decide)] at h)), Lib.hid (fun h => f1.out (by rwa [hk 1 (by decide)] at h)), Lib.hid (fun h => f2.out (by rwa [hk 2 (by decide)] at h)), Lib.hid (fun h => f3.out (by rwa [hk 3 (by decide)] at h)), Lib.hid (fun h => f4.out (by rwa [hk 4 (by decide)] at h)), Lib.hid (fun h => f5.out (by rwa [hk 5 (by decide)] at h)), Lib.hid (fun h => f6.out (by rwa [hk 6 (by decide)] at h)), Lib.hid (fun h => f7.out (by rwa [hk 7 (by decide)] at h)), Lib.hid (fun h => f8.out (by rwa [hk 8 (by decide)] at h)), Lib.hid (fun h => f9.out (by rwa [hk 9 (by decide)] at h)), Lib.hid (fun h => f10.out (by rwa [hk 10 (by decide)] at h)), Lib.hid (fun h => f11.out (by rwa [hk 11 (by decide)] at h)), Lib.hid (fun h => f12.out (by rwa [hk 12 (by decide)] at h)), Lib.hid (fun h => f13.out (by rwa [hk 13 (by decide)] at h)), Lib.hid (fun h => f14.out (by rwa [hk 14 (by decide)] at h)), Lib.hid (fun h => f15.out (by rwa [hk 15 (by decide)] at h)), Lib.hid (fun _ => rfl), Lib.hid (fun _ => rfl)⟩
    · skip
      have d13 : lq.getD 13 false = true := hd 13 (by decide)
      have d16 : lq.getD 16 false = true := hd 16 (by decide)
      have d18 : lq.getD 18 false = true := hd 18 (by decide)
      obtain rfl := f18.out d18
      obtain rfl := f13.out d13
      obtain rfl := hW1.out d16 hn
      refine wpOp_of_list (by rfl) ?_
      go_wp2_with fail
      show I _ _ _
      rw [HI.out]
      exact ⟨_, _, _, _, _, _, _, _, _, _, _, _, _, _, _, _, _, _, rfl, Lib.hid (fun h' => by rw [hk 16 (by decide), d16] at h'; cases h'), Lib.hid (fun _ h' => by rw [hs, if_pos rfl] at h'; cases h'), Lib.hid (fun _ => rfl), Lib.hid (fun h => f0.out (by rwa [hk 0 (by decide)] at h)), Lib.hid (fun h => f1.out (by rwa [hk 1 (by decide)] at h)), Lib.hid (fun h => f2.out (by rwa [hk 2 (by decide)] at h)), Lib.hid (fun h => f3.out (by rwa [hk 3 (by decide)] at h)), Lib.hid (fun h => f4.out (by rwa [hk 4 (by decide)] at h)), Lib.hid (fun h => f5.out (by rwa [hk 5 (by decide)] at h)), Lib.hid (fun h => f6.out (by rwa [hk 6 (by decide)] at h)), Lib.hid (fun h => f7.out (by rwa [hk 7 (by decide)] at h)), Lib.hid (fun h => f8.out (by rwa [hk 8 (by decide)] at h)), Lib.hid (fun h => f9.out (by rwa [hk 9 (by decide)] at h)), Lib.hid (fun h => f10.out (by rwa [hk 10 (by decide)] at h)), Lib.hid (fun h => f11.out (by rwa [hk 11 (by decide)] at h)), Lib.hid (fun h => f12.out (by rwa [hk 12 (by decide)] at h)), Lib.hid (fun _ => rfl), Lib.hid (fun h => f14.out (by rwa [hk 14 (by decide)] at h)), Lib.hid (fun h => f15.out (by rwa [hk 15 (by decide)] at h)), Lib.hid (fun h => f17.out (by rwa [hk 17 (by decide)] at h)), Lib.hid (fun _ => rfl)⟩
  · intro lq a wx hl hall hI0
    rw [HI.out] at hI0
    obtain ⟨u15, u16, u17, u18, u19, u20, u21, u22, u23, u24, u25, u26, u27, u28, u29, u30, u31, u32, rfl, hW0, hW1, hW2, f0, f1, f2, f3, f4, f5, f6, f7, f8, f9, f10, f11, f12, f13, f14, f15, f17, f18⟩ := hI0
    obtain rfl := hW2.out (hall 19 (by decide))
    obtain rfl := f0.out (hall 0 (by decide))
    obtain rfl := f1.out (hall 1 (by decide))
    obtain rfl := f2.out (hall 2 (by decide))
    obtain rfl := f3.out (hall 3 (by decide))
    obtain rfl := f4.out (hall 4 (by decide))
    obtain rfl := f5.out (hall 5 (by decide))
    obtain rfl := f6.out (hall 6 (by decide))
    obtain rfl := f7.out (hall 7 (by decide))
    obtain rfl := f8.out (hall 8 (by decide))
    obtain rfl := f9.out (hall 9 (by decide))
    obtain rfl := f10.out (hall 10 (by decide))
    obtain rfl := f11.out (hall 11 (by decide))
    obtain rfl := f12.out (hall 12 (by decide))
    obtain rfl := f13.out (hall 13 (by decide))
    obtain rfl := f14.out (hall 14 (by decide))
    obtain rfl := f15.out (hall 15 (by decide))
    obtain rfl := f17.out (hall 17 (by decide))
    obtain rfl := f18.out (hall 18 (by decide))
    clear hW0 hW1 hW2 f0 f1 f2 f3 f4 f5 f6 f7 f8 f9 f10 f11 f12 f13 f14 f15 f17 f18 hall HI
    have T4 := (HT3.out.drew.set (i := 0) (by decide) (.slice A3 n c3) _ _ _ rfl).set (i := 1) (by decide) (.slice A4 n c4) _ _ _ rfl
    have X4 := (((HX3.out.below (Below.refl _ _).drew).set (y := z) (o := 0) hzl (.slice A3 n c3))).set (y := z) (o := 1) hzl (.slice A4 n c4)
    have T5 := Two.cut T4
    have e1 : (V.map (·.1)).reverse.length = n := by rw [HN.out]; simp
    have e2 : (V.map (·.2)).reverse.length = n := by rw [HN.out]; simp
    rw [e1, e2] at T5
    go_wp2
    go_ret
    obtain ⟨T6, hT6, r6⟩ := X4
    have eo : (Value.slice A3 n c3).ownBlock = (Value.slice A3 n3 c3).ownBlock := by cases A3 <;> rfl
    have en : (Value.slice A4 n c4).ownBlock = (Value.slice A4 n3 c4).ownBlock := by cases A4 <;> rfl
    exact ⟨_, _, _, rfl, T5, T6, fun k hk => by rw [eo, en]; exact hT6 k hk, r6⟩
  · decide
end Go.Proofs.YtoijobnpfibboaaDoor
