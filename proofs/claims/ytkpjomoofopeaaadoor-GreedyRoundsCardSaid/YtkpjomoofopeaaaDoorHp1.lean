/- The walk of a heap's push. -/
import Derived.Test.YtkpjomoofopeaaaDoorHpSpec
import Derived.Test.YtkpjomoofopeaaaDoorFlat
import Derived.Test.YtkpjomoofopeaaaDoorBlk
import Derived.Test.YtkpjomoofopeaaaDoorAppStep
import Derived.BigRegion
import Derived.BigQuiet
namespace Go.Proofs.YtkpjomoofopeaaaDoor
open Go.RowKit
set_option linter.unusedVariables false
theorem infoHp : (Tryd.prog.info? 3).map (fun i => (i.zero, i.size, i.bytes)) = some (some (.int .i64 0), 1, 8) := by kernel_rfl
/-- block p holds a row of the call's own that reads as l; the blocks of X are others -/
structure HeapAt (X : Blocks) (W : World) (p : Nat) (l : List Int) : Prop where
  sub : Sub X (Upto W.heap.size)
  np : ¬ X p
  ex : ∃ v, Blk 0 W p [v] ∧ OwnI 3 W 0 Nowhere l v ∧ ∀ k, v.ownBlock = some k → ¬ X k ∧ k ≠ p
section
variable {X X' : Blocks} {W W' : World} {p : Nat} {l : List Int}
theorem HeapAt.but {T : Blocks} (h : HeapAt X W p l) (hb : But T W W') (hp : ¬ T p) (hT : ∀ k, T k → X k) : HeapAt X W' p l := by
  obtain ⟨v, B, O, D⟩ := h.ex
  exact ⟨h.sub.lift hb.size, h.np, v, B.but hb hp, O.but hb (fun k e hk => (D k e).1 (hT k hk)), D⟩
/-- others' blocks turn, and new ones are guarded -/
theorem HeapAt.more {T : Blocks} (h : HeapAt X W p l) (hb : But T W W') (hT : ∀ k, T k → X k) (hX : ∀ k, X' k → X k ∨ W.heap.size ≤ k) (hs : Sub X' (Upto W'.heap.size)) : HeapAt X' W' p l := by
  obtain ⟨v, B, O, D⟩ := h.ex
  refine ⟨hs, fun hp => (hX p hp).elim h.np (fun e => by have := B.lt; omega), v, B.but hb (fun e => h.np (hT p e)), O.but hb (fun k e hk => (D k e).1 (hT k hk)), fun k e => ⟨fun hk => (hX k hk).elim (D k e).1 (fun e2 => by have := (O.lt k e).2; omega), (D k e).2⟩⟩
end
theorem half_up {i : Nat} (h : 0 < i) : ((i : Int) - 1).tdiv 2 = (((i - 1) / 2 : Nat) : Int) := by
  have e : (i : Int) - 1 = ((i - 1 : Nat) : Int) := by omega
  rw [e]; rfl
set_option maxHeartbeats 1600000 in
set_option maxRecDepth 100000 in
theorem push_any (X : Blocks) (l : List Int) (hl : l.length ≤ 1000000) (x : Int) (hx : inI x) (W : World) (p : Nat) (H : HeapAt X W p l) (hh : isHp l) :
    Calls Tryd.prog 24 #[.pointer (some ⟨p, 0, none⟩), .int .i64 x] W fun e w' => (∃ v, e = .returned v) ∧ ∃ l', HeapAt X w' p l' ∧ isHp l' ∧ l'.Perm (l ++ [x]) ∧ But (fun k => ¬ X k) W w' := by
  obtain ⟨v, B, O, D⟩ := H.ex
  obtain ⟨A, cap, rfl⟩ := O.form
  obtain ⟨i0, hi, hz0, hz1, hz2⟩ := info_parts infoHp
  have HX := Lib.hid (And.intro H.sub H.np)
  have HD := Lib.hid D
  have HH := Lib.hid hh
  have k0 := B.cell 0 _ rfl
  have hpl := B.lt
  have HB := Lib.hid B
  have HO := Lib.hid O
  clear H D hh B O
  go_enter Tryd.func24, Tryd.ntmps24
  go_wp2_with (at_builtin; refine wpList_append_one rfl _ _ 54 rfl i0 _ Tryd.underlying54 hi hz0 hz1 hz2 rfl (by decide) Flat.keeps HO.out (x := x) (cs := [Value.int .i64 x]) (Tx := Nowhere) ?d0 rfl rfl rfl (Sub.nowhere _) (Sub.nowhere _) not_nowhere ?d1 ?d2 ?d3 ?d4 ?_)
  case d0 => exact ⟨rfl, hx⟩
  case d1 => simp [Value.oneCell']
  case d2 => unfold maxLen; omega
  case d3 => omega
  try (case d4 => omega)
  intro v2 w2 ho2 hg2 hk2
  obtain ⟨A2, c2, rfl⟩ := ho2.form
  have hl2 : (l ++ [x]).length = l.length + 1 := by simp
  rw [hl2] at ho2 hk2 ⊢
  have hnp := fun e => (HD.out p e).2 rfl
  have kp := grown_cell hg2 k0 hnp
  have fp : w2.frozen? ⟨p, 0, none⟩ = false := grown_frozen hg2 (HB.out.fr 0) hpl hnp
  have D2 : ∀ k, (Value.slice A2 (l.length + 1) c2).ownBlock = some k → ¬ X k ∧ k ≠ p := fun k e => by
    rcases hk2 with h | h
    · exact HD.out k (by rw [← h]; exact e)
    · rw [h] at e
      injection e with e
      subst e
      exact ⟨fun hk => by have : W.heap.size + 1 < W.heap.size := HX.out.1 _ hk; omega, by omega⟩
  have b2 : But (fun k => ¬ X k) W w2 := (But.of_grown hg2).sub fun k e => (HD.out k e).1
  have B2 := (HB.out.but (But.of_grown hg2) hnp).set (i := 0) (by simp) (.slice A2 (l.length + 1) c2)
  have b3 : But (Is p) w2 (w2.setCell ⟨p, 0, none⟩ (.slice A2 (l.length + 1) c2)) := (But.refl _ _).setCell (p := ⟨p, 0, none⟩) (show Is p p from rfl) _
  have O3 := Lib.hid (ho2.but b3 (fun k e hk => (D2 k e).2 hk))
  have B3 := Lib.hid B2
  have HB3 := Lib.hid (b2.setCell (p := ⟨p, 0, none⟩) HX.out.2 (.slice A2 (l.length + 1) c2))
  have HD2 := Lib.hid D2
  clear b2 B2 b3 D2 hk2 hg2 ho2 hnp k0 hl2 HD HO HB
  go_upto_region 1 with (fail)
  have k3 : (w2.setCell ⟨p, 0, none⟩ (.slice A2 (l.length + 1) c2)).cell? ⟨p, 0, none⟩ = some (.slice A2 (l.length + 1) c2) := B3.out.cell 0 _ rfl
  generalize w2.setCell ⟨p, 0, none⟩ (.slice A2 (l.length + 1) c2) = W3 at *
  clear kp fp
  go_wp2_with fail
  go_loopw [4] (fun t wr => ∃ (i : Nat) (h : List Int), i ≤ l.length ∧ t = .int .i64 i ∧ h.length = l.length + 1 ∧ Hid (upOK h i) ∧ Hid (h.Perm (l ++ [x])) ∧ Hid (Blk 0 wr p [.slice A2 (l.length + 1) c2]) ∧ Hid (OwnI 3 wr 0 Nowhere h (.slice A2 (l.length + 1) c2)) ∧ Hid (But (fun k => ¬ X k) W wr)) (fun t _ => (intOf t).toNat)
  case atStart => exact ⟨l.length, _, Nat.le_refl _, by congr 1, by simp, Lib.hid (up_start HH.out x), Lib.hid (List.Perm.refl _), B3, O3, HB3⟩
  case round =>
    clear B3 O3 HB3 k3
    obtain ⟨i, h, hil, rfl, hlen, U, P, B, O, HB⟩ := hrel
    by_cases h0 : 0 < i
    · skip
      have k0 := B.out.cell 0 _ rfl
      obtain ⟨g, cap', hv, _, hgl, _, _, hfr, hce⟩ := OwnI.open_ O.out (by omega)
      rw [hlen] at hv
      injection hv with hA hn9 hcc
      clear hn9
      subst hA hcc
      obtain ⟨j, hj⟩ : ∃ j, j = (i - 1) / 2 := ⟨_, rfl⟩
      have hup := half_up h0
      rw [← hj] at hup
      have c0 := (hce j (by omega)).2
      have c1 := (hce i (by omega)).2
      have ok0 := (hce j (by omega)).1
      have ok1 := (hce i (by omega)).1
      have f0 := hfr j
      have f1 := hfr i
      obtain ⟨y, hy⟩ : ∃ y, y = atZ h j := ⟨_, rfl⟩
      obtain ⟨z, hz⟩ : ∃ z, z = atZ h i := ⟨_, rfl⟩
      rw [← atZ_lt, ← hy] at c0 ok0
      rw [← atZ_lt, ← hz] at c1 ok1
      have HJ := Lib.hid hj
      have HYZ := Lib.hid (And.intro hy hz)
      have hji : j < i := by omega
      have hjl : j < l.length := by omega
      clear hj hy hz hfr hce
      by_cases hle : y ≤ z
      · have HR := Lib.hid (show isHp h from up_done U.out (.inr (by rw [← HJ.out, ← HYZ.out.1, ← HYZ.out.2]; exact hle)))
        go_upto_region 4 with (fail)
        go_quiet (fail)
        all_goals
          go_wp2_with fail
          refine bodyPost_ret (results_none rfl _ _ _) rfl ?_
          exact ⟨⟨_, rfl⟩, h, ⟨HX.out.1.lift HB.out.size, HX.out.2, _, B.out.drewN _, O.out.keep Flat.keeps (below_drewN (Below.refl _ _) _), HD2.out⟩, HR.out, P.out, HB.out.drewN _⟩
      · have hlt : z < y := by omega
        go_upto_region 4 with (fail)
        have U2 := Lib.hid (show upOK (swZ h j i) j by have := up_step U.out h0 (show i < h.length by omega) (by rw [← HJ.out, ← HYZ.out.1, ← HYZ.out.2]; exact hlt); rw [← HJ.out] at this; exact this)
        have P2 := Lib.hid ((swZ_perm (l := h) (i := j) (j := i) (by omega) (by omega)).trans P.out)
        have O2 := Lib.hid (show OwnI 3 ((wr.setCell ⟨g, j, none⟩ (.int .i64 z)).setCell ⟨g, i, none⟩ (.int .i64 y)) 0 Nowhere (swZ h j i) (.slice (some ⟨g, 0, none⟩) (l.length + 1) c2) by
          have := OwnI.set_ (OwnI.set_ O.out (q := j) (by omega) z ok1) (q := i) (by rw [List.length_set]; omega) y ok0
          unfold swZ
          rw [← HYZ.out.1, ← HYZ.out.2]
          exact this)
        have hgp := (HD2.out g rfl).2
        have hgx := (HD2.out g rfl).1
        have B2 := Lib.hid ((B.out.other (p := ⟨g, j, none⟩) hgp (.int .i64 z)).other (p := ⟨g, i, none⟩) hgp (.int .i64 y))
        have HB2 := Lib.hid ((HB.out.setCell (p := ⟨g, j, none⟩) hgx (.int .i64 z)).setCell (p := ⟨g, i, none⟩) hgx (.int .i64 y))
        have hlen2 := swZ_len h j i
        rw [hlen] at hlen2
        have HL2 := Lib.hid hlen2
        clear hlen2 ok0 ok1 U P O B HB hgx
        go_quiet (fail)
        go_wp2_with fail
        have k0' : (wr.drewN nq).cell? ⟨p, 0, none⟩ = some (.slice (some ⟨g, 0, none⟩) (l.length + 1) c2) := k0
        have c0' : (wr.drewN nq).cell? ⟨g, j, none⟩ = some (.int .i64 y) := c0
        have c1' : (wr.drewN nq).cell? ⟨g, i, none⟩ = some (.int .i64 z) := c1
        have f0' : (wr.drewN nq).frozen? ⟨g, j, none⟩ = false := f0
        have f1' : (wr.drewN nq).frozen? ⟨g, i, none⟩ = false := f1
        have B3 : Hid (Blk 0 (((wr.drewN nq).setCell ⟨g, j, none⟩ (.int .i64 z)).setCell ⟨g, i, none⟩ (.int .i64 y)) p [.slice (some ⟨g, 0, none⟩) (l.length + 1) c2]) := Lib.hid (B2.out.drewN nq)
        have O3 : Hid (OwnI 3 (((wr.drewN nq).setCell ⟨g, j, none⟩ (.int .i64 z)).setCell ⟨g, i, none⟩ (.int .i64 y)) 0 Nowhere (swZ h j i) (.slice (some ⟨g, 0, none⟩) (l.length + 1) c2)) := Lib.hid (O2.out.keep Flat.keeps (below_drewN (Below.refl _ _) nq))
        have HB3 : Hid (But (fun k => ¬ X k) W (((wr.drewN nq).setCell ⟨g, j, none⟩ (.int .i64 z)).setCell ⟨g, i, none⟩ (.int .i64 y))) := Lib.hid (HB2.out.drewN nq)
        clear k0 c0 c1 f0 f1 B2 O2 HB2
        generalize wr.drewN nq = W5 at *
        have hne : j ≠ i := by omega
        go_region
        all_goals
          go_wp2_with fail
          go_roundw
          case rel => exact ⟨j, swZ h j i, by omega, by go_num, HL2.out, U2, P2, Lib.hid B3.out.drew, Lib.hid (O3.out.keep Flat.keeps (Below.refl _ _).drew), Lib.hid HB3.out.drew⟩
          case measure => simp [intOf]; omega
    · skip
      have hi0 : i = 0 := by omega
      have HR := Lib.hid (show isHp h from up_done U.out (.inl hi0))
      go_wp2_with fail
      go_end0
      exact ⟨⟨_, rfl⟩, h, ⟨HX.out.1.lift HB.out.size, HX.out.2, _, B.out, O.out, HD2.out⟩, HR.out, P.out, HB.out⟩
end Go.Proofs.YtkpjomoofopeaaaDoor
