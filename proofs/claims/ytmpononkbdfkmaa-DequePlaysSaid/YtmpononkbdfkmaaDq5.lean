/- The walk of the reference's UPlay. -/
import Derived.Test.YtmpononkbdfkmaaDq4
import Derived.Test.YtmpononkbdfkmaaAppStep
import Derived.Deep.CutBlock
namespace Go.Proofs.Ytmpononkbdfkmaa
open Go.RowKit
set_option linter.unusedVariables false
set_option maxHeartbeats 1000000 in
set_option maxRecDepth 100000 in
theorem uplay2_any (ops : List DOp) (w : World) (S : Blocks) (hS : Sub S (Upto w.heap.size)) (v : Value) (r : RdD w S ops v) :
    Calls Try.prog 34 #[v] w fun e w' => ∃ x y, e = .returned (.tuple #[x, y]) ∧ RdP w' (Plus Nowhere w.heap.size w'.heap.size) (dRun ops).2 x ∧ RdI w' (Plus Nowhere w.heap.size w'.heap.size) (dRun ops).1 y ∧ Below w.heap.size w w' := by
  obtain ⟨i0, hi, hz0, hz1, hz2⟩ := info_parts infoA
  obtain ⟨i1, hj, hy0, hy1, hy2⟩ := info_parts infoI
  obtain ⟨A, cap, rfl, hl, hcm, hby⟩ := r.form
  unfold maxLen at hcm
  have hall := r.oks
  have R := Lib.hid r
  have HAll := Lib.hid hall
  clear r hall
  go_enter Try.func34, Try.ntmps34
  go_wp2_with fail
  have hb0 : Below w.heap.size w (w.alloc (.cells #[] 3)) := (Below.refl _ _).alloc (Nat.le_refl _) _
  generalize w.alloc (.cells #[] 3) = W0 at *
  obtain ⟨d, hd⟩ : ∃ d, d = w.heap.size := ⟨_, rfl⟩
  rw [← hd]
  clear hd
  go_loopw [4, 5, 13] (fun lv o t wr => ∃ (q : Nat) (X : Blocks), q ≤ ops.length ∧ t = .int .i64 (q : Int) ∧ OwnP 43 wr w.heap.size Nowhere (dRun (ops.take q)).2 o ∧ Hid (RdI wr X (dRun (ops.take q)).1 lv) ∧ Hid (Sub X (Plus Nowhere w.heap.size wr.heap.size)) ∧ Hid (∀ k, o.ownBlock = some k → ¬ X k) ∧ Below w.heap.size w wr) (fun _ _ t _ => ops.length - (intOf t).toNat)
  case atStart => exact ⟨0, Nowhere, by omega, rfl, OwnL.nil _ _ _, Lib.hid (RdL.nil (by simp [maxLen])), Lib.hid (Sub.nowhere _), Lib.hid (fun k hk => by cases hk), hb0⟩
  case round =>
    clear hb0
    obtain ⟨q, X, hq, rfl, ho, hD, hXs, hX, hb⟩ := hrel
    have HO := Lib.hid ho
    clear ho
    have HL := Lib.hid (show (dRun (ops.take q)).2.length = q by rw [dRun_len]; simp; omega)
    obtain ⟨A4, c4, hv4⟩ := hD.out.form
    obtain ⟨rfl, hl4, hcm4, hby4⟩ := hv4
    by_cases hlt : q < ops.length
    · have HT := Lib.hid (show ops.take (q + 1) = ops.take q ++ [ops[q]] by rw [List.take_succ_eq_append_getElem hlt])
      have HOK := Lib.hid (show okDq (dRun (ops.take q)).1 from (dRun_ok _ (fun o h => HAll.out o (List.mem_of_mem_take h))).1)
      have hlN : (dRun (ops.take q)).1.length ≤ q := by have := dRun_le (ops.take q); simp at this; omega
      obtain ⟨b0, off, rfl, hsb, hok, c0, c1⟩ := RdD.at1 (R.out.go Flat.keeps hb hS (Sub.refl _)) hlt
      generalize hoq : ops[q] = o at *
      have HT' := HT
      clear hoq HT
      obtain ⟨k, n⟩ := o
      dsimp only at c0 c1
      go_upto_block 2 with (fail)
      have hbe : Below wr.heap.size wr ((wr.alloc (.cells #[.int .i64 k, .int .i64 n] 99)).alloc (.cells #[.int .i64 0, .int .i64 0] 43)) := ((Below.refl _ _).alloc (Nat.le_refl _) _).alloc (by simp) _
      have hb2 := Lib.hid (hb.trans (hbe.mono hb.size))
      have hD2 := Lib.hid (hD.out.keep Flat.keeps (Sub.refl _) (same_of_below hbe (hXs.out.trans (Sub.plus_upto (Sub.nowhere _)))))
      have HO2 := Lib.hid (HO.out.keep Flat.keeps hbe)
      have BA := Lib.hid (Blk.made (wr.alloc (.cells #[.int .i64 k, .int .i64 n] 99)) [.int .i64 0, .int .i64 0] 43 (base := 0) (Nat.zero_le _))
      have BO := Lib.hid ((Blk.made wr [.int .i64 k, .int .i64 n] 99 (base := 0) (Nat.zero_le _)).below ((Below.refl _ _).alloc (Nat.le_refl _) (.cells #[.int .i64 0, .int .i64 0] 43)))
      have hzz : ((wr.alloc (.cells #[.int .i64 k, .int .i64 n] 99)).alloc (.cells #[.int .i64 0, .int .i64 0] 43)).heap.size = wr.heap.size + 2 := by simp
      obtain ⟨z, hz⟩ : ∃ z, z = wr.heap.size := ⟨_, rfl⟩
      rw [World.size_alloc, ← hz] at BA
      have HOz := Lib.hid (show ∀ k, u5.ownBlock = some k → k < z from fun k hk => by rw [hz]; exact (HO.out.lt k hk).2)
      have hXz := Lib.hid (show Sub X (Upto z) by rw [hz]; exact hXs.out.trans (Sub.plus_upto (Sub.nowhere _)))
      have hbz : w.heap.size ≤ z := by rw [hz]; exact hb.size
      rw [← hz] at BO hzz ⊢
      clear hz hbe hb hD HO c0 c1
      generalize (wr.alloc (.cells #[.int .i64 k, .int .i64 n] 99)).alloc (.cells #[.int .i64 0, .int .i64 0] 43) = W at *
      have HW1 := Nat.le_of_eq hzz
      have HW2 := Nat.le_of_eq hzz.symm
      clear hzz
      have o0 := BO.out.cell 0 _ rfl
      have o1 := BO.out.cell 1 _ rfl
      go_cut [4] (fun x wx => ∃ X', Hid (RdI wx X' (dAns (dRun (ops.take q)).1 ⟨k, n⟩).1 x) ∧ Hid (Sub X' (Plus X W.heap.size wx.heap.size)) ∧ Hid (Blk 0 wx (z + 1) [.int .i64 (dAns (dRun (ops.take q)).1 ⟨k, n⟩).2.1, .int .i64 (dAns (dRun (ops.take q)).1 ⟨k, n⟩).2.2]) ∧ But (Is (z + 1)) W wx)
      case first =>
        clear hb2 HO2 HT' HL R HAll hX hXs
        generalize (dRun (ops.take q)).1 = l at *
        have hXa : ∀ b, X b → ¬ Is (z + 1) b := fun b hb e => by have := hXz.out b hb; unfold Is at e; simp only [Upto] at this; omega
        by_cases h1 : k = 1
        · subst h1
          have HA := Lib.hid (show dAns l ⟨1, n⟩ = (l ++ [n], (0, 0)) by simp [dAns])
          have hWz : z + 1 < W.heap.size := by omega
          have hWz0 : z < W.heap.size := by omega
          have hXW : Sub X (Upto W.heap.size) := hXz.out.trans (Sub.upto (by omega))
          have hWp : ∀ w', Stay W w' → W.heap.size ≤ w'.heap.size := fun w' h => h.size
          have HWP := Lib.hid hWp
          clear hWp
          have hno : inI n := hok.2
          have m1 := Lib.hid (show ([] : List Int).length + l.length ≤ maxLen by unfold maxLen; simp; omega)
          have m2 := Lib.hid (show (([] : List Int).length + l.length) * 8 ≤ 140737488355328 by simp; omega)
          have m3 := Lib.hid (show l.length + [n].length ≤ maxLen by unfold maxLen; simp; omega)
          have m4 := Lib.hid (show (l.length + [n].length) * 8 ≤ 140737488355328 by simp; omega)
          go_upto_region 10 with (fail)
          go_region_held3 (fun w' => Stay W w') (first | assumption | exact Stay.mk (Kept.start _) | ((refine Stay.mk ?_; (repeat (with_reducible first | refine Kept.set ?_ (by omega) _ | refine Kept.drew ?_ | refine Kept.alloc ?_ _)); first | exact Kept.refl _ | assumption)))
            (first
              | ((refine step_append_list (by rfl) (.tmp 29) (.tmp 30) 37 (by rfl) (by rfl) (by rfl) i1 _ Try.underlying37 hj hy0 hy1 hy2 rfl (by decide) Flat.keeps (l := []) (m := l) (base := W.heap.size) (S := Nowhere) (Tx := Nowhere) (U := X) (v := .slice (some ⟨W.heap.size, 0, none⟩) 0 0) ((hD2.out.keep Flat.keeps (Sub.refl _) (Same.sub (Stay.same (by assumption)) hXW)).bare _) ?_ (Sub.nowhere _) (Sub.nowhere _) not_nowhere oneI m1.out m2.out (HWP.out _ (by assumption)) ?_; (first | exact (OwnL.empty W (Nat.le_refl _)).keep Flat.keeps (Below.refl _ _).drew | exact (OwnL.empty W (Nat.le_refl _)).keep Flat.keeps ((Below.refl _ _).alloc (Nat.le_refl _) _).drew); intro v1 w1 ho1 hg1 hw1; have hst1 : Stay W w1 := Stay.of ((Stay.below (by assumption)).grown hg1 (HWP.out _ (by assumption)) (fun g hg => by injection hg with hg; rw [← hg]; exact Nat.le_add_right _ 0)); have hk1 : Kept W w1 := Kept.here hst1))
              | ((refine step_append_list (by rfl) (.tmp 29) (.tmp 30) 37 (by rfl) (by rfl) (by rfl) i1 _ Try.underlying37 hj hy0 hy1 hy2 rfl (by decide) Flat.keeps (l := []) (m := l) (base := W.heap.size) (S := Nowhere) (Tx := Nowhere) (U := X) (v := .slice (some ⟨W.heap.size + 1, 0, none⟩) 0 0) ((hD2.out.keep Flat.keeps (Sub.refl _) (Same.sub (Stay.same (by assumption)) hXW)).bare _) ?_ (Sub.nowhere _) (Sub.nowhere _) not_nowhere oneI m1.out m2.out (HWP.out _ (by assumption)) ?_; (refine (OwnL.keep (w := World.alloc (World.alloc W _) _) ?_ Flat.keeps (Below.refl _ _).drew); refine OwnL.emptyAt ?_ ?_; simp; simp); intro v1 w1 ho1 hg1 hw1; have hst1 : Stay W w1 := Stay.of ((Stay.below (by assumption)).grown hg1 (HWP.out _ (by assumption)) (fun g hg => by injection hg with hg; rw [← hg]; exact Nat.le_add_right _ 1)); have hk1 : Kept W w1 := Kept.here hst1))
              | ((refine step_append_list (by rfl) (.tmp 31) (.tmp 34) 37 (by rfl) (by rfl) (by rfl) i1 _ Try.underlying37 hj hy0 hy1 hy2 rfl (by decide) Flat.keeps (l := l) (m := [n]) (base := W.heap.size) (S := Nowhere) (Tx := Nowhere) (U := fun _ => True) (v := v1) (RdL.bare (rdI_one (x := n) ?_ hno trivial) _) ?_ (Sub.nowhere _) (Sub.nowhere _) not_nowhere oneI m3.out m4.out (HWP.out _ (by assumption)) ?_; (first | exact cell_new1 _ _ _ | (refine grown_cell hg1 ?_ ?_; exact cell_newAt _ _ _ (World.size_alloc _ _); exact ownBlock_ne (by omega)) | (refine grown_cell hg1 ?_ ?_; exact cell_oldAt _ _ _ _; exact ownBlock_ne (by omega))); (first | exact ho1 | exact OwnL.keep ho1 Flat.keeps ((Below.refl _ _).alloc (Nat.le_refl _) _) | exact OwnL.keep ho1 Flat.keeps ((Below.refl _ _).alloc (Nat.le_refl _) _).drew); intro v2 w2 ho2 hg2 hw2; have hst2 : Stay W w2 := Stay.of ((Stay.below (by assumption)).grown hg2 (HWP.out _ (by assumption)) (fun g hg => (OwnL.lt ho1 g hg).1)); have hk2 : Kept W w2 := Kept.here hst2)))
          all_goals (try go_wp2_with fail)
          all_goals go_meet
          all_goals
            rw [HA.out]
            refine ⟨Plus Nowhere W.heap.size w2.heap.size, Lib.hid (OwnL.toRd ho2 (bytes := 8) Flat.keeps ?_ (Sub.nowhere _) (fun b h1 h2 => .inr ⟨h1, h2⟩)), Lib.hid (Sub.plus_mono2 _ _), Lib.hid (BA.out.below hst2.below), But.of_below hst2.below⟩
            have := m4.out
            simpa using this
        · by_cases h2 : k = 2 ∨ k = 3
          · rcases List.eq_nil_or_concat l with rfl | ⟨l', x, hlx⟩
            · have HA := Lib.hid (show dAns [] ⟨k, n⟩ = ([], (7, 0)) by rcases h2 with rfl | rfl <;> simp [dAns])
              have hWz : z + 1 < W.heap.size := by omega
              have hWz0 : z < W.heap.size := by omega
              have ba0 := BA.out.cell 0 _ rfl
              have bf0 := BA.out.fr 0
              rcases h2 with rfl | rfl
              all_goals
                clear h1
                go_wp2
                go_meet
                rw [HA.out]
                refine ⟨X, Lib.hid (RdL.nil (hcm4)), Lib.hid (Sub.plus _ _ _), Lib.hid (BA.out.set (i := 0) (by simp) _), (But.refl (Is (z + 1)) W).setCell (p := ⟨z + 1, 0, none⟩) rfl _⟩
            · rw [List.concat_eq_append] at hlx
              have hWz : z + 1 < W.heap.size := by omega
              have hWz0 : z < W.heap.size := by omega
              have ba1 := BA.out.cell 1 _ rfl
              have bf1 := BA.out.fr 1
              have hpos : 0 < l.length := by rw [hlx]; simp
              have HX := Lib.hid hlx
              rcases h2 with rfl | rfl
              · have HA := Lib.hid (show dAns l ⟨2, n⟩ = (l', (0, x)) by rw [hlx]; simp [dAns])
                have HLX := Lib.hid (show l' = l.take (l.length - 1) by rw [hlx]; simp)
                have hxe : l[l.length - 1]? = some x := by rw [hlx]; simp
                obtain ⟨b4, o4, rfl, hx4, hok4, c4e⟩ := RdI.at1 hD2.out (q := l.length - 1) (by omega)
                rw [List.getElem?_eq_getElem (by omega)] at hxe
                injection hxe with hxe
                rw [hxe] at c4e
                clear h1 hlx hxe hok4
                have RT := Lib.hid (hD2.out.take (m := l.length - 1) (by omega))
                generalize l.length = ln at *
                obtain ⟨m, rfl⟩ : ∃ m, ln = m + 1 := ⟨ln - 1, by omega⟩
                rw [Nat.add_sub_cancel] at c4e HLX RT
                have em : (((m + 1 : Nat) : Int) == 0) = false := by simp; omega
                have em2 : ((m + 1 : Nat) : Int) - 1 = (m : Int) := by omega
                have hzb : b4 ≠ z + 1 := by intro e; subst e; exact hXa _ hx4 rfl
                go_upto_region 16 with (fail)
                go_region
                go_wp2_with fail
                go_meet
                rw [HA.out, HLX.out]
                have hk := ((But.refl (Is (z + 1)) W).setCell (p := ⟨z + 1, 1, none⟩) rfl (.int .i64 x)).drew
                refine ⟨X, Lib.hid ?_, Lib.hid (Sub.plus _ _ _), Lib.hid (BA.out.set (i := 1) (by simp) _).drew, hk⟩
                exact RT.out.keep Flat.keeps (Sub.refl _) (hk.same (hXz.out.trans (Sub.upto (by omega))) hXa)
              · obtain ⟨y, r, hlr⟩ : ∃ y r, l = y :: r := by
                  cases l with
                  | nil => simp at hpos
                  | cons y r => exact ⟨y, r, rfl⟩
                have HA := Lib.hid (show dAns l ⟨3, n⟩ = (r, (0, y)) by rw [hlr]; simp [dAns])
                have HLX := Lib.hid (show r = l.drop 1 by rw [hlr]; simp)
                have hxe : l[0]? = some y := by rw [hlr]; simp
                obtain ⟨b4, o4, rfl, hx4, hok4, c4e⟩ := RdI.at1 hD2.out (q := 0) hpos
                rw [List.getElem?_eq_getElem (by omega)] at hxe
                injection hxe with hxe
                rw [hxe] at c4e
                clear h1 hlx hxe hok4 hlr
                have RT := Lib.hid (RdL.drop hD2.out (k := 1) (by omega))
                generalize l.length = ln at *
                obtain ⟨m, rfl⟩ : ∃ m, ln = m + 1 := ⟨ln - 1, by omega⟩
                have em : (((m + 1 : Nat) : Int) == 0) = false := by simp; omega
                have em2 : ((m + 1 : Nat) : Int) - 1 = (m : Int) := by omega
                have hzb : b4 ≠ z + 1 := by intro e; subst e; exact hXa _ hx4 rfl
                rw [Nat.add_zero] at c4e
                by_cases hc1 : c4 = 1
                · subst hc1
                  go_upto_region 8 with (fail)
                  go_region
                  go_wp2_with fail
                  go_meet
                  rw [HA.out, HLX.out]
                  have hk := ((But.refl (Is (z + 1)) W).setCell (p := ⟨z + 1, 1, none⟩) rfl (.int .i64 y)).drew
                  refine ⟨X, Lib.hid ?_, Lib.hid (Sub.plus _ _ _), Lib.hid (BA.out.set (i := 1) (by simp) _).drew, hk⟩
                  have hm0 : m = 0 := by omega
                  subst hm0
                  have hdn : l.drop 1 = [] := by
                    obtain ⟨A9, c9, h9, _⟩ := RT.out.form
                    injection h9 with _ h9 _
                    exact List.eq_nil_of_length_eq_zero (by omega)
                  rw [hdn]
                  exact RdL.nil (by simp [maxLen])
                · have hc2 : (1 : Int) < (c4 : Int) := by omega
                  go_upto_region 8 with (fail)
                  go_region
                  go_wp2_with fail
                  go_meet
                  rw [HA.out, HLX.out]
                  have hk := ((But.refl (Is (z + 1)) W).setCell (p := ⟨z + 1, 1, none⟩) rfl (.int .i64 y)).drew
                  refine ⟨X, Lib.hid ?_, Lib.hid (Sub.plus _ _ _), Lib.hid (BA.out.set (i := 1) (by simp) _).drew, hk⟩
                  exact RT.out.keep Flat.keeps (Sub.refl _) (hk.same (hXz.out.trans (Sub.upto (by omega))) hXa)
          · have HA := Lib.hid (show dAns l ⟨k, n⟩ = (l, (9, 0)) by simp [dAns, h1]; rw [if_neg (fun h => h2 (.inl h)), if_neg (fun h => h2 (.inr h))])
            have e1 : (k == 1) = false := by simpa using h1
            have e2 : (k != 2) = true := by simpa using fun h => h2 (.inl h)
            have e3 : (k != 3) = true := by simpa using fun h => h2 (.inr h)
            have ba0 := BA.out.cell 0 _ rfl
            have bf0 := BA.out.fr 0
            clear h1 h2
            go_wp2
            go_meet
            rw [HA.out]
            refine ⟨X, Lib.hid ?_, Lib.hid (Sub.plus _ _ _), Lib.hid (BA.out.set (i := 0) (by simp) _), (But.refl (Is (z + 1)) W).setCell (p := ⟨z + 1, 0, none⟩) rfl _⟩
            exact hD2.out.keep Flat.keeps (Sub.refl _) (((But.refl (Is (z + 1)) W).setCell (p := ⟨z + 1, 0, none⟩) rfl _).same (hXz.out.trans (Sub.upto (by omega))) hXa)
      case rest =>
        obtain ⟨X', hD3, hXs3, BA3, hk3⟩ := hcut
        have hz3 := hk3.size
        have HO3 := Lib.hid (HO2.out.but hk3 (fun g hg e => by
          have := HOz.out g hg
          unfold Is at e
          omega))
        have hb3 := Lib.hid (hb2.out.trans (hk3.below (B := w.heap.size) (by omega) (fun k e => by unfold Is at e; omega)))
        have hXl := Lib.hid (show Sub X' (Upto wc.heap.size) from hXs3.out.trans (Sub.plus_upto (hXz.out.trans (Sub.upto (by omega)))))
        have hXg := Lib.hid (show Sub X' (Plus Nowhere w.heap.size wc.heap.size) from fun b hb => by
          rcases hXs3.out b hb with h | h
          · rcases hXs.out b h with h2 | h2
            · exact h2.elim
            · exact .inr ⟨h2.1, by have := hXz.out b h; simp only [Upto] at this; omega⟩
          · exact .inr ⟨by omega, h.2⟩)
        have hX3 := Lib.hid (show ∀ k, u5.ownBlock = some k → ¬ X' k from fun g hg hx => by
          have := HOz.out g hg
          rcases hXs3.out g hx with h | h
          · exact hX.out g hg h
          · omega)
        have hans := Lib.hid (dAns_ok (o := ⟨k, n⟩) HOK.out hok.2)
        have hwz : w.heap.size ≤ wc.heap.size := by omega
        have ba0 := BA3.out.cell 0 _ rfl
        have ba1 := BA3.out.cell 1 _ rfl
        have hlt3 := BA3.out.lt
        clear hk3 HO2 hb2 hD2 BA BO o0 o1 hXs hX hXz HOz HW1 HW2 hz3
        go_wp2_with (at_builtin; refine wpList_append_one rfl _ _ 36 rfl i0 _ Try.underlying36 hi hz0 hz1 hz2 rfl (by decide) Flat.keeps HO3.out (x := (dAns (dRun (ops.take q)).1 ⟨k, n⟩).2) (cs := [Value.int .i64 (dAns (dRun (ops.take q)).1 ⟨k, n⟩).2.1, Value.int .i64 (dAns (dRun (ops.take q)).1 ⟨k, n⟩).2.2]) (Tx := Nowhere) ?c0 rfl rfl rfl (Sub.nowhere _) (Sub.nowhere _) not_nowhere ?c1 ?c2 ?c3 ?c4 ?_)
        case c0 => exact ⟨rfl, hans.out.2.1, hans.out.2.2⟩
        case c1 => simp [Value.oneCell']
        case c2 => rw [HL.out]; simp [maxLen]; omega
        case c3 => rw [HL.out]; omega
        case c4 => exact hwz
        intro v2 w3 ho4 hg4 hown
        have hz4 := hg4.size
        have hD4 := Lib.hid (show RdI w3 X' (dRun (ops.take (q + 1))).1 u4 by
          rw [HT'.out, dRun_snoc]
          exact hD3.out.keep Flat.keeps (Sub.refl _) ((But.of_grown hg4).same hXl.out (fun b hx e => hX3.out b e hx)))
        have HO4 := Lib.hid (show OwnP 43 w3 w.heap.size Nowhere (dRun (ops.take (q + 1))).2 v2 by
          rw [HT'.out, dRun_snoc]; exact ho4)
        have HX4 := Lib.hid (show ∀ k, v2.ownBlock = some k → ¬ X' k from fun g hg hx => by
          rcases hown with h | h
          · rw [h] at hg; exact hX3.out g hg hx
          · rw [h] at hg
            injection hg with hg
            have := hXl.out g hx
            simp only [Upto] at this
            omega)
        have hXs4 := Lib.hid (show Sub X' (Plus Nowhere w.heap.size w3.heap.size) from hXg.out.trans (Sub.plus_mono (Nat.le_refl _) hz4))
        have hb4 : Below w.heap.size w w3 := hb3.out.grown hg4 hb3.out.size (fun g hg => (HO3.out.lt g hg).1)
        clear ho4 hg4 hown hb3 HO3 hD3 hX3 HT' HL hXg hXl ba0 ba1 BA3
        go_wp2
        go_roundw
        case rel => exact ⟨q + 1, X', by omega, by go_num, HO4.out, hD4, hXs4, HX4, hb4⟩
        case measure => simp [intOf]; omega
    · have hqn : q = ops.length := by omega
      subst hqn
      have hz := hb.size
      have H1 := Lib.hid (show RdP wr (Plus Nowhere w.heap.size wr.heap.size) (dRun ops).2 u5 by
        have h := HO.out
        rw [List.take_length] at h
        refine h.toRd (bytes := 16) Flat.keeps (by rw [dRun_len]; omega) (Sub.nowhere _) (fun b h1 h2 => .inr ⟨h1, h2⟩))
      have H2 := Lib.hid (show RdI wr (Plus Nowhere w.heap.size wr.heap.size) (dRun ops).1 (.slice A4 (dRun (ops.take ops.length)).1.length c4) by
        have h := hD.out
        rw [List.take_length] at h ⊢
        exact h.sub Flat.keeps hXs.out)
      clear HO HL hD hXs hX
      go_wp2
      go_ret2
      exact ⟨_, _, rfl, H1.out, H2.out, hb⟩
end Go.Proofs.Ytmpononkbdfkmaa
