/- The walk of the reference's FRounds. -/
import Derived.Test.YtkpjomoofopeaaaDoorGr4
import Derived.Test.YtkpjomoofopeaaaDoorRdQ
import Derived.Test.YtkpjomoofopeaaaDoorIntA
import Derived.Test.YtkpjomoofopeaaaDoorGd1
namespace Go.Proofs.YtkpjomoofopeaaaDoor
open Go.RowKit
set_option linter.unusedVariables false
/-- those of the first c nodes that are done now -/
def nowP (es : List (Nat × Nat)) (k : Nat) (D : List Nat) (c : Nat) : List Nat := ((List.range c).filter (rdyE es D)).take k
theorem nowP_len (es : List (Nat × Nat)) (k : Nat) (D : List Nat) (c : Nat) : (nowP es k D c).length ≤ k ∧ (nowP es k D c).length ≤ c := by
  unfold nowP
  have := List.length_filter_le (rdyE es D) (List.range c)
  rw [List.length_range] at this
  rw [List.length_take]; omega
theorem nowP_full {es : List (Nat × Nat)} {k : Nat} {D : List Nat} {c : Nat} (h : ¬ (nowP es k D c).length < k) : nowP es k D (c + 1) = nowP es k D c := by
  unfold nowP at *
  rw [List.length_take] at h
  rw [List.range_succ, List.filter_append, List.take_append_of_le_length (by omega)]
theorem nowP_no {es : List (Nat × Nat)} {k : Nat} {D : List Nat} {c : Nat} (h : rdyE es D c = false) : nowP es k D (c + 1) = nowP es k D c := by
  unfold nowP
  rw [List.range_succ, List.filter_append]
  simp [h]
theorem nowP_yes {es : List (Nat × Nat)} {k : Nat} {D : List Nat} {c : Nat} (h : rdyE es D c = true) (hl : (nowP es k D c).length < k) : nowP es k D (c + 1) = nowP es k D c ++ [c] := by
  unfold nowP at *
  rw [List.length_take] at hl
  have hlen : ((List.range c).filter (rdyE es D)).length < k := by omega
  rw [List.range_succ, List.filter_append, List.filter_cons_of_pos h, List.filter_nil, List.take_of_length_le (by rw [List.length_append]; simp; omega), List.take_of_length_le (by omega)]
theorem RdI.capped {w : World} {S : Blocks} {l : List Int} {A : Option Addr} {n cap c : Nat} (h : RdI w S l (.slice A n cap)) (h1 : l.length ≤ c) (h2 : c ≤ maxLen) : RdI w S l (.slice A n c) := by
  obtain ⟨A', cap', css, e, b1, b2, b3, b4, b5, b6⟩ := h
  injection e with e1 e2 e3
  subst e1 e2
  exact ⟨_, c, css, rfl, h1, h2, b3, b4, b5, b6⟩
theorem castL_app (a b : List Nat) : castL (a ++ b) = castL a ++ castL b := by unfold castL; rw [List.map_append]
set_option maxHeartbeats 3200000 in
set_option maxRecDepth 100000 in
theorem frounds_ok (N : Nat) (hN : N ≤ 200) (k : Nat) (hk1 : 1 ≤ k) (hk2 : k ≤ 16) (es : List (Nat × Nat)) (hv : ∀ a b, (a, b) ∈ es → a < N ∧ b < N) (hr : roundE N es = false) (hw : wrongE (N : Int) (es.map ceE) = 0) (w : World) (S : Blocks) (ve : Value) (hS : Sub S (Upto w.heap.size)) (r : RdP w S (es.map ceE) ve) :
    Calls Tryd.prog 8 #[.agg #[.int .i64 N, ve], .int .i64 (k : Int)] w fun e w' => ∃ x L, e = .returned (.tuple #[x, .int .i64 0]) ∧ RoundsIs N es k L ∧ RdIs w' (Plus Nowhere w.heap.size w'.heap.size) (L.map castL) x ∧ Below w.heap.size w w' := by
  obtain ⟨A, cap, rfl, hl, hcm, hby⟩ := r.form
  unfold maxLen at hcm
  obtain ⟨i0, hi, hz0, hz1, hz2⟩ := info_parts infoII
  obtain ⟨i1, hj, hy0, hy1, hy2⟩ := info_parts infoIIs
  rw [List.length_map] at r hl hby ⊢
  have b0 := Blk.made w [.int .i64 (N : Int), .slice A es.length cap] 24 (base := 0) (Nat.zero_le _)
  have bl : Below w.heap.size w (w.alloc (.cells #[.int .i64 (N : Int), .slice A es.length cap] 24)) := (Below.refl _ _).alloc (Nat.le_refl _) _
  have hsz0 : w.heap.size ≤ ((w.alloc (.cells #[.int .i64 (N : Int), .slice A es.length cap] 24))).heap.size := by rw [World.size_alloc]; omega
  have k0 := b0.cell 0 _ rfl
  have k1 := b0.cell 1 _ rfl
  have HB0 := Lib.hid b0
  have BL := Lib.hid bl
  have HS := Lib.hid hS
  have HV := Lib.hid hv
  have HR := Lib.hid hr
  have RA := Lib.hid (r.go Flat.keeps bl hS (Sub.refl _))
  have C1 := Lib.hid (bwrong_any (N : Int) (by unfold inI; omega) (es.map ceE) (w.alloc (.cells #[.int .i64 (N : Int), .slice A es.length cap] 24)) S _ (hS.trans (Sub.upto hsz0)) (r.go Flat.keeps bl hS (Sub.refl _)))
  clear b0 bl r hS hv hr
  go_enter Tryd.func8, Tryd.ntmps8
  go_upto_region 1 with (fail)
  generalize (w.alloc (.cells #[.int .i64 (N : Int), .slice A es.length cap] 24)) = W0 at *
  go_wp2_with fail
  refine C1.out.mono ?_
  rintro e w1 ⟨rfl, hb1⟩
  rw [hw]
  have BL1 := Lib.hid (BL.out.trans (hb1.mono BL.out.size))
  have HB1 := Lib.hid (HB0.out.below hb1)
  have R1 := Lib.hid (RA.out.go Flat.keeps hb1 (HS.out.trans (Sub.upto BL.out.size)) (Sub.refl _))
  have hw1 := BL1.out.size
  have hSz := Lib.hid (show Sub S (Upto w1.heap.size) from HS.out.trans (Sub.upto hw1))
  have hc1 : ¬ (k : Int) < 1 := by omega
  have hc2 : ¬ (16 : Int) < (k : Int) := by omega
  clear C1 BL HB0 hb1 k0 k1 hsz0 RA hw
  obtain ⟨W1, hW1⟩ : ∃ W1 : World, W1 = w1 := ⟨_, rfl⟩
  subst hW1
  go_wp2
  clear hc1 hc2
  go_loopw [7, 8] (fun d o wr => ∃ (j : Nat) (D : List Nat) (L : List (List Nat)) (S : Blocks), Hid (GdAt N es k j D L) ∧ Hid (OwnI 3 wr W1.heap.size Nowhere (castL D) d) ∧ Hid (OwnL rdI1 1 54 wr W1.heap.size S (L.map castL) o) ∧ Hid (∀ b, d.ownBlock = some b → ¬ S b ∧ o.ownBlock ≠ some b) ∧ Hid (∀ b, S b → W1.heap.size ≤ b ∧ b < wr.heap.size) ∧ Hid (Below W1.heap.size W1 wr)) (fun d _ _ => N - lenH d)
  case atStart => exact ⟨0, [], [], Nowhere, Lib.hid (GdAt.start _ _ _), Lib.hid (OwnL.nil _ _ _), Lib.hid (OwnL.nil _ _ _), Lib.hid (fun b e => by simp [Value.ownBlock] at e), Lib.hid (fun b h => h.elim), Lib.hid (Below.refl _ _)⟩
  case round =>
    obtain ⟨W2, hW2⟩ : ∃ W2 : World, W2 = wr := ⟨_, rfl⟩
    subst hW2
    obtain ⟨j, D, L, S1, G, O, P, DI, SI, HB⟩ := hrel
    obtain ⟨Ad, cd, rfl⟩ := O.out.form
    obtain ⟨Ao, co, rfl⟩ := P.out.form
    have hLl : (L.map castL).length = j := by rw [List.length_map]; exact G.out.len
    have hDl := G.out.go.len
    have hjD := G.out.le
    rw [castL_len] at O DI ⊢
    rw [hLl] at P DI ⊢
    have HB2 := Lib.hid (HB1.out.below HB.out)
    have k0 := HB2.out.cell 0 _ rfl
    have k1 := HB2.out.cell 1 _ rfl
    by_cases hlt : D.length < N
    · skip
      have hni : (D.length : Int) < (N : Int) := by omega
      go_wp2
      go_loopw [9, 32] (fun o t wr => ∃ c : Nat, c ≤ N ∧ t = .int .i64 c ∧ Hid (OwnI 3 wr W2.heap.size Nowhere (castL (nowP es k D c)) o) ∧ Hid (Below W2.heap.size W2 wr)) (fun _ t _ => N - (intOf t).toNat)
      case atStart => exact ⟨0, by omega, rfl, Lib.hid (by rw [show nowP es k D 0 = [] by simp [nowP]]; exact OwnL.nil _ _ _), Lib.hid (Below.refl _ _)⟩
      case round =>
        clear k0 k1
        obtain ⟨c, hc, rfl, Q, HX⟩ := hrel
        obtain ⟨Aq, cq, rfl⟩ := Q.out.form
        obtain ⟨hq1, hq2⟩ := nowP_len es k D c
        rw [castL_len] at Q ⊢
        obtain ⟨W3, hW3⟩ : ∃ W3 : World, W3 = wr := ⟨_, rfl⟩
        subst hW3
        have HX1 := Lib.hid (HB.out.trans (HX.out.mono HB.out.size))
        have HB3 := Lib.hid (HB1.out.below HX1.out)
        have k0 := HB3.out.cell 0 _ rfl
        have k1 := HB3.out.cell 1 _ rfl
        have O3 := Lib.hid (O.out.keep Flat.keeps HX.out)
        have HRI := Lib.hid (O3.out.toRd (bytes := 8) (S' := Plus Nowhere W1.heap.size W3.heap.size) Flat.keeps (by rw [castL_len]; omega) (Sub.nowhere _) (fun b h1 h2 => .inr ⟨h1, h2⟩))
        have R3 := Lib.hid (R1.out.go Flat.keeps HX1.out hSz.out (Sub.refl _))
        have hzx1 := HX1.out.size
        have hzx2 := HX.out.size
        by_cases hltc : c < N
        · by_cases hfl : (nowP es k D c).length < k
          · skip
            have HC := Lib.hid (containsI (castL D) (c : Int) W3 _ _ HRI.out)
            go_wp2_with fail
            refine HC.out.mono ?_
            rintro e w' ⟨rfl, rfl⟩
            rw [castL_has, show D.contains c = !(rdQ es D c 0) by rw [rdQ_zero, Bool.not_not]]
            clear HC
            go_wp2
            go_loopw [11, 48] (fun x t wr => ∃ q : Nat, q ≤ es.length ∧ t = .int .i64 q ∧ x = .bool (rdQ es D c q) ∧ Hid (Below W3.heap.size W3 wr)) (fun _ t _ => es.length - (intOf t).toNat)
            case atStart => exact ⟨0, by omega, rfl, by simp, Lib.hid (Below.refl _ _)⟩
            case round =>
              clear k0 k1
              obtain ⟨q, hq, rfl, rfl, HY⟩ := hrel
              by_cases hltk : q < es.length
              · skip
                have hlt2 : q < (es.map ceE).length := by rw [List.length_map]; exact hltk
                obtain ⟨bb, off, rfl, hbS, hok, hc1, hc2⟩ := RdP.at1 (R3.out.go Flat.keeps HY.out (hSz.out.trans (Sub.upto hzx1)) (Sub.refl _)) hlt2
                obtain ⟨a, b, hab⟩ : ∃ a b, es[q] = (a, b) := ⟨_, _, rfl⟩
                have hce : (es.map ceE)[q] = ((a : Int), (b : Int)) := by rw [List.getElem_map, hab]; rfl
                rw [hce] at hc1 hc2
                have HOK := Lib.hid (show rdQ es D c (q + 1) = (rdQ es D c q && (decide (b ≠ c) || D.contains a)) by rw [rdQ_succ D c hltk, hab])
                simp only at hc1 hc2
                clear hok hab hlt2 hce
                have hbx := (Below.refl wr.heap.size wr).alloc (Nat.le_refl _) (.cells #[.int .i64 (a : Int), .int .i64 (b : Int)] 56)
                have E1 := Lib.hid (Blk.made wr [.int .i64 (a : Int), .int .i64 (b : Int)] 56 (base := 0) (Nat.zero_le _))
                have HY2 := Lib.hid (HY.out.trans (hbx.mono HY.out.size))
                clear hbx
                go_upto_region 17 with (fail)
                generalize wr.alloc (.cells #[.int .i64 (a : Int), .int .i64 (b : Int)] 56) = W4 at *
                clear hc1 hc2
                have e0 := E1.out.cell 0 _ rfl
                have e1 := E1.out.cell 1 _ rfl
                cases hx : rdQ es D c q with
                | false =>
                  have HO2 := Lib.hid (show rdQ es D c (q + 1) = false by rw [HOK.out, hx]; rfl)
                  clear hx HOK
                  go_wp2
                  go_roundw
                  case rel => exact ⟨q + 1, by omega, by go_num, by rw [HO2.out], HY2⟩
                  case measure => simp [intOf]; omega
                | true =>
                  by_cases hbq : b = c
                  · subst hbq
                    have HC2 := Lib.hid (containsI (castL D) (a : Int) W4 _ _ (HRI.out.go Flat.keeps HY2.out plus_upto (Sub.refl _)))
                    have HO2 := Lib.hid (show rdQ es D b (q + 1) = D.contains a by rw [HOK.out, hx]; simp)
                    have hb1 : ((b : Int) != (b : Int)) = false := by simp
                    clear hx HOK
                    go_wp2_with (go_at_call 28; refine HC2.out.mono ?_; rintro e w' ⟨rfl, rfl⟩; rw [castL_has])
                    go_roundw
                    case rel => exact ⟨q + 1, by omega, by go_num, by rw [HO2.out]; simp, HY2⟩
                    case measure => simp [intOf]; omega
                  · have HO2 := Lib.hid (show rdQ es D c (q + 1) = true by rw [HOK.out, hx, decide_eq_true hbq]; rfl)
                    have hbi : ¬ (b : Int) = (c : Int) := by omega
                    have hb1 : ((b : Int) != (c : Int)) = true := by simp [hbi]
                    clear hx HOK
                    go_wp2
                    go_roundw
                    case rel => exact ⟨q + 1, by omega, by go_num, by rw [HO2.out], HY2⟩
                    case measure => simp [intOf]; omega
              · skip
                have hke : q = es.length := by omega
                subst hke
                rw [rdQ_all]
                have HZ1 := Lib.hid (HX.out.trans (HY.out.mono HX.out.size))
                have Q4 := Lib.hid (Q.out.keep Flat.keeps HY.out)
                cases hx : rdyE es D c with
                | false =>
                  have HN2 := Lib.hid (nowP_no (k := k) hx)
                  clear hx
                  go_wp2_with fail
                  go_roundw
                  case rel => exact ⟨c + 1, by omega, by go_num, Lib.hid (by rw [HN2.out]; exact Q4.out), HZ1⟩
                  case measure => simp [intOf]; omega
                | true =>
                  have HN2 := Lib.hid (show castL (nowP es k D (c + 1)) = castL (nowP es k D c) ++ [(c : Int)] by rw [nowP_yes hx hfl, castL_snoc])
                  have hz4 := HZ1.out.size
                  have hcl := castL_len (nowP es k D c)
                  have HCL := Lib.hid hcl
                  clear hx hcl
                  go_wp2_with (at_builtin; refine wpList_append_one rfl _ _ 54 rfl i0 _ Tryd.underlying54 hi hz0 hz1 hz2 rfl (by decide) Flat.keeps Q4.out (x := (c : Int)) (cs := [Value.int .i64 (c : Int)]) (Tx := Nowhere) ?d0 rfl rfl rfl (Sub.nowhere _) (Sub.nowhere _) not_nowhere ?d1 ?d2 ?d3 ?d4 ?_)
                  case d0 => exact ⟨rfl, by unfold inI; omega⟩
                  case d1 => simp [Value.oneCell']
                  case d2 => rw [HCL.out]; unfold maxLen; omega
                  case d3 => rw [HCL.out]; omega
                  try (case d4 => exact hz4)
                  intro v5 w5 ho5 hg5 _
                  rw [← HN2.out] at ho5
                  have HO5 := Lib.hid ho5
                  have HB5 := Lib.hid (HZ1.out.grown hg5 hz4 (fun g hg => (Q4.out.lt g hg).1))
                  obtain ⟨A5, c5, rfl⟩ := ho5.form
                  clear ho5 hg5
                  go_wp2_with fail
                  go_roundw
                  case rel => exact ⟨c + 1, by omega, by go_num, HO5, HB5⟩
                  case measure => simp [intOf]; omega
          · skip
            have HN2 := Lib.hid (nowP_full hfl)
            go_wp2
            go_loopw [11, 48] (fun x t wr => ∃ q : Nat, q ≤ es.length ∧ t = .int .i64 q ∧ x = .bool false ∧ Hid (Below W3.heap.size W3 wr)) (fun _ t _ => es.length - (intOf t).toNat)
            case atStart => exact ⟨0, by omega, rfl, by simp, Lib.hid (Below.refl _ _)⟩
            case round =>
              clear k0 k1
              obtain ⟨q, hq, rfl, rfl, HY⟩ := hrel
              by_cases hltk : q < es.length
              · have hlt2 : q < (es.map ceE).length := by rw [List.length_map]; exact hltk
                obtain ⟨bb, off, rfl, hbS, hok, hc1, hc2⟩ := RdP.at1 (R3.out.go Flat.keeps HY.out (hSz.out.trans (Sub.upto hzx1)) (Sub.refl _)) hlt2
                have hbx := (Below.refl wr.heap.size wr).alloc (Nat.le_refl _) (.cells #[.int .i64 ((es.map ceE)[q]).1, .int .i64 ((es.map ceE)[q]).2] 56)
                have HY2 := Lib.hid (HY.out.trans (hbx.mono HY.out.size))
                clear hok hbx
                generalize ((es.map ceE)[q]).1 = a1 at *
                generalize ((es.map ceE)[q]).2 = a2 at *
                go_upto_region 17 with (fail)
                generalize wr.alloc (.cells #[.int .i64 a1, .int .i64 a2] 56) = W4 at *
                clear hc1 hc2 hlt2
                go_wp2
                go_roundw
                case rel => exact ⟨q + 1, by omega, by go_num, rfl, HY2⟩
                case measure => simp [intOf]; omega
              · have HZ1 := Lib.hid (HX.out.trans (HY.out.mono HX.out.size))
                have Q4 := Lib.hid (Q.out.keep Flat.keeps HY.out)
                go_wp2_with fail
                go_roundw
                case rel => exact ⟨c + 1, by omega, by go_num, Lib.hid (by rw [HN2.out]; exact Q4.out), HZ1⟩
                case measure => simp [intOf]; omega
        · skip
          have hcN : c = N := by omega
          subst hcN
          obtain ⟨now, hnow⟩ : ∃ now, now = nowL c es k D := ⟨_, rfl⟩
          rw [show nowP es k D c = now from hnow.symm] at Q hq1 hq2 ⊢
          have G6 := G.out.next HV.out HR.out hk1 hlt
          have hn0 : 0 < now.length := by
            have h1 := rdy_some HV.out HR.out G.out.go hlt
            have h2 := nowL_len c es k D
            rw [hnow, h2]; omega
          rw [← hnow] at G6
          have HG6 := Lib.hid G6
          have P3 := Lib.hid (P.out.keep rdI1_keeps HX.out)
          have hod := Lib.hid (fun b e => (O.out.lt b e))
          have hoo := Lib.hid (fun b e => (P.out.lt b e))
          obtain ⟨g, cv', hv9, hgw, hg2, hlc, hcm9, _, _⟩ := OwnI.open_ Q.out (by rw [castL_len]; exact hn0)
          rw [castL_len] at hv9 hlc
          injection hv9 with hA hn9 hcc
          clear hn9
          subst hA hcc
          have hx := (Q.out.toRd (bytes := 8) (S' := fun _ => True) Flat.keeps (by rw [castL_len]; omega) (Sub.nowhere _) (fun _ _ _ => trivial)).bare Nowhere
          have HXX := Lib.hid hx
          have hcd := castL_len D
          have hcn := castL_len now
          have HCD := Lib.hid (And.intro hcd hcn)
          have hw13 : W1.heap.size ≤ W3.heap.size := HX1.out.size
          clear hx G6 hnow hcd hcn hltc
          go_wp2_with (at_builtin; refine wpList_append_list rfl _ _ 54 rfl i0 _ Tryd.underlying54 hi hz0 hz1 hz2 rfl (by decide) Flat.keeps O3.out HXX.out rfl rfl (Sub.nowhere _) (Sub.nowhere _) not_nowhere oneI ?c3 ?c4 ?c5 ?_)
          case c3 => rw [HCD.out.1, HCD.out.2]; unfold maxLen; omega
          case c4 => rw [HCD.out.1, HCD.out.2]; omega
          case c5 => exact hw13
          intro v5 w5 ho5 hg5 hk5
          rw [← castL_app] at ho5
          obtain ⟨A5, c5, rfl⟩ := ho5.form
          rw [castL_len] at ho5 hk5 ⊢
          have hlo := O3.out.lt
          have P5 := Lib.hid (P3.out.but2 rdI1_keeps (But.of_grown hg5) (fun b e hk => (DI.out b hk).2 e) (fun b e hk => (DI.out b hk).1 e))
          have Q5 := Lib.hid (Q.out.but (But.of_grown hg5) (fun b e hk => by
            have e2 : g = b := by injection e
            have := (hod.out b hk).2
            omega))
          have HB5 := Lib.hid (HX1.out.grown hg5 hw13 (fun b e => (hlo b e).1))
          have O5 := Lib.hid ho5
          have hw35 := hg5.size
          have HK5 := Lib.hid hk5
          have hgT := Q5.out.lt g rfl
          have RT := Lib.hid (show rdI1 w5 (Is g) (castL now) [.slice (some ⟨g, 0, none⟩) now.length cq] from ⟨_, rfl, by
            have := (OwnI.rdg Q5.out (by rw [castL_len]; exact hn0) (by rw [castL_len]; omega)).capped (c := cq) (by rw [castL_len]; exact hlc) hcm9
            rwa [castL_len] at this⟩)
          have hgo : ∀ b, (Value.slice Ao j co).ownBlock = some b → ¬ Is g b := fun b e hk => by
            have h3 := (hoo.out b e).2
            unfold Is at hk
            omega
          have hw15 : W1.heap.size ≤ w5.heap.size := by omega
          clear ho5 hg5 hk5 hlo
          go_wp2_with (at_builtin; refine wpList_append_one rfl _ _ 25 rfl i1 _ Tryd.underlying25 hj hy0 hy1 hy2 rfl (by decide) rdI1_keeps (P5.out.sub (S' := fun b => S1 b ∨ b = g) (fun b h => .inl h)) (x := castL now) (cs := [.slice (some ⟨g, 0, none⟩) now.length cq]) (Tx := Is g) RT.out rfl rfl rfl (fun b h => .inr h) (fun b h => by rw [show b = g from h]; exact hgT.2) hgo ?d1 ?d2 ?d3 ?d4 ?_)
          case d1 => simp [Value.oneCell']
          case d2 => rw [hLl]; unfold maxLen; omega
          case d3 => rw [hLl]; omega
          try (case d4 => exact hw15)
          intro v6 w6 ho6 hg6 hk6
          obtain ⟨A6, c6, rfl⟩ := ho6.form
          have hl6 : (L.map castL ++ [castL now]).length = j + 1 := by rw [List.length_append, hLl]; rfl
          rw [hl6] at ho6 hk6 ⊢
          have e6 : (L ++ [now]).map castL = L.map castL ++ [castL now] := by rw [List.map_append]; rfl
          have P6 := Lib.hid (show OwnL rdI1 1 54 w6 W1.heap.size (fun b => S1 b ∨ b = g) ((L ++ [now]).map castL) (.slice A6 (j + 1) c6) by rw [e6]; exact ho6)
          have hne : ∀ b, (Value.slice A5 (D ++ now).length c5).ownBlock = some b → (Value.slice Ao j co).ownBlock ≠ some b := fun b e e2 => by
            rcases HK5.out with h | h
            · exact (DI.out b (by rw [← h]; exact e)).2 e2
            · rw [h] at e; injection e with e
              have := (hoo.out b e2).2
              omega
          have O6 := Lib.hid (O5.out.but (But.of_grown hg6) (fun b e hk => hne b e hk))
          have hw56 := hg6.size
          have HB6 := Lib.hid (HB5.out.grown hg6 hw15 (fun b e => (hoo.out b e).1))
          have DI6 := Lib.hid (show ∀ b, (Value.slice A5 (D ++ now).length c5).ownBlock = some b → ¬ (S1 b ∨ b = g) ∧ (Value.slice A6 (j + 1) c6).ownBlock ≠ some b from fun b e => by
            have hb5 := (O5.out.lt b e).2
            refine ⟨fun h => ?_, fun h => ?_⟩
            · rcases HK5.out with h9 | h9
              · rw [h9] at e
                rcases h with h | h
                · exact (DI.out b e).1 h
                · have := (hod.out b e).2; omega
              · rw [h9] at e; injection e with e
                rcases h with h | h
                · have := (SI.out b h).2; omega
                · omega
            · rcases hk6 with h9 | h9
              · rw [h9] at h; exact hne b e h
              · rw [h9] at h; injection h with h; omega)
          have SI6 := Lib.hid (show ∀ b, S1 b ∨ b = g → W1.heap.size ≤ b ∧ b < w6.heap.size from fun b h => by
            rcases h with h | h
            · have := SI.out b h; have := HB.out.size; omega
            · have := HB.out.size; omega)
          have hdn : (D ++ now).length = D.length + now.length := List.length_append
          rw [hdn] at O6 DI6
          clear ho6 hg6 hk6 hl6 e6 hne O P Q G DI
          go_wp2_with fail
          go_roundw
          case rel => exact ⟨j + 1, D ++ now, L ++ [now], _, HG6, O6, P6, DI6, SI6, HB6⟩
          case measure => simp [lenH]; omega
    · skip
      have hD : D.length = N := by omega
      have hRd := P.out.toRd (bytes := 24) (S' := Plus Nowhere w.heap.size W2.heap.size) rdI1_keeps (by rw [hLl]; omega) (fun b hb => .inr ⟨by have := (SI.out b hb).1; omega, (SI.out b hb).2⟩) (fun b h1 h2 => .inr ⟨by omega, h2⟩)
      have HRD := Lib.hid hRd
      have HBW := Lib.hid (show Below w.heap.size w W2 from BL1.out.trans (HB.out.mono hw1))
      have HRI := Lib.hid (show RoundsIs N es k L from ⟨j, D, G.out, hD⟩)
      have hni : ¬ (D.length : Int) < (N : Int) := by omega
      clear hRd O P G HB
      go_wp2
      go_ret2
      first
        | exact ⟨_, L, rfl, HRI.out, HRD.out, HBW.out⟩
        | exact ⟨_, rfl, L, HRI.out, HRD.out, HBW.out⟩
end Go.Proofs.YtkpjomoofopeaaaDoor
