/- The walk of the yard's ended. -/
import Derived.Test.YtbpooepbnnbipaaSy1
import Derived.BigQuiet
import Derived.BigRegion
namespace Go.Proofs.Ytbpooepbnnbipaa
open Go.RowKit
set_option linter.unusedVariables false
theorem partP_two {t : Tm} {up : Pt} {par : Bool} {a c : Tm} (h : twoT t up = some (par, a, c)) : partP t up = ⟨if par then 3 else 2, -1, (nmP t (false :: up) : Int), (nmP t (true :: up) : Int), upN t up, lastB up⟩ := by
  unfold twoT at h
  cases hs : subT t up with
  | none => rw [hs] at h; cases h
  | some x =>
    rw [hs] at h
    have hx : x.two = some (par, a, c) := h
    have h2 : twoT t up = some (par, a, c) := by unfold twoT; rw [hs]; exact hx
    rw [partP_at hs]
    unfold onePart
    rw [hx]
    simp [nmP, h2]
theorem partP_up {t : Tm} {p : Pt} (h : (subT t p).isSome = true) : (partP t p).up = upN t p ∧ (partP t p).onR = lastB p := by
  cases hs : subT t p with
  | none => rw [hs] at h; cases h
  | some x =>
    rw [partP_at hs]
    unfold onePart
    split
    · exact ⟨rfl, rfl⟩
    · split <;> exact ⟨rfl, rfl⟩
theorem set_self {α : Type} (l : List (List α)) (i : Nat) (h : i < l.length) : l.set i ((l[i]?).getD []) = l := by
  rw [List.getElem?_eq_getElem h]; simp
theorem endP_seqL {t : Tm} {up : Pt} {a c : Tm} (h : twoT t up = some (false, a, c)) (dn : Pt → Bool) (q : List Pt) : endP t dn q (false :: up) = (some (true :: up), setD dn (false :: up), q) := by
  conv => lhs; unfold endP
  rw [h]; rfl
theorem endP_seqR {t : Tm} {up : Pt} {a c : Tm} (h : twoT t up = some (false, a, c)) (dn : Pt → Bool) (q : List Pt) : endP t dn q (true :: up) = endP t (setD dn (true :: up)) q up := by
  conv => lhs; unfold endP
  rw [h]; rfl
theorem endP_both {t : Tm} {up : Pt} {a c : Tm} (h : twoT t up = some (true, a, c)) (dn : Pt → Bool) (q : List Pt) (b : Bool) (hl : setD dn (b :: up) (false :: up) = true) (hr : setD dn (b :: up) (true :: up) = true) : endP t dn q (b :: up) = endP t (setD dn (b :: up)) q up := by
  conv => lhs; unfold endP
  rw [h]; simp only [hl, hr, Bool.and_self, if_true]
theorem endP_right {t : Tm} {up : Pt} {a c : Tm} (h : twoT t up = some (true, a, c)) (dn : Pt → Bool) (q : List Pt) (hn : (setD dn (true :: up) (false :: up) && setD dn (true :: up) (true :: up)) = false) : endP t dn q (true :: up) = (none, setD dn (true :: up), q) := by
  conv => lhs; unfold endP
  rw [h]; simp [hn]
theorem endP_nil {t : Tm} {up : Pt} {a c : Tm} (h : twoT t up = some (true, a, c)) (dn : Pt → Bool) (hn : (setD dn (false :: up) (false :: up) && setD dn (false :: up) (true :: up)) = false) : endP t dn [] (false :: up) = (none, setD dn (false :: up), []) := by
  conv => lhs; unfold endP
  rw [h]; simp [hn]
theorem endP_pop {t : Tm} {up : Pt} {a c : Tm} (h : twoT t up = some (true, a, c)) (dn : Pt → Bool) (q : List Pt) (x : Pt) (hn : (setD dn (false :: up) (false :: up) && setD dn (false :: up) (true :: up)) = false) : endP t dn (q ++ [x]) (false :: up) = (some x, setD dn (false :: up), q) := by
  conv => lhs; unfold endP
  rw [h]; simp [hn]
theorem nil_or_snoc' {α : Type} (l : List α) : l = [] ∨ ∃ q b, l = q ++ [b] := by
  rcases List.eq_nil_or_concat l with h | ⟨q, b, h⟩
  · exact .inl h
  · exact .inr ⟨q, b, by rw [h, List.concat_eq_append]⟩
/-- what a call of ended owes -/
def EndC (base y : Nat) (t : Tm) (k N gp cp ga ca gq cq : Nat) (ds : List Nat) (lv : Int) (od : Value) (wk : Nat) (p : Pt) (m : Nat) : Prop := ∀ (w : World) (col : Nat → Nat) (s : Vs), Yd base w y col t k N gp cp ga ca gq cq ds lv od s →
  Calls Try.prog 38 #[.pointer (some ⟨y, 0, none⟩), .int .i64 (wk : Int), .int .i64 (m : Int)] w fun e w' => e = .returned (.int .i64 (numA t (endP t s.dn ((s.qs[wk]?).getD []) p).1)) ∧
    ∃ col', Yd base w' y col' t k N gp cp ga ca gq cq ds lv od { s with dn := (endP t s.dn ((s.qs[wk]?).getD []) p).2.1, qs := s.qs.set wk (endP t s.dn ((s.qs[wk]?).getD []) p).2.2 } ∧ (∀ b, b < w.heap.size → col' b = col b) ∧ But (Yc col) w w'
set_option maxHeartbeats 2000000 in
set_option maxRecDepth 100000 in
theorem ended_any (base y : Nat) (t : Tm) (k N gp cp ga ca gq cq : Nat) (ds : List Nat) (lv : Int) (od : Value) (wk : Nat) (hwk : wk < k) (hN : N ≤ 8796093022208) (hL : (nodesT t).length ≤ 1099511627776) (hk : k ≤ 16) : ∀ p : Pt, (subT t p).isSome = true → EndC base y t k N gp cp ga ca gq cq ds lv od wk p (nmP t p) := by
  intro p
  induction p with
  | nil =>
    intro hp w col s hY
    have hlt := nm_lt hp
    have hps : (partP t []).up = -1 := (partP_up hp).1
    obtain ⟨L, hLL⟩ : ∃ L, L = (nodesT t).length := ⟨_, rfl⟩
    have hY1 := hY.mark hp
    have c0 := hY.hd.cell 0 _ rfl
    have fg := hY.ps.fr (nmP t [] * 7 + 6)
    have hd1 := hY1.hd.cell 0 _ rfl
    have c4 := hY1.part hp 4 rfl
    have c6 := hY.part hp 6 rfl
    simp only [hps] at c4
    have HY1 := Lib.hid hY1
    have HB := Lib.hid ((But.refl (Yc col) w).setCell (p := ⟨gp, nmP t [] * 7 + 6, none⟩) (show Yc col gp by unfold Yc; rw [hY.cp]; decide) (.bool true))
    have HQ := Lib.hid (set_self s.qs wk (by rw [hY.lq]; exact hwk))
    rw [← hLL] at c0 hd1 hlt
    have he : endP t s.dn ((s.qs[wk]?).getD []) [] = (none, setD s.dn [], (s.qs[wk]?).getD []) := by simp [endP]
    rw [he]
    obtain ⟨m, hm⟩ : ∃ m, m = nmP t [] := ⟨_, rfl⟩
    have hY1 := HY1.out
    have HY1 := Lib.hid hY1
    rw [← hm] at hlt fg c4 c6 hd1 HY1 HB ⊢
    clear hY hY1 hp hps he hLL hm
    go_enter Try.func38, Try.ntmps38
    go_wp2
    go_ret
    refine ⟨rfl, col, ?_, fun _ _ => rfl, HB.out⟩
    rw [HQ.out]
    exact HY1.out
  | cons b up ih =>
    intro hp w col s hY
    obtain ⟨par, a, c, h2⟩ := subT_up hp
    have hup := subT_of_two h2
    have hlt := nm_lt hp
    have hlu := nm_lt hup
    have hkl : (subT t (false :: up)).isSome = true := by rw [subT_kid h2 false]; rfl
    have hkr : (subT t (true :: up)).isSome = true := by rw [subT_kid h2 true]; rfl
    have hll := nm_lt hkl
    have hlr := nm_lt hkr
    have hps : (partP t (b :: up)).up = (nmP t up : Int) ∧ (partP t (b :: up)).onR = b := partP_up hp
    obtain ⟨L, hLL⟩ : ∃ L, L = (nodesT t).length := ⟨_, rfl⟩
    have hY1 := hY.mark hp
    have c0 := hY.hd.cell 0 _ rfl
    have fg := hY.ps.fr (nmP t (b :: up) * 7 + 6)
    have c6 := hY.part hp 6 rfl
    have d0 := hY1.hd.cell 0 _ rfl
    have d4 := hY1.part hp 4 rfl
    have d5 := hY1.part hp 5 rfl
    have e0 : World.cell? _ ⟨gp, nmP t up * 7, none⟩ = _ := hY1.part hup 0 rfl
    have e1 := hY1.part hup 1 rfl
    have e2 := hY1.part hup 2 rfl
    have e3 := hY1.part hup 3 rfl
    have e4 := hY1.part hup 4 rfl
    have e5 := hY1.part hup 5 rfl
    have e6 := hY1.part hup 6 rfl
    have l6 := hY1.part hkl 6 rfl
    have r6 := hY1.part hkr 6 rfl
    simp only [partP_two h2, hps] at d4 d5 e0 e1 e2 e3 e4 e5 e6
    rw [← hLL] at c0 d0 hlt hlu hll hlr
    have HY1 := Lib.hid hY1
    have HB := Lib.hid ((But.refl (Yc col) w).setCell (p := ⟨gp, nmP t (b :: up) * 7 + 6, none⟩) (show Yc col gp by unfold Yc; rw [hY.cp]; decide) (.bool true))
    have HQ := Lib.hid (set_self s.qs wk (by rw [hY.lq]; exact hwk))
    have HLL := Lib.hid hLL
    have HW : w.heap.size ≤ (w.setCell ⟨gp, nmP t (b :: up) * 7 + 6, none⟩ (.bool true)).heap.size := by rw [size_setCell]; exact Nat.le_refl _
    obtain ⟨m, hm⟩ : ∃ m, m = nmP t (b :: up) := ⟨_, rfl⟩
    obtain ⟨u, hu⟩ : ∃ u, u = nmP t up := ⟨_, rfl⟩
    have IH := Lib.hid (ih hup)
    rw [← hu] at IH
    clear ih
    obtain ⟨l, hl⟩ : ∃ l, l = nmP t (false :: up) := ⟨_, rfl⟩
    obtain ⟨r, hr⟩ : ∃ r, r = nmP t (true :: up) := ⟨_, rfl⟩
    have HM := Lib.hid hm
    have HU := Lib.hid hu
    have HL := Lib.hid hl
    have HR := Lib.hid hr
    rw [← hm] at c6 fg HY1 HB HW d0 d4 d5 e0 e1 e2 e3 e4 e5 e6 l6 r6 hlt ⊢
    rw [← hu] at d4 hlu e0 e1 e2 e3 e4 e5 e6
    rw [← hl] at hll l6 e2
    rw [← hr] at hlr r6 e3
    clear hY hY1 hps hLL hm hu hl hr
    go_enter Try.func38, Try.ntmps38
    go_upto_region 2 with (fail)
    generalize w.setCell ⟨gp, m * 7 + 6, none⟩ (.bool true) = W at *
    clear c0 fg c6
    have WK : (wk : Int) < (k : Int) := by omega
    obtain ⟨kd, hkd⟩ : ∃ kd : Int, kd = if par = true then 3 else 2 := ⟨_, rfl⟩
    rw [← hkd] at e0
    have HKD := Lib.hid hkd
    clear hkd
    generalize upN t up = uu at e4
    generalize lastB up = lu at e5
    generalize setD s.dn (b :: up) up = du at e6
    go_upto_region 6 with (fail)
    have BX := Blk.made W [.int .i64 kd, .int .i64 (-1), .int .i64 (l : Int), .int .i64 (r : Int), .int .i64 uu, .bool lu, .bool du] 100 (base := W.heap.size) (Nat.le_refl _)
    have BW := (Below.refl W.heap.size W).alloc (Nat.le_refl _) (.cells [.int .i64 kd, .int .i64 (-1), .int .i64 (l : Int), .int .i64 (r : Int), .int .i64 uu, .bool lu, .bool du].toArray 100)
    change Code.wp _ _ _ _ (W.alloc (.cells [.int .i64 kd, .int .i64 (-1), .int .i64 (l : Int), .int .i64 (r : Int), .int .i64 uu, .bool lu, .bool du].toArray 100))
    generalize W.alloc (.cells [.int .i64 kd, .int .i64 (-1), .int .i64 (l : Int), .int .i64 (r : Int), .int .i64 uu, .bool lu, .bool du].toArray 100) = W2 at *
    have HY2 := Lib.hid (HY1.out.below BW)
    have HB2 := Lib.hid (HB.out.trans (But.of_below BW))
    have HW2 : w.heap.size ≤ W2.heap.size := Nat.le_trans HW BW.size
    have hlm := HY2.out.part hp 5 rfl
    rw [(partP_up hp).2, ← HM.out] at hlm
    have d0 := HY2.out.hd.cell 0 _ rfl
    have l6 := HY2.out.part hkl 6 rfl
    have r6 := HY2.out.part hkr 6 rfl
    rw [← HL.out] at l6
    rw [← HR.out] at r6
    rw [← HLL.out] at d0
    have x0 := BX.cell 0 _ rfl
    have x2 := BX.cell 2 _ rfl
    have x3 := BX.cell 3 _ rfl
    generalize W.heap.size = bx at *
    clear BX BW HY1 HB HW d4 d5 e0 e1 e2 e3 e4 e5 e6
    simp only [lastB] at hlm
    cases par with
    | false =>
      have hkd : kd = 2 := HKD.out
      subst hkd
      cases b with
      | false =>
        have HE := Lib.hid (endP_seqL h2 s.dn ((s.qs[wk]?).getD []))
        go_wp2
        go_ret
        rw [HE.out]
        refine ⟨by rw [HR.out]; rfl, col, ?_, fun _ _ => rfl, HB2.out⟩
        rw [HQ.out]
        exact HY2.out
      | true =>
        have HE := Lib.hid (endP_seqR h2 s.dn ((s.qs[wk]?).getD []))
        go_wp2_with (refine (IH.out W2 col _ HY2.out).mono ?_; rintro e w3 ⟨rfl, col', hy', hc', hb'⟩; have HY3 := Lib.hid hy'; have HC3 := Lib.hid hc'; have HB3 := Lib.hid hb'; clear hy' hc' hb')
        go_ret
        rw [HE.out]
        exact ⟨rfl, col', HY3.out, fun b hb => HC3.out b (Nat.lt_of_lt_of_le hb HW2), HB2.out.trans HB3.out⟩
    | true =>
      have hkd : kd = 3 := HKD.out
      subst hkd
      cases hdl : setD s.dn (b :: up) (false :: up) && setD s.dn (b :: up) (true :: up) with
      | true =>
        have hdl := (Bool.and_eq_true _ _).mp hdl
        have HE := Lib.hid (endP_both h2 s.dn ((s.qs[wk]?).getD []) b hdl.1 hdl.2)
        simp only [hdl.1] at l6
        simp only [hdl.2] at r6
        clear hdl
        go_wp2
        go_quiet (fail)
        have HY3 := Lib.hid (HY2.out.below (below_drewN (Below.refl _ W2) ‹Nat›))
        have HB3 := Lib.hid (HB2.out.drewN ‹Nat›)
        have HW3 : w.heap.size ≤ (W2.drewN ‹Nat›).heap.size := HW2
        generalize W2.drewN ‹Nat› = W3 at *
        clear HY2 HB2 HW2 hlm d0 l6 r6 x0 x2 x3
        go_wp2_with (refine (IH.out W3 col _ HY3.out).mono ?_; rintro e w3 ⟨rfl, col', hy', hc', hb'⟩; have HY4 := Lib.hid hy'; have HC4 := Lib.hid hc'; have HB4 := Lib.hid hb'; clear hy' hc' hb')
        go_ret
        rw [HE.out]
        exact ⟨rfl, col', HY4.out, fun b hb => HC4.out b (Nat.lt_of_lt_of_le hb HW3), HB3.out.trans HB4.out⟩
      | false =>
        have HDL := Lib.hid hdl
        have hdl2 : setD s.dn (b :: up) (false :: up) = false ∨ (setD s.dn (b :: up) (false :: up) = true ∧ setD s.dn (b :: up) (true :: up) = false) := by
          cases h1 : setD s.dn (b :: up) (false :: up)
          · exact .inl rfl
          · rw [h1] at hdl; exact .inr ⟨rfl, hdl⟩
        clear hdl
        rcases hdl2 with hdl2 | ⟨hd1, hd2⟩
        · simp only [hdl2] at l6
          clear hdl2 r6
          go_wp2
          go_quiet (fail)
          clear l6
          have HY3 := Lib.hid (HY2.out.below (below_drewN (Below.refl _ W2) ‹Nat›))
          have HB3 := Lib.hid (HB2.out.drewN ‹Nat›)
          have HW3 : w.heap.size ≤ (W2.drewN ‹Nat›).heap.size := HW2
          generalize W2.drewN ‹Nat› = W3 at *
          clear HY2 HB2 HW2 hlm d0 x0 x2 x3
          have d5 := HY3.out.part hp 5 rfl
          rw [(partP_up hp).2, ← HM.out] at d5
          simp only [lastB] at d5
          have d0 := HY3.out.hd.cell 0 _ rfl
          rw [← HLL.out] at d0
          cases b with
          | true =>
            have HE := Lib.hid (endP_right h2 s.dn ((s.qs[wk]?).getD []) HDL.out)
            go_wp2
            go_ret
            rw [HE.out]
            refine ⟨rfl, col, ?_, fun _ _ => rfl, HB3.out⟩
            rw [HQ.out]
            exact HY3.out
          | false =>
            obtain ⟨X, d, hd1, hq, hcx, hcd⟩ := HY3.out.deque hwk
            have c3 := HY3.out.hd.cell 3 _ rfl
            have HX := Lib.hid hcx
            clear hcx
            rcases nil_or_snoc' ((s.qs[wk]?).getD []) with hqn | ⟨q', x, hqx⟩
            · have HE := Lib.hid (endP_nil h2 s.dn HDL.out)
              have HQN := Lib.hid hqn
              change DqAt base W3 d X N (((s.qs[wk]?).getD []).map _) at hq
              rw [hqn] at hq
              have HDQ := Lib.hid hq
              clear hqn hq
              go_wp2_with (refine (pop_nil HDQ.out).mono ?_; rintro e w4 ⟨rfl, rfl⟩)
              go_ret
              rw [HQN.out, HE.out]
              refine ⟨rfl, col, ?_, fun _ _ => rfl, HB3.out⟩
              have := HQ.out
              rw [HQN.out] at this
              rw [this]
              exact HY3.out
            · have HE := Lib.hid (endP_pop h2 s.dn q' x HDL.out)
              have HQX := Lib.hid hqx
              change DqAt base W3 d X N (((s.qs[wk]?).getD []).map _) at hq
              rw [hqx, List.map_append] at hq
              have HDQ := Lib.hid hq
              have HD1 := Lib.hid hd1
              clear hqx hq hd1
              go_wp2_with (refine (pop_snoc HDQ.out hN).mono ?_; rintro e w4 ⟨rfl, hy4, hb4⟩; have HY4 := Lib.hid hy4; have HB4 := Lib.hid hb4; clear hy4 hb4)
              go_ret
              rw [HQX.out, HE.out]
              refine ⟨rfl, col, HY3.out.queue hwk HD1.out HX.out HB4.out HY4.out (fun _ _ => rfl) HX.out, fun _ _ => rfl, HB3.out.trans (HB4.out.sub fun b hb => ?_)⟩
              have := HX.out b hb
              unfold Yc
              omega
        · simp only [hd1] at l6
          simp only [hd2] at r6
          clear hd1 hd2
          go_wp2
          go_quiet (fail)
          clear l6 r6
          have HY3 := Lib.hid (HY2.out.below (below_drewN (Below.refl _ W2) ‹Nat›))
          have HB3 := Lib.hid (HB2.out.drewN ‹Nat›)
          have HW3 : w.heap.size ≤ (W2.drewN ‹Nat›).heap.size := HW2
          generalize W2.drewN ‹Nat› = W3 at *
          clear HY2 HB2 HW2 hlm d0 x0 x2 x3
          have d5 := HY3.out.part hp 5 rfl
          rw [(partP_up hp).2, ← HM.out] at d5
          simp only [lastB] at d5
          have d0 := HY3.out.hd.cell 0 _ rfl
          rw [← HLL.out] at d0
          cases b with
          | true =>
            have HE := Lib.hid (endP_right h2 s.dn ((s.qs[wk]?).getD []) HDL.out)
            go_wp2
            go_ret
            rw [HE.out]
            refine ⟨rfl, col, ?_, fun _ _ => rfl, HB3.out⟩
            rw [HQ.out]
            exact HY3.out
          | false =>
            obtain ⟨X, d, hd1, hq, hcx, hcd⟩ := HY3.out.deque hwk
            have c3 := HY3.out.hd.cell 3 _ rfl
            have HX := Lib.hid hcx
            clear hcx
            rcases nil_or_snoc' ((s.qs[wk]?).getD []) with hqn | ⟨q', x, hqx⟩
            · have HE := Lib.hid (endP_nil h2 s.dn HDL.out)
              have HQN := Lib.hid hqn
              change DqAt base W3 d X N (((s.qs[wk]?).getD []).map _) at hq
              rw [hqn] at hq
              have HDQ := Lib.hid hq
              clear hqn hq
              go_wp2_with (refine (pop_nil HDQ.out).mono ?_; rintro e w4 ⟨rfl, rfl⟩)
              go_ret
              rw [HQN.out, HE.out]
              refine ⟨rfl, col, ?_, fun _ _ => rfl, HB3.out⟩
              have := HQ.out
              rw [HQN.out] at this
              rw [this]
              exact HY3.out
            · have HE := Lib.hid (endP_pop h2 s.dn q' x HDL.out)
              have HQX := Lib.hid hqx
              change DqAt base W3 d X N (((s.qs[wk]?).getD []).map _) at hq
              rw [hqx, List.map_append] at hq
              have HDQ := Lib.hid hq
              have HD1 := Lib.hid hd1
              clear hqx hq hd1
              go_wp2_with (refine (pop_snoc HDQ.out hN).mono ?_; rintro e w4 ⟨rfl, hy4, hb4⟩; have HY4 := Lib.hid hy4; have HB4 := Lib.hid hb4; clear hy4 hb4)
              go_ret
              rw [HQX.out, HE.out]
              refine ⟨rfl, col, HY3.out.queue hwk HD1.out HX.out HB4.out HY4.out (fun _ _ => rfl) HX.out, fun _ _ => rfl, HB3.out.trans (HB4.out.sub fun b hb => ?_)⟩
              have := HX.out b hb
              unfold Yc
              omega
end Go.Proofs.Ytbpooepbnnbipaa
