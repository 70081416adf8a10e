/- The walks of hb.Ahead, SAhead, SameSets, and of forkwrightlaw.HbClocks. -/
import Derived.Test.YtmpononkbdfkmaaHb4
namespace Go.Proofs.Ytmpononkbdfkmaa
open Go.RowKit
set_option linter.unusedVariables false
def aheadH (l : List HEv) (i j : Int) : Bool := decide (0 ≤ i) && decide (j < l.length) && decide (i < j) && kn (evAt l i.toNat).act && kn (evAt l j.toNat).act && hr l j.toNat i.toNat
theorem RdUs.at_ {w : World} {S : Blocks} {l : List (List Nat)} {A : Option Addr} {n cap : Nat} (h : RdUs w S l (.slice A n cap)) {q : Nat} (hq : q < l.length) :
    ∃ b off v, A = some ⟨b, off, none⟩ ∧ S b ∧ w.cell? ⟨b, off + q, none⟩ = some v ∧ RdU w S l[q] v := by
  obtain ⟨b, off, cs, h1, h2, h3, h4, v, rfl, h5⟩ := RdL.at_ h hq
  exact ⟨b, off, v, h1, h2, by simpa using h4 0 v rfl, h5⟩
theorem clocksH_get (l : List HEv) {n q : Nat} (h : q < (clocksH l n).length) (hk : kn (evAt l q).act = true) : (clocksH l n)[q] = clk l (down l q) (q + 1) := by
  have hq : q < n := by rw [clocksH_len] at h; exact h
  have e : (clocksH l n)[q]? = some (if kn (evAt l q).act then clk l (down l q) (q + 1) else []) := by
    unfold clocksH
    rw [List.getElem?_map, List.getElem?_range hq]; rfl
  rw [List.getElem?_eq_getElem h] at e
  exact (Option.some.inj e).trans (if_pos hk)
set_option maxHeartbeats 1000000 in
set_option maxRecDepth 100000 in
theorem ahead_any (l : List HEv) (i j : Int) (w : World) (S : Blocks) (v : Value) (hS : Sub S (Upto w.heap.size)) (r : RdEvs w S l v) :
    Calls Try.prog 63 #[v, .int .i64 i, .int .i64 j] w fun e w' => e = .returned (.bool (aheadH l i j)) ∧ Below w.heap.size w w' := by
  obtain ⟨A, cap, rfl, hl, hcm, hby⟩ := r.form
  unfold maxLen at hcm
  have R := Lib.hid r
  clear r
  by_cases h0 : i < 0
  · have HA := Lib.hid (show aheadH l i j = false by unfold aheadH; rw [decide_eq_false (by omega)]; rfl)
    go_enter Try.func63, Try.ntmps63
    go_wp2
    go_ret
    exact ⟨by rw [HA.out]; rfl, Below.refl _ _⟩
  · obtain ⟨i, rfl⟩ := Int.eq_ofNat_of_zero_le (show 0 ≤ i by omega)
    by_cases h1 : (l.length : Int) ≤ j
    · have HA := Lib.hid (show aheadH l i j = false by unfold aheadH; rw [decide_eq_false (p := j < (l.length : Int)) (by omega)]; simp)
      go_enter Try.func63, Try.ntmps63
      go_wp2
      go_ret
      exact ⟨by rw [HA.out]; rfl, Below.refl _ _⟩
    · by_cases h2 : j ≤ (i : Int)
      · have HA := Lib.hid (show aheadH l i j = false by unfold aheadH; rw [decide_eq_false (p := (i : Int) < j) (by omega)]; simp)
        go_enter Try.func63, Try.ntmps63
        go_wp2
        go_ret
        exact ⟨by rw [HA.out]; rfl, Below.refl _ _⟩
      · obtain ⟨j, rfl⟩ := Int.eq_ofNat_of_zero_le (show 0 ≤ j by omega)
        have hjl : j < l.length := by omega
        have hil : i < l.length := by omega
        have hij : i < j := by omega
        have HA := Lib.hid (show aheadH l i j = (kn (evAt l i).act && kn (evAt l j).act && hr l j i) by
          unfold aheadH
          rw [decide_eq_true (by omega), decide_eq_true (by omega), decide_eq_true (by omega), Int.toNat_natCast, Int.toNat_natCast]; rfl)
        obtain ⟨b, off, rfl, hbS, -, hc⟩ := RdEvs.at_ R.out hil
        obtain ⟨b', off', hbo, -, -, hc'⟩ := RdEvs.at_ R.out hjl
        injection hbo with hbo
        injection hbo with hbo1 hbo2
        subst hbo1 hbo2
        rcases hev : evAt l i with ⟨k, a, ot, ce, wt, lb⟩
        rcases hev' : evAt l j with ⟨k', a', ot', ce', wt', lb'⟩
        rw [hev] at hc
        rw [hev'] at hc'
        have e1 : w.cell? ⟨b, off + i * 6 + 1, none⟩ = some (.int .i64 a) := hc 1 _ rfl
        have e1' : w.cell? ⟨b, off + j * 6 + 1, none⟩ = some (.int .i64 a') := hc' 1 _ rfl
        have HE := Lib.hid hev
        have HE' := Lib.hid hev'
        have HB : b < w.heap.size := hS _ hbS
        have b0 : (0 : Int) ≤ (i : Int) := by omega
        have b1 : (i : Int) < (l.length : Int) := by omega
        have b2 : (0 : Int) ≤ (j : Int) := by omega
        have b3 : (j : Int) < (l.length : Int) := by omega
        have b4 : ¬ (j : Int) ≤ (i : Int) := by omega
        have b5 : ¬ (l.length : Int) ≤ (j : Int) := by omega
        clear hc hc' hev hev' h1 h2
        by_cases hka : kn a = true
        · by_cases hka' : kn a' = true
          · have hci : i < (clocksH l l.length).length := by rw [clocksH_len]; exact hil
            have hcj : j < (clocksH l l.length).length := by rw [clocksH_len]; exact hjl
            go_enter Try.func63, Try.ntmps63
            go_wp2_with fail
            refine (known_any a _).mono ?_
            rintro e w' ⟨rfl, rfl⟩
            rw [hka]
            go_wp2_with fail
            refine (known_any a' _).mono ?_
            rintro e w' ⟨rfl, rfl⟩
            rw [hka']
            go_wp2_with fail
            refine (clocks_any l _ S _ hS R.out).mono ?_
            rintro e w1 ⟨x, rfl, hx, hb1⟩
            obtain ⟨Ax, cx, rfl, _⟩ := hx.form
            obtain ⟨bx, ox, vi, rfl, _, x1, r1⟩ := RdUs.at_ hx hci
            obtain ⟨by', oy, vj, hbo, _, x2, r2⟩ := RdUs.at_ hx hcj
            injection hbo with hbo
            injection hbo with hbo1 hbo2
            subst hbo1 hbo2
            rw [clocksH_get l hci (by rw [HE.out]; exact hka)] at r1
            rw [clocksH_get l hcj (by rw [HE'.out]; exact hka')] at r2
            have x3 := (hb1.cell (p := ⟨b, off + i * 6 + 1, none⟩) HB).trans e1
            have x4 := (hb1.cell (p := ⟨b, off + j * 6 + 1, none⟩) HB).trans e1'
            have HC := Lib.hid (show decide (hand (clk l (down l i) (i + 1)) a ≤ hand (clk l (down l j) (j + 1)) a) = hr l j i by
              have := ahead_clk (l := l) hij (by rw [HE.out]; exact hka) (by rw [HE'.out]; exact hka')
              rw [HE.out] at this
              exact this)
            have HLn := Lib.hid (clocksH_len l l.length)
            rw [HLn.out]
            have R1 := Lib.hid r1
            have R2 := Lib.hid r2
            generalize clk l (down l i) (i + 1) = ci at *
            generalize clk l (down l j) (j + 1) = cj at *
            have HKA := Lib.hid hka
            have HKA' := Lib.hid hka'
            clear hx hci hcj r1 r2 e1 e1' hka hka'
            have Q1 := Lib.hid (show ∀ n, Calls Try.prog 20 #[vi, .int .i64 a] (w1.drewN n) fun e w'' => e = .returned (.int .u64 (hand ci a)) ∧ ∃ m, w'' = w1.drewN m from fun n =>
              Calls.quiet_of_same ((at_any ci a _ _ vi (R1.out.go Flat.keeps (below_drewN (Below.refl _ _) n) (Sub.plus_to (Sub.nowhere (Upto w1.heap.size)) (Nat.le_refl _) (Nat.le_refl _)) (Sub.refl _))).mono fun e w' h => ⟨h.1, h.2.symm⟩))
            have Q2 := Lib.hid (show ∀ n, Calls Try.prog 20 #[vj, .int .i64 a] (w1.drewN n) fun e w'' => e = .returned (.int .u64 (hand cj a)) ∧ ∃ m, w'' = w1.drewN m from fun n =>
              Calls.quiet_of_same ((at_any cj a _ _ vj (R2.out.go Flat.keeps (below_drewN (Below.refl _ _) n) (Sub.plus_to (Sub.nowhere (Upto w1.heap.size)) (Nat.le_refl _) (Nat.le_refl _)) (Sub.refl _))).mono fun e w' h => ⟨h.1, h.2.symm⟩))
            go_wp2
            go_quiet (first | (go_at_call_of 20 vi; with_reducible exact Q1.out _) | (go_at_call_of 20 vj; with_reducible exact Q2.out _))
            go_wp2
            go_ret
            exact ⟨by rw [HA.out, HE.out, HE'.out]; simp only [HKA.out, HKA'.out, Bool.true_and]; rw [← HC.out]; rfl, below_drewN hb1 _⟩
          · have hka0 : kn a' = false := by simpa using hka'
            have HZ := Lib.hid (show aheadH l i j = false by rw [HA.out, HE.out, HE'.out]; simp [hka0])
            clear hka'
            go_enter Try.func63, Try.ntmps63
            go_wp2_with fail
            refine (known_any a _).mono ?_
            rintro e w' ⟨rfl, rfl⟩
            rw [hka]
            go_wp2_with fail
            refine (known_any a' _).mono ?_
            rintro e w' ⟨rfl, rfl⟩
            rw [hka0]
            go_wp2
            go_ret
            exact ⟨by rw [HZ.out]; rfl, Below.refl _ _⟩
        · have hka0 : kn a = false := by simpa using hka
          have HZ := Lib.hid (show aheadH l i j = false by rw [HA.out, HE.out, HE'.out]; simp [hka0])
          clear hka
          go_enter Try.func63, Try.ntmps63
          go_wp2_with fail
          refine (known_any a _).mono ?_
          rintro e w' ⟨rfl, rfl⟩
          rw [hka0]
          go_wp2
          go_ret
          exact ⟨by rw [HZ.out]; rfl, Below.refl _ _⟩

set_option maxHeartbeats 1000000 in
set_option maxRecDepth 100000 in
theorem sahead_any (l : List HEv) (i j : Int) (w : World) (S : Blocks) (v : Value) (hS : Sub S (Upto w.heap.size)) (r : RdEvs w S l v) :
    Calls Try.prog 64 #[v, .int .i64 i, .int .i64 j] w fun e w' => e = .returned (.bool (aheadH l i j)) ∧ Below w.heap.size w w' := by
  obtain ⟨A, cap, rfl, hl, hcm, hby⟩ := r.form
  unfold maxLen at hcm
  have R := Lib.hid r
  clear r
  by_cases h0 : i < 0
  · have HA := Lib.hid (show aheadH l i j = false by unfold aheadH; rw [decide_eq_false (by omega)]; rfl)
    go_enter Try.func64, Try.ntmps64
    go_wp2
    go_ret
    exact ⟨by rw [HA.out]; rfl, Below.refl _ _⟩
  · obtain ⟨i, rfl⟩ := Int.eq_ofNat_of_zero_le (show 0 ≤ i by omega)
    by_cases h1 : (l.length : Int) ≤ j
    · have HA := Lib.hid (show aheadH l i j = false by unfold aheadH; rw [decide_eq_false (p := j < (l.length : Int)) (by omega)]; simp)
      go_enter Try.func64, Try.ntmps64
      go_wp2
      go_ret
      exact ⟨by rw [HA.out]; rfl, Below.refl _ _⟩
    · by_cases h2 : j ≤ (i : Int)
      · have HA := Lib.hid (show aheadH l i j = false by unfold aheadH; rw [decide_eq_false (p := (i : Int) < j) (by omega)]; simp)
        go_enter Try.func64, Try.ntmps64
        go_wp2
        go_ret
        exact ⟨by rw [HA.out]; rfl, Below.refl _ _⟩
      · obtain ⟨j, rfl⟩ := Int.eq_ofNat_of_zero_le (show 0 ≤ j by omega)
        have hjl : j < l.length := by omega
        have hil : i < l.length := by omega
        have hij : i < j := by omega
        have HA := Lib.hid (show aheadH l i j = (kn (evAt l i).act && kn (evAt l j).act && hr l j i) by
          unfold aheadH
          rw [decide_eq_true (by omega), decide_eq_true (by omega), decide_eq_true (by omega), Int.toNat_natCast, Int.toNat_natCast]; rfl)
        obtain ⟨b, off, rfl, hbS, -, hc⟩ := RdEvs.at_ R.out hil
        obtain ⟨b', off', hbo, -, -, hc'⟩ := RdEvs.at_ R.out hjl
        injection hbo with hbo
        injection hbo with hbo1 hbo2
        subst hbo1 hbo2
        rcases hev : evAt l i with ⟨k, a, ot, ce, wt, lb⟩
        rcases hev' : evAt l j with ⟨k', a', ot', ce', wt', lb'⟩
        rw [hev] at hc
        rw [hev'] at hc'
        have e1 : w.cell? ⟨b, off + i * 6 + 1, none⟩ = some (.int .i64 a) := hc 1 _ rfl
        have e1' : w.cell? ⟨b, off + j * 6 + 1, none⟩ = some (.int .i64 a') := hc' 1 _ rfl
        have HE := Lib.hid hev
        have HE' := Lib.hid hev'
        have HB : b < w.heap.size := hS _ hbS
        have b0 : (0 : Int) ≤ (i : Int) := by omega
        have b1 : (i : Int) < (l.length : Int) := by omega
        have b2 : (0 : Int) ≤ (j : Int) := by omega
        have b3 : (j : Int) < (l.length : Int) := by omega
        have b4 : (i : Int) < (j : Int) := by omega
        clear hc hc' hev hev' h1 h2
        by_cases hka : kn a = true
        · by_cases hka' : kn a' = true
          · skip
            go_enter Try.func64, Try.ntmps64
            go_wp2_with fail
            refine (scount_any a _).mono ?_
            rintro e w' ⟨rfl, rfl⟩
            rw [hka]
            go_wp2_with fail
            refine (scount_any a' _).mono ?_
            rintro e w' ⟨rfl, rfl⟩
            rw [hka']
            go_wp2_with fail
            refine (sreach_any l _ S _ hS R.out).mono ?_
            rintro e w1 ⟨g, gs, rfl, hgl, M, hb1⟩
            obtain ⟨gj, hgj⟩ : ∃ gj, gs[j]? = some gj := ⟨gs[j]'(by omega), List.getElem?_eq_getElem _⟩
            have a0 := M.at_ hgj
            have a1 := M.at2 hgj hil
            have HKA := Lib.hid hka
            have HKA' := Lib.hid hka'
            clear hgl M hgj hka hka' e1 e1'
            go_wp2
            go_ret
            exact ⟨by rw [HA.out, HE.out, HE'.out]; simp only [HKA.out, HKA'.out, Bool.true_and]; rfl, hb1⟩
          · have hka0 : kn a' = false := by simpa using hka'
            have HZ := Lib.hid (show aheadH l i j = false by rw [HA.out, HE.out, HE'.out]; simp [hka0])
            clear hka'
            go_enter Try.func64, Try.ntmps64
            go_wp2_with fail
            refine (scount_any a _).mono ?_
            rintro e w' ⟨rfl, rfl⟩
            rw [hka]
            go_wp2_with fail
            refine (scount_any a' _).mono ?_
            rintro e w' ⟨rfl, rfl⟩
            rw [hka0]
            go_wp2
            go_ret
            exact ⟨by rw [HZ.out]; rfl, Below.refl _ _⟩
        · have hka0 : kn a = false := by simpa using hka
          have HZ := Lib.hid (show aheadH l i j = false by rw [HA.out, HE.out, HE'.out]; simp [hka0])
          clear hka
          go_enter Try.func64, Try.ntmps64
          go_wp2_with fail
          refine (scount_any a _).mono ?_
          rintro e w' ⟨rfl, rfl⟩
          rw [hka0]
          go_wp2
          go_ret
          exact ⟨by rw [HZ.out]; rfl, Below.refl _ _⟩

set_option maxHeartbeats 400000 in
theorem sameSets1_any (c : List Nat) (w : World) (v u : Value) (r : RdU w (Upto w.heap.size) c v) (r' : RdU w (Upto w.heap.size) c u) :
    Calls Try.prog 100 #[v, u] w fun e w' => e = .returned (.bool true) ∧ Below w.heap.size w w' := by
  have R := Lib.hid r
  have R' := Lib.hid r'
  clear r r'
  go_enter Try.func100, Try.ntmps100
  go_wp2_with fail
  refine (equalU c _ _ _ _ _ (Sub.refl _) (Sub.refl _) R.out R'.out).mono ?_
  rintro e w1 ⟨rfl, hb⟩
  go_wp2
  go_ret
  exact ⟨rfl, hb⟩
set_option maxHeartbeats 1000000 in
set_option maxRecDepth 100000 in
theorem equalFuncUs (L : List (List Nat)) (w : World) (v u : Value) (r : RdUs w (Upto w.heap.size) L v) (r' : RdUs w (Upto w.heap.size) L u) :
    Calls Try.prog 99 #[v, u, .func (.func 100) #[] #[]] w fun e w' => e = .returned (.bool true) ∧ Below w.heap.size w w' := by
  obtain ⟨A, cap, rfl, hl, hcm, hby⟩ := r.form
  obtain ⟨A', cap', rfl, hl', hcm', _⟩ := r'.form
  unfold maxLen at hcm hcm'
  have R := Lib.hid r
  have R' := Lib.hid r'
  clear r r'
  go_enter Try.func99, Try.ntmps99
  go_wp2
  go_loopw [17] (fun t wr => ∃ q : Nat, q ≤ L.length ∧ t = .int .i64 q ∧ Below w.heap.size w wr) (fun t _ => L.length - (intOf t).toNat)
  case atStart => exact ⟨0, by omega, rfl, Below.refl _ _⟩
  case round =>
    obtain ⟨q, hq, rfl, hb⟩ := hrel
    by_cases hlt : q < L.length
    · obtain ⟨b, off, x, rfl, _, c0, r1⟩ := RdUs.at_ (R.out.go rdU1_keeps hb (Sub.refl _) (Sub.upto hb.size)) hlt
      obtain ⟨b', off', y, rfl, _, c1, r2⟩ := RdUs.at_ (R'.out.go rdU1_keeps hb (Sub.refl _) (Sub.upto hb.size)) hlt
      have R1 := Lib.hid r1
      have R2 := Lib.hid r2
      have hq1 : (q : Int) < (L.length : Int) := by omega
      have hq0 : (0 : Int) ≤ (q : Int) := by omega
      clear r1 r2
      go_wp2_with fail
      refine (sameSets1_any L[q] _ x y R1.out R2.out).mono ?_
      rintro e w1 ⟨rfl, hb1⟩
      have hb2 := hb.trans (hb1.mono hb.size)
      clear R1 R2 c0 c1 hb1
      go_wp2
      go_roundw
      case rel => exact ⟨q + 1, by omega, by go_num, hb2⟩
      case measure => simp [intOf]; omega
    · go_wp2
      go_ret
      exact ⟨rfl, hb⟩
set_option maxHeartbeats 400000 in
theorem sameSets_any (L : List (List Nat)) (w : World) (v u : Value) (r : RdUs w (Upto w.heap.size) L v) (r' : RdUs w (Upto w.heap.size) L u) :
    Calls Try.prog 60 #[v, u] w fun e w' => e = .returned (.bool true) ∧ Below w.heap.size w w' := by
  have c := Lib.hid (equalFuncUs L w v u r r')
  clear r r'
  go_enter Try.func60, Try.ntmps60
  go_wp2_with (go_at_call 99; refine c.out.mono ?_; rintro e w1 ⟨rfl, hb⟩)
  go_ret
  exact ⟨rfl, hb⟩
set_option maxHeartbeats 600000 in
theorem hbClocks_walk (l : List HEv) (i j : Int) (w : World) (v : Value) (r : RdEvs w (Upto w.heap.size) l v) :
    Calls Try.prog 12 #[v, .int .i64 i, .int .i64 j] w fun e w' => e = .returned (.bool true) ∧ Below w.heap.size w w' := by
  have R := Lib.hid r
  have go : ∀ w' v, Below w.heap.size w w' → RdEvs w (Upto w.heap.size) l v → RdEvs w' (Upto w'.heap.size) l v := fun w' v hb h => h.go Flat.keeps hb (Sub.refl _) (Sub.upto hb.size)
  have GO := Lib.hid go
  clear r go
  go_enter Try.func12, Try.ntmps12
  go_wp2_with fail
  refine (clocks_any l _ _ _ (Sub.refl _) R.out).mono ?_
  rintro e w1 ⟨v1, rfl, h1, b1⟩
  have K1 := Lib.hid h1
  clear h1
  go_wp2_with fail
  refine (sclocks_any l _ _ _ (Sub.refl _) (GO.out _ _ b1 R.out)).mono ?_
  rintro e w2 ⟨v2, rfl, h2, b2⟩
  have b12 := b1.trans (b2.mono b1.size)
  go_wp2_with fail
  refine (sameSets_any (clocksH l l.length) _ _ _ (K1.out.go rdU1_keeps b2 (Sub.plus_to (Sub.nowhere (Upto w1.heap.size)) (Nat.le_refl _) (Nat.le_refl _)) (Sub.plus_to (Sub.nowhere (Upto w2.heap.size)) (Nat.le_refl _) b2.size)) (h2.sub rdU1_keeps (Sub.plus_to (Sub.nowhere (Upto w2.heap.size)) (Nat.le_refl _) (Nat.le_refl _)))).mono ?_
  rintro e w3 ⟨rfl, b3⟩
  have b13 := b12.trans (b3.mono b12.size)
  clear h2 K1 b1 b2 b3 b12
  go_wp2_with fail
  refine (ahead_any l i j _ _ _ (Sub.refl _) (GO.out _ _ b13 R.out)).mono ?_
  rintro e w4 ⟨rfl, b4⟩
  have b14 := b13.trans (b4.mono b13.size)
  go_wp2_with fail
  refine (sahead_any l i j _ _ _ (Sub.refl _) (GO.out _ _ b14 R.out)).mono ?_
  rintro e w5 ⟨rfl, b5⟩
  have b15 := b14.trans (b5.mono b14.size)
  clear b13 b4 b14 b5
  generalize aheadH l i j = x
  go_wp2_with fail
  all_goals go_ret
  all_goals exact ⟨rfl, b15⟩
end Go.Proofs.Ytmpononkbdfkmaa
