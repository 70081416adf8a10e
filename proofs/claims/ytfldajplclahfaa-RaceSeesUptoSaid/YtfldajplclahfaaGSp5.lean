/- Texts merged: Mk3, Bf1, Sp5. -/
import Derived.Test.YtfldajplclahfaaMk2
import Derived.Test.YtfldajplclahfaaAppZ
import Derived.Test.YtfldajplclahfaaGSp4
/- The walks of sp.Marks and sp.Before. -/
namespace Go.Proofs.Ytfldajplclahfaa
open Go.RowKit
set_option linter.unusedVariables false
theorem infoPair : (Try.prog.info? 30).map (fun i => (i.zero, i.size, i.bytes)) = some (some (.agg #[.int .i64 0, .int .i64 0]), 2, 16) := by kernel_rfl
theorem zipP_ok (b : Nat) (l : List Nat) (M : Nat) (hM : M ≤ 9223372036854775807) (hb : b + l.length ≤ M) (hl : ∀ (i x : Nat), l[i]? = some x → x ≤ M) : ∀ y ∈ zipP b l, okPr y := by
  induction l generalizing b with
  | nil => intro y hy; simp [zipP] at hy
  | cons p r ih =>
    intro y hy
    simp only [zipP, List.mem_cons] at hy
    rcases hy with rfl | hy
    · have := hl 0 p rfl
      refine ⟨⟨?_, ?_⟩, ⟨?_, ?_⟩⟩ <;> (dsimp only; simp at hb; omega)
    · exact ih (b + 1) (by simp at hb; omega) (fun i x h => hl (i + 1) x (by simpa using h)) y hy
theorem Tm.marks_ok (t : Tm) (h : t.count ≤ 1048576) : ∀ y ∈ t.marks, okPr y :=
  zipP_ok 0 _ 1048576 (by decide) (by rw [Tm.pos_len]; omega) (fun i x hx => by have := Tm.pos_bd t 0 i x hx; omega)
set_option maxHeartbeats 1000000 in
set_option maxRecDepth 100000 in
theorem marks_any (t : Tm) (w : World) (S : Blocks) (V : Value) (hS : Sub S (Upto w.heap.size)) (r : RdT w S t V) (hl : t.count ≤ 1048576) :
    Calls Try.prog 29 #[V] w fun e w' => ∃ x, e = .returned x ∧ Fr encP okPr 2 16 w' t.marks x ∧ Below w.heap.size w w' := by
  obtain ⟨i0, hi, hz0, hz1, hz2⟩ := info_parts infoPair
  obtain ⟨n, hn⟩ : ∃ n, n = t.leaves.length := ⟨_, rfl⟩
  have hnc : n = t.count := hn
  have hmk := fun w => run_makeN (P := Try.prog) 27 30 i0 _ (zc := #[.int .i64 0, .int .i64 0]) Try.underlying27 hi hz0 hz1 rfl n (by rw [hz2]; omega) (by omega) w
  obtain ⟨k, c, wr, lb, kids, v, et, rfl, h1, h2, h3, h4⟩ := id r
  obtain ⟨A1, n1, rfl, _⟩ := h4.form
  have bel : Below w.heap.size w (w.alloc (.cells #[.int .i64 k, .int .i64 c, .bool wr, .int .i64 lb, .slice A1 kids.length n1] 26)) := (Below.refl _ _).alloc (Nat.le_refl _) _
  have BEL := Lib.hid bel
  have RA := Lib.hid (r.go bel hS)
  have BB := Lib.hid ((Blk.made w [.int .i64 k, .int .i64 c, .bool wr, .int .i64 lb, .slice A1 kids.length n1] 26 (base := 0) (Nat.zero_le _)))
  have hsz : (w.alloc (.cells #[.int .i64 k, .int .i64 c, .bool wr, .int .i64 lb, .slice A1 kids.length n1] 26)).heap.size = w.heap.size + 1 := by simp
  have HS := Lib.hid hS
  have HNC := Lib.hid hnc
  have HN := Lib.hid hn
  unfold tmV
  clear bel r h4 et h1 h2 h3 hS hn hnc
  go_enter Try.func29, Try.ntmps29
  go_wp2_with fail
  generalize w.alloc (.cells #[.int .i64 k, .int .i64 c, .bool wr, .int .i64 lb, .slice A1 kids.length n1] 26) = W at *
  obtain ⟨z, hz⟩ : ∃ z, z = w.heap.size := ⟨_, rfl⟩
  rw [← hz] at BB hsz
  have hzz1 := Nat.le_of_eq hz
  have hzz2 := Nat.le_of_eq hz.symm
  have hW1 := Nat.le_of_eq hsz
  have hW2 := Nat.le_of_eq hsz.symm
  rw [← hz]
  clear hz hsz
  refine (leaves_any t W S _ (HS.out.trans (Sub.upto (by omega))) RA.out hl).mono ?_
  rintro e w1 ⟨x, rfl, hx, hb1⟩
  obtain ⟨A2, n2, rfl, -, -, -⟩ := hx.form
  rw [← HN.out]
  have hs1 := hb1.size
  have B1 := Lib.hid (BB.out.below hb1)
  have RA1 := Lib.hid (RA.out.go hb1 (HS.out.trans (Sub.upto (by omega))))
  have BEL1 := Lib.hid (BEL.out.trans (hb1.mono (by omega)))
  clear hx hb1 RA BB BEL
  have hzl := B1.out.lt
  go_upto_region 2 with (fail)
  have R0 := RowAt.made (enc := encP) (size := 2) (base := w1.heap.size) w1 n ((0, 0) : Int × Int) 30 (z := #[.int .i64 0, .int .i64 0]) rfl rfl (by omega) (Nat.le_refl _)
  have M0 := Blk.made (w1.alloc (.cells (madeCells #[.int .i64 0, .int .i64 0] (n * 2)) 30)) [.int .i64 0, .slice (some ⟨w1.heap.size, 0, none⟩) n n, .int .i64 0] 75 (base := w1.heap.size) (by simp)
  rw [World.size_alloc] at M0
  have hbb : Below w1.heap.size w1 ((w1.alloc (.cells (madeCells #[.int .i64 0, .int .i64 0] (n * 2)) 30)).alloc (.cells #[.int .i64 0, .slice (some ⟨w1.heap.size, 0, none⟩) n n, .int .i64 0] 75)) := ((Below.refl _ _).alloc (Nat.le_refl _) _).alloc (by simp) _
  have MK := Lib.hid (show MkAt w1.heap.size ((w1.alloc (.cells (madeCells #[.int .i64 0, .int .i64 0] (n * 2)) 30)).alloc (.cells #[.int .i64 0, .slice (some ⟨w1.heap.size, 0, none⟩) n n, .int .i64 0] 75)) (w1.heap.size + 1) w1.heap.size n 0 0 (List.replicate n (0, 0)) from
    ⟨M0, R0.below ((Below.refl _ _).alloc (Nat.le_refl _) _), by simp, by omega, by have := HNC.out; omega⟩)
  have RA2 := Lib.hid (RA1.out.go hbb (HS.out.trans (Sub.upto (by omega))))
  have B2 := Lib.hid (B1.out.below hbb)
  have BEL2 := Lib.hid (BEL1.out.trans (hbb.mono (by omega)))
  have hs2 := hbb.size
  clear R0 M0 hbb RA1 B1 BEL1
  generalize (w1.alloc (.cells (madeCells #[.int .i64 0, .int .i64 0] (n * 2)) 30)).alloc (.cells #[.int .i64 0, .slice (some ⟨w1.heap.size, 0, none⟩) n n, .int .i64 0] 75) = W2 at *
  have c0 := B2.out.cell 0 _ rfl
  have c1 := B2.out.cell 1 _ rfl
  have c2 := B2.out.cell 2 _ rfl
  have c3 := B2.out.cell 3 _ rfl
  have c4 := B2.out.cell 4 _ rfl
  go_wp2_with fail
  refine (mtells_all t w1.heap.size W2 (w1.heap.size + 1) w1.heap.size n 0 0 _ S _ MK.out (by have := HNC.out; omega) (by omega) RA2.out (HS.out.trans (Sub.upto (by omega)))).mono ?_
  rintro e w3 ⟨rfl, bs, hm, hk⟩
  have hs3 := hk.size
  rw [mkOut_all _ _ (by rw [List.length_replicate]; exact HNC.out)] at hm
  have d1 := hm.1.cell 1 _ rfl
  have hg := hm.2.1.lt
  have hln := hm.2.2.1
  have hnn : n ≤ 1048576 := by have := HNC.out; omega
  have FR := Lib.hid (show Fr encP okPr 2 16 w3 t.marks (.slice (some ⟨w1.heap.size, 0, none⟩) n n) by
    have := Fr.of (hm.2.1.toRd (ok := okPr) (bytes := 16) (c := n) (S := Is w1.heap.size) encP_len (Tm.marks_ok t hl) rfl (by omega) (by unfold maxLen; omega) (by omega)) (fun b hb => by unfold Is at hb; subst hb; exact hg)
    rwa [hln] at this)
  have FIN := Lib.hid (BEL2.out.trans (hk.below (B := w.heap.size) (by omega) (fun k e => by rcases e with e | e <;> omega)))
  clear hm hk c0 c1 c2 c3 c4 hln
  go_wp2
  go_ret
  exact ⟨_, rfl, FR.out, FIN.out⟩
end Go.Proofs.Ytfldajplclahfaa
/- The walk of sp.Before. -/
namespace Go.Proofs.Ytfldajplclahfaa
open Go.RowKit
set_option linter.unusedVariables false
/-- is leaf i ahead of leaf j, whatever numbers they are? -/
def befB (t : Tm) (i j : Int) : Bool := decide (0 ≤ i ∧ 0 ≤ j ∧ i < t.count ∧ j < t.count) && t.ahead i.toNat j.toNat
theorem befB_out {t : Tm} {i j : Int} (h : i < 0 ∨ j < 0 ∨ (t.count : Int) ≤ i ∨ (t.count : Int) ≤ j) : befB t i j = false := by
  unfold befB
  rw [decide_eq_false (by omega)]; rfl
theorem befB_in {t : Tm} {i j : Nat} (hi : i < t.count) (hj : j < t.count) : befB t i j = (decide (i < j) && decide (t.p i < t.p j)) := by
  unfold befB
  rw [decide_eq_true (by omega), Bool.true_and, Int.toNat_natCast, Int.toNat_natCast]
  have h := Tm.ahead_pos t 0 i j _ _ (Tm.p_get t hi) (Tm.p_get t hj)
  rw [Bool.eq_iff_iff, h]
  simp
theorem Fr.at1P {w : World} {l : List (Int × Int)} {A : Option Addr} {n cap : Nat} (h : Fr encP okPr 2 16 w l (.slice A n cap)) {q : Nat} {x : Int × Int} (hq : l[q]? = some x) :
    ∃ b off, A = some ⟨b, off, none⟩ ∧ b < w.heap.size ∧ w.cell? ⟨b, off + q * 2, none⟩ = some (.int .i64 x.1) ∧ w.cell? ⟨b, off + q * 2 + 1, none⟩ = some (.int .i64 x.2) := by
  obtain ⟨T, hT, r⟩ := h
  have hl := (List.getElem?_eq_some_iff.1 hq).1
  have he := (List.getElem?_eq_some_iff.1 hq).2
  obtain ⟨b, off, h1, h2, _, h4, h5⟩ := RdP.at1 r hl
  rw [he] at h4 h5
  exact ⟨b, off, h1, hT _ h2, h4, h5⟩
set_option maxHeartbeats 1000000 in
set_option maxRecDepth 100000 in
theorem before_any (t : Tm) (i j : Int) (w : World) (S : Blocks) (V : Value) (hS : Sub S (Upto w.heap.size)) (r : RdT w S t V) (hl : t.count ≤ 1048576) :
    Calls Try.prog 30 #[V, .int .i64 i, .int .i64 j] w fun e w' => e = .returned (.bool (befB t i j)) ∧ Below w.heap.size w w' := by
  obtain ⟨k, c, wr, lb, kids, v, et, rfl, h1, h2, h3, h4⟩ := id r
  obtain ⟨A1, n1, rfl, _⟩ := h4.form
  have bel : Below w.heap.size w (w.alloc (.cells #[.int .i64 k, .int .i64 c, .bool wr, .int .i64 lb, .slice A1 kids.length n1] 26)) := (Below.refl _ _).alloc (Nat.le_refl _) _
  have BEL := Lib.hid bel
  have RA := Lib.hid (r.go bel hS)
  have hsz : w.heap.size ≤ (w.alloc (.cells #[.int .i64 k, .int .i64 c, .bool wr, .int .i64 lb, .slice A1 kids.length n1] 26)).heap.size := by simp
  have HM := Lib.hid (Tm.marks_len t)
  have HS := Lib.hid hS
  unfold tmV
  clear h4 bel r et h1 h2 h3 hS
  go_enter Try.func30, Try.ntmps30
  go_wp2_with fail
  generalize w.alloc (.cells #[.int .i64 k, .int .i64 c, .bool wr, .int .i64 lb, .slice A1 kids.length n1] 26) = W at *
  refine (marks_any t W S _ (HS.out.trans (Sub.upto hsz)) RA.out hl).mono ?_
  rintro e w1 ⟨x, rfl, hx, hb1⟩
  have X1 := Lib.hid hx
  have FIN := Lib.hid (BEL.out.trans (hb1.mono hsz))
  obtain ⟨A2, n2, rfl, hn2, hn2m, -⟩ := hx.form
  unfold maxLen at hn2m
  clear hx hb1 RA BEL
  rw [HM.out] at *
  go_upto_region 2 with (fail)
  by_cases hout : i < 0 ∨ j < 0 ∨ (t.count : Int) ≤ i ∨ (t.count : Int) ≤ j
  · have HB := Lib.hid (befB_out hout)
    by_cases c1 : i < 0
    · clear hout
      go_wp2
      go_ret
      exact ⟨by rw [HB.out]; rfl, FIN.out⟩
    · by_cases c2 : j < 0
      · clear hout
        go_wp2
        go_ret
        exact ⟨by rw [HB.out]; rfl, FIN.out⟩
      · by_cases c3 : (t.count : Int) ≤ i
        · clear hout
          go_wp2
          go_ret
          exact ⟨by rw [HB.out]; rfl, FIN.out⟩
        · have c4 : (t.count : Int) ≤ j := by omega
          clear hout
          go_wp2
          go_ret
          exact ⟨by rw [HB.out]; rfl, FIN.out⟩
  · obtain ⟨i, rfl⟩ := Int.eq_ofNat_of_zero_le (show 0 ≤ i by omega)
    obtain ⟨j, rfl⟩ := Int.eq_ofNat_of_zero_le (show 0 ≤ j by omega)
    have hi : i < t.count := by omega
    have hj : j < t.count := by omega
    have mi : t.marks[i]? = some ((i : Int), (t.p i : Int)) := by have := zipP_get 0 _ _ _ (Tm.p_get t hi); rw [Nat.zero_add] at this; exact this
    have mj : t.marks[j]? = some ((j : Int), (t.p j : Int)) := by have := zipP_get 0 _ _ _ (Tm.p_get t hj); rw [Nat.zero_add] at this; exact this
    obtain ⟨b, off, hA, hbl, ci0, ci1⟩ := X1.out.at1P mi
    obtain ⟨b', off', hA', _, cj0, cj1⟩ := X1.out.at1P mj
    subst hA
    injection hA' with hA'
    injection hA' with e1 e2
    subst e1 e2
    dsimp only at ci0 ci1 cj0 cj1
    have HB := Lib.hid (befB_in hi hj)
    have hi0 : (0 : Int) ≤ (i : Int) := by omega
    have hj0 : (0 : Int) ≤ (j : Int) := by omega
    have hi1 : (i : Int) < (t.count : Int) := by omega
    have hj1 : (j : Int) < (t.count : Int) := by omega
    clear mi mj hout
    by_cases hij : i < j
    · have hd : decide ((i : Int) < (j : Int)) = true := by simp; omega
      go_wp2
      go_quiet (fail)
      go_wp2
      go_ret
      refine ⟨?_, below_drewN FIN.out _⟩
      rw [HB.out]
      simp [hij]
    · have hd : decide ((i : Int) < (j : Int)) = false := by simp; omega
      go_wp2
      go_quiet (fail)
      go_wp2
      go_ret
      refine ⟨?_, below_drewN FIN.out _⟩
      rw [HB.out]
      simp [hij]
end Go.Proofs.Ytfldajplclahfaa
/- The walk of the reference's Both. -/
namespace Go.Proofs.Ytfldajplclahfaa
open Go.RowKit
set_option linter.unusedVariables false
abbrev tm0 : Value := .agg #[.int .i64 0, .int .i64 0, .bool false, .int .i64 0, .slice none 0 0]
set_option maxHeartbeats 1000000 in
set_option maxRecDepth 100000 in
theorem both_none (t : Tm) (ht : t.two = none) (w : World) (S : Blocks) (V : Value) (r : RdT w S t V) :
    Calls Try.prog 38 #[V] w fun e w' => e = .returned (.tuple #[tm0, tm0, .bool false]) ∧ Below w.heap.size w w' := by
  obtain ⟨k, c, wr, lb, kids, v, rfl, rfl, _, _, _, h4⟩ := r
  obtain ⟨A, cap, rfl, hc1, hc2, hc3⟩ := h4.form
  have hn := Tm.two_none ht
  simp only [Tm.kind, Tm.kids] at hn
  unfold maxLen at hc2
  unfold tmV tm0
  clear h4 ht
  by_cases h2 : k = 2
  · subst h2
    have hk2 : kids.length < 2 := by omega
    clear hn
    go_enter Try.func38, Try.ntmps38
    go_wp2
    exact bodyPost_ret (v := .tuple #[.agg #[.int .i64 0, .int .i64 0, .bool false, .int .i64 0, .slice none 0 0], .agg #[.int .i64 0, .int .i64 0, .bool false, .int .i64 0, .slice none 0 0], .bool false]) (by simp [results, Try.results38, go_sem]) rfl ⟨rfl, (((Below.refl _ _).alloc (Nat.le_refl _) _).alloc (by simp) _).alloc (by simp; omega) _⟩
  · by_cases h3 : k = 3
    · subst h3
      have hk2 : kids.length < 2 := by omega
      clear hn
      go_enter Try.func38, Try.ntmps38
      go_wp2
      exact bodyPost_ret (v := .tuple #[.agg #[.int .i64 0, .int .i64 0, .bool false, .int .i64 0, .slice none 0 0], .agg #[.int .i64 0, .int .i64 0, .bool false, .int .i64 0, .slice none 0 0], .bool false]) (by simp [results, Try.results38, go_sem]) rfl ⟨rfl, (((Below.refl _ _).alloc (Nat.le_refl _) _).alloc (by simp) _).alloc (by simp; omega) _⟩
    · have e2 : (k != 2) = true := by simpa using h2
      have e3 : (k != 3) = true := by simpa using h3
      clear hn h2 h3
      go_enter Try.func38, Try.ntmps38
      go_wp2
      exact bodyPost_ret (v := .tuple #[.agg #[.int .i64 0, .int .i64 0, .bool false, .int .i64 0, .slice none 0 0], .agg #[.int .i64 0, .int .i64 0, .bool false, .int .i64 0, .slice none 0 0], .bool false]) (by simp [results, Try.results38, go_sem]) rfl ⟨rfl, (((Below.refl _ _).alloc (Nat.le_refl _) _).alloc (by simp) _).alloc (by simp; omega) _⟩
set_option maxHeartbeats 1000000 in
set_option maxRecDepth 100000 in
theorem both_two (t : Tm) (p : Bool) (a b : Tm) (ht : t.two = some (p, a, b)) (w : World) (S : Blocks) (V : Value) (hS : Sub S (Upto w.heap.size)) (r : RdT w S t V) :
    Calls Try.prog 38 #[V] w fun e w' => (∃ Va Vb, e = .returned (.tuple #[Va, Vb, .bool true]) ∧ RdT w' S a Va ∧ RdT w' S b Vb) ∧ Below w.heap.size w w' := by
  obtain ⟨k, c, wr, lb, kids, v, rfl, rfl, _, _, _, hkids⟩ := r
  obtain ⟨hkk, r', hr'⟩ := Tm.two_kind ht
  simp only [Tm.kind, Tm.kids] at hkk hr'
  subst hr'
  obtain ⟨A, cap, rfl, hcl, hcm, _⟩ := hkids.form
  have hl2 : 2 ≤ (a :: b :: r').length := by simp
  obtain ⟨b0, off, k0, c0, wr0, lb0, v0, rfl, hsb, x0, x1, x2, x3, x4, ra⟩ := RdTms.kid hkids (q := 0) (by simp)
  obtain ⟨b0', off', k1, c1, wr1, lb1, v1, hA, hsb', y0, y1, y2, y3, y4, rb⟩ := RdTms.kid hkids (q := 1) (by simp)
  injection hA with hA
  injection hA with e1 e2
  subst e1 e2
  simp only [List.getElem_cons_zero, List.getElem_cons_succ] at ra rb
  rw [Nat.zero_mul, Nat.add_zero] at x0 x1 x2 x3 x4
  rw [Nat.one_mul] at y0 y1 y2 y3 y4
  have RA := Lib.hid ra
  have RB := Lib.hid rb
  have HS := Lib.hid hS
  have hb0 : b0 < w.heap.size := hS _ hsb
  have hb01 : b0 < w.heap.size + 1 := by omega
  have hb02 : b0 < w.heap.size + 1 + 1 := by omega
  have hb03 : b0 < w.heap.size + 2 := by omega
  obtain ⟨A1, m1, n1, rfl⟩ := ra.slice
  obtain ⟨A2, m2, n2, rfl⟩ := rb.slice
  generalize (a :: b :: r').length = n at *
  clear ra rb hkids ht hS
  have hn0 : (0 : Int) < (n : Int) := by omega
  have hn00 : 0 < n := by omega
  have hn1 : (1 : Int) < (n : Int) := by omega
  unfold tmV
  unfold maxLen at hcm
  cases p
  all_goals
    simp only [Bool.false_eq_true, if_false, if_true] at hkk
    subst hkk
    go_enter Try.func38, Try.ntmps38
    go_upto_region 3 with (fail)
    go_region
    go_wp2
    refine bodyPost_ret (v := .tuple #[.agg #[.int .i64 k0, .int .i64 c0, .bool wr0, .int .i64 lb0, .slice A1 m1 n1], .agg #[.int .i64 k1, .int .i64 c1, .bool wr1, .int .i64 lb1, .slice A2 m2 n2], .bool true]) (by simp [results, Try.results38, go_sem]) rfl ?_
    refine (fun bel => ⟨⟨_, _, rfl, RA.out.go bel HS.out, RB.out.go bel HS.out⟩, bel⟩ : Below w.heap.size w _ → _) ?_
    exact ((((Below.refl _ w).alloc (Nat.le_refl _) _).alloc (by simp) _).alloc (by simp; omega) _).drew
end Go.Proofs.Ytfldajplclahfaa
