/- The walk of visit at a term of two. -/
import Derived.Test.YtfldajplclahfaaGBg5
namespace Go.Proofs.Ytfldajplclahfaa
open Go.RowKit
set_option linter.unusedVariables false
theorem PostV.ent {n k c : Nat} {rt rt' : Nat → Nat} {bd bd' : List Bool} {x : Int} (h : PostV n k c rt rt' bd bd' x) (hn : k + c ≤ n) : Ent n x := by
  have := h.ret
  by_cases hc : c = 0
  · rw [if_pos hc] at this; exact .inl this
  · rw [if_neg hc] at this; obtain ⟨m, _, h2, e⟩ := this; exact .inr ⟨m, by omega, e⟩
theorem FinAt.joined {base n : Nat} {w w' : World} {F : Fd} {vf : Value} {k K : Nat} {rt rt' : Nat → Nat} {bd : List Bool} {sh : Sh} (f : FinAt base n w F vf k K rt bd sh) {up sz : List Nat} {h : Nat → Nat} (hf : Forest base n w' F.b F.gu F.gs up sz) (hg : Good n up sz rt' h) (hb : But (Is2 F.gu F.gs) w w') : FinAt base n w' F vf k K rt' bd sh := by
  obtain ⟨d1, d2, d3, d4, d5, d6, d7, d8, d9, d10, d11, d12, d13, d14, d15⟩ := f.dis
  obtain ⟨nm, q1, q2⟩ := f.map
  exact { f with
    forest := ⟨up, sz, h, hf, hg⟩
    row := f.row.but hb (fun e => e.elim (fun e => d11 e.symm) (fun e => d13 e.symm))
    map := ⟨nm, q1, q2.but hb (fun e => e.elim (fun e => d12 e.symm) (fun e => d14 e.symm))⟩
    found := f.found.but hb (fun g hg e => f.nv g hg (e.elim (fun e => by rw [show g = F.gu from e]; exact F.mem.2.2.1) (fun e => by rw [show g = F.gs from e]; exact F.mem.2.2.2.1)))
    blk := f.blk.but hb (fun e => e.elim (fun e => d2 e) (fun e => d3 e)) }
theorem Fd.is2 (F : Fd) (vf : Value) : Sub (Is2 F.gu F.gs) (FT F vf) := fun g hg => hg.elim (fun e => by rw [show g = F.gu from e]; exact .inl F.mem.2.2.1) (fun e => by rw [show g = F.gs from e]; exact .inl F.mem.2.2.2.1)
set_option maxHeartbeats 2000000 in
set_option maxRecDepth 100000 in
theorem vtells_two (t : Tm) (p : Bool) (a b : Tm) (ht : t.two = some (p, a, b)) (ha : VTells a) (hb : VTells b) : VTells t := by
  intro base n w F vf k rt bd sh B S V f pv hn r hS
  obtain ⟨kk, c, wr, lb, kids, v, rfl, rfl, hk, hc, hlb, hkids⟩ := r
  obtain ⟨hkk, r', hr'⟩ := Tm.two_kind ht
  simp only [Tm.kind, Tm.kids] at hkk hr'
  subst hr'
  have HP := Lib.hid (Tm.vis_two ht k B sh)
  have HC := Lib.hid (Tm.count_two ht)
  rw [Tm.count_two ht] at hn
  obtain ⟨A, cap, rfl, hcl, hcm, _⟩ := hkids.form
  have hl2 : 2 ≤ (a :: b :: r').length := by simp
  have bel : Below w.heap.size w (w.alloc (.cells #[.int .i64 kk, .int .i64 c, .bool wr, .int .i64 lb, .slice A (a :: b :: r').length cap] 26)) := (Below.refl _ _).alloc (Nat.le_refl _) _
  have hbw : base ≤ w.heap.size := by have := (f.lt _ F.mem.1); omega
  have K2 := hkids.go RdTm.keeps bel (hS.trans (Sub.upto hbw)) (Sub.refl _)
  obtain ⟨b0, off, k0, c0, wr0, lb0, v0, rfl, hsb, x0, x1, x2, x3, x4, ra⟩ := RdTms.kid K2 (q := 0) (by simp)
  obtain ⟨b0', off', k1, c1, wr1, lb1, v1, hA, hsb', y0, y1, y2, y3, y4, rb⟩ := RdTms.kid K2 (q := 1) (by simp)
  injection hA with hA
  injection hA with e1 e2
  subst e1 e2
  simp only [List.getElem_cons_zero, List.getElem_cons_succ] at ra rb
  rw [Nat.zero_mul, Nat.add_zero] at x0 x1 x2 x3 x4
  rw [Nat.one_mul] at y0 y1 y2 y3 y4
  obtain ⟨Av0, nv0, cv0, rfl⟩ := ra.slice
  obtain ⟨Av1, nv1, cv1, rfl⟩ := rb.slice
  generalize (a :: b :: r').length = n' at *
  have RA := Lib.hid ra
  have RB := Lib.hid rb
  have FH := Lib.hid (f.below bel)
  have HFT := Lib.hid (show ∀ g, FT F vf g → base ≤ g ∧ g < w.heap.size from f.ftge)
  have BW := Lib.hid (show But (FT F vf) w (w.alloc (.cells #[.int .i64 kk, .int .i64 c, .bool wr, .int .i64 lb, .slice (some ⟨b0, off, none⟩) n' cap] 26)) from But.of_below bel)
  have BX := Lib.hid (Blk.made w [.int .i64 kk, .int .i64 c, .bool wr, .int .i64 lb, .slice (some ⟨b0, off, none⟩) n' cap] 26 (base := 0) (Nat.zero_le _))
  have HPV := Lib.hid pv
  have HS := Lib.hid hS
  have HA := Lib.hid ha
  have HB := Lib.hid hb
  have hszz : ((w.alloc (.cells #[.int .i64 kk, .int .i64 c, .bool wr, .int .i64 lb, .slice (some ⟨b0, off, none⟩) n' cap] 26))).heap.size = w.heap.size + 1 := by simp
  have hsz1 := Nat.le_of_eq hszz
  have hsz2 := Nat.le_of_eq hszz.symm
  have hnb := f.nb
  have hb0b : b0 < base := hS _ hsb
  have HCA := Lib.hid HC.out
  unfold maxLen at hcm
  unfold tmV
  rw [HC.out, HP.out]
  clear f pv ra rb hkids K2 ht ha hb hS bel hk HP HC hszz hc hlb hsb hsb'
  have hn1 : (1 : Int) < (n' : Int) := by omega
  have hn0 : (0 : Int) < (n' : Int) := by omega
  have hn2 : ¬ (n' : Int) < 2 := by omega
  cases p
  all_goals
    simp only [Bool.false_eq_true, if_false, if_true] at hkk
    subst hkk
    go_enter Try.func40, Try.ntmps40
    go_upto_region 6 with (fail)
    obtain ⟨X, hX⟩ : ∃ X, X = w.heap.size := ⟨_, rfl⟩
    rw [← hX] at BX ⊢
    have HX0 := Lib.hid (show ∀ g, FT F vf g → g < X from fun g hg => by have := (HFT.out g hg).2; omega)
    have HXW := Lib.hid (show w.heap.size ≤ X by omega)
    clear hX
  · skip
    generalize (w.alloc (.cells #[.int .i64 2, .int .i64 c, .bool wr, .int .i64 lb, .slice (some ⟨b0, off, none⟩) n' cap] 26)) = W at *
    have q0 := BX.out.cell 0 _ rfl; have q1 := BX.out.cell 1 _ rfl; have q2 := BX.out.cell 2 _ rfl; have q3 := BX.out.cell 3 _ rfl; have q4 := BX.out.cell 4 _ rfl
    have hXl := BX.out.lt
    have HNB := Lib.hid (show ∀ g, S g → ¬ FT F vf g from fun g hg h => by have := HS.out g hg; have := (HFT.out g h).1; simp only [Upto] at *; omega)
    go_wp2_with fail
    refine (HA.out base n W F vf k rt bd sh B S _ FH.out HPV.out (by omega) RA.out HS.out).mono ?_
    rintro e w1 ⟨u1, vf1, rt1, bd1, rfl, f1, p1, b1, n1⟩
    have HX1 := Lib.hid (show ∀ g, FT F vf1 g → g ≠ X ∧ base ≤ g from fun g hg => by
      rcases hg with hg | hg
      · have := HX0.out g (.inl hg); exact ⟨by omega, (HFT.out g (.inl hg)).1⟩
      · rcases n1 g hg with e | e
        · have := HX0.out g (.inr e); exact ⟨by omega, (HFT.out g (.inr e)).1⟩
        · exact ⟨by omega, by omega⟩)
    have hs1 := b1.size
    have hsw := BW.out.size
    have BX1 := Lib.hid (BX.out.but b1 (fun h => by have := HX0.out X h; omega))
    have RB1 := Lib.hid (RB.out.but b1 (HS.out.trans (Sub.upto (by omega))) HNB.out)
    have HKC := Lib.hid (show ∀ (o : Nat) (u : Value), W.cell? ⟨b0, o, none⟩ = some u → w1.cell? ⟨b0, o, none⟩ = some u from fun o u h => b1.cell (p := ⟨b0, o, none⟩) (fun h => by have := (HFT.out b0 h).1; omega) h)
    have z0 := HKC.out _ _ y0
    have z1 := HKC.out _ _ y1
    have z2 := HKC.out _ _ y2
    have z3 := HKC.out _ _ y3
    have z4 := HKC.out _ _ y4
    have BW1 := Lib.hid (BW.out.trans b1)
    have HN1 := Lib.hid (show NewOr vf vf1 w.heap.size from fun g hg => by
      rcases n1 g hg with e | e
      · exact .inl e
      · exact .inr (by omega))
    have F1 := Lib.hid f1
    have P1 := Lib.hid p1
    clear f1 p1 b1 n1 HKC q0 q1 q2 q3 q4 x0 x1 x2 x3 x4 y0 y1 y2 y3 y4 RA BX BW FH hXl HNB hs1
    have q0 := BX1.out.cell 0 _ rfl; have q1 := BX1.out.cell 1 _ rfl; have q2 := BX1.out.cell 2 _ rfl; have q3 := BX1.out.cell 3 _ rfl; have q4 := BX1.out.cell 4 _ rfl
    go_wp2_with fail
    refine (mark_any F1.out u1 (P1.out.ent (by omega)) false).mono ?_
    rintro e w2 ⟨rfl, f2, b2⟩
    have PV2 := Lib.hid (P1.out.next HPV.out F1.out.lb (by omega) false)
    have F2 := Lib.hid (show FinAt base n w2 F vf1 (k + a.count) (k + a.count) rt1 (markL rt1 bd1 u1 false) (a.vis k B sh) from f2)
    have hs2 := b2.size
    have HFT1 := Lib.hid (F1.out.ftge)
    have HNB1 := Lib.hid (show ∀ g, S g → ¬ FT F vf1 g from fun g hg h => by have := HS.out g hg; have := (HFT1.out g h).1; simp only [Upto] at *; omega)
    have BX2 := Lib.hid (BX1.out.but b2 (fun h => (HX1.out X h).1 rfl))
    have hs1 := BW1.out.size
    have RB2 := Lib.hid (RB1.out.but b2 (HS.out.trans (Sub.upto (by omega))) HNB1.out)
    have HKC := Lib.hid (show ∀ (o : Nat) (u : Value), w1.cell? ⟨b0, o, none⟩ = some u → w2.cell? ⟨b0, o, none⟩ = some u from fun o u h => b2.cell (p := ⟨b0, o, none⟩) (fun h => by have := (HFT1.out b0 h).1; omega) h)
    have x0 := HKC.out _ _ z0
    have x1 := HKC.out _ _ z1
    have x2 := HKC.out _ _ z2
    have x3 := HKC.out _ _ z3
    have x4 := HKC.out _ _ z4
    have BW2 := Lib.hid (FT.trans BW1.out HN1.out b2)
    clear f2 b2 HKC q0 q1 q2 q3 q4 z0 z1 z2 z3 z4 BX1 RB1 BW1 HFT1 HNB1
    have q0 := BX2.out.cell 0 _ rfl; have q1 := BX2.out.cell 1 _ rfl; have q2 := BX2.out.cell 2 _ rfl; have q3 := BX2.out.cell 3 _ rfl; have q4 := BX2.out.cell 4 _ rfl
    go_wp2_with fail
    refine (HB.out base n w2 F vf1 (k + a.count) rt1 (markL rt1 bd1 u1 false) (a.vis k B sh) _ S _ F2.out PV2.out (by omega) RB2.out HS.out).mono ?_
    rintro e w3 ⟨u3, vf3, rt3, bd3, rfl, f3, p3, b3, n3⟩
    have F3 := Lib.hid f3
    have P3 := Lib.hid p3
    have BW3 := Lib.hid (FT.trans BW2.out HN1.out b3)
    have HN3 := Lib.hid (HN1.out.trans n3 BW2.out.size)
    clear f3 p3 b3 n3 q0 q1 q2 q3 q4 x0 x1 x2 x3 x4 BX2 RB2 BW2 F2 PV2 HX1 HX0
    have HE1 := Lib.hid (show Ent n u1 from P1.out.ent (by omega))
    have HE3 := Lib.hid (show Ent n u3 from P3.out.ent (by omega))
    go_wp2_with fail
    refine (mark_any F3.out u1 HE1.out false).mono ?_
    rintro e w4 ⟨rfl, f4, b4⟩
    have F4 := Lib.hid (show FinAt base n w4 F vf3 (k + a.count + b.count) (k + a.count + b.count) rt3 (markL rt3 bd3 u1 false) (b.vis (k + a.count) (fun m => if k + a.count ≤ m then true else if k ≤ m then false else B m) (a.vis k B sh)) from f4)
    have BW4 := Lib.hid (FT.trans BW3.out HN3.out b4)
    clear f4 b4 BW3
    have HBOTH := Lib.hid (fun hneg => P1.out.both (cb := b.count) HPV.out F1.out.lb F3.out.lb (by omega) false P3.out hneg)
    have HJOIN := Lib.hid (fun h1 h3 => P1.out.join (cb := b.count) HPV.out F1.out.lb F3.out.lb (by omega) false P3.out h1 h3)
    clear P1 P3 F1 HPV
    rw [Nat.add_assoc] at F4
    by_cases hu1 : u1 < 0
    · have HR := HBOTH.out (.inl hu1)
      have HRH := Lib.hid HR
      clear HR
      rcases Int.lt_or_le u1 u3 with hlt | hlt
      · have hmx : max u1 u3 = u3 := by omega
        rw [hmx] at HRH
        clear hmx
        go_wp2
        go_ret
        exact ⟨_, vf3, rt3, _, rfl, F4.out, HRH.out, BW4.out, HN3.out⟩
      · have hmx : max u1 u3 = u1 := by omega
        have hlt2 : ¬ u1 < u3 := by omega
        rw [hmx] at HRH
        clear hmx
        go_wp2
        go_ret
        exact ⟨_, vf3, rt3, _, rfl, F4.out, HRH.out, BW4.out, HN3.out⟩
    · by_cases hu3 : u3 < 0
      · have HR := HBOTH.out (.inr hu3)
        have HRH := Lib.hid HR
        clear HR
        have hmx : max u1 u3 = u1 := by omega
        have hlt2 : ¬ u1 < u3 := by omega
        have hlt3 : u3 < u1 := by omega
        rw [hmx] at HRH
        clear hmx
        go_wp2
        go_ret
        exact ⟨_, vf3, rt3, _, rfl, F4.out, HRH.out, BW4.out, HN3.out⟩
      · have HJ := Lib.hid (HJOIN.out (by omega) (by omega))
        obtain ⟨m1, hm1, rfl⟩ : ∃ m, m < n ∧ u1 = ((m : Nat) : Int) := by rcases HE1.out with e | e <;> first | exact e | omega
        obtain ⟨m3, hm3, rfl⟩ : ∃ m, m < n ∧ u3 = ((m : Nat) : Int) := by rcases HE3.out with e | e <;> first | exact e | omega
        rw [Int.toNat_natCast, Int.toNat_natCast] at HJ
        have d0 := F4.out.blk.cell 0 _ rfl
        obtain ⟨up, sz, hh, hf, hg⟩ := F4.out.forest
        have CJ := join_rt hf hg m1 m3 hm1 hm3 HJ.out.1
        have hg' := hg
        clear hf hg HBOTH HJOIN
        go_wp2_with fail
        refine CJ.mono ?_
        rintro e w5 ⟨pp, qq, up5, sz5, h5, rfl, hpq, hf5, hg5, hb5⟩
        have HPQ := Lib.hid (HJ.out.2 pp qq hpq)
        have hppn : pp < n := by
          rcases hpq with ⟨e, _⟩ | ⟨e, _⟩ <;> (rw [e]; exact hg'.rt_lt _ (by assumption))
        have F5 := Lib.hid (F4.out.joined hf5 hg5 hb5)
        have BW5 := Lib.hid (FT.trans BW4.out HN3.out (hb5.sub (F.is2 vf3)))
        have hlb5 := F5.out.lb
        obtain ⟨u9, hu9⟩ : ∃ u, (markL rt3 bd3 (m1 : Int) false)[pp]? = some u := ⟨_, List.getElem?_eq_getElem (by omega)⟩
        have hcv := F5.out.row.mapAt hu9
        have hcf := F5.out.row.fr pp
        have d1 := F5.out.blk.cell 1 _ rfl
        have HR := Lib.hid (F5.out.setB hppn false)
        have HB6 := Lib.hid (FT.trans BW5.out HN3.out ((But.refl (FT F vf3) w5).setCell (p := ⟨F.gb, pp, none⟩) (.inl F.mem.2.2.2.2.1) (.bool false)))
        have hpp0 : (0 : Int) ≤ (pp : Int) := by omega
        have hppi : (pp : Int) < (n : Int) := by omega
        clear hpq hf5 hg5 hb5 F4 F5 BW4 BW5 HJ hu9 hlb5 CJ
        go_wp2
        go_ret
        exact ⟨_, vf3, _, _, rfl, HR.out, HPQ.out, HB6.out, HN3.out⟩
  · skip
    generalize (w.alloc (.cells #[.int .i64 3, .int .i64 c, .bool wr, .int .i64 lb, .slice (some ⟨b0, off, none⟩) n' cap] 26)) = W at *
    have q0 := BX.out.cell 0 _ rfl; have q1 := BX.out.cell 1 _ rfl; have q2 := BX.out.cell 2 _ rfl; have q3 := BX.out.cell 3 _ rfl; have q4 := BX.out.cell 4 _ rfl
    have hXl := BX.out.lt
    have HNB := Lib.hid (show ∀ g, S g → ¬ FT F vf g from fun g hg h => by have := HS.out g hg; have := (HFT.out g h).1; simp only [Upto] at *; omega)
    go_wp2_with fail
    refine (HA.out base n W F vf k rt bd sh B S _ FH.out HPV.out (by omega) RA.out HS.out).mono ?_
    rintro e w1 ⟨u1, vf1, rt1, bd1, rfl, f1, p1, b1, n1⟩
    have HX1 := Lib.hid (show ∀ g, FT F vf1 g → g ≠ X ∧ base ≤ g from fun g hg => by
      rcases hg with hg | hg
      · have := HX0.out g (.inl hg); exact ⟨by omega, (HFT.out g (.inl hg)).1⟩
      · rcases n1 g hg with e | e
        · have := HX0.out g (.inr e); exact ⟨by omega, (HFT.out g (.inr e)).1⟩
        · exact ⟨by omega, by omega⟩)
    have hs1 := b1.size
    have hsw := BW.out.size
    have BX1 := Lib.hid (BX.out.but b1 (fun h => by have := HX0.out X h; omega))
    have RB1 := Lib.hid (RB.out.but b1 (HS.out.trans (Sub.upto (by omega))) HNB.out)
    have HKC := Lib.hid (show ∀ (o : Nat) (u : Value), W.cell? ⟨b0, o, none⟩ = some u → w1.cell? ⟨b0, o, none⟩ = some u from fun o u h => b1.cell (p := ⟨b0, o, none⟩) (fun h => by have := (HFT.out b0 h).1; omega) h)
    have z0 := HKC.out _ _ y0
    have z1 := HKC.out _ _ y1
    have z2 := HKC.out _ _ y2
    have z3 := HKC.out _ _ y3
    have z4 := HKC.out _ _ y4
    have BW1 := Lib.hid (BW.out.trans b1)
    have HN1 := Lib.hid (show NewOr vf vf1 w.heap.size from fun g hg => by
      rcases n1 g hg with e | e
      · exact .inl e
      · exact .inr (by omega))
    have F1 := Lib.hid f1
    have P1 := Lib.hid p1
    clear f1 p1 b1 n1 HKC q0 q1 q2 q3 q4 x0 x1 x2 x3 x4 y0 y1 y2 y3 y4 RA BX BW FH hXl HNB hs1
    have q0 := BX1.out.cell 0 _ rfl; have q1 := BX1.out.cell 1 _ rfl; have q2 := BX1.out.cell 2 _ rfl; have q3 := BX1.out.cell 3 _ rfl; have q4 := BX1.out.cell 4 _ rfl
    go_wp2_with fail
    refine (mark_any F1.out u1 (P1.out.ent (by omega)) true).mono ?_
    rintro e w2 ⟨rfl, f2, b2⟩
    have PV2 := Lib.hid (P1.out.next HPV.out F1.out.lb (by omega) true)
    have F2 := Lib.hid (show FinAt base n w2 F vf1 (k + a.count) (k + a.count) rt1 (markL rt1 bd1 u1 true) (a.vis k B sh) from f2)
    have hs2 := b2.size
    have HFT1 := Lib.hid (F1.out.ftge)
    have HNB1 := Lib.hid (show ∀ g, S g → ¬ FT F vf1 g from fun g hg h => by have := HS.out g hg; have := (HFT1.out g h).1; simp only [Upto] at *; omega)
    have BX2 := Lib.hid (BX1.out.but b2 (fun h => (HX1.out X h).1 rfl))
    have hs1 := BW1.out.size
    have RB2 := Lib.hid (RB1.out.but b2 (HS.out.trans (Sub.upto (by omega))) HNB1.out)
    have HKC := Lib.hid (show ∀ (o : Nat) (u : Value), w1.cell? ⟨b0, o, none⟩ = some u → w2.cell? ⟨b0, o, none⟩ = some u from fun o u h => b2.cell (p := ⟨b0, o, none⟩) (fun h => by have := (HFT1.out b0 h).1; omega) h)
    have x0 := HKC.out _ _ z0
    have x1 := HKC.out _ _ z1
    have x2 := HKC.out _ _ z2
    have x3 := HKC.out _ _ z3
    have x4 := HKC.out _ _ z4
    have BW2 := Lib.hid (FT.trans BW1.out HN1.out b2)
    clear f2 b2 HKC q0 q1 q2 q3 q4 z0 z1 z2 z3 z4 BX1 RB1 BW1 HFT1 HNB1
    have q0 := BX2.out.cell 0 _ rfl; have q1 := BX2.out.cell 1 _ rfl; have q2 := BX2.out.cell 2 _ rfl; have q3 := BX2.out.cell 3 _ rfl; have q4 := BX2.out.cell 4 _ rfl
    go_wp2_with fail
    refine (HB.out base n w2 F vf1 (k + a.count) rt1 (markL rt1 bd1 u1 true) (a.vis k B sh) _ S _ F2.out PV2.out (by omega) RB2.out HS.out).mono ?_
    rintro e w3 ⟨u3, vf3, rt3, bd3, rfl, f3, p3, b3, n3⟩
    have F3 := Lib.hid f3
    have P3 := Lib.hid p3
    have BW3 := Lib.hid (FT.trans BW2.out HN1.out b3)
    have HN3 := Lib.hid (HN1.out.trans n3 BW2.out.size)
    clear f3 p3 b3 n3 q0 q1 q2 q3 q4 x0 x1 x2 x3 x4 BX2 RB2 BW2 F2 PV2 HX1 HX0
    have HE1 := Lib.hid (show Ent n u1 from P1.out.ent (by omega))
    have HE3 := Lib.hid (show Ent n u3 from P3.out.ent (by omega))
    go_wp2_with fail
    refine (mark_any F3.out u1 HE1.out false).mono ?_
    rintro e w4 ⟨rfl, f4, b4⟩
    have F4 := Lib.hid (show FinAt base n w4 F vf3 (k + a.count + b.count) (k + a.count + b.count) rt3 (markL rt3 bd3 u1 false) (b.vis (k + a.count) (fun m => if k + a.count ≤ m then true else if k ≤ m then true else B m) (a.vis k B sh)) from f4)
    have BW4 := Lib.hid (FT.trans BW3.out HN3.out b4)
    clear f4 b4 BW3
    have HBOTH := Lib.hid (fun hneg => P1.out.both (cb := b.count) HPV.out F1.out.lb F3.out.lb (by omega) true P3.out hneg)
    have HJOIN := Lib.hid (fun h1 h3 => P1.out.join (cb := b.count) HPV.out F1.out.lb F3.out.lb (by omega) true P3.out h1 h3)
    clear P1 P3 F1 HPV
    rw [Nat.add_assoc] at F4
    by_cases hu1 : u1 < 0
    · have HR := HBOTH.out (.inl hu1)
      have HRH := Lib.hid HR
      clear HR
      rcases Int.lt_or_le u1 u3 with hlt | hlt
      · have hmx : max u1 u3 = u3 := by omega
        rw [hmx] at HRH
        clear hmx
        go_wp2
        go_ret
        exact ⟨_, vf3, rt3, _, rfl, F4.out, HRH.out, BW4.out, HN3.out⟩
      · have hmx : max u1 u3 = u1 := by omega
        have hlt2 : ¬ u1 < u3 := by omega
        rw [hmx] at HRH
        clear hmx
        go_wp2
        go_ret
        exact ⟨_, vf3, rt3, _, rfl, F4.out, HRH.out, BW4.out, HN3.out⟩
    · by_cases hu3 : u3 < 0
      · have HR := HBOTH.out (.inr hu3)
        have HRH := Lib.hid HR
        clear HR
        have hmx : max u1 u3 = u1 := by omega
        have hlt2 : ¬ u1 < u3 := by omega
        have hlt3 : u3 < u1 := by omega
        rw [hmx] at HRH
        clear hmx
        go_wp2
        go_ret
        exact ⟨_, vf3, rt3, _, rfl, F4.out, HRH.out, BW4.out, HN3.out⟩
      · have HJ := Lib.hid (HJOIN.out (by omega) (by omega))
        obtain ⟨m1, hm1, rfl⟩ : ∃ m, m < n ∧ u1 = ((m : Nat) : Int) := by rcases HE1.out with e | e <;> first | exact e | omega
        obtain ⟨m3, hm3, rfl⟩ : ∃ m, m < n ∧ u3 = ((m : Nat) : Int) := by rcases HE3.out with e | e <;> first | exact e | omega
        rw [Int.toNat_natCast, Int.toNat_natCast] at HJ
        have d0 := F4.out.blk.cell 0 _ rfl
        obtain ⟨up, sz, hh, hf, hg⟩ := F4.out.forest
        have CJ := join_rt hf hg m1 m3 hm1 hm3 HJ.out.1
        have hg' := hg
        clear hf hg HBOTH HJOIN
        go_wp2_with fail
        refine CJ.mono ?_
        rintro e w5 ⟨pp, qq, up5, sz5, h5, rfl, hpq, hf5, hg5, hb5⟩
        have HPQ := Lib.hid (HJ.out.2 pp qq hpq)
        have hppn : pp < n := by
          rcases hpq with ⟨e, _⟩ | ⟨e, _⟩ <;> (rw [e]; exact hg'.rt_lt _ (by assumption))
        have F5 := Lib.hid (F4.out.joined hf5 hg5 hb5)
        have BW5 := Lib.hid (FT.trans BW4.out HN3.out (hb5.sub (F.is2 vf3)))
        have hlb5 := F5.out.lb
        obtain ⟨u9, hu9⟩ : ∃ u, (markL rt3 bd3 (m1 : Int) false)[pp]? = some u := ⟨_, List.getElem?_eq_getElem (by omega)⟩
        have hcv := F5.out.row.mapAt hu9
        have hcf := F5.out.row.fr pp
        have d1 := F5.out.blk.cell 1 _ rfl
        have HR := Lib.hid (F5.out.setB hppn false)
        have HB6 := Lib.hid (FT.trans BW5.out HN3.out ((But.refl (FT F vf3) w5).setCell (p := ⟨F.gb, pp, none⟩) (.inl F.mem.2.2.2.2.1) (.bool false)))
        have hpp0 : (0 : Int) ≤ (pp : Int) := by omega
        have hppi : (pp : Int) < (n : Int) := by omega
        clear hpq hf5 hg5 hb5 F4 F5 BW4 BW5 HJ hu9 hlb5 CJ
        go_wp2
        go_ret
        exact ⟨_, vf3, _, _, rfl, HR.out, HPQ.out, HB6.out, HN3.out⟩
theorem vtells_all (t : Tm) : VTells t := Tm.ind vtells_none vtells_two t
end Go.Proofs.Ytfldajplclahfaa
