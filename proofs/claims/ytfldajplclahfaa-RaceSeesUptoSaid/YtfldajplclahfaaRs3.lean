/- The walk of the reference's OSee. -/
import Derived.Test.YtfldajplclahfaaRs2
import Derived.Test.YtfldajplclahfaaIntL
import Derived.Test.YtfldajplclahfaaBf2
namespace Go.Proofs.Ytfldajplclahfaa
open Go.RowKit
set_option linter.unusedVariables false
theorem seeL_bad {t : Tm} {o : List Int} (h : ¬ GoodO t o) : seeL t o = [] ∧ seeE t o = 1 := by
  have hb := goodB_false h
  exact ⟨by unfold seeL; rw [hb]; rfl, by unfold seeE; rw [hb]; rfl⟩
theorem seeL_good {t : Tm} {o : List Int} (h : GoodO t o) : seeL t o = seeS t o t.count ∧ seeE t o = 0 := by
  have hb := goodB_true h
  exact ⟨by unfold seeL; rw [hb]; rfl, by unfold seeE; rw [hb]; rfl⟩
set_option maxHeartbeats 4000000 in
set_option maxRecDepth 100000 in
theorem osee_any (t : Tm) (o : List Int) (w : World) (S So : Blocks) (V U : Value) (hS : Sub S (Upto w.heap.size)) (r : RdT w S t V) (hSo : Sub So (Upto w.heap.size)) (ro : RdI w So o U) (hl : t.count ≤ 1048576) :
    Calls Try.prog 13 #[V, U] w fun e w' => ∃ x, e = .returned (.tuple #[x, .int .i64 (seeE t o)]) ∧ RdI w' (Plus Nowhere w.heap.size w'.heap.size) (seeL t o) x ∧ Below w.heap.size w w' := by
  obtain ⟨i0, hi, hz0, hz1, hz2⟩ := info_parts infoI3
  obtain ⟨k, c, wb, lb, kids, v, et, rfl, h1, h2, h3, h4⟩ := id r
  obtain ⟨A1, n1, rfl, _⟩ := h4.form
  obtain ⟨Ao, co, rfl, hol, hom, hob⟩ := ro.form
  unfold maxLen at hom
  have bel : Below w.heap.size w (w.alloc (.cells #[.int .i64 k, .int .i64 c, .bool wb, .int .i64 lb, .slice A1 kids.length n1] 26)) := (Below.refl _ _).alloc (Nat.le_refl _) _
  have BEL := Lib.hid bel
  have RA := Lib.hid (r.go bel hS)
  have RO := Lib.hid (ro.keep Flat.keeps (Sub.refl _) (same_of_below bel hSo))
  have HS := Lib.hid (hS.trans (Sub.upto bel.size))
  have HSO := Lib.hid (hSo.trans (Sub.upto bel.size))
  have BX := Lib.hid (Blk.made w [.int .i64 k, .int .i64 c, .bool wb, .int .i64 lb, .slice A1 kids.length n1] 26 (base := 0) (Nat.zero_le _))
  unfold tmV
  clear h4 bel r ro et h1 h2 h3 hS hSo
  go_enter Try.func13, Try.ntmps13
  go_upto_region 1 with (fail)
  have hbs := BEL.out.size
  obtain ⟨X, hX⟩ : ∃ X, X = w.heap.size := ⟨_, rfl⟩
  rw [← hX] at BX ⊢
  have HXW := Lib.hid hX
  clear hX
  generalize (w.alloc (.cells #[.int .i64 k, .int .i64 c, .bool wb, .int .i64 lb, .slice A1 kids.length n1] 26)) = W at *
  have x0 := BX.out.cell 0 _ rfl; have x1 := BX.out.cell 1 _ rfl; have x2 := BX.out.cell 2 _ rfl; have x3 := BX.out.cell 3 _ rfl; have x4 := BX.out.cell 4 _ rfl
  go_wp2_with fail
  refine (dls_all t W S _ HS.out RA.out hl).mono ?_
  rintro e wl ⟨xl, rfl, hxl, hbl⟩
  have hcl : t.leaves.length = t.count := rfl
  have hxl2 : RdAccs wl (Upto wl.heap.size) t.leaves xl := hxl.toRd (by rw [hcl]; omega) (fun b h1 h2 => h2)
  have HX := Lib.hid (show Fr encAcc okAcc 3 24 wl t.leaves xl from ⟨_, Sub.refl _, hxl2⟩)
  obtain ⟨A, cap, rfl, hlc, hcm, -⟩ := hxl2.form
  unfold maxLen at hcm
  rw [hcl] at hlc HX ⊢
  have RAL := Lib.hid (RA.out.go hbl HS.out)
  have ROL := Lib.hid (RO.out.keep Flat.keeps (Sub.refl _) (same_of_below hbl HSO.out))
  have BXL := Lib.hid (BX.out.below hbl)
  have BL := Lib.hid (BEL.out.trans (hbl.mono BEL.out.size))
  have HSL := Lib.hid (HS.out.trans (Sub.upto hbl.size))
  have HSOL := Lib.hid (HSO.out.trans (Sub.upto hbl.size))
  clear hxl hxl2 hbl x0 x1 x2 x3 x4 RA RO BX BEL HS HSO hcl
  obtain ⟨n, hn⟩ : ∃ n, n = t.count := ⟨_, rfl⟩
  have HN := Lib.hid hn
  rw [← hn] at hlc HX ⊢
  clear hn
  go_wp2_with fail
  refine (cloneI o wl So _ HSOL.out ROL.out).mono ?_
  rintro e wc ⟨u, rfl, hu, hbc⟩
  have RAC := Lib.hid (RAL.out.go hbc HSL.out)
  have ROC := Lib.hid (ROL.out.keep Flat.keeps (Sub.refl _) (same_of_below hbc HSOL.out))
  have BXC := Lib.hid (BXL.out.below hbc)
  have BC := Lib.hid (BL.out.trans (hbc.mono BL.out.size))
  have HSC := Lib.hid (HSL.out.trans (Sub.upto hbc.size))
  have HSOC := Lib.hid (HSOL.out.trans (Sub.upto hbc.size))
  have HU := Lib.hid hu
  have HLU := Lib.hid (show wl.heap.size ≤ wc.heap.size from hbc.size)
  have HXL := Lib.hid BXL.out.lt
  have HBC := Lib.hid hbc
  clear hu hbc RAL ROL BXL
  obtain ⟨w0, hw0⟩ : ∃ x, x = wc := ⟨_, rfl⟩
  subst hw0
  go_upto_region 3 with (fail)
  go_cut [] (fun wx => ∃ (Bs : Option Addr) (cs : Nat), Hid (u = .slice Bs o.length cs ∧ RdI wx (fun b => wl.heap.size ≤ b ∧ b < wx.heap.size) (sortZ o) (.slice Bs o.length cs)) ∧ Hid (But (fun b => wl.heap.size ≤ b) w0 wx))
  case first =>
    skip
    rcases Nat.eq_zero_or_pos o.length with h0 | h0
    · have HNIL := Lib.hid (List.eq_nil_of_length_eq_zero h0)
      have H0 := Lib.hid h0
      obtain ⟨Ao', co', he, _, hcm2, _⟩ := (HU.out.toRd (bytes := 8) (S' := fun b => wl.heap.size ≤ b ∧ b < w0.heap.size) Flat.keeps (by rw [h0]; simp) (Sub.nowhere _) (fun b h1 h2 => ⟨h1, h2⟩)).form
      rw [h0] at he
      subst he
      clear h0
      go_wp2_with fail
      refine (sort_none Ao' co' _).mono ?_
      rintro e w' ⟨⟨x, rfl⟩, rfl⟩
      go_wp2
      go_meet
      exact ⟨Ao', co', Lib.hid ⟨by rw [H0.out], by rw [H0.out, HNIL.out, show sortZ [] = [] by simp [sortZ]]; exact RdL.nil hcm2⟩, Lib.hid (But.refl _ _)⟩
    · obtain ⟨g, cg, rfl, hge, hlg, hcm2, hrow, hok⟩ := rowZ_of HU.out h0
      have HROW := Lib.hid hrow
      have HOK := Lib.hid hok
      clear hrow hok
      go_wp2_with fail
      refine (sort_any o g cg _ HROW.out (by unfold maxLen at hcm2; omega)).mono ?_
      rintro e w2 ⟨⟨x, rfl⟩, hr2, hb2⟩
      have hrd := hr2.rd (c := cg) (by rw [sortZ_len]; exact hlg) hcm2 (fun x hx => HOK.out x ((sortZ_mem _ _).1 hx)) (by rw [sortZ_len]; exact hob)
      rw [sortZ_len] at hrd
      have hlt := hr2.lt
      have HR := Lib.hid (show RdI w2 (fun b => wl.heap.size ≤ b ∧ b < w2.heap.size) (sortZ o) (.slice (some ⟨g, 0, none⟩) o.length cg) from hrd.keep Flat.keeps (fun b hb => by have h : b = g := hb; subst h; exact ⟨hge, hlt⟩) (Same.refl _ _))
      have HB := Lib.hid (show But (fun b => wl.heap.size ≤ b) w0 w2 from hb2.sub (fun b hb => by have h : b = g := hb; subst h; exact hge))
      clear hr2 hb2 hrd hlt
      go_wp2
      go_meet
      exact ⟨_, _, Lib.hid ⟨rfl, HR.out⟩, HB⟩
  case rest =>
    obtain ⟨Bs, cs, HSRT, HBW⟩ := hcut
    obtain ⟨rfl, -⟩ := id HSRT.out
    have HSR := Lib.hid HSRT.out.2
    clear HSRT HU
    have hsw := HBW.out.size
    have hsw' : wl.heap.size ≤ wc.heap.size := by have := HLU.out; omega
    have hlu := HLU.out
    have hxl := HXL.out
    have BS := Lib.hid (show Below w.heap.size w wc from BC.out.trans (HBW.out.below BC.out.size (fun b hb => by have h1 : wl.heap.size ≤ b := hb; have := BL.out.size; omega)))
    have RA2 := Lib.hid (RAC.out.but HBW.out HSC.out (fun b hb h => by have h1 := HSL.out b hb; simp only [Upto] at h1; omega))
    have RO2 := Lib.hid (show RdI wc So o (.slice Ao o.length co) from ROC.out.keep Flat.keeps (Sub.refl _) (HBW.out.same HSOC.out (fun b hb h => by have h1 := HSOL.out b hb; simp only [Upto] at h1; omega)))
    have BX2 := Lib.hid (BXC.out.but HBW.out (fun h => by omega))
    have HLV := Lib.hid (show ∀ m, m < n → ∃ b off, A = some ⟨b, off, none⟩ ∧ b < wl.heap.size ∧ okAcc (t.lf m) ∧ wc.cell? ⟨b, off + m * 3, none⟩ = some (.int .i64 (t.lf m).cell) ∧ wc.cell? ⟨b, off + m * 3 + 1, none⟩ = some (.bool (t.lf m).write) from fun m hm => by
      obtain ⟨b, off, h1, h2, h3, e0, e1, e2⟩ := accsF_at HX.out (q := m) (by rw [← HN.out]; exact hm)
      exact ⟨b, off, h1, h2, h3, HBW.out.cell (fun h => by have h : wl.heap.size ≤ b := h; omega) ((HBC.out.cell (p := ⟨b, _, none⟩) h2).trans e0), HBW.out.cell (fun h => by have h : wl.heap.size ≤ b := h; omega) ((HBC.out.cell (p := ⟨b, _, none⟩) h2).trans e1)⟩)
    have HSW := Lib.hid (show Sub S (Upto wl.heap.size) from HSL.out)
    have HSOW := Lib.hid (show Sub So (Upto wl.heap.size) from HSOL.out)
    have HWL := Lib.hid (show w.heap.size ≤ wl.heap.size from BL.out.size)
    clear HBW RAC ROC BXC HX HBC BC HSC HSOC HXL HLU BL HSL HSOL
    by_cases hlen : o.length = n
    rotate_left
    · have hne : ((o.length : Int) == (n : Int)) = false := by simp; omega
      have HBAD := Lib.hid (seeL_bad (show ¬ GoodO t o from fun h => hlen (by rw [h.1.1, HN.out])))
      go_wp2
      go_ret2
      exact ⟨_, by rw [HBAD.out.2]; rfl, by rw [HBAD.out.1]; exact RdL.nil (by simp [maxLen]), BS.out⟩
    have HLN := Lib.hid hlen
    clear hlen
    rw [HLN.out] at HSR ⊢
    rw [HLN.out] at RO2
    have hn1 : n ≤ 1048576 := by rw [HN.out]; exact hl
    go_wp2_with fail
    go_loopw [28] (fun u wr => ∃ q : Nat, q ≤ n ∧ u = .int .i64 q ∧ Hid (∀ i, i < q → (sortZ o)[i]? = some (i : Int)) ∧ wc = wr) (fun u _ => n - (intOf u).toNat)
    case atStart => exact ⟨0, Nat.zero_le _, rfl, Lib.hid (fun i h => absurd h (Nat.not_lt_zero _)), rfl⟩
    case round =>
      obtain ⟨q, hq, rfl, HQ, rfl⟩ := hrel
      have hsl : (sortZ o).length = n := by rw [sortZ_len, HLN.out]
      by_cases hlt : q < n
      · skip
        have hqs : q < (sortZ o).length := by omega
        obtain ⟨bs, os, rfl, -, hoks, hcs⟩ := RdI.at1 HSR.out (q := q) hqs
        have hse : (sortZ o)[q]? = some ((sortZ o)[q]'hqs) := List.getElem?_eq_getElem hqs
        obtain ⟨x, hx⟩ : ∃ x, x = (sortZ o)[q]'hqs := ⟨_, rfl⟩
        rw [← hx] at hcs hse
        have HSE := Lib.hid hse
        clear hx hse hsl hqs hoks
        have q0 : (0 : Int) ≤ (q : Int) := by omega
        have q1 : (q : Int) < (n : Int) := by omega
        by_cases hxq : (q : Int) = x
        · subst hxq
          have HQN := Lib.hid (show ∀ i, i < q + 1 → (sortZ o)[i]? = some (i : Int) from fun i hi => by
            rcases Nat.lt_or_ge i q with h | h
            · exact HQ.out i h
            · rw [show i = q by omega]; exact HSE.out)
          go_wp2
          go_roundw
          case rel => exact ⟨q + 1, hlt, by go_num, HQN, trivial⟩
          case measure => simp [intOf]; omega
        · have hne : ((q : Int) == x) = false := by simpa using hxq
          have HBAD := Lib.hid (seeL_bad (show ¬ GoodO t o from fun h => by
            have h2 := (okL_sorted.1 h.1).2 q (by rw [← HN.out]; exact hlt)
            rw [HSE.out] at h2
            exact hxq (Option.some.inj h2).symm))
          clear hxq
          go_wp2
          go_ret2
          exact ⟨_, by rw [HBAD.out.2]; rfl, by rw [HBAD.out.1]; exact RdL.nil (by simp [maxLen]), BS.out⟩
      · have hqe : q = n := by omega
        subst hqe
        have HOK := Lib.hid (okL_sorted.2 ⟨hsl, HQ.out⟩)
        clear hsl HQ HSR
        obtain ⟨n, hnq⟩ : ∃ n, n = q := ⟨_, rfl⟩
        subst hnq
        obtain ⟨w1, hw1⟩ : ∃ x, x = wc := ⟨_, rfl⟩
        subst hw1
        have hmk := fun w => run_make1 (P := Try.prog) 34 3 i0 _ Try.underlying34 hi hz0 hz1 rfl n (by rw [hz2]; omega) (by omega) w
        go_upto_region 14 with (fail)
        clear hmk
        have bel : Below w1.heap.size w1 (w1.alloc (.cells (Array.replicate n (.int .i64 0)) 3)) := (Below.refl _ _).alloc (Nat.le_refl _) _
        have BG0 := Lib.hid (show Blk 0 (w1.alloc (.cells (Array.replicate n (.int .i64 0)) 3)) w1.heap.size ((seeS t o 0).map encZ) by
          rw [show seeS t o 0 = List.replicate n 0 by rw [HN.out]; rfl]
          have h := Blk.madeN w1 n (.int .i64 0) 3 (base := 0) (Nat.zero_le _)
          simpa [encZ] using h)
        have B2 := Lib.hid (BS.out.trans (bel.mono BS.out.size))
        have hwl1 : wl.heap.size ≤ w1.heap.size := hsw'
        have RA3 := Lib.hid (RA2.out.go bel (HSW.out.trans (Sub.upto hwl1)))
        have RO3 := Lib.hid (show RdI _ So o (.slice Ao n co) from RO2.keep Flat.keeps (Sub.refl _) (same_of_below bel (HSOW.out.trans (Sub.upto hwl1))))
        have BX3 := Lib.hid (BX2.out.below bel)
        have HLV3 := Lib.hid (show ∀ m, m < n → ∃ b off, A = some ⟨b, off, none⟩ ∧ b < wl.heap.size ∧ okAcc (t.lf m) ∧ (w1.alloc (.cells (Array.replicate n (.int .i64 0)) 3)).cell? ⟨b, off + m * 3, none⟩ = some (.int .i64 (t.lf m).cell) ∧ (w1.alloc (.cells (Array.replicate n (.int .i64 0)) 3)).cell? ⟨b, off + m * 3 + 1, none⟩ = some (.bool (t.lf m).write) from fun m hm => by
          obtain ⟨b, off, h1, h2, h3, e0, e1⟩ := HLV.out m hm
          exact ⟨b, off, h1, h2, h3, (bel.cell (p := ⟨b, _, none⟩) (by dsimp only; omega)).trans e0, (bel.cell (p := ⟨b, _, none⟩) (by dsimp only; omega)).trans e1⟩)
        obtain ⟨g, hg⟩ : ∃ g, g = w1.heap.size := ⟨_, rfl⟩
        rw [← hg] at BG0 ⊢
        have HGL := Lib.hid (show wl.heap.size ≤ g by rw [hg]; exact hwl1)
        have HXG := Lib.hid (show X < wl.heap.size from hxl)
        have HW2 := Lib.hid (show wl.heap.size ≤ (w1.alloc (.cells (Array.replicate n (.int .i64 0)) 3)).heap.size from Nat.le_trans hwl1 bel.size)
        clear hg bel RA2 RO2 BX2 HLV BS hwl1
        generalize w1.alloc (.cells (Array.replicate n (.int .i64 0)) 3) = w2 at *
        go_loopw [42] (fun u wr => ∃ q : Nat, q ≤ n ∧ u = .int .i64 q ∧ Hid (∀ i j, i < q → j < i → t.ahead (oA o i) (oA o j) = false) ∧ Hid (Blk 0 wr g ((seeS t o q).map encZ)) ∧ Hid (But (Is g) w2 wr)) (fun u _ => n - (intOf u).toNat)
        case atStart => exact ⟨0, Nat.zero_le _, rfl, Lib.hid (fun i j h => absurd h (Nat.not_lt_zero _)), BG0, Lib.hid (But.refl _ _)⟩
        case round =>
          clear BG0
          obtain ⟨q, hq, rfl, HC, BG, HB⟩ := hrel
          by_cases hlt : q < n
          · skip
            have hqo : q < o.length := by rw [HLN.out]; exact hlt
            obtain ⟨bo, oo, rfl, hbo, -, hc0⟩ := RdI.at1 RO3.out (q := q) hqo
            have hbg : bo < wl.heap.size := HSOW.out _ hbo
            have HOQ := Lib.hid (HOK.out.okq)
            obtain ⟨hml, hmo⟩ := oA_lt HOQ.out (k := q) hlt
            have HOC := Lib.hid (show ∀ j, j < n → oA o j < n ∧ w2.cell? ⟨bo, oo + j, none⟩ = some (.int .i64 (oA o j : Int)) from fun j hj => by
              have hjo : j < o.length := by rw [HLN.out]; exact hj
              obtain ⟨bo', oo', e, _, _, hcj⟩ := RdI.at1 RO3.out (q := j) hjo
              injection e with e
              injection e with e1 e2
              subst e1 e2
              obtain ⟨h1, h2⟩ := oA_lt HOQ.out (k := j) hj
              rw [List.getElem?_eq_getElem hjo] at h2
              rw [Option.some.inj h2] at hcj
              exact ⟨h1, hcj⟩)
            have hgl := HGL.out
            have z0 := HB.out.cell (p := ⟨bo, oo + q, none⟩) (fun e => by have h : bo = g := e; omega) (HOC.out q hlt).2
            have hgfr := BG.out.fr (oA o q)
            obtain ⟨old, hold⟩ : ∃ x, (seeS t o q)[oA o q]? = some x := ⟨_, List.getElem?_eq_getElem (by rw [seeS_len, ← HN.out]; exact hml)⟩
            have hgc := BG.out.mapAt hold
            unfold encZ at hgc
            obtain ⟨ce, hce⟩ : ∃ z, z = (t.lf (oA o q)).cell := ⟨_, rfl⟩
            have HCE := Lib.hid hce
            obtain ⟨m, hm⟩ : ∃ m, m = oA o q := ⟨_, rfl⟩
            have HM := Lib.hid hm
            rw [← hm] at z0 hgfr hgc hml
            have BG2 := Lib.hid (show Blk 0 (wr.setCell ⟨g, m, none⟩ (.int .i64 (-1))) g (((seeS t o q).set m (lastW t o ce 0)).map encZ) from BG.out.mapSet (q := m) (by rw [seeS_len, ← HN.out]; exact hml) (-1))
            have HB2 := Lib.hid (show But (Is g) w2 (wr.setCell ⟨g, m, none⟩ (.int .i64 (-1))) from HB.out.setCell (T := Is g) (p := ⟨g, m, none⟩) (show Is g g from rfl) _)
            have q0 : (0 : Int) ≤ (q : Int) := by omega
            have q1 : (q : Int) < (n : Int) := by omega
            have m0 : (0 : Int) ≤ (m : Int) := by omega
            have m1 : (m : Int) < (n : Int) := by omega
            have hqc : (q : Int) ≤ (co : Int) := by omega
            clear hm hce hold hmo hc0 hqo hbo
            go_upto_region 18 with (fail)
            clear z0 hgfr hgc BG HB
            generalize (wr.setCell ⟨g, m, none⟩ (.int .i64 (-1))) = W3 at *
            go_loopw [54] (fun u wi => ∃ j : Nat, j ≤ q ∧ u = .int .i64 j ∧ Hid (∀ j', j' < j → t.ahead (oA o q) (oA o j') = false) ∧ Hid (Blk 0 wi g (((seeS t o q).set m (lastW t o ce j)).map encZ)) ∧ Hid (But (Is g) w2 wi)) (fun u _ => q - (intOf u).toNat)
            case atStart => exact ⟨0, Nat.zero_le _, rfl, Lib.hid (fun j h => absurd h (Nat.not_lt_zero _)), BG2, HB2⟩
            case round =>
              clear BG2 HB2
              obtain ⟨j, hj, rfl, HCJ, BG, HB⟩ := hrel
              have HFIN := Lib.hid (show Below w.heap.size w wr from B2.out.trans (HB.out.below B2.out.size (fun b hb => by have h : b = g := hb; have := HWL.out; omega)))
              by_cases hltj : j < q
              · skip
                obtain ⟨hjl, hjc⟩ := HOC.out j (by omega)
                have z0 := HB.out.cell (p := ⟨bo, oo + j, none⟩) (fun e => by have h : bo = g := e; omega) hjc
                obtain ⟨mj, hmj⟩ : ∃ m, m = oA o j := ⟨_, rfl⟩
                have HMJ := Lib.hid hmj
                rw [← hmj] at z0 hjl
                have BXR := Lib.hid (BX3.out.but HB.out (fun e => by have h : X = g := e; have := HXG.out; omega))
                have HSG := Lib.hid (show ∀ b, S b → ¬ Is g b from fun b hb e => by have h : b = g := e; have h2 := HSW.out b hb; simp only [Upto] at h2; omega)
                have hw2s := Lib.hid (show wl.heap.size ≤ w2.heap.size from HW2.out)
                have RAR := Lib.hid (RA3.out.but HB.out (HSW.out.trans (Sub.upto hw2s.out)) HSG.out)
                have HSR2 := Lib.hid (show Sub S (Upto wr.heap.size) from HSW.out.trans (Sub.upto (Nat.le_trans hw2s.out HB.out.size)))
                have x0 := BXR.out.cell 0 _ rfl; have x1 := BXR.out.cell 1 _ rfl; have x2 := BXR.out.cell 2 _ rfl; have x3 := BXR.out.cell 3 _ rfl; have x4 := BXR.out.cell 4 _ rfl
                have j0 : (0 : Int) ≤ (j : Int) := by omega
                have j1 : (j : Int) < (q : Int) := by omega
                have hAB := Lib.hid (show befB t (m : Int) (mj : Int) = t.ahead m mj from befB_n (by rw [← HN.out]; exact hml) (by rw [← HN.out]; exact hjl))
                have HLAST := Lib.hid (lastW_succ t o ce j)
                rw [← HMJ.out] at HLAST
                clear hmj hjc
                go_wp2_with fail
                refine (dbs_all t (m : Int) (mj : Int) wr S _ HSR2.out RAR.out hl).mono ?_
                rw [hAB.out]
                rintro e w4 ⟨rfl, hb4⟩
                have HB4 := Lib.hid (HB.out.trans (But.of_below hb4))
                have BG4 := Lib.hid (BG.out.below hb4)
                have HF4 := Lib.hid (HFIN.out.trans (hb4.mono HFIN.out.size))
                clear hb4 HB BG HFIN x0 x1 x2 x3 x4 BXR RAR HSR2 z0
                cases hah : t.ahead m mj with
                | true =>
                  have HBAD := Lib.hid (seeL_bad (show ¬ GoodO t o from fun h => h.2 ⟨q, j, by rw [HLN.out]; exact hlt, hltj, by rw [← HM.out, ← HMJ.out]; exact hah⟩))
                  clear hah
                  go_wp2
                  go_ret2
                  exact ⟨_, by rw [HBAD.out.2]; rfl, by rw [HBAD.out.1]; exact RdL.nil (by simp [maxLen]), HF4.out⟩
                | false =>
                  have HCN := Lib.hid (show ∀ j', j' < j + 1 → t.ahead (oA o q) (oA o j') = false from fun j' h => by
                    rcases Nat.lt_or_ge j' j with h1 | h1
                    · exact HCJ.out j' h1
                    · rw [show j' = j by omega, ← HM.out, ← HMJ.out]; exact hah)
                  clear hah HCJ
                  obtain ⟨bl, ol, rfl, hbl, hok1, f0, f1⟩ := HLV3.out m hml
                  obtain ⟨bl', ol', e, hbl', hok2, h0, h1⟩ := HLV3.out mj hjl
                  injection e with e
                  injection e with e1 e2
                  subst e1 e2
                  have f0 := HB4.out.cell (p := ⟨bl, _, none⟩) (fun e => by have h : bl = g := e; omega) f0
                  have h0 := HB4.out.cell (p := ⟨bl, _, none⟩) (fun e => by have h : bl = g := e; omega) h0
                  have h1 := HB4.out.cell (p := ⟨bl, _, none⟩) (fun e => by have h : bl = g := e; omega) h1
                  rw [show (t.lf m).cell = ce by rw [HCE.out, HM.out]] at f0
                  obtain ⟨cj, hcj⟩ : ∃ z, z = (t.lf mj).cell := ⟨_, rfl⟩
                  obtain ⟨wj, hwj⟩ : ∃ z, z = (t.lf mj).write := ⟨_, rfl⟩
                  rw [← hcj] at h0 HLAST
                  rw [← hwj] at h1 HLAST
                  have mj0 : (0 : Int) ≤ (mj : Int) := by omega
                  have mj1 : (mj : Int) < (n : Int) := by omega
                  have hblw : bl < w4.heap.size := by have := HB4.out.size; have := hw2s.out; omega
                  clear hcj hwj hok1 hok2 hbl'
                  go_upto_region 22 with (fail)
                  cases hcond : (wj && decide (cj = ce)) with
                  | true =>
                    have HNX := Lib.hid (show lastW t o ce (j + 1) = (mj : Int) by rw [HLAST.out, hcond]; rfl)
                    have HWC := Lib.hid (show wj = true ∧ cj = ce by simpa using hcond)
                    clear hcond
                    obtain ⟨rfl, rfl⟩ := HWC.out
                    have gfr := BG4.out.fr m
                    have gce := BG4.out.mapAt (q := m) (x := lastW t o cj j) (by rw [List.getElem?_set_self (by rw [seeS_len, ← HN.out]; exact hml)])
                    unfold encZ at gce
                    have HGN := Lib.hid (fun nq => show Blk 0 ((w4.drewN nq).setCell ⟨g, m, none⟩ (.int .i64 (mj : Int))) g (((seeS t o q).set m (lastW t o cj (j + 1))).map encZ) from by
                      have h := (BG4.out.drewN nq).mapSet (q := m) (by rw [List.length_set, seeS_len, ← HN.out]; exact hml) (mj : Int)
                      rw [List.set_set] at h
                      rw [HNX.out]; exact h)
                    have HBN := Lib.hid (fun nq => show But (Is g) w2 ((w4.drewN nq).setCell ⟨g, m, none⟩ (.int .i64 (mj : Int))) from (HB4.out.drewN nq).setCell (T := Is g) (p := ⟨g, m, none⟩) (show Is g g from rfl) _)
                    go_quiet (fail)
                    go_wp2
                    go_roundw
                    case rel => exact ⟨j + 1, hltj, by go_num, HCN, Lib.hid (HGN.out _), Lib.hid (HBN.out _)⟩
                    case measure => simp [intOf]; omega
                  | false =>
                    have HNX := Lib.hid (show lastW t o ce (j + 1) = lastW t o ce j by rw [HLAST.out, hcond]; rfl)
                    have HGN := Lib.hid (fun nq => show Blk 0 (w4.drewN nq) g (((seeS t o q).set m (lastW t o ce (j + 1))).map encZ) from by rw [HNX.out]; exact BG4.out.drewN nq)
                    cases wj with
                    | false =>
                      clear hcond
                      go_quiet (fail)
                      go_wp2
                      go_roundw
                      case rel => exact ⟨j + 1, hltj, by go_num, HCN, Lib.hid (HGN.out _), Lib.hid (HB4.out.drewN _)⟩
                      case measure => simp [intOf]; omega
                    | true =>
                      have hne : (cj == ce) = false := by simpa using hcond
                      clear hcond
                      go_quiet (fail)
                      go_wp2
                      go_roundw
                      case rel => exact ⟨j + 1, hltj, by go_num, HCN, Lib.hid (HGN.out _), Lib.hid (HB4.out.drewN _)⟩
                      case measure => simp [intOf]; omega
              · have hje : j = q := by omega
                subst hje
                have HCN := Lib.hid (show ∀ i j', i < j + 1 → j' < i → t.ahead (oA o i) (oA o j') = false from fun i j' h1 h2 => by
                  rcases Nat.lt_or_ge i j with h3 | h3
                  · exact HC.out i j' h3 h2
                  · have : i = j := by omega
                    subst this; exact HCJ.out j' h2)
                have HGN := Lib.hid (show Blk 0 wr g ((seeS t o (j + 1)).map encZ) by
                  have h := BG.out
                  rw [HCE.out, HM.out] at h
                  exact h)
                go_wp2
                go_roundw
                case rel => exact ⟨j + 1, hlt, by go_num, HCN, HGN, HB⟩
                case measure => simp [intOf]; omega
          · have hqe : q = n := by omega
            subst hqe
            have HGOOD := Lib.hid (seeL_good (show GoodO t o from ⟨by rw [← HN.out]; exact HOK.out, fun h => by
              obtain ⟨i, j, h1, h2, h3⟩ := h
              rw [HLN.out] at h1
              rw [HC.out i j h1 h2] at h3
              cases h3⟩))
            have hsl : (seeS t o q).length = q := by rw [seeS_len, ← HN.out]
            have hrd := (RowZ.ofBlk BG.out).rd (c := q) (by omega) (by unfold maxLen; omega) (by rw [HN.out]; exact seeS_in (by rw [← HN.out]; exact HOK.out.okq) (by rw [← HN.out]; exact hn1) _ (Nat.le_refl _)) (by omega)
            rw [hsl] at hrd
            have hgl := BG.out.lt
            have HR := Lib.hid (show RdI wr (Plus Nowhere w.heap.size wr.heap.size) (seeL t o) (.slice (some ⟨g, 0, none⟩) q q) by rw [HGOOD.out.1, ← HN.out]; exact hrd.keep Flat.keeps (fun b hb => by have h : b = g := hb; have := HGL.out; have := HWL.out; exact .inr ⟨by omega, by omega⟩) (Same.refl _ _))
            have HF := Lib.hid (show Below w.heap.size w wr from B2.out.trans (HB.out.below B2.out.size (fun b hb => by have h : b = g := hb; have := HGL.out; have := HWL.out; omega)))
            clear hrd hsl BG HB
            go_wp2
            go_ret2
            exact ⟨_, by rw [HGOOD.out.2]; rfl, HR.out, HF.out⟩
end Go.Proofs.Ytfldajplclahfaa
