/- The walk of the reference's OCells. -/
import Derived.Test.YtfldajplclahfaaGFst
import Derived.Test.YtfldajplclahfaaRowZ
namespace Go.Proofs.Ytfldajplclahfaa
open Go.RowKit
set_option linter.unusedVariables false
def cellsR (t : Tm) (ps : List (Int × Int)) : List Int := ps.map fun p => (t.lf p.1.toNat).cell
theorem cellsR_snoc (t : Tm) (ps : List (Int × Int)) {q : Nat} (h : q < ps.length) : cellsR t (ps.take (q + 1)) = cellsR t (ps.take q) ++ [(t.lf ps[q].1.toNat).cell] := by
  unfold cellsR
  rw [List.take_succ_eq_append_getElem h, List.map_append]; rfl
theorem cellsR_len (t : Tm) (ps : List (Int × Int)) : (cellsR t ps).length = ps.length := by simp [cellsR]
set_option maxHeartbeats 2000000 in
set_option maxRecDepth 100000 in
theorem ocells_any (t : Tm) (w : World) (S : Blocks) (V : Value) (hS : Sub S (Upto w.heap.size)) (r : RdT w S t V) (hl : t.count ≤ 1048576) :
    Calls Try.prog 11 #[V] w fun e w' => ∃ x, e = .returned x ∧ (∃ T, Sub T (Upto w'.heap.size) ∧ RdI w' T (sortZ (firsts (cellsR t t.races))) x) ∧ Below w.heap.size w w' := by
  obtain ⟨i0, hi, hz0, hz1, hz2⟩ := info_parts infoInt
  obtain ⟨k, c, wb, lb, kids, v, et, rfl, h1, h2, h3, h4⟩ := id r
  obtain ⟨A1, n1, rfl, _⟩ := h4.form
  have bel : Below w.heap.size w (w.alloc (.cells #[.int .i64 k, .int .i64 c, .bool wb, .int .i64 lb, .slice A1 kids.length n1] 26)) := (Below.refl _ _).alloc (Nat.le_refl _) _
  have BEL := Lib.hid bel
  have RA := Lib.hid (r.go bel hS)
  have HS := Lib.hid (hS.trans (Sub.upto bel.size))
  have BX := Lib.hid (Blk.made w [.int .i64 k, .int .i64 c, .bool wb, .int .i64 lb, .slice A1 kids.length n1] 26 (base := 0) (Nat.zero_le _))
  unfold tmV
  clear h4 bel r et h1 h2 h3 hS
  go_enter Try.func11, Try.ntmps11
  go_upto_region 1 with (fail)
  obtain ⟨X, hX⟩ : ∃ X, X = w.heap.size := ⟨_, rfl⟩
  rw [← hX] at BX ⊢
  clear hX
  generalize w.alloc (.cells #[.int .i64 k, .int .i64 c, .bool wb, .int .i64 lb, .slice A1 kids.length n1] 26) = W at *
  have x0 := BX.out.cell 0 _ rfl; have x1 := BX.out.cell 1 _ rfl; have x2 := BX.out.cell 2 _ rfl; have x3 := BX.out.cell 3 _ rfl; have x4 := BX.out.cell 4 _ rfl
  go_wp2_with fail
  refine (dls_all t W S _ HS.out RA.out hl).mono ?_
  rintro e wl ⟨xl, rfl, hxl, hbl⟩
  have hcl : t.leaves.length = t.count := rfl
  have HX := Lib.hid (show Fr encAcc okAcc 3 24 wl t.leaves xl from ⟨Upto wl.heap.size, Sub.refl _, hxl.toRd (by rw [hcl]; omega) (fun b h1 h2 => h2)⟩)
  obtain ⟨A, cap, rfl, hlc, hcm, -⟩ := (show RdAccs wl (Upto wl.heap.size) t.leaves xl from hxl.toRd (by rw [hcl]; omega) (fun b h1 h2 => h2)).form
  unfold maxLen at hcm
  rw [hcl] at hlc HX ⊢
  have BL := Lib.hid (BEL.out.trans (hbl.mono BEL.out.size))
  have RL := Lib.hid (RA.out.go hbl HS.out)
  have HSL := Lib.hid (HS.out.trans (Sub.upto hbl.size))
  have BXL := Lib.hid (BX.out.below hbl)
  clear hxl hbl x0 x1 x2 x3 x4 BEL RA BX hcl HS
  have x0 := BXL.out.cell 0 _ rfl; have x1 := BXL.out.cell 1 _ rfl; have x2 := BXL.out.cell 2 _ rfl; have x3 := BXL.out.cell 3 _ rfl; have x4 := BXL.out.cell 4 _ rfl
  go_wp2_with fail
  refine (oraces_any t wl S _ HSL.out RL.out hl).mono ?_
  rintro e w1 ⟨xp, rfl, hxp, b1⟩
  have HX1 := Lib.hid (HX.out.via b1)
  have B1 := Lib.hid (BL.out.trans (b1.mono BL.out.size))
  have hll2 : t.count * t.count ≤ 1048576 * 1048576 := Nat.mul_le_mul (by omega) (by omega)
  have hlr := racesUp_len t t.count
  have HMEM := Lib.hid (races_in t t.count (Nat.le_refl _))
  obtain ⟨ps, hps⟩ : ∃ ps, ps = t.races := ⟨_, rfl⟩
  have hps2 : ps = racesUp t t.count := hps
  rw [← hps2] at hlr HMEM
  rw [← hps] at hxp
  have HPS := Lib.hid hps
  clear hps hps2
  obtain ⟨Ap, cp, rfl, hpl, hpm, _⟩ := hxp.form
  unfold maxLen at hpm
  have HP := Lib.hid hxp
  have HLEN := Lib.hid (show ps.length ≤ 1099511627776 by omega)
  clear hxp b1 hll2 hlr x0 x1 x2 x3 x4 HX BL RL BXL HSL
  go_wp2_with fail
  go_loopw [4, 13] (fun o u wr => ∃ q : Nat, q ≤ ps.length ∧ u = .int .i64 q ∧ Hid (OwnI 3 wr w1.heap.size Nowhere (firsts (cellsR t (ps.take q))) o) ∧ Below w1.heap.size w1 wr) (fun _ u _ => ps.length - (intOf u).toNat)
  case atStart => exact ⟨0, by omega, rfl, Lib.hid (OwnL.nil _ _ _), Below.refl _ _⟩
  case round =>
    obtain ⟨q, hq, rfl, HO, hb⟩ := hrel
    have hzr := hb.size
    by_cases hlt : q < ps.length
    · obtain ⟨bp, op, rfl, hbp, hokp, hc0, hc1⟩ := RdP.at1 HP.out hlt
      have HCS := Lib.hid (cellsR_snoc t ps hlt)
      obtain ⟨i, j, hij, hi0, hij1, hj1, _⟩ := HMEM.out _ (List.getElem_mem hlt)
      have hi1 : i < t.count := hi0
      rw [hij] at hc0 hc1 HCS
      dsimp only at hc0 hc1 HCS
      rw [Int.toNat_natCast] at HCS
      have hbpw : bp < w1.heap.size := (hbp.elim (fun h => h.elim) (fun h => h.2))
      have z0 := (hb.cell (p := ⟨bp, op + q * 2, none⟩) hbpw).trans hc0
      have z1 := (hb.cell (p := ⟨bp, op + q * 2 + 1, none⟩) hbpw).trans hc1
      obtain ⟨b, off, rfl, hbw, hok, e0, -, -⟩ := accsF_at HX1.out hi1
      obtain ⟨ce, hce0⟩ : ∃ a, a = (t.lf i).cell := ⟨_, rfl⟩
      rw [← hce0] at e0 HCS
      have hce : inI ce := by rw [hce0]; exact hok.1
      have z3 := (hb.cell (p := ⟨b, off + i * 3, none⟩) hbw).trans e0
      clear hce0
      have hbr : b < wr.heap.size := by omega
      have hbr' : bp < wr.heap.size := by omega
      have p0 : (0 : Int) ≤ (i : Int) := by omega
      have p1 : (i : Int) < (t.count : Int) := by omega
      have q0 : (0 : Int) ≤ (q : Int) := by omega
      have q1 : (q : Int) < (ps.length : Int) := by omega
      have hbel : Below wr.heap.size wr (wr.alloc (.cells #[.int .i64 (i : Int), .int .i64 (j : Int)] 30)) := (Below.refl _ _).alloc (Nat.le_refl _) _
      have HO1 := Lib.hid (HO.out.keep Flat.keeps hbel)
      have HB1 := Lib.hid (hb.trans (hbel.mono hzr))
      have HD := Lib.hid (Blk.made wr [.int .i64 (i : Int), .int .i64 (j : Int)] 30 (base := 0) (Nat.zero_le _))
      have z4 := (hbel.cell (p := ⟨b, off + i * 3, none⟩) hbr).trans z3
      have HLQ := Lib.hid (show (firsts (cellsR t (ps.take q))).length ≤ q by refine Nat.le_trans (firsts_len _) ?_; rw [cellsR_len]; simp; omega)
      have HFS := Lib.hid (show firsts (cellsR t (ps.take (q + 1))) = if (firsts (cellsR t (ps.take q))).contains ce then firsts (cellsR t (ps.take q)) else firsts (cellsR t (ps.take q)) ++ [ce] by rw [HCS.out, firsts_snoc])
      have HNL := HLQ.out
      have HLL := HLEN.out
      obtain ⟨d, hd⟩ : ∃ d, d = wr.heap.size := ⟨_, rfl⟩
      rw [← hd] at HD
      go_upto_region 6 with (fail)
      rw [← hd]
      clear hbel HO hok hc0 hc1 hokp hij hd z0 z1 z3 hbr hbr' e0
      generalize (wr.alloc (.cells #[.int .i64 (i : Int), .int .i64 (j : Int)] 30)) = W at *
      have y0 := HD.out.cell 0 _ rfl
      have y1 := HD.out.cell 1 _ rfl
      have hdl := HD.out.lt
      have HZZ := Lib.hid HB1.out.size
      have HRD := Lib.hid (HO1.out.toRd (bytes := 8) (S' := fun _ => True) Flat.keeps (by omega) (Sub.nowhere _) (fun _ _ _ => trivial))
      generalize firsts (cellsR t (ps.take q)) = fl at *
      clear HD
      cases hh : fl.contains ce
      · have HN := Lib.hid (show firsts (cellsR t (ps.take (q + 1))) = fl ++ [ce] by rw [HFS.out, hh]; rfl)
        go_wp2_with (first | (go_at_call 24; refine (containsI fl ce _ _ _ HRD.out).mono ?_; rintro e w' ⟨rfl, rfl⟩; rw [hh]) | (at_builtin; refine wpList_append_one rfl _ _ 34 rfl i0 _ Try.underlying34 hi hz0 hz1 hz2 rfl (by decide) Flat.keeps HO1.out (x := ce) (cs := [Value.int .i64 ce]) (Tx := Nowhere) ?d0 rfl rfl rfl (Sub.nowhere _) (Sub.nowhere _) not_nowhere ?d1 ?d2 ?d3 ?d4 ?_))
        case d0 => exact ⟨rfl, hce⟩
        case d1 => simp [Value.oneCell']
        case d2 => unfold maxLen; omega
        case d3 => omega
        try (case d4 => exact HZZ.out)
        intro v2 w2 ho2 hg2 _
        have HB3 := Lib.hid (HB1.out.grown hg2 HZZ.out (fun g hg => (HO1.out.lt g hg).1))
        have HO3 := Lib.hid ho2
        clear ho2 hg2 HO1 hh
        go_wp2_with fail
        go_roundw
        case rel => exact ⟨q + 1, by omega, by go_num, Lib.hid (by rw [HN.out]; exact HO3.out), HB3.out⟩
        case measure => simp [intOf]; omega
      · have HN := Lib.hid (show firsts (cellsR t (ps.take (q + 1))) = fl by rw [HFS.out, hh]; rfl)
        go_wp2_with (go_at_call 24; refine (containsI fl ce _ _ _ HRD.out).mono ?_; rintro e w' ⟨rfl, rfl⟩; rw [hh])
        go_roundw
        case rel => exact ⟨q + 1, by omega, by go_num, Lib.hid (by rw [HN.out]; exact HO1.out), HB1.out⟩
        case measure => simp [intOf]; omega
    · have hqe : q = ps.length := by omega
      subst hqe
      rw [List.take_length] at HO
      have HCL := Lib.hid (show (firsts (cellsR t ps)).length ≤ 1099511627776 by refine Nat.le_trans (firsts_len _) ?_; rw [cellsR_len]; exact HLEN.out)
      rw [HPS.out] at HO HCL
      obtain ⟨cs, hcs⟩ : ∃ cs, cs = firsts (cellsR t (t.races)) := ⟨_, rfl⟩
      rw [← hcs] at HO HCL
      have HCS := Lib.hid hcs
      clear hcs
      have HB2 := Lib.hid (B1.out.trans (hb.mono B1.out.size))
      have hwz := B1.out.size
      rcases Nat.eq_zero_or_pos cs.length with h0 | h0
      · have hnil : cs = [] := List.eq_nil_of_length_eq_zero h0
        obtain ⟨Ao, co, he, _, hcm2, _⟩ := (HO.out.toRd (bytes := 8) (S' := fun _ => True) Flat.keeps (by rw [h0]; simp) (Sub.nowhere _) (fun _ _ _ => trivial)).form
        rw [h0] at he
        subst he
        clear HO
        go_wp2_with fail
        refine (sort_none Ao co _).mono ?_
        rintro e w' ⟨⟨x, rfl⟩, rfl⟩
        go_wp2
        go_ret
        refine ⟨_, rfl, ⟨Nowhere, Sub.nowhere _, ?_⟩, HB2.out⟩
        rw [← HCS.out, hnil, show sortZ [] = [] by simp [sortZ]]
        exact RdL.nil hcm2
      · obtain ⟨g, c, rfl, hge, hlc, hcm2, hrow, hok⟩ := rowZ_of HO.out h0
        have HROW := Lib.hid hrow
        have HOK := Lib.hid hok
        have HLC := Lib.hid hlc
        have HCM := Lib.hid hcm2
        have hcc := HCL.out
        clear HO hrow hok hlc hcm2
        go_wp2_with fail
        refine (sort_any cs g c _ HROW.out (by omega)).mono ?_
        rintro e w2 ⟨⟨x, rfl⟩, hr2, hb2⟩
        have hrd := hr2.rd (c := c) (by rw [sortZ_len]; exact HLC.out) HCM.out (fun x hx => HOK.out x ((sortZ_mem _ _).1 hx)) (by rw [sortZ_len]; omega)
        rw [sortZ_len] at hrd
        have HRD := Lib.hid hrd
        have HGL := Lib.hid hr2.lt
        have HB3 := Lib.hid (HB2.out.trans (hb2.below (B := w.heap.size) HB2.out.size (fun k e => by unfold Is at e; omega)))
        clear hr2 hb2 hrd HROW
        go_wp2
        go_ret
        refine ⟨_, rfl, ⟨Is g, fun b hb => by unfold Is at hb; subst hb; exact HGL.out, ?_⟩, HB3.out⟩
        rw [← HCS.out]
        exact HRD.out
end Go.Proofs.Ytfldajplclahfaa
