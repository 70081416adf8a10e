/- The walks of hb.Cells and of the reference's SCells. -/
import Derived.Test.YtikjegfjgfhiaaaHr2
import Derived.Test.YtikjegfjgfhiaaaSrtI
namespace Go.Proofs.Ytikjegfjgfhiaaa
open Go.RowKit
set_option linter.unusedVariables false
theorem cellsH_snoc (l : List HEv) (ps : List (Int × Int)) {q : Nat} (h : q < ps.length) : cellsH l (ps.take (q + 1)) = cellsH l (ps.take q) ++ [(evAt l ps[q].1.toNat).cell] := by
  unfold cellsH
  rw [List.take_succ_eq_append_getElem h, List.map_append]; rfl
theorem cellsH_len (l : List HEv) (ps : List (Int × Int)) : (cellsH l ps).length = ps.length := by simp [cellsH]
theorem firsts_len (xs : List Int) : (firsts xs).length ≤ xs.length := by
  have key : ∀ (ys out : List Int), (ys.foldl (fun out c => if out.contains c then out else out ++ [c]) out).length ≤ out.length + ys.length := by
    intro ys
    induction ys with
    | nil => intro out; simp
    | cons y r ih =>
      intro out
      rw [List.foldl_cons]
      refine Nat.le_trans (ih _) ?_
      split <;> simp <;> omega
  have := key xs []
  simpa [firsts] using this
theorem rowZ_of {w : World} {base : Nat} {l : List Int} {v : Value} (h : OwnI 3 w base Nowhere l v) (hne : 0 < l.length) : ∃ g c, v = .slice (some ⟨g, 0, none⟩) l.length c ∧ base ≤ g ∧ l.length ≤ c ∧ c ≤ maxLen ∧ RowZ w g l ∧ ∀ x ∈ l, inI x := by
  obtain ⟨g, c, e, h1, h2, h3, h4, h5, h6⟩ := OwnI.open_ h hne
  exact ⟨g, c, e, h1, h3, h4, ⟨h2, h5, fun q hq => (h6 q hq).2⟩, fun x hx => by obtain ⟨q, hq, rfl⟩ := List.getElem_of_mem hx; exact (h6 q hq).1⟩
theorem RowZ.rd {w : World} {g c : Nat} {l : List Int} (h : RowZ w g l) (hc : l.length ≤ c) (hm : c ≤ maxLen) (hok : ∀ x ∈ l, inI x) (hby : l.length * 8 ≤ 140737488355328) : RdI w (Is g) l (.slice (some ⟨g, 0, none⟩) l.length c) :=
  ⟨_, c, l.map fun x => [.int .i64 x], rfl, hc, hm, hby, by simp, ⟨fun cs hcs => by obtain ⟨x, _, rfl⟩ := List.mem_map.1 hcs; rfl, fun _ => ⟨g, 0, rfl, rfl, fun i cs hi j v hv => by
    rw [List.getElem?_map] at hi
    obtain ⟨y, hy, rfl⟩ := Option.map_eq_some_iff.1 hi
    have hi' := (List.getElem?_eq_some_iff.1 hy).1
    have hj : j = 0 := by have := (List.getElem?_eq_some_iff.1 hv).1; simp at this; exact this
    subst hj
    simp at hv; subst hv
    have hc := h.cell i hi'
    rw [(List.getElem?_eq_some_iff.1 hy).2] at hc
    simpa using hc⟩⟩, fun i e cs hi hc => by
    rw [List.getElem?_map, hi] at hc
    simp at hc; subst hc
    exact ⟨rfl, hok _ (List.mem_of_getElem? hi)⟩⟩
set_option maxHeartbeats 2000000 in
set_option maxRecDepth 100000 in
theorem cells_any (l : List HEv) (w : World) (S : Blocks) (v : Value) (hS : Sub S (Upto w.heap.size)) (r : RdEvs w S l v) (hll : l.length ≤ 1048576) :
    Calls Try.prog 16 #[v] w fun e w' => ∃ x, e = .returned x ∧ (∃ T, Sub T (Upto w'.heap.size) ∧ RdI w' T (sortZ (firsts (cellsH l (racesH l l.length)))) x) ∧ Below w.heap.size w w' := by
  obtain ⟨A, cap, rfl, hl, hcm, hby⟩ := r.form
  unfold maxLen at hcm
  obtain ⟨i0, hi, hz0, hz1, hz2⟩ := info_parts infoInt
  have R := Lib.hid r
  have HS := Lib.hid hS
  clear r hS
  go_enter Try.func16, Try.ntmps16
  go_wp2_with fail
  refine (races_any l w S _ HS.out R.out hll).mono ?_
  rintro e w1 ⟨xp, rfl, hxp, b1⟩
  have hll2 : l.length * l.length ≤ 1048576 * 1048576 := Nat.mul_le_mul (by omega) (by omega)
  have hlr := racesH_len l l.length
  have HMEM := Lib.hid (fun x hx => racesH_mem (l := l) (n := l.length) (x := x) hx)
  obtain ⟨ps, hps⟩ : ∃ ps, ps = racesH l l.length := ⟨_, rfl⟩
  rw [← hps] at hxp hlr HMEM
  have HPS := Lib.hid hps
  clear hps
  obtain ⟨Ap, cp, rfl, hpl, hpm, _⟩ := hxp.form
  unfold maxLen at hpm
  have HP := Lib.hid hxp
  have B1 := Lib.hid b1
  have HLEN := Lib.hid (show ps.length ≤ 1099511627776 by omega)
  clear hxp b1 hll2 hlr
  go_wp2_with fail
  go_loopw [3, 9] (fun o t wr => ∃ q : Nat, q ≤ ps.length ∧ t = .int .i64 q ∧ Hid (OwnI 3 wr w1.heap.size Nowhere (cellsH l (ps.take q)) o) ∧ Below w1.heap.size w1 wr) (fun _ t _ => ps.length - (intOf t).toNat)
  case atStart => exact ⟨0, by omega, rfl, Lib.hid (OwnL.nil _ _ _), Below.refl _ _⟩
  case round =>
    obtain ⟨q, hq, rfl, HO, hb⟩ := hrel
    have hzr := hb.size
    by_cases hlt : q < ps.length
    · obtain ⟨bp, op, rfl, hbp, hokp, hc0, hc1⟩ := RdP.at1 HP.out hlt
      have HCS := Lib.hid (cellsH_snoc l ps hlt)
      obtain ⟨i, j, hij, hi1, hj1, _⟩ := HMEM.out _ (List.getElem_mem hlt)
      rw [hij] at hc0 hc1 HCS
      dsimp only at hc0 hc1 HCS
      rw [Int.toNat_natCast] at HCS
      have hbpw : bp < w1.heap.size := (hbp.elim (fun h => h.elim) (fun h => h.2))
      have z0 := (hb.cell (p := ⟨bp, op + q * 2, none⟩) hbpw).trans hc0
      have z1 := (hb.cell (p := ⟨bp, op + q * 2 + 1, none⟩) hbpw).trans hc1
      obtain ⟨b, off, rfl, hbS, hok, hc⟩ := RdEvs.at_ (R.out.go Flat.keeps B1.out HS.out (Sub.refl _)) (show i < l.length by omega)
      rcases hev : evAt l i with ⟨k, a, ot, ce, wt, lb⟩
      rw [hev] at hok hc HCS
      have hbw : b < w1.heap.size := Nat.lt_of_lt_of_le (HS.out _ hbS) B1.out.size
      have z3 := (hb.cell (p := ⟨b, off + i * 6 + 3, none⟩) hbw).trans (hc 3 _ rfl)
      have hce : inI ce := hok.2.2.2.1
      have hbr : b < wr.heap.size := by omega
      have hbr' : bp < wr.heap.size := by omega
      have p0 : (0 : Int) ≤ (i : Int) := by omega
      have p1 : (i : Int) < (l.length : Int) := by omega
      have q0 : (0 : Int) ≤ (q : Int) := by omega
      have q1 : (q : Int) < (ps.length : Int) := by omega
      have hbel : Below wr.heap.size wr (wr.alloc (.cells #[.int .i64 (i : Int), .int .i64 (j : Int)] 33)) := (Below.refl _ _).alloc (Nat.le_refl _) _
      have HO1 := Lib.hid (HO.out.keep Flat.keeps hbel)
      have HB1 := Lib.hid (hb.trans (hbel.mono hzr))
      have HD := Lib.hid (Blk.made wr [.int .i64 (i : Int), .int .i64 (j : Int)] 33 (base := 0) (Nat.zero_le _))
      have z4 := (hbel.cell (p := ⟨b, off + i * 6 + 3, none⟩) hbr).trans z3
      have HLQ := Lib.hid (show (cellsH l (ps.take q)).length ≤ q by rw [cellsH_len]; simp; omega)
      have HNL := HLQ.out
      have HLL := HLEN.out
      obtain ⟨d, hd⟩ : ∃ d, d = wr.heap.size := ⟨_, rfl⟩
      rw [← hd] at HD
      go_upto_region 5 with (fail)
      rw [← hd]
      clear hbel HO hok hc hev hc0 hc1 hokp hij hd z0 z1 z3 hbr hbr'
      generalize (wr.alloc (.cells #[.int .i64 (i : Int), .int .i64 (j : Int)] 33)) = W at *
      have y0 := HD.out.cell 0 _ rfl
      have y1 := HD.out.cell 1 _ rfl
      have hdl := HD.out.lt
      have HZZ := Lib.hid HB1.out.size
      clear HD
      go_wp2_with (at_builtin; refine wpList_append_one rfl _ _ 36 rfl i0 _ Try.underlying36 hi hz0 hz1 hz2 rfl (by decide) Flat.keeps HO1.out (x := ce) (cs := [Value.int .i64 ce]) (Tx := Nowhere) ?d0 rfl rfl rfl (Sub.nowhere _) (Sub.nowhere _) not_nowhere ?d1 ?d2 ?d3 ?d4 ?_)
      case d0 => exact ⟨rfl, hce⟩
      case d1 => simp [Value.oneCell']
      case d2 => unfold maxLen; omega
      case d3 => omega
      try (case d4 => exact HZZ.out)
      intro v2 w2 ho2 hg2 _
      have HB3 := Lib.hid (HB1.out.grown hg2 HZZ.out (fun g hg => (HO1.out.lt g hg).1))
      have HO3 := Lib.hid ho2
      clear ho2 hg2 HO1
      go_wp2_with fail
      go_roundw
      case rel => exact ⟨q + 1, by omega, by go_num, Lib.hid (by rw [HCS.out]; exact HO3.out), HB3.out⟩
      case measure => simp [intOf]; omega
    · have hqe : q = ps.length := by omega
      subst hqe
      rw [List.take_length] at HO
      have HCL := Lib.hid (show (cellsH l ps).length ≤ 1099511627776 by rw [cellsH_len]; exact HLEN.out)
      rw [HPS.out] at HO HCL
      obtain ⟨cs, hcs⟩ : ∃ cs, cs = cellsH l (racesH l l.length) := ⟨_, rfl⟩
      rw [← hcs] at HO HCL
      have HCS := Lib.hid hcs
      clear hcs
      have HB2 := Lib.hid (B1.out.trans (hb.mono B1.out.size))
      have hwz := B1.out.size
      rcases Nat.eq_zero_or_pos cs.length with h0 | h0
      · have hnil : cs = [] := List.eq_nil_of_length_eq_zero h0
        obtain ⟨Ao, co, he, _, hcm2, _⟩ := (HO.out.toRd (bytes := 8) (S' := fun _ => True) Flat.keeps (by rw [h0]; simp) (Sub.nowhere _) (fun _ _ _ => trivial)).form
        rw [h0] at he
        subst he
        clear HO
        go_wp2_with fail
        refine (sort_none Ao co _).mono ?_
        rintro e w' ⟨⟨x, rfl⟩, rfl⟩
        go_wp2_with fail
        refine (compact_none Ao co _).mono ?_
        rintro e w' ⟨rfl, rfl⟩
        go_wp2
        go_ret
        refine ⟨_, rfl, ⟨Nowhere, Sub.nowhere _, ?_⟩, HB2.out⟩
        rw [← HCS.out, hnil, show sortZ (firsts []) = [] by simp [firsts, sortZ]]
        exact RdL.nil hcm2
      · obtain ⟨g, c, rfl, hge, hlc, hcm2, hrow, hok⟩ := rowZ_of HO.out h0
        have HROW := Lib.hid hrow
        have HOK := Lib.hid hok
        have HLC := Lib.hid hlc
        have HCM := Lib.hid hcm2
        have hcc := HCL.out
        clear HO hrow hok hlc hcm2
        go_wp2_with fail
        refine (sort_any cs g c _ HROW.out (by omega)).mono ?_
        rintro e w2 ⟨⟨x, rfl⟩, hr2, hb2⟩
        have hcon := compact_any (sortZ cs) g c w2 hr2 (by rw [sortZ_len]; exact HLC.out) HCM.out (fun x hx => HOK.out x ((sortZ_mem _ _).1 hx)) (by rw [sortZ_len]; omega) (fun x hx => compact_mem hx)
        rw [sortZ_len] at hcon
        have HCON := Lib.hid hcon
        have HGL := Lib.hid hr2.lt
        have HB3 := Lib.hid (HB2.out.trans (hb2.below (B := w.heap.size) HB2.out.size (fun k e => by unfold Is at e; omega)))
        clear hr2 hb2 hcon HROW
        go_wp2_with fail
        refine HCON.out.mono ?_
        rintro e w3 ⟨u, rfl, hu, hb3⟩
        have HU := Lib.hid hu
        have HB4 := Lib.hid (HB3.out.trans (hb3.below (B := w.heap.size) HB3.out.size (fun k e => by unfold Is at e; omega)))
        have HZ := Lib.hid hb3.size
        clear hu hb3
        go_wp2
        go_ret
        refine ⟨_, rfl, ⟨Is g, fun b hb => by unfold Is at hb; subst hb; exact Nat.lt_of_lt_of_le HGL.out HZ.out, ?_⟩, HB4.out⟩
        rw [← HCS.out, ← compact_sort]
        exact HU.out
set_option maxHeartbeats 2000000 in
set_option maxRecDepth 100000 in
theorem scells_any (l : List HEv) (w : World) (S : Blocks) (v : Value) (hS : Sub S (Upto w.heap.size)) (r : RdEvs w S l v) (hll : l.length ≤ 1048576) :
    Calls Try.prog 17 #[v] w fun e w' => ∃ x, e = .returned x ∧ (∃ T, Sub T (Upto w'.heap.size) ∧ RdI w' T (sortZ (firsts (cellsH l (racesH l l.length)))) x) ∧ Below w.heap.size w w' := by
  obtain ⟨A, cap, rfl, hl, hcm, hby⟩ := r.form
  unfold maxLen at hcm
  obtain ⟨i0, hi, hz0, hz1, hz2⟩ := info_parts infoInt
  have R := Lib.hid r
  have HS := Lib.hid hS
  clear r hS
  go_enter Try.func17, Try.ntmps17
  go_wp2_with fail
  refine (sraces_any l w S _ HS.out R.out hll).mono ?_
  rintro e w1 ⟨xp, rfl, hxp, b1⟩
  have hll2 : l.length * l.length ≤ 1048576 * 1048576 := Nat.mul_le_mul (by omega) (by omega)
  have hlr := racesH_len l l.length
  have HMEM := Lib.hid (fun x hx => racesH_mem (l := l) (n := l.length) (x := x) hx)
  obtain ⟨ps, hps⟩ : ∃ ps, ps = racesH l l.length := ⟨_, rfl⟩
  rw [← hps] at hxp hlr HMEM
  have HPS := Lib.hid hps
  clear hps
  obtain ⟨Ap, cp, rfl, hpl, hpm, _⟩ := hxp.form
  unfold maxLen at hpm
  have HP := Lib.hid hxp
  have B1 := Lib.hid b1
  have HLEN := Lib.hid (show ps.length ≤ 1099511627776 by omega)
  clear hxp b1 hll2 hlr
  go_wp2_with fail
  go_loopw [3, 10] (fun o t wr => ∃ q : Nat, q ≤ ps.length ∧ t = .int .i64 q ∧ Hid (OwnI 3 wr w1.heap.size Nowhere (firsts (cellsH l (ps.take q))) o) ∧ Below w1.heap.size w1 wr) (fun _ t _ => ps.length - (intOf t).toNat)
  case atStart => exact ⟨0, by omega, rfl, Lib.hid (OwnL.nil _ _ _), Below.refl _ _⟩
  case round =>
    obtain ⟨q, hq, rfl, HO, hb⟩ := hrel
    have hzr := hb.size
    by_cases hlt : q < ps.length
    · obtain ⟨bp, op, rfl, hbp, hokp, hc0, hc1⟩ := RdP.at1 HP.out hlt
      have HCS := Lib.hid (cellsH_snoc l ps hlt)
      obtain ⟨i, j, hij, hi1, hj1, _⟩ := HMEM.out _ (List.getElem_mem hlt)
      rw [hij] at hc0 hc1 HCS
      dsimp only at hc0 hc1 HCS
      rw [Int.toNat_natCast] at HCS
      have hbpw : bp < w1.heap.size := (hbp.elim (fun h => h.elim) (fun h => h.2))
      have z0 := (hb.cell (p := ⟨bp, op + q * 2, none⟩) hbpw).trans hc0
      have z1 := (hb.cell (p := ⟨bp, op + q * 2 + 1, none⟩) hbpw).trans hc1
      obtain ⟨b, off, rfl, hbS, hok, hc⟩ := RdEvs.at_ (R.out.go Flat.keeps B1.out HS.out (Sub.refl _)) (show i < l.length by omega)
      rcases hev : evAt l i with ⟨k, a, ot, ce, wt, lb⟩
      rw [hev] at hok hc HCS
      have hbw : b < w1.heap.size := Nat.lt_of_lt_of_le (HS.out _ hbS) B1.out.size
      have z3 := (hb.cell (p := ⟨b, off + i * 6 + 3, none⟩) hbw).trans (hc 3 _ rfl)
      have hce : inI ce := hok.2.2.2.1
      have hbr : b < wr.heap.size := by omega
      have hbr' : bp < wr.heap.size := by omega
      have p0 : (0 : Int) ≤ (i : Int) := by omega
      have p1 : (i : Int) < (l.length : Int) := by omega
      have q0 : (0 : Int) ≤ (q : Int) := by omega
      have q1 : (q : Int) < (ps.length : Int) := by omega
      have hbel : Below wr.heap.size wr (wr.alloc (.cells #[.int .i64 (i : Int), .int .i64 (j : Int)] 33)) := (Below.refl _ _).alloc (Nat.le_refl _) _
      have HO1 := Lib.hid (HO.out.keep Flat.keeps hbel)
      have HB1 := Lib.hid (hb.trans (hbel.mono hzr))
      have HD := Lib.hid (Blk.made wr [.int .i64 (i : Int), .int .i64 (j : Int)] 33 (base := 0) (Nat.zero_le _))
      have z4 := (hbel.cell (p := ⟨b, off + i * 6 + 3, none⟩) hbr).trans z3
      have HLQ := Lib.hid (show (firsts (cellsH l (ps.take q))).length ≤ q by refine Nat.le_trans (firsts_len _) ?_; rw [cellsH_len]; simp; omega)
      have HFS := Lib.hid (show firsts (cellsH l (ps.take (q + 1))) = if (firsts (cellsH l (ps.take q))).contains ce then firsts (cellsH l (ps.take q)) else firsts (cellsH l (ps.take q)) ++ [ce] by rw [HCS.out, firsts_snoc])
      have HNL := HLQ.out
      have HLL := HLEN.out
      obtain ⟨d, hd⟩ : ∃ d, d = wr.heap.size := ⟨_, rfl⟩
      rw [← hd] at HD
      go_upto_region 5 with (fail)
      rw [← hd]
      clear hbel HO hok hc hev hc0 hc1 hokp hij hd z0 z1 z3 hbr hbr'
      generalize (wr.alloc (.cells #[.int .i64 (i : Int), .int .i64 (j : Int)] 33)) = W at *
      have y0 := HD.out.cell 0 _ rfl
      have y1 := HD.out.cell 1 _ rfl
      have hdl := HD.out.lt
      have HZZ := Lib.hid HB1.out.size
      have HRD := Lib.hid (HO1.out.toRd (bytes := 8) (S' := fun _ => True) Flat.keeps (by omega) (Sub.nowhere _) (fun _ _ _ => trivial))
      generalize firsts (cellsH l (ps.take q)) = fl at *
      clear HD
      cases hh : fl.contains ce
      · have HN := Lib.hid (show firsts (cellsH l (ps.take (q + 1))) = fl ++ [ce] by rw [HFS.out, hh]; rfl)
        go_wp2_with (first | (go_at_call 32; refine (containsI fl ce _ _ _ HRD.out).mono ?_; rintro e w' ⟨rfl, rfl⟩; rw [hh]) | (at_builtin; refine wpList_append_one rfl _ _ 36 rfl i0 _ Try.underlying36 hi hz0 hz1 hz2 rfl (by decide) Flat.keeps HO1.out (x := ce) (cs := [Value.int .i64 ce]) (Tx := Nowhere) ?d0 rfl rfl rfl (Sub.nowhere _) (Sub.nowhere _) not_nowhere ?d1 ?d2 ?d3 ?d4 ?_))
        case d0 => exact ⟨rfl, hce⟩
        case d1 => simp [Value.oneCell']
        case d2 => unfold maxLen; omega
        case d3 => omega
        try (case d4 => exact HZZ.out)
        intro v2 w2 ho2 hg2 _
        have HB3 := Lib.hid (HB1.out.grown hg2 HZZ.out (fun g hg => (HO1.out.lt g hg).1))
        have HO3 := Lib.hid ho2
        clear ho2 hg2 HO1 hh
        go_wp2_with fail
        go_roundw
        case rel => exact ⟨q + 1, by omega, by go_num, Lib.hid (by rw [HN.out]; exact HO3.out), HB3.out⟩
        case measure => simp [intOf]; omega
      · have HN := Lib.hid (show firsts (cellsH l (ps.take (q + 1))) = fl by rw [HFS.out, hh]; rfl)
        go_wp2_with (go_at_call 32; refine (containsI fl ce _ _ _ HRD.out).mono ?_; rintro e w' ⟨rfl, rfl⟩; rw [hh])
        go_roundw
        case rel => exact ⟨q + 1, by omega, by go_num, Lib.hid (by rw [HN.out]; exact HO1.out), HB1.out⟩
        case measure => simp [intOf]; omega
    · have hqe : q = ps.length := by omega
      subst hqe
      rw [List.take_length] at HO
      have HCL := Lib.hid (show (firsts (cellsH l ps)).length ≤ 1099511627776 by refine Nat.le_trans (firsts_len _) ?_; rw [cellsH_len]; exact HLEN.out)
      rw [HPS.out] at HO HCL
      obtain ⟨cs, hcs⟩ : ∃ cs, cs = firsts (cellsH l (racesH l l.length)) := ⟨_, rfl⟩
      rw [← hcs] at HO HCL
      have HCS := Lib.hid hcs
      clear hcs
      have HB2 := Lib.hid (B1.out.trans (hb.mono B1.out.size))
      have hwz := B1.out.size
      rcases Nat.eq_zero_or_pos cs.length with h0 | h0
      · have hnil : cs = [] := List.eq_nil_of_length_eq_zero h0
        obtain ⟨Ao, co, he, _, hcm2, _⟩ := (HO.out.toRd (bytes := 8) (S' := fun _ => True) Flat.keeps (by rw [h0]; simp) (Sub.nowhere _) (fun _ _ _ => trivial)).form
        rw [h0] at he
        subst he
        clear HO
        go_wp2_with fail
        refine (sort_none Ao co _).mono ?_
        rintro e w' ⟨⟨x, rfl⟩, rfl⟩
        go_wp2
        go_ret
        refine ⟨_, rfl, ⟨Nowhere, Sub.nowhere _, ?_⟩, HB2.out⟩
        rw [← HCS.out, hnil, show sortZ [] = [] by simp [sortZ]]
        exact RdL.nil hcm2
      · obtain ⟨g, c, rfl, hge, hlc, hcm2, hrow, hok⟩ := rowZ_of HO.out h0
        have HROW := Lib.hid hrow
        have HOK := Lib.hid hok
        have HLC := Lib.hid hlc
        have HCM := Lib.hid hcm2
        have hcc := HCL.out
        clear HO hrow hok hlc hcm2
        go_wp2_with fail
        refine (sort_any cs g c _ HROW.out (by omega)).mono ?_
        rintro e w2 ⟨⟨x, rfl⟩, hr2, hb2⟩
        have hrd := hr2.rd (c := c) (by rw [sortZ_len]; exact HLC.out) HCM.out (fun x hx => HOK.out x ((sortZ_mem _ _).1 hx)) (by rw [sortZ_len]; omega)
        rw [sortZ_len] at hrd
        have HRD := Lib.hid hrd
        have HGL := Lib.hid hr2.lt
        have HB3 := Lib.hid (HB2.out.trans (hb2.below (B := w.heap.size) HB2.out.size (fun k e => by unfold Is at e; omega)))
        clear hr2 hb2 hrd HROW
        go_wp2
        go_ret
        refine ⟨_, rfl, ⟨Is g, fun b hb => by unfold Is at hb; subst hb; exact HGL.out, ?_⟩, HB3.out⟩
        rw [← HCS.out]
        exact HRD.out
end Go.Proofs.Ytikjegfjgfhiaaa
