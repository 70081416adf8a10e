/- The walk of order.Chain. -/
import Derived.Test.YthbbecmffndgdabDoorOl3
import Derived.Test.YthbbecmffndgdabDoorOlSpec2
import Derived.Test.YthbbecmffndgdabDoorRv1
namespace Go.Proofs.YthbbecmffndgdabDoor
open Go.RowKit
set_option linter.unusedVariables false
set_option maxHeartbeats 1600000 in
set_option maxRecDepth 100000 in
theorem chain_any (N : Int) (hNi : inI N) (ps : List (Int × Int)) (w : World) (S : Blocks) (ve : Value) (hS : Sub S (Upto w.heap.size)) (hT : Tab w) (r : RdP w S ps ve) :
    Calls Tryd.prog 20 #[.agg #[.int .i64 N, ve]] w fun e w' => ∃ x, e = .returned (.tuple #[x, .int .i64 (wrongE N ps)]) ∧
      RdI w' (Plus Nowhere w.heap.size w'.heap.size) (if wrongE N ps = 0 then castL (chainE N.toNat (natsP ps)) else []) x ∧ Below w.heap.size w w' := by
  obtain ⟨A, cap, rfl, hl, hcm, hby⟩ := r.form
  unfold maxLen at hcm
  obtain ⟨i0, hi, hz0, hz1, hz2⟩ := info_parts infoII
  have b0 := Blk.made w [.int .i64 N, .slice A ps.length cap] 24 (base := 0) (Nat.zero_le _)
  have bl : Below w.heap.size w (w.alloc (.cells #[.int .i64 N, .slice A ps.length cap] 24)) := (Below.refl _ _).alloc (Nat.le_refl _) _
  have hsz0 : w.heap.size ≤ ((w.alloc (.cells #[.int .i64 N, .slice A ps.length cap] 24))).heap.size := by rw [World.size_alloc]; omega
  have hsz1 : w.heap.size < ((w.alloc (.cells #[.int .i64 N, .slice A ps.length cap] 24))).heap.size := by rw [World.size_alloc]; omega
  have k0 := b0.cell 0 _ rfl
  have k1 := b0.cell 1 _ rfl
  have HB0 := Lib.hid b0
  have BL := Lib.hid bl
  have HS := Lib.hid hS
  have RA := Lib.hid (r.go Flat.keeps bl hS (Sub.refl _))
  have C1 := Lib.hid (levels_any N hNi ps (w.alloc (.cells #[.int .i64 N, .slice A ps.length cap] 24)) S _ (hS.trans (Sub.upto hsz0)) (hT.go bl) (r.go Flat.keeps bl hS (Sub.refl _)))
  clear b0 bl hT r hS
  go_enter Tryd.func20, Tryd.ntmps20
  go_upto_region 1 with (fail)
  generalize (w.alloc (.cells #[.int .i64 N, .slice A ps.length cap] 24)) = W0 at *
  go_wp2_with fail
  refine C1.out.mono ?_
  rintro e w1 ⟨x, rfl, hso, hsn, hb1⟩
  have BL1 := Lib.hid (BL.out.trans (hb1.mono BL.out.size))
  have HB1 := Lib.hid (HB0.out.below hb1)
  have R1 := Lib.hid (RA.out.go Flat.keeps hb1 (HS.out.trans (Sub.upto BL.out.size)) (Sub.refl _))
  have hw01 := hb1.size
  clear C1 BL HB0 hb1 k0 k1 hsz0 RA
  by_cases hw : wrongE N ps = 0
  · skip
    obtain ⟨hn0, hn2, hgd, hrd⟩ := wrongE_zero hw
    obtain ⟨hps, hval⟩ := good_ps hgd
    obtain ⟨n, hnn⟩ : ∃ n : Nat, N = (n : Int) := ⟨N.toNat, by omega⟩
    subst hnn
    obtain ⟨g, rfl, hM⟩ := hso hw
    rw [Int.toNat_natCast] at hval hrd hM ⊢
    obtain ⟨es, hes⟩ : ∃ es, es = natsP ps := ⟨_, rfl⟩
    have hel : ps.length = es.length := by rw [hes, natsP_len]
    rw [← hes] at hps hval hrd hM
    rw [← hps, List.length_map] at R1
    rw [hel] at hl hby HB1 ⊢
    have hn200 : n ≤ 200 := by omega
    have HFU := Lib.hid (round_full hval hrd)
    have HV := Lib.hid hval
    have HES := Lib.hid hes
    have HW0 := Lib.hid hw
    have M1 := Lib.hid hM
    rw [hw]
    have hw1 := BL1.out.size
    have hk9 : w.heap.size < w1.heap.size := by omega
    clear hw hgd hrd hps hval hes hel hn0 hn2 hso hsn hM
    have hSz := Lib.hid (show Sub S (Upto w1.heap.size) from HS.out.trans (Sub.upto hw1))
    rcases Nat.eq_zero_or_pos n with h0 | h0
    · subst h0
      go_wp2_with fail
      go_ret2
      exact ⟨_, rfl, RdL.nil (by unfold maxLen; omega), BL1.out⟩
    · skip
      have RR := Lib.hid (M1.out.rdN (S := Is g) rfl (by omega) (fun k _ => by have := levE_le n es k; omega))
      have HC := Lib.hid (maxI (natRow n (levE n es)) (by rw [natRow_len]; exact h0) w1 _ _ RR.out)
      have hne : ¬ (n : Int) = 0 := by omega
      have hnb : ((n : Int) == 0) = false := by simp; omega
      have hgw := M1.out.lt
      have hgl := M1.out.ge
      go_wp2_with fail
      refine HC.out.mono ?_
      rintro e w' ⟨⟨Mx, rfl, h1, h2⟩, rfl⟩
      obtain ⟨h3, _⟩ := max_row h1 h2
      have HC2 := Lib.hid (index_first (natRow n (levE n es)) Mx h1 w1 _ _ RR.out)
      have HE := Lib.hid h3
      clear h1 h2 h3 HC hnb
      go_wp2_with fail
      refine HC2.out.mono ?_
      rintro e w' ⟨⟨t0, rfl, h1, h2⟩, rfl⟩
      have htn : t0 < n := by have := (List.getElem?_eq_some_iff.1 h1).1; rw [natRow_len] at this; exact this
      have HT0 := Lib.hid (show t0 = topC n es from by
        have e1 : ((levE n es t0 : Nat) : Int) = Mx := by
          rw [List.getElem?_eq_getElem (by rw [natRow_len]; exact htn), natRow_at] at h1
          exact Option.some.inj h1
        refine topC_uniq h0 (by have := HE.out; omega) (fun m hm he => ?_)
        refine h2 m hm ?_
        rw [List.getElem?_eq_getElem (by rw [natRow_len]; omega), natRow_at]
        have := HE.out
        congr 1
        omega)
      have HH0 := Lib.hid (show 0 < hgtE n es n from by have := hgt_ge (N := n) (es := es) htn; omega)
      clear h1 h2 HC2 HE
      obtain ⟨W1, hW1⟩ : ∃ W1 : World, W1 = w1 := ⟨_, rfl⟩
      subst hW1
      go_upto_region 6 with (fail)
      have bo := (Below.refl W1.heap.size W1).alloc (Nat.le_refl _) (.cells #[.int .i64 (t0 : Int)] 3)
      have OO := Lib.hid (show OwnI 3 (W1.alloc (.cells #[.int .i64 (t0 : Int)] 3)) W1.heap.size Nowhere (castL (chL n es 1)) (.slice (some ⟨W1.heap.size, 0, none⟩) 1 1) from by
        have h := OwnL.made (f := fun (x : Int) => Value.int .i64 x) (ok := inI) (E := 3) (S := Nowhere) (w := W1) (base := W1.heap.size) (n := 1) (t0 : Int) (by unfold inI; omega) (Nat.le_refl _) (by unfold maxLen; omega)
        have e : castL (chL n es 1) = [(t0 : Int)] := by rw [HT0.out]; rfl
        rw [e]
        exact h)
      have BO := Lib.hid bo
      have HCH := Lib.hid (show t0 = chC n es 0 from HT0.out)
      clear bo
      go_loopw [6, 7] (fun s t wr => ∃ (k m : Nat), k < hgtE n es n ∧ s = .int .i64 (m : Int) ∧ Hid (m = chC n es k) ∧ Hid (OwnI 3 wr W1.heap.size Nowhere (castL (chL n es (k + 1))) t) ∧ Hid (Below W1.heap.size W1 wr)) (fun s _ _ => levE n es (intOf s).toNat)
      case atStart => exact ⟨0, t0, HH0.out, rfl, HCH, OO, BO⟩
      case round =>
        clear OO BO HCH htn HT0 HH0
        obtain ⟨k, m, hk, rfl, Hm, O, HB⟩ := hrel
        obtain ⟨hcn, hcl⟩ := chC_is HFU.out HV.out h0 hk
        rw [← Hm.out] at hcn hcl
        have M2 := Lib.hid (M1.out.below HB.out)
        have HB2 := Lib.hid (HB1.out.below HB.out)
        have m0 := M2.out.atN hcn
        have k0 := HB2.out.cell 0 _ rfl
        have k1 := HB2.out.cell 1 _ rfl
        obtain ⟨Ao, co, rfl⟩ := O.out.form
        have hlen : (castL (chL n es (k + 1))).length = k + 1 := by rw [castL_len, chL_len]
        rw [hlen] at O ⊢
        obtain ⟨W2, hW2⟩ : ∃ W2 : World, W2 = wr := ⟨_, rfl⟩
        subst hW2
        have hH2 : hgtE n es n ≤ 201 := by
          obtain ⟨m', _, e⟩ := hgt_at (N := n) (es := es) (k := n) h0
          have := levE_le n es m'
          omega
        by_cases hpos : 0 < levE n es m
        · skip
          have hpi : (0 : Int) < (levE n es m : Int) := by omega
          have HPO := Lib.hid hpos
          have HLE := Lib.hid hlen
          have HCL := Lib.hid hcl
          obtain ⟨v, hv⟩ : ∃ v, v = levE n es m := ⟨_, rfl⟩
          have HVV := Lib.hid hv
          have hvb : v ≤ 200 := by rw [hv]; have := levE_le n es m; omega
          rw [← hv] at m0 hpi
          clear hv hlen hcl hpos
          go_wp2
          go_loopw [8, 40] (fun s t wr => ∃ q : Nat, q ≤ es.length ∧ t = .int .i64 q ∧ s = .int .i64 (frE n es m q : Int) ∧ Hid (Below W2.heap.size W2 wr)) (fun _ t _ => es.length - (intOf t).toNat)
          case atStart => exact ⟨0, by omega, rfl, rfl, Lib.hid (Below.refl _ _)⟩
          case round =>
            obtain ⟨q, hq, rfl, rfl, HX⟩ := hrel
            have HX1 := Lib.hid (HB.out.trans (HX.out.mono HB.out.size))
            by_cases hltq : q < es.length
            · skip
              have hlt2 : q < (es.map ceE).length := by rw [List.length_map]; exact hltq
              obtain ⟨bb, off, rfl, hbS, hok, hc1, hc2⟩ := RdP.at1 (R1.out.go Flat.keeps HX1.out hSz.out (Sub.refl _)) hlt2
              obtain ⟨a, b, hab⟩ : ∃ a b, es[q] = (a, b) := ⟨_, _, rfl⟩
              have hce : (es.map ceE)[q] = ((a : Int), (b : Int)) := by rw [List.getElem_map, hab]; rfl
              rw [hce] at hc1 hc2
              have hmem : (a, b) ∈ es := by rw [← hab]; exact List.getElem_mem hltq
              have haN := (HV.out a b hmem).1
              have hbN := (HV.out a b hmem).2
              have HFS := Lib.hid (show frE n es m (q + 1) = if upE n es m (a, b) then min (frE n es m q) a else frE n es m q by rw [frE_succ hltq, hab])
              have hfl := frE_le (N := n) (es := es) (x := m) q
              simp only at hc1 hc2
              clear hok hab hmem hlt2 hce
              have hbx := (Below.refl wr.heap.size wr).alloc (Nat.le_refl _) (.cells #[.int .i64 (a : Int), .int .i64 (b : Int)] 48)
              have E1 := Lib.hid (Blk.made wr [.int .i64 (a : Int), .int .i64 (b : Int)] 48 (base := 0) (Nat.zero_le _))
              have HX2 := Lib.hid (HX.out.trans (hbx.mono HX.out.size))
              have M3 := Lib.hid (M1.out.below (HX1.out.trans (hbx.mono HX1.out.size)))
              clear hbx
              go_upto_region 11 with (fail)
              generalize wr.alloc (.cells #[.int .i64 (a : Int), .int .i64 (b : Int)] 48) = W3 at *
              clear hc1 hc2 m0 k0 k1
              have e0 := E1.out.cell 0 _ rfl
              have e1 := E1.out.cell 1 _ rfl
              have m1 := M3.out.atN haN
              have m2 := M3.out.atN hcn
              obtain ⟨u, hu⟩ : ∃ u, u = levE n es a := ⟨_, rfl⟩
              have hub : u ≤ 200 := by rw [hu]; have := levE_le n es a; omega
              rw [← hu] at m1
              rw [← HVV.out] at m2
              obtain ⟨f, hf⟩ : ∃ f, f = frE n es m q := ⟨_, rfl⟩
              have HUP := Lib.hid (show upE n es m (a, b) = (decide (b = m) && decide (u + 1 = v)) by unfold upE; rw [← hu, ← HVV.out])
              rw [← hf] at HFS hfl ⊢
              clear hu hf
              by_cases hbm : b = m
              · have hbi : (b : Int) = (m : Int) := by omega
                by_cases huv : u + 1 = v
                · have HY := Lib.hid (show frE n es m (q + 1) = min f a by rw [HFS.out, HUP.out, decide_eq_true hbm, decide_eq_true huv]; rfl)
                  subst hbm
                  subst huv
                  have ey : (((u + 1 : Nat)) : Int) = (u : Int) + 1 := by omega
                  rw [ey] at m2
                  have hb1 : ((b : Int) == (b : Int)) = true := by simp
                  have hb2 : ((u : Int) + 1 == (u : Int) + 1) = true := by simp
                  clear HFS HUP hbi ey
                  go_wp2
                  go_region
                  have d0 : W3.drew.cell? ⟨wr.heap.size, 0, none⟩ = some (.int .i64 (a : Int)) := e0
                  have HX3 := Lib.hid (show Below W2.heap.size W2 W3.drew from HX2.out.drew)
                  clear e0 e1 m1 m2 HX2 M3 E1
                  generalize W3.drew = W4 at *
                  rcases Nat.lt_trichotomy f a with hc | hc | hc
                  · have hle : (f : Int) ≤ (a : Int) := by omega
                    have hnl : ¬ (a : Int) ≤ (f : Int) := by omega
                    have HZ := Lib.hid (show frE n es b (q + 1) = f by rw [HY.out]; omega)
                    clear HY hc
                    go_wp2_with fail
                    go_roundw
                    case rel => exact ⟨q + 1, by omega, by go_num, by rw [HZ.out], HX3⟩
                    case measure => simp [intOf]; omega
                  · subst hc
                    have HZ := Lib.hid (show frE n es b (q + 1) = f by rw [HY.out]; omega)
                    clear HY
                    go_wp2_with fail
                    go_roundw
                    case rel => exact ⟨q + 1, by omega, by go_num, by rw [HZ.out], HX3⟩
                    case measure => simp [intOf]; omega
                  · have hle : (a : Int) ≤ (f : Int) := by omega
                    have hnl : ¬ (f : Int) ≤ (a : Int) := by omega
                    have HZ := Lib.hid (show frE n es b (q + 1) = a by rw [HY.out]; omega)
                    clear HY hc
                    go_wp2_with fail
                    go_roundw
                    case rel => exact ⟨q + 1, by omega, by go_num, by rw [HZ.out], HX3⟩
                    case measure => simp [intOf]; omega
                · have HY := Lib.hid (show frE n es m (q + 1) = f by rw [HFS.out, HUP.out, decide_eq_false huv]; simp)
                  have huvi : ¬ (u : Int) + 1 = (v : Int) := by omega
                  have hb2 : ((u : Int) + 1 == (v : Int)) = false := by simp [huvi]
                  subst hbm
                  have hb1 : ((b : Int) == (b : Int)) = true := by simp
                  clear HFS HUP hbi
                  go_wp2
                  go_region
                  have HX3 := Lib.hid (show Below W2.heap.size W2 W3.drew from HX2.out.drew)
                  clear e0 e1 m1 m2 HX2 M3 E1
                  generalize W3.drew = W4 at *
                  go_wp2_with fail
                  go_roundw
                  case rel => exact ⟨q + 1, by omega, by go_num, by rw [HY.out], HX3⟩
                  case measure => simp [intOf]; omega
              · have HY := Lib.hid (show frE n es m (q + 1) = f by rw [HFS.out, HUP.out, decide_eq_false hbm]; rfl)
                have hbi : ¬ (b : Int) = (m : Int) := by omega
                have hb1 : ((b : Int) == (m : Int)) = false := by simp [hbi]
                clear HFS HUP
                go_wp2
                go_region
                have HX3 := Lib.hid (show Below W2.heap.size W2 W3.drew from HX2.out.drew)
                clear e0 e1 m1 m2 HX2 M3 E1
                generalize W3.drew = W4 at *
                go_wp2_with fail
                go_roundw
                case rel => exact ⟨q + 1, by omega, by go_num, by rw [HY.out], HX3⟩
                case measure => simp [intOf]; omega
            · skip
              have hqe : q = es.length := by omega
              subst hqe
              obtain ⟨hpr, hpn⟩ := preC_is HFU.out HV.out hcn HPO.out
              have hpl := hpr.2
              have HC1 := Lib.hid (show chC n es (k + 1) = preC n es m by rw [Hm.out]; rfl)
              have HL1 := Lib.hid (show castL (chL n es (k + 1)) ++ [(preC n es m : Int)] = castL (chL n es (k + 1 + 1)) by rw [chL_succ (k + 1), HC1.out]; unfold castL; rw [List.map_append]; rfl)
              have hk1 : k + 1 < hgtE n es n := by have := HCL.out; omega
              obtain ⟨p, hp⟩ : ∃ p, p = preC n es m := ⟨_, rfl⟩
              have hfp : frE n es m es.length = p := hp.symm
              rw [hfp]
              rw [← hp] at HC1 HL1 hpn hpl
              have O2 := Lib.hid (O.out.keep Flat.keeps HX.out)
              have hwr : W1.heap.size ≤ wr.heap.size := HX1.out.size
              have HPL := Lib.hid hpl
              clear hp hfp hpr hpl O m0 HX hltq HPO
              go_wp2_with (at_builtin; refine wpList_append_one rfl _ _ 30 rfl i0 _ Tryd.underlying30 hi hz0 hz1 hz2 rfl (by decide) Flat.keeps O2.out (x := (p : Int)) (cs := [Value.int .i64 (p : Int)]) (Tx := Nowhere) ?d0 rfl rfl rfl (Sub.nowhere _) (Sub.nowhere _) not_nowhere ?d1 ?d2 ?d3 ?d4 ?_)
              case d0 => exact ⟨rfl, by unfold inI; omega⟩
              case d1 => simp [Value.oneCell']
              case d2 => rw [HLE.out]; unfold maxLen; omega
              case d3 => rw [HLE.out]; omega
              try (case d4 => exact hwr)
              intro v3 w3 ho3 hg3 hk3
              rw [HL1.out] at ho3
              have HO3 := Lib.hid ho3
              have HB3 := Lib.hid (HX1.out.grown hg3 hwr (fun j hj => (O2.out.lt j hj).1))
              clear ho3 hg3 hk3 O2 HX1
              go_wp2_with fail
              go_roundw
              case rel => exact ⟨k + 1, p, hk1, rfl, Lib.hid (HC1.out.symm), HO3, HB3⟩
              case measure => simp [intOf]; have := HPL.out; omega
        · skip
          have hz : levE n es m = 0 := by omega
          have hkH : k + 1 = hgtE n es n := by omega
          have HRV := Lib.hid (reverse_any (castL (chL n es (k + 1))) W2 _ _ O.out)
          have HEQ := Lib.hid (show (castL (chL n es (k + 1))).reverse = castL (chainE n (natsP ps)) by rw [← HES.out]; unfold chainE castL; rw [← hkH, List.map_reverse])
          have hrl : (castL (chL n es (k + 1))).reverse.length ≤ 1024 := by rw [List.length_reverse, hlen]; omega
          have HOL := Lib.hid O.out.lt
          have BL2 := Lib.hid (BL1.out.trans (HB.out.mono hw1))
          have hzi : ¬ (0 : Int) < (levE n es m : Int) := by omega
          clear O hz hkH hcl hpos hlen
          go_wp2_with fail
          refine HRV.out.mono ?_
          rintro e w5 ⟨rfl, ho5, hb5⟩
          have HR5 := Lib.hid (ho5.toRd (bytes := 8) (S' := Plus Nowhere w.heap.size w5.heap.size) Flat.keeps (by omega) (Sub.nowhere _) (fun b h1 h2 => .inr ⟨Nat.le_trans hw1 h1, h2⟩))
          have BZ := Lib.hid (BL2.out.trans (hb5.below BL2.out.size (fun j hj => by have := (HOL.out j hj).1; omega)))
          rw [HEQ.out] at HR5
          clear ho5 hb5 HRV
          go_wp2
          go_ret2
          exact ⟨_, rfl, HR5.out, BZ.out⟩
  · have HW := Lib.hid hw
    have hx9 := hsn hw
    subst hx9
    clear hso hsn
    go_wp2_with fail
    go_ret2
    exact ⟨_, rfl, RdL.nil (by unfold maxLen; omega), BL1.out⟩
end Go.Proofs.YthbbecmffndgdabDoor
