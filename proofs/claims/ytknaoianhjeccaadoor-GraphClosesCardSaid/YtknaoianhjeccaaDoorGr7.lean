/- The walk of graph.Behind. -/
import Derived.Test.YtknaoianhjeccaaDoorGr6
import Derived.Test.YtknaoianhjeccaaDoorRv1
import Derived.Test.YtknaoianhjeccaaDoorBsOr
import Derived.Test.YtknaoianhjeccaaDoorNxStep
namespace Go.Proofs.YtknaoianhjeccaaDoor
open Go.RowKit
set_option linter.unusedVariables false
theorem infoBh : (Tryd.prog.info? 50).map (fun i => (i.zero, i.size, i.bytes)) = some (some (.slice none 0 0), 1, 24) := by kernel_rfl
set_option maxHeartbeats 1600000 in
set_option maxRecDepth 100000 in
theorem behind_any (N : Int) (hNi : inI N) (ps : List (Int × Int)) (w : World) (S : Blocks) (ve : Value) (hS : Sub S (Upto w.heap.size)) (hT : Tab w) (r : RdP w S ps ve) :
    Calls Tryd.prog 13 #[.agg #[.int .i64 N, ve]] w fun e w' => ∃ x, e = .returned (.tuple #[x, .int .i64 (wrongE N ps)]) ∧
      (wrongE N ps = 0 → ∃ g vs, x = .slice (some ⟨g, 0, none⟩) N.toNat N.toNat ∧ SetsAt w.heap.size w' g N.toNat (waysE N.toNat (natsP ps)) vs) ∧ (wrongE N ps ≠ 0 → x = .slice none 0 0) ∧ Below w.heap.size w w' := by
  obtain ⟨A, cap, rfl, hl, hcm, hby⟩ := r.form
  unfold maxLen at hcm
  obtain ⟨i0, hi, hz0, hz1, hz2⟩ := info_parts infoII
  obtain ⟨i1, hj, hy0, hy1, hy2⟩ := info_parts infoIIs
  obtain ⟨i2, hp, hx0, hx1, hx2⟩ := info_parts infoBh
  have b0 := Blk.made w [.int .i64 N, .slice A ps.length cap] 24 (base := 0) (Nat.zero_le _)
  have bl : Below w.heap.size w (w.alloc (.cells #[.int .i64 N, .slice A ps.length cap] 24)) := (Below.refl _ _).alloc (Nat.le_refl _) _
  have hsz0 : w.heap.size ≤ ((w.alloc (.cells #[.int .i64 N, .slice A ps.length cap] 24))).heap.size := by rw [World.size_alloc]; omega
  have hsz1 : w.heap.size < ((w.alloc (.cells #[.int .i64 N, .slice A ps.length cap] 24))).heap.size := by rw [World.size_alloc]; omega
  have k0 := b0.cell 0 _ rfl
  have k1 := b0.cell 1 _ rfl
  have HB0 := Lib.hid b0
  have BL := Lib.hid bl
  have HS := Lib.hid hS
  have RA := Lib.hid (r.go Flat.keeps bl hS (Sub.refl _))
  have C1 := Lib.hid (gsort_any N hNi ps (w.alloc (.cells #[.int .i64 N, .slice A ps.length cap] 24)) S _ (hS.trans (Sub.upto hsz0)) (hT.go bl) (r.go Flat.keeps bl hS (Sub.refl _)))
  clear b0 bl hT r hS
  go_enter Tryd.func13, Tryd.ntmps13
  go_upto_region 1 with (fail)
  generalize (w.alloc (.cells #[.int .i64 N, .slice A ps.length cap] 24)) = W0 at *
  go_wp2_with fail
  refine C1.out.mono ?_
  rintro e w1 ⟨x, rfl, hso, hsn, hb1⟩
  have BL1 := Lib.hid (BL.out.trans (hb1.mono BL.out.size))
  have HB1 := Lib.hid (HB0.out.below hb1)
  have R1 := Lib.hid (RA.out.go Flat.keeps hb1 (HS.out.trans (Sub.upto BL.out.size)) (Sub.refl _))
  have hw01 := hb1.size
  clear C1 BL HB0 hb1 k0 k1 hsz0 RA
  by_cases hw : wrongE N ps = 0
  · skip
    obtain ⟨hn0, hn2, hgd, hrd⟩ := wrongE_zero hw
    obtain ⟨hps, hval⟩ := good_ps hgd
    obtain ⟨n, hnn⟩ : ∃ n : Nat, N = (n : Int) := ⟨N.toNat, by omega⟩
    subst hnn
    rw [Int.toNat_natCast] at hval hrd
    have hso2 := hso hw
    rw [Int.toNat_natCast] at hso2
    obtain ⟨es, hes⟩ : ∃ es, es = natsP ps := ⟨_, rfl⟩
    have hel : ps.length = es.length := by rw [hes, natsP_len]
    rw [← hes] at hps hval hrd hso2
    rw [← hps, List.length_map] at R1
    rw [hel] at hl hby HB1 ⊢
    have hn200 : n ≤ 200 := by omega
    have HFU := Lib.hid (round_full hval hrd)
    have HV := Lib.hid hval
    have HES := Lib.hid hes
    have HW0 := Lib.hid hw
    have O1 := Lib.hid hso2
    have hmk := fun w => run_make1 (P := Tryd.prog) 40 50 i2 _ Tryd.underlying40 hp hx0 hx1 rfl n (by rw [hx2]; omega) (by omega) w
    have hmk2 := fun w => run_make1 (P := Tryd.prog) 75 71 i1 _ Tryd.underlying75 hj hy0 hy1 rfl n (by rw [hy2]; omega) (by omega) w
    have HMK2 := Lib.hid hmk2
    rw [hw]
    have hw1 := BL1.out.size
    have hk9 : w.heap.size < w1.heap.size := by omega
    clear hw hgd hrd hps hval hes hel hso hsn hso2 hn0 hn2 hmk2 hp hx0 hx1 hx2 hj hy0 hy1 hy2
    have k0 := HB1.out.cell 0 _ rfl
    have k1 := HB1.out.cell 1 _ rfl
    have bB : Below w1.heap.size w1 (w1.alloc (.cells (Array.replicate n (.slice none 0 0)) 50)) := (Below.refl _ _).alloc (Nat.le_refl _) _
    have S2 := Lib.hid (Blk.madeN w1 n (.slice none 0 0) 50 (base := 0) (Nat.zero_le _))
    have O2 := Lib.hid (O1.out.keep Flat.keeps bB)
    have HOL := Lib.hid O1.out.lt
    have HB2 := Lib.hid (HB1.out.below bB)
    have BL2 := Lib.hid (BL1.out.trans (bB.mono hw1))
    have R2 := Lib.hid (R1.out.go Flat.keeps bB (HS.out.trans (Sub.upto hw1)) (Sub.refl _))
    have hsB : ((w1.alloc (.cells (Array.replicate n (.slice none 0 0)) 50))).heap.size = w1.heap.size + 1 := by rw [World.size_alloc]
    have HCR := Lib.hid (reverse_any (castL (takeG n es)) (w1.alloc (.cells (Array.replicate n (.slice none 0 0)) 50)) _ x O2.out)
    obtain ⟨g, hg⟩ : ∃ g, g = w1.heap.size := ⟨_, rfl⟩
    clear O1 HB1 BL1 R1 bB O2
    go_upto_region 5 with (fail)
    clear hmk k0 k1
    rw [← hg] at hsB S2 ⊢
    rw [← hg] at hk9 hw1 HOL
    generalize (w1.alloc (.cells (Array.replicate n (.slice none 0 0)) 50)) = W2 at *
    clear hg hw01
    go_wp2_with fail
    refine HCR.out.mono ?_
    rintro e w3 ⟨rfl, ho3, hb3⟩
    have hxg : ∀ k, x.ownBlock = some k → k < g ∧ w.heap.size < k := fun k e => ⟨(HOL.out k e).2, by have := (HOL.out k e).1; omega⟩
    have HXG := Lib.hid hxg
    have O3 := Lib.hid ho3
    have S3 := Lib.hid (S2.out.but hb3 (fun e => by have := (hxg _ e).1; omega))
    have HB3 := Lib.hid (HB2.out.but hb3 (fun e => by have := (hxg _ e).2; omega))
    have BL3 := Lib.hid (BL2.out.trans (hb3.below (by omega) (fun k e => by have := (hxg k e).2; omega)))
    have hs3 := hb3.size
    have R3 := Lib.hid (R2.out.keep Flat.keeps (Sub.refl _) (hb3.same (HS.out.trans (Sub.upto (by omega))) (fun k hk e => by have := (hxg k e).2; have : k < w.heap.size := HS.out k hk; omega)))
    clear HCR ho3 hxg S2 HB2 BL2 R2 hb3 HOL
    have k0 := HB3.out.cell 0 _ rfl
    have k1 := HB3.out.cell 1 _ rfl
    have hmk2 := HMK2.out
    have bD : Below w3.heap.size w3 (w3.alloc (.cells (Array.replicate n (.slice none 0 0)) 71)) := (Below.refl _ _).alloc (Nat.le_refl _) _
    have X4 := Lib.hid (NextT.made w3 n 71 (base := w3.heap.size + 1) (Nat.lt_succ_self _))
    have O4 := Lib.hid (O3.out.keep Flat.keeps bD)
    have S4 := Lib.hid (S3.out.below bD)
    have HB4 := Lib.hid (HB3.out.below bD)
    have BL4 := Lib.hid (BL3.out.trans (bD.mono BL3.out.size))
    have R4 := Lib.hid (R3.out.go Flat.keeps bD (HS.out.trans (Sub.upto BL3.out.size)) (Sub.refl _))
    have hsD : ((w3.alloc (.cells (Array.replicate n (.slice none 0 0)) 71))).heap.size = w3.heap.size + 1 := by rw [World.size_alloc]
    obtain ⟨h, hh⟩ : ∃ h, h = w3.heap.size := ⟨_, rfl⟩
    have hgh : g < h := by omega
    clear O3 S3 HB3 BL3 R3 bD HMK2
    go_upto_region 7 with (fail)
    clear hmk2
    rw [← hh] at hsD X4 ⊢
    generalize (w3.alloc (.cells (Array.replicate n (.slice none 0 0)) 71)) = W4 at *
    clear hh hsB hs3 k0 k1 hw1
    have HSD := Lib.hid hsD
    have k0 := HB4.out.cell 0 _ rfl
    have k1 := HB4.out.cell 1 _ rfl
    have hSw := Lib.hid (show Sub S (Upto W4.heap.size) from HS.out.trans (Sub.upto (by omega)))
    have hwh : w.heap.size < h := by omega
    clear hsD
    go_wp2
    go_loopw [34] (fun t wr => ∃ q : Nat, q ≤ es.length ∧ t = .int .i64 q ∧ NxAt n es h q W4 wr) (fun t _ => es.length - (intOf t).toNat)
    case atStart => exact ⟨0, by omega, rfl, _, Lib.hid (X4.out.congr fun i _ => by rw [List.take_zero, nxI_zero]), Lib.hid (But.refl _ _)⟩
    case round =>
      clear X4 k0 k1
      obtain ⟨q, hq, rfl, vs, X1, BT⟩ := hrel
      by_cases hlt : q < es.length
      · skip
        have hlt2 : q < (es.map ceE).length := by rw [List.length_map]; exact hlt
        obtain ⟨bb, off, rfl, hbS, hok, hc1, hc2⟩ := RdP.at1 (R4.out.keep Flat.keeps (Sub.refl _) (BT.out.same hSw.out (fun k hk e => by have : k < w.heap.size := HS.out k hk; have : k = h := e; omega))) hlt2
        obtain ⟨a, b, hab⟩ : ∃ a b, es[q] = (a, b) := ⟨_, _, rfl⟩
        rw [ceE_at hlt hab hlt2] at hc1 hc2
        have hmem : (a, b) ∈ es := by rw [← hab]; exact List.getElem_mem hlt
        have haN := (HV.out a b hmem).1
        have hbN := (HV.out a b hmem).2
        have htk := Lib.hid (show es.take (q + 1) = es.take q ++ [(a, b)] by rw [List.take_succ_eq_append_getElem hlt, hab])
        have hnle : (nxI (es.take q) a).length ≤ 8796093022208 := by rw [nxI_len]; have := nxE_len (es.take q) a; simp at this; omega
        simp only at hc1 hc2
        clear hok hab hmem hlt2
        have hbx := (Below.refl wr.heap.size wr).alloc (Nat.le_refl _) (.cells #[.int .i64 (a : Int), .int .i64 (b : Int)] 49)
        have E1 := Lib.hid (Blk.made wr [.int .i64 (a : Int), .int .i64 (b : Int)] 49 (base := 0) (Nat.zero_le _))
        have HRW := Lib.hid (fun v (h : vs[a]? = some v) => (X1.out.row a v h).lt)
        have X3 := Lib.hid (X1.out.below hbx)
        have BT3 := Lib.hid (BT.out.trans (But.of_below (T := Is h) hbx))
        have hhr : h < wr.heap.size := X1.out.out.lt
        clear hbx X1 BT
        go_upto_region 10 with (fail)
        generalize wr.alloc (.cells #[.int .i64 (a : Int), .int .i64 (b : Int)] 49) = W3 at *
        clear hc1 hc2
        have HKEY := Lib.hid (fun (Ai : Option Addr) (ci : Nat) (v' : Value) (w2 : World) => nx_step (o := .cells #[.int .i64 (b : Int)] 3) HSD.out htk.out X3.out BT3.out Ai ci v' w2)
        have e0 := E1.out.cell 0 _ rfl
        have e1 := E1.out.cell 1 _ rfl
        obtain ⟨Ai, ci, hvs, hx, ho⟩ := X3.out.at_ haN
        have hbl := (Below.refl W3.heap.size W3).alloc (Nat.le_refl _) (.cells #[.int .i64 (b : Int)] 3) |>.drew
        have H2d := Lib.hid (ho.keep Flat.keeps hbl)
        have HRD := Lib.hid (show RdI (W3.alloc (.cells #[.int .i64 (b : Int)] 3)).drew (fun _ => True) [(b : Int)] (.slice (some ⟨W3.heap.size, 0, none⟩) 1 1) from rd_one (enc := encI) (x := (b : Int)) rfl (cells_newAt W3 [.int .i64 (b : Int)] 3 rfl) (by unfold inI; omega) trivial (by decide))
        have E4 := Lib.hid (E1.out.below hbl)
        have X4 := Lib.hid (X3.out.below hbl)
        have m1 := Lib.hid (show (nxI (es.take q) a).length + [(b : Int)].length ≤ maxLen by unfold maxLen; simp; omega)
        have m2 := Lib.hid (show ((nxI (es.take q) a).length + [(b : Int)].length) * 8 ≤ 140737488355328 by simp; omega)
        have HBB := Lib.hid (show h + 1 ≤ (W3.alloc (.cells #[.int .i64 (b : Int)] 3)).drew.heap.size from by have := X3.out.out.lt; have := hbl.size; show h + 1 ≤ (W3.alloc (.cells #[.int .i64 (b : Int)] 3)).heap.size; rw [World.size_alloc]; omega)
        have HND := Lib.hid (show (Value.slice Ai (nxI (es.take q) a).length ci).ownBlock ≠ some h from fun e => by have := (ho.lt _ e).1; omega)
        have HNE := Lib.hid (show (Value.slice Ai (nxI (es.take q) a).length ci).ownBlock ≠ some wr.heap.size from fun e => by have := (HRW.out _ hvs _ e).2; omega)
        have ha0 : (W3.alloc (.cells #[.int .i64 (b : Int)] 3)).cell? ⟨h, a, none⟩ = some (.slice Ai (nxI (es.take q) a).length ci) := X4.out.out.cell a _ hvs
        have ha1 : (W3.alloc (.cells #[.int .i64 (b : Int)] 3)).cell? ⟨wr.heap.size, 0, none⟩ = some (.int .i64 (a : Int)) := E4.out.cell 0 _ rfl
        clear hbl ho
        go_region_law ((refine step_append_list (by rfl) (.tmp 45) (.tmp 48) 71 (by rfl) (by rfl) (by rfl) i0 _ Tryd.underlying71 hi hz0 hz1 hz2 rfl (by decide) Flat.keeps (l := nxI (es.take q) a) (m := [(b : Int)]) (base := h + 1) (S := Nowhere) (Tx := Nowhere) (U := fun _ => True) (v := .slice Ai (nxI (es.take q) a).length ci) (RdL.bare HRD.out _) H2d.out (Sub.nowhere _) (Sub.nowhere _) not_nowhere oneI m1.out m2.out HBB.out ?_; intro v' w2 ho1 hg1 hw1; obtain ⟨A', c', rfl⟩ := ho1.form; have q0 : w2.cell? ⟨h, a, none⟩ = some (.slice Ai (nxI (es.take q) a).length ci) := grown_cell hg1 (X4.out.out.cell a _ hvs) HND.out; have qf : w2.frozen? ⟨h, a, none⟩ = false := grown_frozen hg1 (X4.out.out.fr a) X4.out.out.lt HND.out; have q1 : w2.cell? ⟨wr.heap.size, 0, none⟩ = some (.int .i64 (a : Int)) := grown_cell hg1 (E4.out.cell 0 _ rfl) HNE.out))
        all_goals
          have hkey := HKEY.out _ _ _ _ hvs ho1 hg1 hw1
          rw [show (nxI (es.take q) a ++ [(b : Int)]).length = (nxI (es.take q) a).length + 1 by simp] at hkey
          have HK := Lib.hid hkey
          clear HKEY ho1 hg1 hw1 X3 BT3 X4 E4 E1 hi q0 q1 qf e0 e1 hx H2d HRD ha0 ha1 hkey
          go_wp2_with fail
          go_roundw
          case rel => exact ⟨q + 1, by omega, by go_num, HK.out⟩
          case measure => simp [intOf]; omega
      · skip
        have hqe : q = es.length := by omega
        subst hqe
        rw [List.take_length] at X1
        obtain ⟨W5, hW5⟩ : ∃ W5 : World, W5 = wr := ⟨_, rfl⟩
        subst hW5
        have S5 := Lib.hid (SetsAt.nil W5.heap.size (S4.out.but BT.out (by unfold Is; omega)))
        have X5 := Lib.hid X1.out
        have O5 := Lib.hid (O4.out.but BT.out (fun k e => by have := (HXG.out k e).1; unfold Is; omega))
        have BL5 := Lib.hid (BL4.out.trans (BT.out.below BL4.out.size (fun k e => by have : k = h := e; omega)))
        have hs5 : h + 1 ≤ W5.heap.size := by have := BT.out.size; have := HSD.out; omega
        have hfl := backG_len HFU.out
        have hcl : (castL (takeG n es)).reverse = castL (backG n es) := by unfold castL backG; rw [List.map_reverse]
        rw [hcl] at O5
        obtain ⟨Ax, cx, rfl⟩ := O5.out.form
        have hcn : (castL (backG n es)).length = n := by rw [castL_len, hfl]
        rw [hcn] at O5 HXG ⊢
        have HCN := Lib.hid hcn
        have HFL := Lib.hid hfl
        clear X1 BT S4 O4 BL4 R4 HB4 hq hlt hcl hcn hfl
        go_wp2
        go_loopw [54] (fun t wr => ∃ (q : Nat) (vs' : List Value), q ≤ n ∧ t = .int .i64 q ∧ Hid (SetsAt W5.heap.size wr g n (fun i j => decide (i ∈ (backG n es).take q) && waysE n es i j) vs') ∧ Hid (But (Is g) W5 wr)) (fun t _ => n - (intOf t).toNat)
        case atStart => exact ⟨0, _, by omega, rfl, Lib.hid (S5.out.congr fun i j _ => by simp), Lib.hid (But.refl _ _)⟩
        case round =>
          clear S5
          obtain ⟨W6, hW6⟩ : ∃ W6 : World, W6 = wr := ⟨_, rfl⟩
          subst hW6
          obtain ⟨q, vs', hq, rfl, S6, B6⟩ := hrel
          by_cases hlt : q < n
          · skip
            have hqb : q < (backG n es).length := by rw [HFL.out]; exact hlt
            have O6 := O5.out.but B6.out (fun k e => by have := (HXG.out k e).1; unfold Is; omega)
            obtain ⟨gx, cx', hv, _, _, _, _, _, hce⟩ := OwnI.open_ O6 (by rw [HCN.out]; omega)
            injection hv with hA hn9 hcc
            clear hn9
            subst hA hcc
            obtain ⟨m, hm⟩ : ∃ m, m = (backG n es)[q] := ⟨_, rfl⟩
            have c0 := (hce q (by rw [HCN.out]; exact hlt)).2
            rw [castL_at, ← hm] at c0
            have hmn : m < n := by rw [hm]; exact backG_lt hqb
            have X6 := Lib.hid (X5.out.low B6.out (by unfold Is; omega) (fun k hk => by have : k = g := hk; omega))
            obtain ⟨Ai, ci, hvs, hx, hro⟩ := X6.out.at_ hmn
            have HRO := Lib.hid hro
            have hw6 : W5.heap.size ≤ W6.heap.size := B6.out.size
            have hnx : (nxI es m).length ≤ es.length := by rw [nxI_len]; exact nxE_len es m
            have HTK := Lib.hid (show ∀ i, (i ∈ (backG n es).take (q + 1)) ↔ (i ∈ (backG n es).take q ∨ i = m) from fun i => by
              rw [List.take_succ_eq_append_getElem hqb, List.mem_append, List.mem_singleton, ← hm])
            have HNX := Lib.hid (show ∀ p, p ∈ nxE es m → p < n ∧ p ∈ (backG n es).take q from fun p hp => by
              have he := nxE_mem.1 hp
              refine ⟨(HV.out _ _ he).2, ?_⟩
              rw [hm] at he
              exact backG_next HV.out HFU.out hqb he)
            clear hce hm hro O6 hvs X6 hqb
            go_wp2
            clear c0 hx
            go_loopw [12, 63] (fun s t wr => ∃ (k : Nat) (lst : List Nat), k ≤ (nxI es m).length ∧ t = .int .i64 k ∧ Hid (RdU wr (Plus Nowhere W6.heap.size wr.heap.size) lst s) ∧ Hid (SetIs lst (behE n es m k)) ∧ Hid (Below W6.heap.size W6 wr)) (fun _ t _ => (nxI es m).length - (intOf t).toNat)
            case atStart => exact ⟨0, [], by omega, rfl, Lib.hid (RdL.nil (by unfold maxLen; omega)), Lib.hid (SetIs.nil.congr fun j => by rw [behE_zero]), Lib.hid (Below.refl _ _)⟩
            case round =>
              obtain ⟨k, lst, hk, rfl, R, SI, HB⟩ := hrel
              by_cases hltk : k < (nxI es m).length
              · skip
                have hltE : k < (nxE es m).length := by rw [← nxI_len]; exact hltk
                have hro2 := HRO.out.keep Flat.keeps HB.out
                obtain ⟨gr, cc, hv, _, _, _, _, _, hcells⟩ := OwnI.open_ hro2 (by omega)
                injection hv with hA hn9 hcc
                clear hn9
                subst hA hcc
                obtain ⟨p, hpp⟩ : ∃ p, p = (nxE es m)[k] := ⟨_, rfl⟩
                have hcell := (hcells k hltk).2
                rw [show (nxI es m)[k] = (p : Int) by rw [hpp]; simp [nxI]] at hcell
                have hpn := (HNX.out p (by rw [hpp]; exact List.getElem_mem _)).1
                have hpt := (HNX.out p (by rw [hpp]; exact List.getElem_mem _)).2
                have S7 := S6.out.below HB.out
                obtain ⟨T, l2, A2, c2, t1, t2, t3, si2, rd2, hc2, _⟩ := S7.at_ hpn
                have HSI := Lib.hid (show SetIs (zipB (fun a b => a ||| b) (addL lst p) l2) (behE n es m (k + 1)) from (or_is (addL_is SI.out (show p ≤ 65535 by omega)) si2).congr fun j => by
                  rw [behE_succ hltE, ← hpp, decide_eq_true hpt, Bool.true_and])
                have hsr := HB.out.size
                have hgr := S7.out.lt
                have hbd : Below wr.heap.size wr wr.drew := (Below.refl _ _).drew
                have HT1 := Lib.hid t1
                have HR2 := Lib.hid rd2
                have HR := Lib.hid R.out
                clear hro2 hcells hpp S7 t1 t2 t3 si2 rd2 R SI hpt
                go_upto_region 19 with (fail)
                obtain ⟨V, hV⟩ : ∃ V : World, V = wr := ⟨_, rfl⟩
                subst hV
                have HWP := Lib.hid (fun w' h => Stay.size h : ∀ w', Stay V w' → V.heap.size ≤ w'.heap.size)
                go_region_held3 (fun w' => Stay V w') (first | assumption | exact Stay.mk (Kept.start _) | ((refine Stay.mk ?_; (repeat (with_reducible first | refine Kept.set ?_ (by omega) _ | refine Kept.drew ?_ | refine Kept.alloc ?_ _)); first | exact Kept.refl _ | assumption)))
                  (first
                    | ((go_at_call 28; refine (add_any lst p _ _ _ (plus_upto.trans (Sub.upto (HWP.out _ (by assumption)))) (HR.out.go Flat.keeps (Stay.below (by assumption)) plus_upto (Sub.refl _))).mono ?_; rintro e wa ⟨u1, rfl, hu1, hb1⟩; have hst1 : Stay V wa := Stay.step hb1 (by assumption); have hk1 : Kept V wa := Kept.here hst1))
                    | ((go_at_call 29; refine (bsSOr_any (addL lst p) l2 _ _ _ _ _ ?_ (HT1.out.trans (Sub.upto (HWP.out _ (by assumption)))) hu1 (HR2.out.go Flat.keeps (Stay.below (by assumption)) HT1.out (Sub.refl _))).mono ?_; (focus (exact fun b h => h.elim (fun h => Nat.lt_of_lt_of_le (plus_upto b h) (HWP.out _ (by assumption))) (fun h => h.2))); rintro e wb ⟨u2, rfl, hu2, hb2⟩; have hst2 : Stay V wb := Stay.step hb2 (by assumption); have hk2 : Kept V wb := Kept.here hst2)))
                have RZ := Lib.hid (hu2.keep Flat.keeps (S' := Plus Nowhere W6.heap.size wb.heap.size) (fun b h => h.elim (fun h => h.elim) (fun h => .inr ⟨Nat.le_trans (Nat.le_trans hsr hst1.size) h.1, h.2⟩)) (Same.refl _ _))
                have HBZ := Lib.hid (HB.out.trans (hst2.below.mono hsr))
                clear hu2 hu1 hst1 hst2 hk1 hk2 hb1 hb2 HWP HR HR2 HT1 HB hcell hc2
                go_wp2_with fail
                go_roundw
                case rel => exact ⟨k + 1, _, by omega, by go_num, RZ, HSI, HBZ⟩
                case measure => simp [intOf]; omega
              · skip
                have hke : k = (nxE es m).length := by rw [← nxI_len]; omega
                obtain ⟨Au, cu, rfl, _⟩ := R.out.form
                have SI2 := SI.out.congr (Q := waysE n es m) (fun j => by rw [hke, behE_all HV.out])
                have S7 := S6.out.below HB.out
                have hsr := HB.out.size
                have hg6 : g < W6.heap.size := S6.out.out.lt
                have S8 := Lib.hid ((S7.set hmn plus_upto (fun b h => h.elim (fun h => h.elim) (fun h => Nat.le_trans hw6 h.1)) (fun h => h.elim (fun h => h.elim) (fun h => by have := h.1; omega)) SI2 R.out).congr (Q := fun i j => decide (i ∈ (backG n es).take (q + 1)) && waysE n es i j) (fun i j _ => by
                  have := HTK.out i
                  by_cases e : i = m
                  · rw [if_pos e, decide_eq_true (this.2 (.inr e)), Bool.true_and, e]
                  · rw [if_neg e]
                    congr 1
                    exact decide_eq_decide.2 ⟨fun h => this.2 (.inl h), fun h => (this.1 h).resolve_right e⟩))
                have B8 := Lib.hid ((B6.out.trans (But.of_below (T := Is g) HB.out)).setCell (p := ⟨g, m, none⟩) (show Is g g from rfl) (.slice Au lst.length cu))
                obtain ⟨_, _, _, _, _, _, _, _, _, hc7, _⟩ := S7.at_ hmn
                have hf7 := S7.out.fr m
                clear S7 SI2 SI R HB S6 B6
                go_wp2_with fail
                go_roundw
                case rel => exact ⟨q + 1, _, by omega, by go_num, S8, B8⟩
                case measure => simp [intOf]; omega
          · skip
            have hqn : q = n := by omega
            subst hqn
            have SZ := Lib.hid ((S6.out.congr (Q := waysE q es) (fun i j hi => by rw [decide_eq_true (backG_mem HFU.out hi), Bool.true_and])).mono (lo' := w.heap.size) BL5.out.size)
            have BZ := Lib.hid (BL5.out.trans (B6.out.below BL5.out.size (fun k hk => by have : k = g := hk; omega)))
            clear S6 B6 X5 O5
            go_wp2
            go_ret2
            refine ⟨_, by rw [HW0.out]; rfl, fun _ => ⟨g, vs', rfl, ?_⟩, fun h => absurd HW0.out h, BZ.out⟩
            rw [← HES.out]
            exact SZ.out
  · have HW := Lib.hid hw
    have hx9 := hsn hw
    subst hx9
    clear hso hsn
    go_wp2_with fail
    go_ret2
    exact ⟨_, rfl, fun h => absurd h HW.out, fun _ => rfl, BL1.out⟩
end Go.Proofs.YtknaoianhjeccaaDoor
