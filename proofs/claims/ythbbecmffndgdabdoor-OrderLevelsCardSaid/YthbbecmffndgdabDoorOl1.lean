/- The walk of order.Levels. -/
import Derived.Test.YthbbecmffndgdabDoorGr6
import Derived.Test.YthbbecmffndgdabDoorNxStep
import Derived.Test.YthbbecmffndgdabDoorOlSpec
import Derived.BigRegion
namespace Go.Proofs.YthbbecmffndgdabDoor
open Go.RowKit
set_option linter.unusedVariables false
def natRow (N : Nat) (f : Nat → Nat) : List Int := (List.range N).map fun m => (f m : Int)
theorem natRow_len (N : Nat) (f : Nat → Nat) : (natRow N f).length = N := by simp [natRow]
theorem natRow_at {N : Nat} {f : Nat → Nat} {k : Nat} (h : k < (natRow N f).length) : (natRow N f)[k] = (f k : Int) := by simp [natRow]
theorem Blk.rdN {base : Nat} {w : World} {b N : Nat} {f : Nat → Nat} {S : Blocks} (h : Blk base w b (rowN N f)) (hb : S b) (hN : N ≤ 200) (hf : ∀ k, k < N → f k ≤ 4294967296) : RdI w S (natRow N f) (.slice (some ⟨b, 0, none⟩) N N) := by
  have hl := natRow_len N f
  refine ⟨some ⟨b, 0, none⟩, N, (List.range N).map fun m => [.int .i64 (f m : Int)], by rw [hl], by omega, by unfold maxLen; omega, by omega, by rw [hl]; simp, ⟨by simp, fun _ => ⟨b, 0, rfl, hb, fun i cs hi j v hv => ?_⟩⟩, fun i e cs he hc => ?_⟩
  · have hi2 : i < N := by have := (List.getElem?_eq_some_iff.1 hi).1; simpa using this
    rw [List.getElem?_map, List.getElem?_range hi2] at hi
    injection hi with hi
    subst hi
    match j, hv with
    | 0, hv =>
      simp at hv; subst hv
      simpa using h.atN hi2
  · have hi2 : i < N := by have := (List.getElem?_eq_some_iff.1 hc).1; simpa using this
    rw [List.getElem?_map, List.getElem?_range hi2] at hc
    injection hc with hc
    unfold natRow at he
    rw [List.getElem?_map, List.getElem?_range hi2] at he
    injection he with he
    subst he hc
    refine ⟨rfl, ?_⟩
    have := hf i hi2
    show inI (f i : Int)
    unfold inI
    omega
set_option maxHeartbeats 1600000 in
set_option maxRecDepth 100000 in
theorem levels_any (N : Int) (hNi : inI N) (ps : List (Int × Int)) (w : World) (S : Blocks) (ve : Value) (hS : Sub S (Upto w.heap.size)) (hT : Tab w) (r : RdP w S ps ve) :
    Calls Tryd.prog 16 #[.agg #[.int .i64 N, ve]] w fun e w' => ∃ x, e = .returned (.tuple #[x, .int .i64 (wrongE N ps)]) ∧
      (wrongE N ps = 0 → ∃ g, x = .slice (some ⟨g, 0, none⟩) N.toNat N.toNat ∧ Blk w.heap.size w' g (rowN N.toNat (levE N.toNat (natsP ps)))) ∧ (wrongE N ps ≠ 0 → x = .slice none 0 0) ∧ Below w.heap.size w w' := by
  obtain ⟨A, cap, rfl, hl, hcm, hby⟩ := r.form
  unfold maxLen at hcm
  obtain ⟨i0, hi, hz0, hz1, hz2⟩ := info_parts infoII
  obtain ⟨i1, hj, hy0, hy1, hy2⟩ := info_parts infoIIs
  have b0 := Blk.made w [.int .i64 N, .slice A ps.length cap] 24 (base := 0) (Nat.zero_le _)
  have bl : Below w.heap.size w (w.alloc (.cells #[.int .i64 N, .slice A ps.length cap] 24)) := (Below.refl _ _).alloc (Nat.le_refl _) _
  have hsz0 : w.heap.size ≤ ((w.alloc (.cells #[.int .i64 N, .slice A ps.length cap] 24))).heap.size := by rw [World.size_alloc]; omega
  have hsz1 : w.heap.size < ((w.alloc (.cells #[.int .i64 N, .slice A ps.length cap] 24))).heap.size := by rw [World.size_alloc]; omega
  have k0 := b0.cell 0 _ rfl
  have k1 := b0.cell 1 _ rfl
  have HB0 := Lib.hid b0
  have BL := Lib.hid bl
  have HS := Lib.hid hS
  have RA := Lib.hid (r.go Flat.keeps bl hS (Sub.refl _))
  have C1 := Lib.hid (sort_any N hNi ps (w.alloc (.cells #[.int .i64 N, .slice A ps.length cap] 24)) S _ (hS.trans (Sub.upto hsz0)) (hT.go bl) (r.go Flat.keeps bl hS (Sub.refl _)))
  clear b0 bl hT r hS
  go_enter Tryd.func16, Tryd.ntmps16
  go_upto_region 1 with (fail)
  generalize (w.alloc (.cells #[.int .i64 N, .slice A ps.length cap] 24)) = W0 at *
  go_wp2_with fail
  refine C1.out.mono ?_
  rintro e w1 ⟨x, rfl, hso, hsn, hb1⟩
  have BL1 := Lib.hid (BL.out.trans (hb1.mono BL.out.size))
  have HB1 := Lib.hid (HB0.out.below hb1)
  have R1 := Lib.hid (RA.out.go Flat.keeps hb1 (HS.out.trans (Sub.upto BL.out.size)) (Sub.refl _))
  have hw01 := hb1.size
  clear C1 BL HB0 hb1 k0 k1 hsz0 RA
  by_cases hw : wrongE N ps = 0
  · skip
    obtain ⟨hn0, hn2, hgd, hrd⟩ := wrongE_zero hw
    obtain ⟨hps, hval⟩ := good_ps hgd
    obtain ⟨n, hnn⟩ : ∃ n : Nat, N = (n : Int) := ⟨N.toNat, by omega⟩
    subst hnn
    rw [Int.toNat_natCast] at hval hrd
    have hso2 := hso hw
    rw [Int.toNat_natCast] at hso2
    obtain ⟨es, hes⟩ : ∃ es, es = natsP ps := ⟨_, rfl⟩
    have hel : ps.length = es.length := by rw [hes, natsP_len]
    rw [← hes] at hps hval hrd hso2
    rw [← hps, List.length_map] at R1
    rw [hel] at hl hby HB1 ⊢
    have hn200 : n ≤ 200 := by omega
    have HFU := Lib.hid (round_full hval hrd)
    have HV := Lib.hid hval
    have HES := Lib.hid hes
    have HW0 := Lib.hid hw
    have O1 := Lib.hid hso2
    have hmk := fun w => run_make1 (P := Tryd.prog) 30 3 i0 _ Tryd.underlying30 hi hz0 hz1 rfl n (by rw [hz2]; omega) (by omega) w
    have hmk2 := fun w => run_make1 (P := Tryd.prog) 41 30 i1 _ Tryd.underlying41 hj hy0 hy1 rfl n (by rw [hy2]; omega) (by omega) w
    have HMK2 := Lib.hid hmk2
    rw [hw]
    have hw1 := BL1.out.size
    have hk9 : w.heap.size < w1.heap.size := by omega
    clear hw hgd hrd hps hval hes hel hso hsn hso2 hn0 hn2 hmk2 hj hy0 hy1 hy2
    have k0 := HB1.out.cell 0 _ rfl
    have k1 := HB1.out.cell 1 _ rfl
    have bB : Below w1.heap.size w1 (w1.alloc (.cells (Array.replicate n (.int .i64 0)) 3)) := (Below.refl _ _).alloc (Nat.le_refl _) _
    have M2 := Lib.hid (Blk.madeN w1 n (.int .i64 0) 3 (base := w.heap.size) hw1)
    rw [rowN_zero] at M2
    have O3 := Lib.hid (O1.out.keep Flat.keeps bB)
    have HOL := Lib.hid O1.out.lt
    have HB3 := Lib.hid (HB1.out.below bB)
    have BL3 := Lib.hid (BL1.out.trans (bB.mono hw1))
    have R3 := Lib.hid (R1.out.go Flat.keeps bB (HS.out.trans (Sub.upto hw1)) (Sub.refl _))
    have hsB : ((w1.alloc (.cells (Array.replicate n (.int .i64 0)) 3))).heap.size = w1.heap.size + 1 := by rw [World.size_alloc]
    obtain ⟨g, hg⟩ : ∃ g, g = w1.heap.size := ⟨_, rfl⟩
    have hmk2 := HMK2.out
    clear O1 HB1 BL1 R1 bB
    go_upto_region 5 with (fail)
    clear hmk k0 k1
    rw [← hg] at hsB M2 ⊢
    rw [← hg] at hk9 hw1 HOL
    generalize (w1.alloc (.cells (Array.replicate n (.int .i64 0)) 3)) = w3 at *
    have HXG := Lib.hid (show ∀ k, x.ownBlock = some k → k < g ∧ w.heap.size < k from fun k e => ⟨(HOL.out k e).2, by have := (HOL.out k e).1; omega⟩)
    have HSB := Lib.hid hsB
    clear hg hw01 HOL hsB
    have k0 := HB3.out.cell 0 _ rfl
    have k1 := HB3.out.cell 1 _ rfl
    have bD : Below w3.heap.size w3 (w3.alloc (.cells (Array.replicate n (.slice none 0 0)) 30)) := (Below.refl _ _).alloc (Nat.le_refl _) _
    have X4 := Lib.hid (NextT.made w3 n 30 (base := w3.heap.size + 1) (Nat.lt_succ_self _))
    have O4 := Lib.hid (O3.out.keep Flat.keeps bD)
    have M4 := Lib.hid (M2.out.below bD)
    have HB4 := Lib.hid (HB3.out.below bD)
    have BL4 := Lib.hid (BL3.out.trans (bD.mono BL3.out.size))
    have R4 := Lib.hid (R3.out.go Flat.keeps bD (HS.out.trans (Sub.upto BL3.out.size)) (Sub.refl _))
    have hsD : ((w3.alloc (.cells (Array.replicate n (.slice none 0 0)) 30))).heap.size = w3.heap.size + 1 := by rw [World.size_alloc]
    obtain ⟨h, hh⟩ : ∃ h, h = w3.heap.size := ⟨_, rfl⟩
    have hgh : g < h := by have := HSB.out; omega
    clear O3 M2 HB3 BL3 R3 bD HMK2
    go_upto_region 6 with (fail)
    clear hmk2
    rw [← hh] at hsD X4 ⊢
    generalize (w3.alloc (.cells (Array.replicate n (.slice none 0 0)) 30)) = W4 at *
    clear hh k0 k1 hw1
    have HSD := Lib.hid hsD
    have k0 := HB4.out.cell 0 _ rfl
    have k1 := HB4.out.cell 1 _ rfl
    have hSw := Lib.hid (show Sub S (Upto W4.heap.size) from HS.out.trans (Sub.upto (by omega)))
    have hwh : w.heap.size < h := by omega
    clear hsD
    go_wp2
    go_loopw [31] (fun t wr => ∃ q : Nat, q ≤ es.length ∧ t = .int .i64 q ∧ NxAt n es h q W4 wr) (fun t _ => es.length - (intOf t).toNat)
    case atStart => exact ⟨0, by omega, rfl, _, Lib.hid (X4.out.congr fun i _ => by rw [List.take_zero, nxI_zero]), Lib.hid (But.refl _ _)⟩
    case round =>
      clear X4 k0 k1
      obtain ⟨q, hq, rfl, vs, X1, BT⟩ := hrel
      by_cases hlt : q < es.length
      · skip
        have hlt2 : q < (es.map ceE).length := by rw [List.length_map]; exact hlt
        obtain ⟨bb, off, rfl, hbS, hok, hc1, hc2⟩ := RdP.at1 (R4.out.keep Flat.keeps (Sub.refl _) (BT.out.same hSw.out (fun k hk e => by have : k < w.heap.size := HS.out k hk; have : k = h := e; omega))) hlt2
        obtain ⟨a, b, hab⟩ : ∃ a b, es[q] = (a, b) := ⟨_, _, rfl⟩
        rw [ceE_at hlt hab hlt2] at hc1 hc2
        have hmem : (a, b) ∈ es := by rw [← hab]; exact List.getElem_mem hlt
        have haN := (HV.out a b hmem).1
        have hbN := (HV.out a b hmem).2
        have htk := Lib.hid (show es.take (q + 1) = es.take q ++ [(a, b)] by rw [List.take_succ_eq_append_getElem hlt, hab])
        have hnle : (nxI (es.take q) a).length ≤ 8796093022208 := by rw [nxI_len]; have := nxE_len (es.take q) a; simp at this; omega
        simp only at hc1 hc2
        clear hok hab hmem hlt2
        have hbx := (Below.refl wr.heap.size wr).alloc (Nat.le_refl _) (.cells #[.int .i64 (a : Int), .int .i64 (b : Int)] 48)
        have E1 := Lib.hid (Blk.made wr [.int .i64 (a : Int), .int .i64 (b : Int)] 48 (base := 0) (Nat.zero_le _))
        have HRW := Lib.hid (fun v (h : vs[a]? = some v) => (X1.out.row a v h).lt)
        have X3 := Lib.hid (X1.out.below hbx)
        have BT3 := Lib.hid (BT.out.trans (But.of_below (T := Is h) hbx))
        have hhr : h < wr.heap.size := X1.out.out.lt
        clear hbx X1 BT
        go_upto_region 9 with (fail)
        generalize wr.alloc (.cells #[.int .i64 (a : Int), .int .i64 (b : Int)] 48) = W3 at *
        clear hc1 hc2
        have HKEY := Lib.hid (fun (Ai : Option Addr) (ci : Nat) (v' : Value) (w2 : World) => nx_step (o := .cells #[.int .i64 (b : Int)] 3) HSD.out htk.out X3.out BT3.out Ai ci v' w2)
        have e0 := E1.out.cell 0 _ rfl
        have e1 := E1.out.cell 1 _ rfl
        obtain ⟨Ai, ci, hvs, hx, ho⟩ := X3.out.at_ haN
        have hbl := (Below.refl W3.heap.size W3).alloc (Nat.le_refl _) (.cells #[.int .i64 (b : Int)] 3) |>.drew
        have H2d := Lib.hid (ho.keep Flat.keeps hbl)
        have HRD := Lib.hid (show RdI (W3.alloc (.cells #[.int .i64 (b : Int)] 3)).drew (fun _ => True) [(b : Int)] (.slice (some ⟨W3.heap.size, 0, none⟩) 1 1) from rd_one (enc := encI) (x := (b : Int)) rfl (cells_newAt W3 [.int .i64 (b : Int)] 3 rfl) (by unfold inI; omega) trivial (by decide))
        have E4 := Lib.hid (E1.out.below hbl)
        have X4 := Lib.hid (X3.out.below hbl)
        have m1 := Lib.hid (show (nxI (es.take q) a).length + [(b : Int)].length ≤ maxLen by unfold maxLen; simp; omega)
        have m2 := Lib.hid (show ((nxI (es.take q) a).length + [(b : Int)].length) * 8 ≤ 140737488355328 by simp; omega)
        have HBB := Lib.hid (show h + 1 ≤ (W3.alloc (.cells #[.int .i64 (b : Int)] 3)).drew.heap.size from by have := X3.out.out.lt; have := hbl.size; show h + 1 ≤ (W3.alloc (.cells #[.int .i64 (b : Int)] 3)).heap.size; rw [World.size_alloc]; omega)
        have HND := Lib.hid (show (Value.slice Ai (nxI (es.take q) a).length ci).ownBlock ≠ some h from fun e => by have := (ho.lt _ e).1; omega)
        have HNE := Lib.hid (show (Value.slice Ai (nxI (es.take q) a).length ci).ownBlock ≠ some wr.heap.size from fun e => by have := (HRW.out _ hvs _ e).2; omega)
        have ha0 : (W3.alloc (.cells #[.int .i64 (b : Int)] 3)).cell? ⟨h, a, none⟩ = some (.slice Ai (nxI (es.take q) a).length ci) := X4.out.out.cell a _ hvs
        have ha1 : (W3.alloc (.cells #[.int .i64 (b : Int)] 3)).cell? ⟨wr.heap.size, 0, none⟩ = some (.int .i64 (a : Int)) := E4.out.cell 0 _ rfl
        clear hbl ho
        go_region_law ((refine step_append_list (by rfl) (.tmp 42) (.tmp 45) 30 (by rfl) (by rfl) (by rfl) i0 _ Tryd.underlying30 hi hz0 hz1 hz2 rfl (by decide) Flat.keeps (l := nxI (es.take q) a) (m := [(b : Int)]) (base := h + 1) (S := Nowhere) (Tx := Nowhere) (U := fun _ => True) (v := .slice Ai (nxI (es.take q) a).length ci) (RdL.bare HRD.out _) H2d.out (Sub.nowhere _) (Sub.nowhere _) not_nowhere oneI m1.out m2.out HBB.out ?_; intro v' w2 ho1 hg1 hw1; obtain ⟨A', c', rfl⟩ := ho1.form; have q0 : w2.cell? ⟨h, a, none⟩ = some (.slice Ai (nxI (es.take q) a).length ci) := grown_cell hg1 (X4.out.out.cell a _ hvs) HND.out; have qf : w2.frozen? ⟨h, a, none⟩ = false := grown_frozen hg1 (X4.out.out.fr a) X4.out.out.lt HND.out; have q1 : w2.cell? ⟨wr.heap.size, 0, none⟩ = some (.int .i64 (a : Int)) := grown_cell hg1 (E4.out.cell 0 _ rfl) HNE.out))
        all_goals
          have hkey := HKEY.out _ _ _ _ hvs ho1 hg1 hw1
          rw [show (nxI (es.take q) a ++ [(b : Int)]).length = (nxI (es.take q) a).length + 1 by simp] at hkey
          have HK := Lib.hid hkey
          clear HKEY ho1 hg1 hw1 X3 BT3 X4 E4 E1 hi q0 q1 qf e0 e1 hx H2d HRD ha0 ha1 hkey
          go_wp2_with fail
          go_roundw
          case rel => exact ⟨q + 1, by omega, by go_num, HK.out⟩
          case measure => simp [intOf]; omega
      · skip
        have hqe : q = es.length := by omega
        subst hqe
        rw [List.take_length] at X1
        obtain ⟨W5, hW5⟩ : ∃ W5 : World, W5 = wr := ⟨_, rfl⟩
        subst hW5
        have X5 := Lib.hid X1.out
        have O5 := Lib.hid (O4.out.but BT.out (fun k e => by have := (HXG.out k e).1; unfold Is; omega))
        have M5 := Lib.hid ((M4.out.but BT.out (by unfold Is; omega)).congrN (g := partL n es 0) (fun k _ => (partL_zero n es k).symm))
        have BL5 := Lib.hid (BL4.out.trans (BT.out.below BL4.out.size (fun k e => by have : k = h := e; omega)))
        have hs5 : h + 1 ≤ W5.heap.size := by have := BT.out.size; have := HSD.out; omega
        obtain ⟨Ax, cx, rfl⟩ := O5.out.form
        have hcn : (castL (takeG n es)).length = n := by rw [castL_len, HFU.out]
        rw [hcn] at O5 HXG ⊢
        have HCN := Lib.hid hcn
        clear X1 BT M4 O4 BL4 R4 HB4 hq hlt hcn
        go_wp2
        go_loopw [51] (fun t wr => ∃ q : Nat, q ≤ n ∧ t = .int .i64 q ∧ Hid (Blk w.heap.size wr g (rowN n (partL n es q))) ∧ Hid (But (Is g) W5 wr)) (fun t _ => n - (intOf t).toNat)
        case atStart => exact ⟨0, by omega, rfl, M5, Lib.hid (But.refl _ _)⟩
        case round =>
          clear M5
          obtain ⟨q, hq, rfl, M, B6⟩ := hrel
          by_cases hlt : q < n
          · skip
            have hqb : q < (takeG n es).length := by rw [HFU.out]; exact hlt
            have O6 := O5.out.but B6.out (fun k e => by have := (HXG.out k e).1; unfold Is; omega)
            obtain ⟨gx, cx', hv, _, _, _, _, _, hce⟩ := OwnI.open_ O6 (by rw [HCN.out]; omega)
            injection hv with hA hn9 hcc
            clear hn9
            subst hA hcc
            obtain ⟨m, hm⟩ : ∃ m, m = (takeG n es)[q] := ⟨_, rfl⟩
            have c0 := (hce q (by rw [HCN.out]; exact hlt)).2
            rw [castL_at, ← hm] at c0
            have hmn : m < n := by rw [hm]; exact (takeG_end n es).1.lt _ (List.getElem_mem hqb)
            have X6 := Lib.hid (X5.out.low B6.out (by unfold Is; omega) (fun k hk => by have : k = g := hk; omega))
            obtain ⟨Ai, ci, hvs, hx, hro⟩ := X6.out.at_ hmn
            have HRO := Lib.hid (X5.out)
            have hnx : (nxI es m).length ≤ es.length := by rw [nxI_len]; exact nxE_len es m
            have HOW := Lib.hid (show ∀ k, midL n es q m k m = levE n es m from fun k => by rw [hm]; exact midL_own HFU.out HV.out hqb k)
            have HAL := Lib.hid (show ∀ x, midL n es q m (nxE es m).length x = partL n es (q + 1) x from fun x => by rw [hm]; exact midL_all hqb x)
            have HNS := Lib.hid (show ∀ p, p ∈ nxE es m → p < n ∧ p ≠ m from fun p hp => ⟨(HV.out _ _ (nxE_mem.1 hp)).2, fun e => no_self HFU.out HV.out m (by rw [e] at hp; exact hp)⟩)
            have HRI := Lib.hid hro
            have M6 := Lib.hid (M.out.congrN (g := midL n es q m 0) (fun k _ => (midL_zero n es q m k).symm))
            obtain ⟨W6, hW6⟩ : ∃ W6 : World, W6 = wr := ⟨_, rfl⟩
            subst hW6
            clear hce hm hro O6 hvs X6 hqb M
            go_wp2
            clear c0 hx
            go_loopw [60] (fun t wr => ∃ k : Nat, k ≤ (nxI es m).length ∧ t = .int .i64 k ∧ Hid (Blk w.heap.size wr g (rowN n (midL n es q m k))) ∧ Hid (But (Is g) W6 wr)) (fun t _ => (nxI es m).length - (intOf t).toNat)
            case atStart => exact ⟨0, by omega, rfl, M6, Lib.hid (But.refl _ _)⟩
            case round =>
              clear M6
              obtain ⟨k, hk, rfl, M, HB⟩ := hrel
              by_cases hltk : k < (nxI es m).length
              · skip
                have hltE : k < (nxE es m).length := by rw [← nxI_len]; exact hltk
                have hro2 := HRI.out.but HB.out (fun j e => by have := (HRI.out.lt j e).1; unfold Is; omega)
                obtain ⟨gr, cc, hv, _, _, _, _, _, hcells⟩ := OwnI.open_ hro2 (by omega)
                injection hv with hA hn9 hcc
                clear hn9
                subst hA hcc
                obtain ⟨p, hpp⟩ : ∃ p, p = (nxE es m)[k] := ⟨_, rfl⟩
                have hcell := (hcells k hltk).2
                rw [show (nxI es m)[k] = (p : Int) by rw [hpp]; simp [nxI]] at hcell
                obtain ⟨hpn, hpm⟩ := HNS.out p (by rw [hpp]; exact List.getElem_mem _)
                have m0 := M.out.atN hpn
                have m1 := M.out.atN hmn
                have mf := M.out.fr p
                have hsu := midL_succ (N := n) (q := q) hltE
                rw [← hpp] at hsu
                rw [HOW.out k] at m1
                obtain ⟨u, hu⟩ : ∃ u, u = midL n es q m k p := ⟨_, rfl⟩
                obtain ⟨v, hv⟩ : ∃ v, v = levE n es m := ⟨_, rfl⟩
                have hv2 : v ≤ n := by rw [hv]; exact levE_le n es m
                have HKM := Lib.hid (fun y (hy : y = max u (v + 1)) => ((M.out.setN (k := p) (y := y) hpn).congrN (g := midL n es q m (k + 1)) (fun x _ => by
                  rw [hsu x]
                  by_cases e : x = p
                  · rw [if_pos e, if_pos e, hy, hu, hv, e]
                  · rw [if_neg e, if_neg e])).drewN 1)
                have HKB := Lib.hid (fun y : Int => (HB.out.setCell (p := ⟨g, p, none⟩) (show Is g g from rfl) (.int .i64 y)).drewN 1)
                rw [← hu] at m0
                rw [← hv] at m1
                have hul : u ≤ 4096 := by
                  have h1 : partL n es q p ≤ n + 1 := topE_le fun a _ _ => by have := levE_le n es a; omega
                  have h2 := levE_le n es m
                  rw [hu]
                  unfold midL
                  split <;> omega
                clear hro2 hcells hpp hsu hu hv M HB HOW
                go_upto_region 17 with (fail)
                obtain ⟨V, hV⟩ : ∃ V : World, V = wr := ⟨_, rfl⟩
                subst hV
                clear hcell
                rcases Nat.lt_trichotomy u (v + 1) with hc | hc | hc
                · have hle : (u : Int) ≤ (v : Int) + 1 := by omega
                  have hnl : ¬ (v : Int) + 1 ≤ (u : Int) := by omega
                  have M7 := HKM.out (v + 1) (by omega)
                  have ey : (((v + 1 : Nat)) : Int) = (v : Int) + 1 := by omega
                  rw [ey] at M7
                  have HM7 := Lib.hid M7
                  have HB7 := Lib.hid (HKB.out ((v : Int) + 1))
                  clear HKM HKB M7 ey hc
                  go_region
                  all_goals
                    go_wp2_with fail
                    go_roundw
                    case rel => exact ⟨k + 1, by omega, by go_num, HM7, HB7⟩
                    case measure => simp [intOf]; omega
                · subst hc
                  have M7 := HKM.out (v + 1) (by omega)
                  have ey : (((v + 1 : Nat)) : Int) = (v : Int) + 1 := by omega
                  rw [ey] at M7 m0
                  have HM7 := Lib.hid M7
                  have HB7 := Lib.hid (HKB.out ((v : Int) + 1))
                  clear HKM HKB M7 ey
                  go_region
                  all_goals
                    go_wp2_with fail
                    go_roundw
                    case rel => exact ⟨k + 1, by omega, by go_num, HM7, HB7⟩
                    case measure => simp [intOf]; omega
                · have hle : (v : Int) + 1 ≤ (u : Int) := by omega
                  have hnl : ¬ (u : Int) ≤ (v : Int) + 1 := by omega
                  have HM7 := Lib.hid (HKM.out u (by omega))
                  have HB7 := Lib.hid (HKB.out (u : Int))
                  clear HKM HKB hc
                  go_region
                  all_goals
                    go_wp2_with fail
                    go_roundw
                    case rel => exact ⟨k + 1, by omega, by go_num, HM7, HB7⟩
                    case measure => simp [intOf]; omega
              · skip
                have hke : k = (nxE es m).length := by rw [← nxI_len]; omega
                have M7 := Lib.hid (M.out.congrN (g := partL n es (q + 1)) (fun x _ => by rw [hke, HAL.out]))
                have B7 := Lib.hid (B6.out.trans HB.out)
                clear hke M HB HRI
                go_wp2_with fail
                go_roundw
                case rel => exact ⟨q + 1, by omega, by go_num, M7, B7⟩
                case measure => simp [intOf]; omega
          · skip
            have hqn : q = n := by omega
            subst hqn
            have MZ := Lib.hid (M.out.congrN (g := levE q es) (fun k hk => partL_all HFU.out HV.out hk))
            have BZ := Lib.hid (BL5.out.trans (B6.out.below BL5.out.size (fun k hk => by have : k = g := hk; omega)))
            clear M B6 X5 O5
            go_wp2
            go_ret2
            refine ⟨_, by rw [HW0.out]; rfl, fun _ => ⟨g, rfl, ?_⟩, fun h => absurd HW0.out h, BZ.out⟩
            rw [← HES.out]
            exact MZ.out
  · have HW := Lib.hid hw
    have hx9 := hsn hw
    subst hx9
    clear hso hsn
    go_wp2_with fail
    go_ret2
    exact ⟨_, rfl, fun h => absurd h HW.out, fun _ => rfl, BL1.out⟩
end Go.Proofs.YthbbecmffndgdabDoor
