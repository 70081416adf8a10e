/- The walk of the reference's CLevels. -/
import Derived.Test.YthbbecmffndgdabDoorOlSpec
import Derived.Test.YthbbecmffndgdabDoorGr4
import Derived.BigRegion
namespace Go.Proofs.YthbbecmffndgdabDoor
open Go.RowKit
set_option linter.unusedVariables false
theorem infoCl : (Tryd.prog.info? 3).map (fun i => (i.zero, i.size, i.bytes)) = some (some (.int .i64 0), 1, 8) := by kernel_rfl
set_option maxHeartbeats 1600000 in
set_option maxRecDepth 100000 in
theorem clevels_any (N : Int) (hNi : inI N) (ps : List (Int × Int)) (w : World) (S : Blocks) (ve : Value) (hS : Sub S (Upto w.heap.size)) (r : RdP w S ps ve) :
    Calls Tryd.prog 17 #[.agg #[.int .i64 N, ve]] w fun e w' => ∃ x, e = .returned (.tuple #[x, .int .i64 (wrongE N ps)]) ∧
      (wrongE N ps = 0 → ∃ g, x = .slice (some ⟨g, 0, none⟩) N.toNat N.toNat ∧ Blk w.heap.size w' g (rowN N.toNat (levE N.toNat (natsP ps)))) ∧ (wrongE N ps ≠ 0 → x = .slice none 0 0) ∧ Below w.heap.size w w' := by
  obtain ⟨A, cap, rfl, hl, hcm, hby⟩ := r.form
  unfold maxLen at hcm
  obtain ⟨i0, hi, hz0, hz1, hz2⟩ := info_parts infoCl
  have b0 := Blk.made w [.int .i64 N, .slice A ps.length cap] 24 (base := 0) (Nat.zero_le _)
  have bl : Below w.heap.size w (w.alloc (.cells #[.int .i64 N, .slice A ps.length cap] 24)) := (Below.refl _ _).alloc (Nat.le_refl _) _
  have hsz0 : w.heap.size ≤ ((w.alloc (.cells #[.int .i64 N, .slice A ps.length cap] 24))).heap.size := by rw [World.size_alloc]; omega
  have hsz1 : w.heap.size < ((w.alloc (.cells #[.int .i64 N, .slice A ps.length cap] 24))).heap.size := by rw [World.size_alloc]; omega
  have k0 := b0.cell 0 _ rfl
  have k1 := b0.cell 1 _ rfl
  have HB0 := Lib.hid b0
  have BL := Lib.hid bl
  have HS := Lib.hid hS
  have RA := Lib.hid (r.go Flat.keeps bl hS (Sub.refl _))
  have C1 := Lib.hid (bwrong_any N hNi ps (w.alloc (.cells #[.int .i64 N, .slice A ps.length cap] 24)) S _ (hS.trans (Sub.upto hsz0)) (r.go Flat.keeps bl hS (Sub.refl _)))
  clear b0 bl r hS
  go_enter Tryd.func17, Tryd.ntmps17
  go_upto_region 1 with (fail)
  generalize (w.alloc (.cells #[.int .i64 N, .slice A ps.length cap] 24)) = W0 at *
  go_wp2_with fail
  refine C1.out.mono ?_
  rintro e w1 ⟨rfl, hb1⟩
  have BL1 := Lib.hid (BL.out.trans (hb1.mono BL.out.size))
  have HB1 := Lib.hid (HB0.out.below hb1)
  have R1 := Lib.hid (RA.out.go Flat.keeps hb1 (HS.out.trans (Sub.upto BL.out.size)) (Sub.refl _))
  have hw01 := hb1.size
  clear C1 BL HB0 hb1 k0 k1 hsz0 RA
  by_cases hw : wrongE N ps = 0
  · skip
    obtain ⟨hn0, hn2, hgd, hrd⟩ := wrongE_zero hw
    obtain ⟨hps, hval⟩ := good_ps hgd
    obtain ⟨n, hnn⟩ : ∃ n : Nat, N = (n : Int) := ⟨N.toNat, by omega⟩
    subst hnn
    rw [Int.toNat_natCast] at hval hrd
    obtain ⟨es, hes⟩ : ∃ es, es = natsP ps := ⟨_, rfl⟩
    have hel : ps.length = es.length := by rw [hes, natsP_len]
    rw [← hes] at hps hval hrd
    rw [← hps, List.length_map] at R1
    rw [hel] at hl hby HB1 ⊢
    have hn200 : n ≤ 200 := by omega
    have HFU := Lib.hid (round_full hval hrd)
    have HV := Lib.hid hval
    have HES := Lib.hid hes
    have HW0 := Lib.hid hw
    have hmk := fun w => run_make1 (P := Tryd.prog) 30 3 i0 _ Tryd.underlying30 hi hz0 hz1 rfl n (by rw [hz2]; omega) (by omega) w
    rw [hw]
    have hw1 := BL1.out.size
    have hk9 : w.heap.size < w1.heap.size := by omega
    clear hw hgd hrd hps hval hes hel hn0 hn2
    have k0 := HB1.out.cell 0 _ rfl
    have k1 := HB1.out.cell 1 _ rfl
    have bB : Below w1.heap.size w1 (w1.alloc (.cells (Array.replicate n (.int .i64 0)) 3)) := (Below.refl _ _).alloc (Nat.le_refl _) _
    have M2 := Lib.hid (Blk.madeN w1 n (.int .i64 0) 3 (base := w.heap.size) hw1)
    rw [rowN_zero] at M2
    have HB2 := Lib.hid (HB1.out.below bB)
    have BL2 := Lib.hid (BL1.out.trans (bB.mono hw1))
    have R2 := Lib.hid (R1.out.go Flat.keeps bB (HS.out.trans (Sub.upto hw1)) (Sub.refl _))
    obtain ⟨g, hg⟩ : ∃ g, g = w1.heap.size := ⟨_, rfl⟩
    clear HB1 BL1 R1 bB hw01
    go_upto_region 5 with (fail)
    clear hmk k0 k1
    rw [← hg] at M2 ⊢
    rw [← hg] at hk9 hw1
    generalize (w1.alloc (.cells (Array.replicate n (.int .i64 0)) 3)) = W2 at *
    clear hg
    have k0 := HB2.out.cell 0 _ rfl
    have k1 := HB2.out.cell 1 _ rfl
    have hSw := Lib.hid (show Sub S (Upto W2.heap.size) from HS.out.trans (Sub.upto BL2.out.size))
    have M3 := Lib.hid (show Blk w.heap.size W2 g (rowN n (fun _ => 0)) from M2.out)
    clear M2
    go_wp2
    go_loopw [18] (fun t wr => ∃ (q : Nat) (X : Nat → Nat), q ≤ n ∧ t = .int .i64 q ∧ Hid (Blk w.heap.size wr g (rowN n X)) ∧ Hid (RndL n es q 0 X) ∧ Hid (But (Is g) W2 wr)) (fun t _ => n - (intOf t).toNat)
    case atStart => exact ⟨0, _, by omega, rfl, M3, Lib.hid (rnd_zero n es), Lib.hid (But.refl _ _)⟩
    case round =>
      clear M3 k0 k1
      obtain ⟨q, X, hq, rfl, M, HX, HB⟩ := hrel
      have B3 := Lib.hid (HB2.out.but HB.out (by unfold Is; omega))
      have k0 := B3.out.cell 0 _ rfl
      have k1 := B3.out.cell 1 _ rfl
      by_cases hlt : q < n
      · skip
        go_wp2
        go_loopw [23] (fun t wr => ∃ (k : Nat) (X : Nat → Nat), k ≤ es.length ∧ t = .int .i64 k ∧ Hid (Blk w.heap.size wr g (rowN n X)) ∧ Hid (RndL n es q k X) ∧ Hid (But (Is g) W2 wr)) (fun t _ => es.length - (intOf t).toNat)
        case atStart => exact ⟨0, X, by omega, rfl, M, HX, HB⟩
        case round =>
          clear M HX HB k0 k1 B3 X
          obtain ⟨k, X, hk, rfl, M, HX, HB⟩ := hrel
          by_cases hltk : k < es.length
          · skip
            have hlt2 : k < (es.map ceE).length := by rw [List.length_map]; exact hltk
            obtain ⟨bb, off, rfl, hbS, hok, hc1, hc2⟩ := RdP.at1 (R2.out.keep Flat.keeps (Sub.refl _) (HB.out.same hSw.out (fun j hj e => by have : j < w.heap.size := HS.out j hj; have : j = g := e; omega))) hlt2
            obtain ⟨a, b, hab⟩ : ∃ a b, es[k] = (a, b) := ⟨_, _, rfl⟩
            have hce : (es.map ceE)[k] = ((a : Int), (b : Int)) := by rw [List.getElem_map, hab]; rfl
            rw [hce] at hc1 hc2
            have hmem : (a, b) ∈ es := by rw [← hab]; exact List.getElem_mem hltk
            have haN := (HV.out a b hmem).1
            have hbN := (HV.out a b hmem).2
            have HTK := Lib.hid (show es.take (k + 1) = es.take k ++ [(a, b)] by rw [List.take_succ_eq_append_getElem hltk, hab])
            have HME := Lib.hid hmem
            simp only at hc1 hc2
            clear hok hab hmem hlt2 hce
            have hbx := (Below.refl wr.heap.size wr).alloc (Nat.le_refl _) (.cells #[.int .i64 (a : Int), .int .i64 (b : Int)] 48)
            have E1 := Lib.hid (Blk.made wr [.int .i64 (a : Int), .int .i64 (b : Int)] 48 (base := 0) (Nat.zero_le _))
            have M4 := Lib.hid (M.out.below hbx)
            have HB4 := Lib.hid (HB.out.trans (But.of_below (T := Is g) hbx))
            have hgr := M.out.lt
            clear hbx M HB
            go_upto_region 10 with (fail)
            generalize wr.alloc (.cells #[.int .i64 (a : Int), .int .i64 (b : Int)] 48) = W1 at *
            clear hc1 hc2
            have e0 := E1.out.cell 0 _ rfl
            have e1 := E1.out.cell 1 _ rfl
            have m0 := M4.out.atN hbN
            have m1 := M4.out.atN haN
            have mf := M4.out.fr b
            have hub := HX.out.1 b hbN
            have hva := HX.out.1 a haN
            have hlb := levE_le n es b
            have hla := levE_le n es a
            obtain ⟨u, hu⟩ : ∃ u, u = X b := ⟨_, rfl⟩
            obtain ⟨v, hv⟩ : ∃ v, v = X a := ⟨_, rfl⟩
            rw [← hu] at m0
            rw [← hv] at m1
            have hu2 : u ≤ 200 := by omega
            have hv2 : v ≤ 200 := by omega
            have HKM := Lib.hid (fun y : Nat => ((M4.out.setN (k := b) (y := y) hbN).drewN 1))
            have HKB := Lib.hid (fun y : Int => (HB4.out.setCell (p := ⟨g, b, none⟩) (show Is g g from rfl) (.int .i64 y)).drewN 1)
            have HKX := Lib.hid (fun (y : Nat) (hy : y = max u (v + 1)) => rnd_step (A' := fun j => if j = b then y else X j) HFU.out HV.out HX.out HTK.out HME.out (by rw [if_pos rfl, ← hu, ← hv]; exact hy) (fun m hm => by rw [if_neg hm]))
            clear hub hva hlb hla hu hv M4 HB4 E1 HX
            rcases Nat.lt_trichotomy u (v + 1) with hc | hc | hc
            · have hle : (u : Int) ≤ (v : Int) + 1 := by omega
              have hnl : ¬ (v : Int) + 1 ≤ (u : Int) := by omega
              have M7 := HKM.out (v + 1)
              have X7 := Lib.hid (HKX.out (v + 1) (by omega))
              have ey : (((v + 1 : Nat)) : Int) = (v : Int) + 1 := by omega
              rw [ey] at M7
              have HM7 := Lib.hid M7
              have HB7 := Lib.hid (HKB.out ((v : Int) + 1))
              clear HKM HKB HKX M7 ey hc
              go_region
              all_goals
                go_wp2_with fail
                go_roundw
                case rel => exact ⟨k + 1, _, by omega, by go_num, HM7, X7, HB7⟩
                case measure => simp [intOf]; omega
            · subst hc
              have M7 := HKM.out (v + 1)
              have X7 := Lib.hid (HKX.out (v + 1) (by omega))
              have ey : (((v + 1 : Nat)) : Int) = (v : Int) + 1 := by omega
              rw [ey] at M7 m0
              have HM7 := Lib.hid M7
              have HB7 := Lib.hid (HKB.out ((v : Int) + 1))
              clear HKM HKB HKX M7 ey
              go_region
              all_goals
                go_wp2_with fail
                go_roundw
                case rel => exact ⟨k + 1, _, by omega, by go_num, HM7, X7, HB7⟩
                case measure => simp [intOf]; omega
            · have hle : (v : Int) + 1 ≤ (u : Int) := by omega
              have hnl : ¬ (u : Int) ≤ (v : Int) + 1 := by omega
              have HM7 := Lib.hid (HKM.out u)
              have X7 := Lib.hid (HKX.out u (by omega))
              have HB7 := Lib.hid (HKB.out (u : Int))
              clear HKM HKB HKX hc
              go_region
              all_goals
                go_wp2_with fail
                go_roundw
                case rel => exact ⟨k + 1, _, by omega, by go_num, HM7, X7, HB7⟩
                case measure => simp [intOf]; omega
          · skip
            have hke : k = es.length := by omega
            subst hke
            have X7 := Lib.hid (rnd_next HX.out)
            clear HX
            go_wp2_with fail
            go_roundw
            case rel => exact ⟨q + 1, X, by omega, by go_num, M, X7, HB⟩
            case measure => simp [intOf]; omega
      · skip
        have hqn : q = n := by omega
        subst hqn
        have MZ := Lib.hid (M.out.congrN (g := levE q es) (fun k hk => rnd_end HX.out hk))
        have BZ := Lib.hid (BL2.out.trans (HB.out.below BL2.out.size (fun k hk => by have : k = g := hk; omega)))
        clear M HB HX
        go_wp2
        go_ret2
        refine ⟨_, by rw [HW0.out]; rfl, fun _ => ⟨g, rfl, ?_⟩, fun h => absurd HW0.out h, BZ.out⟩
        rw [← HES.out]
        exact MZ.out
  · have HW := Lib.hid hw
    go_wp2_with fail
    go_ret2
    exact ⟨_, rfl, fun h => absurd h HW.out, fun _ => rfl, BL1.out⟩
end Go.Proofs.YthbbecmffndgdabDoor
