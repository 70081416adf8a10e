/- The walk of the reference's CApart; the walk of the law OrderApart. -/
import Derived.Test.YthbbecmffndgdabDoorAp1
import Derived.Test.YthbbecmffndgdabDoorGr4
namespace Go.Proofs.YthbbecmffndgdabDoor
open Go.RowKit
set_option linter.unusedVariables false
theorem apQ_le {n : Nat} {es : List (Nat × Nat)} {l : List Int} {q i : Nat} (h : apQ n es l q = true) (hi : i < q) (hl : i < l.length) : 0 ≤ l[i] ∧ l[i] < (n : Int) := by
  have := apQ_get h hi
  rw [List.getElem?_eq_getElem hl, Option.getD_some] at this
  unfold apR at this
  rw [Bool.and_eq_true, decide_eq_true_eq] at this
  exact this.1
/-- row q, its first j looked at -/
def apJ (n : Nat) (es : List (Nat × Nat)) (l : List Int) (x : Int) (j : Nat) : Bool := (l.take j).all fun m => decide (m ≠ x) && (!waysE n es m.toNat x.toNat && !waysE n es x.toNat m.toNat)
theorem apJ_succ (n : Nat) (es : List (Nat × Nat)) (l : List Int) (x : Int) {j : Nat} (h : j < l.length) : apJ n es l x (j + 1) = (apJ n es l x j && (decide (l[j] ≠ x) && (!waysE n es l[j].toNat x.toNat && !waysE n es x.toNat l[j].toNat))) := by
  unfold apJ
  rw [List.take_succ_eq_append_getElem h, List.all_append]
  simp
theorem apJ_no {n : Nat} {es : List (Nat × Nat)} {l : List Int} {x : Int} {j q : Nat} (h : j < l.length) (hjq : j < q) (hb : (decide (l[j] ≠ x) && (!waysE n es l[j].toNat x.toNat && !waysE n es x.toNat l[j].toNat)) = false) : apR n es l x q = false := by
  unfold apR
  rw [Bool.and_eq_false_iff]
  right
  rw [List.all_eq_false]
  exact ⟨l[j], List.mem_take_iff_getElem.2 ⟨j, by omega, rfl⟩, by rw [hb]; simp⟩
set_option maxHeartbeats 1600000 in
set_option maxRecDepth 100000 in
theorem capart_any (N : Int) (hNi : inI N) (ps : List (Int × Int)) (l : List Int) (w : World) (S : Blocks) (ve vl : Value) (hS : Sub S (Upto w.heap.size)) (r : RdP w S ps ve) (rl : RdI w S l vl) :
    Calls Tryd.prog 11 #[.agg #[.int .i64 N, ve], vl] w fun e w' => e = .returned (.bool (apW N ps l)) ∧ Below w.heap.size w w' := by
  obtain ⟨A, cap, rfl, hl, hcm, hby⟩ := r.form
  unfold maxLen at hcm
  obtain ⟨Al, cl, rfl, hll, hcml, hbyl⟩ := rl.form
  unfold maxLen at hcml
  have b0 := Blk.made w [.int .i64 N, .slice A ps.length cap] 24 (base := 0) (Nat.zero_le _)
  have bl : Below w.heap.size w (w.alloc (.cells #[.int .i64 N, .slice A ps.length cap] 24)) := (Below.refl _ _).alloc (Nat.le_refl _) _
  have hsz0 : w.heap.size ≤ ((w.alloc (.cells #[.int .i64 N, .slice A ps.length cap] 24))).heap.size := by rw [World.size_alloc]; omega
  have k0 := b0.cell 0 _ rfl
  have k1 := b0.cell 1 _ rfl
  have HB0 := Lib.hid b0
  have BL := Lib.hid bl
  have HS := Lib.hid hS
  have RL := Lib.hid (rl.go Flat.keeps bl hS (Sub.refl _))
  have R0 := Lib.hid (r.go Flat.keeps bl hS (Sub.refl _))
  have C1 := Lib.hid (bwrong_any N hNi ps (w.alloc (.cells #[.int .i64 N, .slice A ps.length cap] 24)) S _ (hS.trans (Sub.upto hsz0)) (r.go Flat.keeps bl hS (Sub.refl _)))
  clear b0 bl r rl hS
  go_enter Tryd.func11, Tryd.ntmps11
  go_upto_region 1 with (fail)
  generalize (w.alloc (.cells #[.int .i64 N, .slice A ps.length cap] 24)) = W0 at *
  go_wp2_with fail
  refine C1.out.mono ?_
  rintro e w1 ⟨rfl, hb1⟩
  have BL1 := Lib.hid (BL.out.trans (hb1.mono BL.out.size))
  have HB1 := Lib.hid (HB0.out.below hb1)
  have RL1 := Lib.hid (RL.out.go Flat.keeps hb1 (HS.out.trans (Sub.upto BL.out.size)) (Sub.refl _))
  have R1 := Lib.hid (R0.out.go Flat.keeps hb1 (HS.out.trans (Sub.upto BL.out.size)) (Sub.refl _))
  clear C1 BL HB0 hb1 k0 k1 hsz0 RL R0
  by_cases hw : wrongE N ps = 0
  · skip
    obtain ⟨hn0, hn2, hgd, hrd⟩ := wrongE_zero hw
    obtain ⟨hps, hval⟩ := good_ps hgd
    obtain ⟨n, hnn⟩ : ∃ n : Nat, N = (n : Int) := ⟨N.toNat, by omega⟩
    subst hnn
    rw [Int.toNat_natCast] at hval hrd
    have HR := Lib.hid (show apW (n : Int) ps l = apE n (natsP ps) l by rw [apW_ok hw, Int.toNat_natCast])
    have hn200 : n ≤ 200 := by omega
    have hSz := Lib.hid (show Sub S (Upto w1.heap.size) from HS.out.trans (Sub.upto BL1.out.size))
    have C2 := Lib.hid (reach_any n hn200 (natsP ps) hval w1 S _ hSz.out (by rw [hps]; exact R1.out))
    obtain ⟨es, hes⟩ : ∃ es, es = natsP ps := ⟨_, rfl⟩
    rw [← hes] at HR C2
    rw [hw]
    clear hw hgd hrd hes hps hval hn0 hn2 R1
    have k0 := HB1.out.cell 0 _ rfl
    have k1 := HB1.out.cell 1 _ rfl
    go_wp2_with fail
    refine C2.out.mono ?_
    rintro e w2 ⟨g, gs, rfl, hgl, hM, hb2⟩
    have M := Lib.hid hM
    have HGL := Lib.hid hgl
    have HB2 := Lib.hid (HB1.out.below hb2)
    have BL2 := Lib.hid (BL1.out.trans (hb2.mono BL1.out.size))
    have RL2 := Lib.hid (RL1.out.go Flat.keeps hb2 hSz.out (Sub.refl _))
    obtain ⟨W2, hW2⟩ : ∃ W2 : World, W2 = w2 := ⟨_, rfl⟩
    subst hW2
    clear C2 hM hgl hb2 k0 k1 HB1 BL1 RL1
    have k0 := HB2.out.cell 0 _ rfl
    go_wp2
    go_loopw [17] (fun t wr => ∃ q : Nat, q ≤ l.length ∧ t = .int .i64 q ∧ Hid (apQ n es l q = true) ∧ W2 = wr) (fun t _ => l.length - (intOf t).toNat)
    case atStart => exact ⟨0, by omega, rfl, Lib.hid (apQ_zero n es l), rfl⟩
    case round =>
      obtain ⟨q, hq, rfl, HI, rfl⟩ := hrel
      by_cases hlt : q < l.length
      · skip
        obtain ⟨b, off, rfl, _, hok, hc⟩ := RdI.at1 RL2.out hlt
        have HNO := Lib.hid (fun h => apE_range (n := n) (es := es) hlt h)
        have HNR := Lib.hid (fun h => apE_no (n := n) (es := es) hlt h)
        have HSC := Lib.hid (show ∀ h : apR n es l l[q] q = true, apQ n es l (q + 1) = true from fun h => by rw [apQ_succ, HI.out, List.getElem?_eq_getElem hlt, Option.getD_some, h]; rfl)
        obtain ⟨x, hx⟩ : ∃ x, x = l[q] := ⟨_, rfl⟩
        rw [← hx] at hc hok HNO HNR HSC
        clear hx
        by_cases h0 : x < 0
        · have HF := Lib.hid (HNO.out (by omega))
          clear HNO HNR HSC
          go_wp2_with fail
          go_ret
          exact ⟨by rw [HR.out, HF.out]; rfl, BL2.out⟩
        by_cases h1 : (n : Int) ≤ x
        · have HF := Lib.hid (HNO.out (by omega))
          clear HNO HNR HSC
          go_wp2_with fail
          go_ret
          exact ⟨by rw [HR.out, HF.out]; rfl, BL2.out⟩
        obtain ⟨p, hp⟩ : ∃ p : Nat, x = (p : Int) := ⟨x.toNat, by omega⟩
        subst hp
        have hpn : p < n := by omega
        have RQ := Lib.hid (RL2.out.take (show q ≤ l.length by omega))
        have HJA := Lib.hid (show ∀ h : apJ n es l (p : Int) q = true, apR n es l (p : Int) q = true from fun h => by unfold apR; rw [decide_eq_true (by omega)]; exact h)
        clear HNO hok
        go_wp2
        go_loopw [34] (fun t wr => ∃ j : Nat, j ≤ q ∧ t = .int .i64 j ∧ Hid (apJ n es l (p : Int) j = true) ∧ W2 = wr) (fun t _ => q - (intOf t).toNat)
        case atStart => exact ⟨0, by omega, rfl, Lib.hid (by simp [apJ]), rfl⟩
        case round =>
          obtain ⟨j, hj, rfl, HJ, rfl⟩ := hrel
          by_cases hltj : j < q
          · skip
            have hjl : j < l.length := by omega
            have hjt : j < (l.take q).length := by rw [List.length_take]; omega
            obtain ⟨b', off', hbo, _, hok, hc⟩ := RdI.at1 RQ.out hjt
            injection hbo with hbo
            injection hbo with hbo1 hbo2
            subst hbo1 hbo2
            rw [List.getElem_take] at hc
            obtain ⟨a1, a2⟩ := apQ_le HI.out hltj hjl
            obtain ⟨m, hm⟩ : ∃ m : Nat, l[j] = (m : Int) := ⟨l[j].toNat, by omega⟩
            rw [hm] at hc a2
            have hmn : m < n := by omega
            have HJS := Lib.hid (apJ_succ n es l (p : Int) hjl)
            have HJN := Lib.hid (fun h => apJ_no (n := n) (es := es) (x := (p : Int)) hjl hltj h)
            rw [hm] at HJS HJN
            simp only [Int.toNat_natCast] at HJS HJN
            rw [HJ.out, Bool.true_and] at HJS
            have hjc : ((off : Int) + j).toNat = off + j := by omega
            clear hok hm hjt a1 hjc a2
            by_cases hmp : m = p
            · have HF := Lib.hid (HNR.out (HJN.out (by simp [hmp])))
              have hmi : (m : Int) = (p : Int) := by omega
              subst hmp
              clear HJS HJN hmi
              go_wp2_with fail
              go_ret
              exact ⟨by rw [HR.out, HF.out]; rfl, BL2.out⟩
            have hmi : ¬ (m : Int) = (p : Int) := by omega
            have hmb : ((m : Int) == (p : Int)) = false := by simp [hmi]
            obtain ⟨gm, hgm⟩ : ∃ gm, gs[m]? = some gm := ⟨gs[m]'(by rw [HGL.out]; exact hmn), List.getElem?_eq_getElem _⟩
            obtain ⟨gp, hgp⟩ : ∃ gp, gs[p]? = some gp := ⟨gs[p]'(by rw [HGL.out]; exact hpn), List.getElem?_eq_getElem _⟩
            have c0 := M.out.at_ hgm
            have c1 := M.out.at_ hgp
            have c2 := M.out.at2 hgm hpn
            have c3 := M.out.at2 hgp hmn
            rw [decide_eq_true (p := ((m : Int) ≠ (p : Int))) hmi, Bool.true_and] at HJS HJN
            generalize waysE n es m p = y at *
            generalize waysE n es p m = z at *
            clear hgm hgp
            cases y with
            | true =>
              have HF := Lib.hid (HNR.out (HJN.out rfl))
              clear HJS HJN
              go_wp2_with fail
              go_ret
              exact ⟨by rw [HR.out, HF.out]; rfl, BL2.out⟩
            | false =>
              cases z with
              | true =>
                have HF := Lib.hid (HNR.out (HJN.out rfl))
                clear HJS HJN
                go_wp2_with fail
                go_ret
                exact ⟨by rw [HR.out, HF.out]; rfl, BL2.out⟩
              | false =>
                have HJ2 := Lib.hid (show apJ n es l (p : Int) (j + 1) = true by rw [HJS.out]; rfl)
                clear HJS HJN
                go_wp2_with fail
                go_roundw
                case rel => exact ⟨j + 1, by omega, by go_num, HJ2, trivial⟩
                case measure => simp [intOf]; omega
          · skip
            have hje : j = q := by omega
            subst hje
            have HF := Lib.hid (HSC.out (HJA.out HJ.out))
            clear HSC HJA HNR
            go_wp2_with fail
            go_roundw
            case rel => exact ⟨j + 1, by omega, by go_num, HF, trivial⟩
            case measure => simp [intOf]; omega
      · skip
        have hqe : q = l.length := by omega
        have HF := Lib.hid (show apE n es l = true by unfold apE; rw [← hqe]; exact HI.out)
        clear hqe
        go_wp2_with fail
        go_ret
        exact ⟨by rw [HR.out, HF.out]; rfl, BL2.out⟩
  · have HF := Lib.hid (apW_bad hw l)
    have HW := Lib.hid hw
    go_wp2_with fail
    go_ret
    exact ⟨by rw [HF.out]; rfl, BL1.out⟩
set_option maxHeartbeats 800000 in
theorem orderApart_walk (N : Int) (hNi : inI N) (ps : List (Int × Int)) (l : List Int) (w : World) (ve vl : Value) (hT : Tab w) (r : RdP w (Upto w.heap.size) ps ve) (rl : RdI w (Upto w.heap.size) l vl) :
    Calls Tryd.prog 4 #[.agg #[.int .i64 N, ve], vl] w fun e w' => e = .returned (.bool true) ∧ Below w.heap.size w w' := by
  obtain ⟨A, cap, rfl, hl, hcm, hby⟩ := r.form
  have bel : Below w.heap.size w (w.alloc (.cells #[.int .i64 N, .slice A ps.length cap] 24)) := (Below.refl _ _).alloc (Nat.le_refl _) _
  have BEL := Lib.hid bel
  have RA := Lib.hid (r.go Flat.keeps bel (Sub.refl _) (Sub.refl _))
  have RB := Lib.hid (rl.go Flat.keeps bel (Sub.refl _) (Sub.refl _))
  have BB := Lib.hid (Blk.made w [.int .i64 N, .slice A ps.length cap] 24 (base := 0) (Nat.zero_le _))
  have hsz : w.heap.size ≤ (w.alloc (.cells #[.int .i64 N, .slice A ps.length cap] 24)).heap.size := by simp
  have TW := Lib.hid (hT.go bel)
  clear bel r rl
  go_enter Tryd.func4, Tryd.ntmps4
  go_upto_region 1 with (fail)
  generalize w.alloc (.cells #[.int .i64 N, .slice A ps.length cap] 24) = W at *
  obtain ⟨z, hz⟩ : ∃ z, z = w.heap.size := ⟨_, rfl⟩
  rw [← hz] at BB
  have hz1 := Nat.le_of_eq hz
  have hz2 := Nat.le_of_eq hz.symm
  rw [← hz]
  clear hz
  have hzW : z < W.heap.size := BB.out.lt
  have c0 := BB.out.cell 0 _ rfl
  have c1 := BB.out.cell 1 _ rfl
  have HWP := Lib.hid (fun w' h => Stay.size h : ∀ w', Stay W w' → W.heap.size ≤ w'.heap.size)
  have SW := Lib.hid (show Sub (Upto w.heap.size) (Upto W.heap.size) from Sub.upto hsz)
  clear BB
  go_region_held3 (fun w' => Stay W w') (first | assumption | exact Stay.mk (Kept.start _) | ((refine Stay.mk ?_; (repeat (with_reducible first | refine Kept.set ?_ (by omega) _ | refine Kept.drew ?_ | refine Kept.alloc ?_ _)); first | exact Kept.refl _ | assumption)))
    (first
      | ((go_at_call 10; refine (apart_any N hNi ps l _ (Upto w.heap.size) _ _ (SW.out.trans (Sub.upto (HWP.out _ (by assumption)))) (TW.out.go (Stay.below (by assumption))) (RA.out.go Flat.keeps (Stay.below (by assumption)) SW.out (Sub.refl _)) (RB.out.go Flat.keeps (Stay.below (by assumption)) SW.out (Sub.refl _))).mono ?_; rintro e wa ⟨rfl, hb1⟩; have hst1 : Stay W wa := Stay.step hb1 (by assumption); have hk1 : Kept W wa := Kept.here hst1))
      | ((go_at_call 11; refine (capart_any N hNi ps l _ (Upto w.heap.size) _ _ (SW.out.trans (Sub.upto (HWP.out _ (by assumption)))) (RA.out.go Flat.keeps (Stay.below (by assumption)) SW.out (Sub.refl _)) (RB.out.go Flat.keeps (Stay.below (by assumption)) SW.out (Sub.refl _))).mono ?_; rintro e wb ⟨rfl, hb2⟩; have hst2 : Stay W wb := Stay.step hb2 (by assumption); have hk2 : Kept W wb := Kept.here hst2)))
  go_wp2
  go_ret
  exact ⟨rfl, BEL.out.trans (hst2.below.mono hsz)⟩
end Go.Proofs.YthbbecmffndgdabDoor
