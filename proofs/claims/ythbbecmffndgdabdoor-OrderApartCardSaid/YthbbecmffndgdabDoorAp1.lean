/- The walk of order.Apart. -/
import Derived.Test.YthbbecmffndgdabDoorGr7
import Derived.Test.YthbbecmffndgdabDoorApSpec
import Derived.Test.YthbbecmffndgdabDoorIntA
import Derived.Test.YthbbecmffndgdabDoorBsAnd
namespace Go.Proofs.YthbbecmffndgdabDoor
open Go.RowKit
set_option linter.unusedVariables false
set_option maxHeartbeats 1600000 in
set_option maxRecDepth 100000 in
theorem apart_any (N : Int) (hNi : inI N) (ps : List (Int × Int)) (l : List Int) (w : World) (S : Blocks) (ve vl : Value) (hS : Sub S (Upto w.heap.size)) (hT : Tab w) (r : RdP w S ps ve) (rl : RdI w S l vl) :
    Calls Tryd.prog 10 #[.agg #[.int .i64 N, ve], vl] w fun e w' => e = .returned (.bool (apW N ps l)) ∧ Below w.heap.size w w' := by
  obtain ⟨A, cap, rfl, hl, hcm, hby⟩ := r.form
  unfold maxLen at hcm
  obtain ⟨Al, cl, rfl, hll, hcml, hbyl⟩ := rl.form
  unfold maxLen at hcml
  have b0 := Blk.made w [.int .i64 N, .slice A ps.length cap] 24 (base := 0) (Nat.zero_le _)
  have bl : Below w.heap.size w (w.alloc (.cells #[.int .i64 N, .slice A ps.length cap] 24)) := (Below.refl _ _).alloc (Nat.le_refl _) _
  have hsz0 : w.heap.size ≤ ((w.alloc (.cells #[.int .i64 N, .slice A ps.length cap] 24))).heap.size := by rw [World.size_alloc]; omega
  have k0 := b0.cell 0 _ rfl
  have k1 := b0.cell 1 _ rfl
  have HB0 := Lib.hid b0
  have BL := Lib.hid bl
  have HS := Lib.hid hS
  have RL := Lib.hid (rl.go Flat.keeps bl hS (Sub.refl _))
  have C1 := Lib.hid (behind_any N hNi ps (w.alloc (.cells #[.int .i64 N, .slice A ps.length cap] 24)) S _ (hS.trans (Sub.upto hsz0)) (hT.go bl) (r.go Flat.keeps bl hS (Sub.refl _)))
  clear b0 bl hT r rl hS
  go_enter Tryd.func10, Tryd.ntmps10
  go_upto_region 1 with (fail)
  generalize (w.alloc (.cells #[.int .i64 N, .slice A ps.length cap] 24)) = W0 at *
  go_wp2_with fail
  refine C1.out.mono ?_
  rintro e w1 ⟨x, rfl, hso, hsn, hb1⟩
  have BL1 := Lib.hid (BL.out.trans (hb1.mono BL.out.size))
  have HB1 := Lib.hid (HB0.out.below hb1)
  have RL1 := Lib.hid (RL.out.go Flat.keeps hb1 (HS.out.trans (Sub.upto BL.out.size)) (Sub.refl _))
  clear C1 BL HB0 hb1 k0 k1 hsz0 RL
  by_cases hw : wrongE N ps = 0
  · skip
    obtain ⟨hn0, hn2, hgd, hrd⟩ := wrongE_zero hw
    obtain ⟨n, hnn⟩ : ∃ n : Nat, N = (n : Int) := ⟨N.toNat, by omega⟩
    subst hnn
    obtain ⟨g, vs, rfl, hst⟩ := hso hw
    rw [Int.toNat_natCast] at hst hrd ⊢
    have HR := Lib.hid (show apW (n : Int) ps l = apE n (natsP ps) l by rw [apW_ok hw, Int.toNat_natCast])
    obtain ⟨es, hes⟩ : ∃ es, es = natsP ps := ⟨_, rfl⟩
    rw [← hes] at hst hrd HR
    have hn200 : n ≤ 200 := by omega
    have S1 := Lib.hid hst
    have HRD := Lib.hid hrd
    have hSz := Lib.hid (show Sub S (Upto w1.heap.size) from HS.out.trans (Sub.upto BL1.out.size))
    rw [hw]
    clear hw hgd hrd hes hso hsn hst hn0 hn2
    have k0 := HB1.out.cell 0 _ rfl
    have k1 := HB1.out.cell 1 _ rfl
    obtain ⟨W1, hW1⟩ : ∃ W1 : World, W1 = w1 := ⟨_, rfl⟩
    subst hW1
    go_wp2
    go_loopw [21] (fun t wr => ∃ q : Nat, q ≤ l.length ∧ t = .int .i64 q ∧ Hid (inR n l q) ∧ W1 = wr) (fun t _ => l.length - (intOf t).toNat)
    case atStart => exact ⟨0, by omega, rfl, Lib.hid (inR_zero n l), rfl⟩
    case round =>
      obtain ⟨q, hq, rfl, HI, rfl⟩ := hrel
      by_cases hlt : q < l.length
      · skip
        obtain ⟨b, off, rfl, _, hok, hc⟩ := RdI.at1 RL1.out hlt
        have HNO := Lib.hid (fun h => apE_range (n := n) (es := es) hlt h)
        have HTW := Lib.hid (fun h => apE_twice (n := n) (es := es) hlt h)
        have HSC := Lib.hid (fun h1 h2 h3 => inR_succ HI.out hlt h1 h2 h3)
        have HCT := Lib.hid (fun W (e : W1 = W) => containsI (l.take q) l[q] W S (.slice (some ⟨b, off, none⟩) q cl) (by subst e; exact RL1.out.take (by omega)))
        obtain ⟨x, hx⟩ : ∃ x, x = l[q] := ⟨_, rfl⟩
        rw [← hx] at hc hok HNO HTW HSC HCT
        clear hx
        by_cases h0 : x < 0
        · have HF := Lib.hid (HNO.out (by omega))
          clear HNO HTW HSC HCT
          go_wp2_with fail
          go_ret
          exact ⟨by rw [HR.out, HF.out]; rfl, BL1.out⟩
        by_cases h1 : (n : Int) ≤ x
        · have HF := Lib.hid (HNO.out (by omega))
          clear HNO HTW HSC HCT
          go_wp2_with fail
          go_ret
          exact ⟨by rw [HR.out, HF.out]; rfl, BL1.out⟩
        cases h2 : (l.take q).contains x with
        | true =>
          have HF := Lib.hid (HTW.out h2)
          have H2 := Lib.hid h2
          clear HNO HTW HSC h2
          go_wp2_with (go_at_call 30; refine (HCT.out _ rfl).mono ?_; rintro e w' ⟨rfl, rfl⟩; rw [H2.out])
          go_ret
          exact ⟨by rw [HR.out, HF.out]; rfl, BL1.out⟩
        | false =>
          have HF := Lib.hid (HSC.out (by omega) (by omega) h2)
          have H2 := Lib.hid h2
          clear HNO HTW HSC h2
          go_wp2_with (go_at_call 30; refine (HCT.out _ rfl).mono ?_; rintro e w' ⟨rfl, rfl⟩; rw [H2.out])
          go_roundw
          case rel => exact ⟨q + 1, by omega, by go_num, HF, trivial⟩
          case measure => simp [intOf]; omega
      · skip
        have hqe : q = l.length := by omega
        subst hqe
        have HOF := Lib.hid (of_is hn200 HI.out)
        have HCO := Lib.hid (of_any l W1 S _ hSz.out RL1.out)
        have hlen := hq
        clear hq hlt
        go_wp2_with fail
        refine HCO.out.mono ?_
        rintro e w2 ⟨u, rfl, hu, hb2⟩
        have RU := Lib.hid hu
        have BL2 := Lib.hid (BL1.out.trans (hb2.mono BL1.out.size))
        have S2 := Lib.hid (S1.out.below hb2)
        have RL2 := Lib.hid (RL1.out.go Flat.keeps hb2 hSz.out (Sub.refl _))
        have hSz2 := Lib.hid (hSz.out.trans (Sub.upto hb2.size))
        obtain ⟨W2, hW2⟩ : ∃ W2 : World, W2 = w2 := ⟨_, rfl⟩
        subst hW2
        clear HCO hu hb2 k0 k1 S1 RL1 hSz
        go_wp2
        go_loopw [46] (fun t wr => ∃ q : Nat, q ≤ l.length ∧ t = .int .i64 q ∧ Hid (∀ i j (hi : i < l.length) (hj : j < l.length), i < q → waysE n es l[i].toNat l[j].toNat = false) ∧ Below W2.heap.size W2 wr) (fun t _ => l.length - (intOf t).toNat)
        case atStart => exact ⟨0, by omega, rfl, Lib.hid (fun i j _ _ h => absurd h (by omega)), Below.refl _ _⟩
        case round =>
          obtain ⟨q, hq, rfl, HQ, hb⟩ := hrel
          by_cases hlt : q < l.length
          · skip
            obtain ⟨b, off, rfl, _, hok, hc⟩ := RdI.at1 (RL2.out.go Flat.keeps hb hSz2.out (Sub.refl _)) hlt
            obtain ⟨h1, h2, _⟩ := HI.out q hlt hlt
            obtain ⟨m, hm⟩ : ∃ m : Nat, l[q] = (m : Int) := ⟨l[q].toNat, by omega⟩
            rw [hm] at hc h2
            have hmn : m < n := by omega
            have S3 := S2.out.below hb
            obtain ⟨T, l2, A2, c2, t1, t2, t3, si2, rd2, hc2, _⟩ := S3.at_ hmn
            have HAN := Lib.hid (bsAnd_any (l.foldl addL []) l2 wr (Plus Nowhere W1.heap.size W2.heap.size) T u _ (plus_upto.trans (Sub.upto hb.size)) t1 (RU.out.go Flat.keeps hb plus_upto (Sub.refl _)) rd2)
            have HSI := Lib.hid (and_is HOF.out si2)
            have HBB := Lib.hid hb
            have HM := Lib.hid hm
            clear hok t1 t2 t3 si2 rd2 S3 hb h1 h2
            go_wp2_with fail
            refine HAN.out.mono ?_
            intro e w4 hout
            obtain ⟨A4, c4, rfl, _, hb4⟩ := hout.len
            have B4 := Lib.hid (HBB.out.trans (hb4.mono HBB.out.size))
            clear hout hb4 HAN
            by_cases hz : (zipB (fun a b => a &&& b) (l.foldl addL []) l2).length = 0
            · have HNO := HSI.out.none hz
              have HQ2 := Lib.hid (show ∀ i j (hi : i < l.length) (hj : j < l.length), i < q + 1 → waysE n es l[i].toNat l[j].toNat = false from fun i j hi hj hlt2 => by
                by_cases e : i = q
                · subst e
                  obtain ⟨a1, a2, _⟩ := HI.out j hj hj
                  have := HNO l[j].toNat
                  rw [Bool.and_eq_false_iff] at this
                  rcases this with h | h
                  · rw [show ((l[j].toNat : Nat) : Int) = l[j] by omega] at h
                    have : l.contains l[j] = true := by rw [List.contains_iff_mem]; exact List.getElem_mem hj
                    rw [h] at this; cases this
                  · rw [HM.out, Int.toNat_natCast]; exact h
                · exact HQ.out i j hi hj (by omega))
              rw [hz]
              clear HNO HSI hz
              go_wp2_with fail
              go_roundw
              case rel => exact ⟨q + 1, by omega, by go_num, HQ2, B4.out⟩
              case measure => simp [intOf]; omega
            · obtain ⟨p, hp⟩ := HSI.out.some (Nat.pos_of_ne_zero hz)
              rw [Bool.and_eq_true, List.contains_iff_mem] at hp
              obtain ⟨j, hj, hjp⟩ := List.mem_iff_getElem.1 hp.1
              have HF := Lib.hid (apE_way (es := es) HRD.out HI.out hlt hj (by rw [HM.out, hjp, Int.toNat_natCast, Int.toNat_natCast]; exact hp.2))
              have BZ := Lib.hid (BL2.out.trans (B4.out.mono BL2.out.size))
              have hpos : (0 : Int) < ((zipB (fun a b => a &&& b) (l.foldl addL []) l2).length : Int) := by omega
              clear HSI hp hjp
              go_wp2_with fail
              go_ret
              exact ⟨by rw [HR.out, HF.out]; rfl, BZ.out⟩
          · skip
            have HF := Lib.hid (apE_yes (es := es) HI.out (fun i j hi hj => HQ.out i j hi hj (by omega)))
            have BZ := Lib.hid (BL2.out.trans (hb.mono BL2.out.size))
            go_wp2_with fail
            go_ret
            exact ⟨by rw [HR.out, HF.out]; rfl, BZ.out⟩
  · have HF := Lib.hid (apW_bad hw l)
    have HW := Lib.hid hw
    have hx9 := hsn hw
    subst hx9
    clear hso hsn
    go_wp2_with fail
    go_ret
    exact ⟨by rw [HF.out]; rfl, BL1.out⟩
end Go.Proofs.YthbbecmffndgdabDoor
