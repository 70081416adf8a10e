/- The walk of the reference's dmark. -/
import Derived.Test.YtknaoianhjeccaaDoorSg4
namespace Go.Proofs.YtknaoianhjeccaaDoor
open Go.RowKit
set_option linter.unusedVariables false
def InL (gs : List Nat) : Blocks := fun k => k ∈ gs
def DMk (t : Tm) : Prop := ∀ (fr base : Nat) (w : World) (g n : Nat) (gs : List Nat) (R : Nat → Nat → Bool) (S : Blocks) (V : Value), MatB base w g n gs R → gs.length = n → n ≤ 200 → fr + t.count ≤ n → RdT w S t V → Sub S (Upto base) →
  Calls Tryd.prog 22 #[V, .int .i64 (fr : Int), .slice (some ⟨g, 0, none⟩) n n] w fun e w' => e = .returned (.int .i64 ((fr + t.count : Nat) : Int)) ∧ MatB base w' g n gs (dmk t fr R) ∧ But (InL gs) w w'
set_option maxHeartbeats 1000000 in
set_option maxRecDepth 100000 in
theorem dmks_one (t : Tm) (ht : t.two = none) : DMk t := by
  intro fr base w g n gs R S V hM hgs hn hl r hSb
  have hS : Sub S (Upto w.heap.size) := hSb.trans (Sub.upto (by have := hM.out.ge; have := hM.out.lt; omega))
  obtain ⟨k, c, wq, lb, kids, v, rfl, rfl, hk, hc, hlb, hkids⟩ := id r
  obtain ⟨A, cap, rfl, _, _, _⟩ := hkids.form
  have bel : Below w.heap.size w (w.alloc (.cells #[.int .i64 k, .int .i64 c, .bool wq, .int .i64 lb, .slice A kids.length cap] 35)) := (Below.refl _ _).alloc (Nat.le_refl _) _
  have RA := Lib.hid (r.go bel hS)
  have BEL := Lib.hid bel
  have HT := Lib.hid ht
  have HS := Lib.hid hS
  have HW := Lib.hid (dmk_none ht fr R)
  have HB := Lib.hid (Blk.made w [.int .i64 k, .int .i64 c, .bool wq, .int .i64 lb, .slice A kids.length cap] 35 (base := 0) (Nat.zero_le _))
  have HM := Lib.hid hM
  have hfr : (fr : Int) ≤ 200 := by omega
  unfold tmV
  clear hkids ht r bel hS hM hSb
  go_enter Tryd.func22, Tryd.ntmps22
  go_wp2_with fail
  refine (both_none _ HT.out _ S _ RA.out).mono ?_
  rintro e w1 ⟨rfl, b1⟩
  have HB1 := Lib.hid b1
  have B1 := HB.out.below b1
  have c0 := B1.cell 0 _ rfl
  have c1 := B1.cell 1 _ rfl
  have c2 := B1.cell 2 _ rfl
  have c3 := B1.cell 3 _ rfl
  have c4 := B1.cell 4 _ rfl
  have RA1 := Lib.hid (RA.out.go b1 (HS.out.trans (Sub.upto BEL.out.size)))
  have hz1 := BEL.out.size
  have hz2 := b1.size
  have hz := B1.lt
  unfold tm0
  clear b1 B1
  go_upto_region 3 with (fail)
  have b1W : Below w1.heap.size w1 ((w1.alloc (.cells #[.int .i64 0, .int .i64 0, .bool false, .int .i64 0, .slice none 0 0] 35)).alloc (.cells #[.int .i64 0, .int .i64 0, .bool false, .int .i64 0, .slice none 0 0] 35)) := ((Below.refl _ _).alloc (Nat.le_refl _) _).alloc (by simp) _
  have d0 := (b1W.cell (p := ⟨w.heap.size, 0, none⟩) hz).trans c0
  have d1 := (b1W.cell (p := ⟨w.heap.size, 1, none⟩) hz).trans c1
  have d2 := (b1W.cell (p := ⟨w.heap.size, 2, none⟩) hz).trans c2
  have d3 := (b1W.cell (p := ⟨w.heap.size, 3, none⟩) hz).trans c3
  have d4 := (b1W.cell (p := ⟨w.heap.size, 4, none⟩) hz).trans c4
  have hS1 := HS.out.trans (Sub.upto (Nat.le_of_lt hz))
  have RA2 := Lib.hid (RA1.out.go b1W hS1)
  have BF := Lib.hid (show Below w.heap.size w ((w1.alloc (.cells #[.int .i64 0, .int .i64 0, .bool false, .int .i64 0, .slice none 0 0] 35)).alloc (.cells #[.int .i64 0, .int .i64 0, .bool false, .int .i64 0, .slice none 0 0] 35)) from (BEL.out.trans (HB1.out.mono (by omega))).trans (b1W.mono (by omega)))
  have hzW := b1W.size
  generalize ((w1.alloc (.cells #[.int .i64 0, .int .i64 0, .bool false, .int .i64 0, .slice none 0 0] 35)).alloc (.cells #[.int .i64 0, .int .i64 0, .bool false, .int .i64 0, .slice none 0 0] 35)) = W at *
  clear c0 c1 c2 c3 c4 RA1 HB1 b1W
  go_wp2_with fail
  refine (dls_all _ _ S _ (hS1.trans (Sub.upto hzW)) RA2.out (by have := HM.out.le; omega)).mono ?_
  rintro e w2 ⟨x, rfl, hx, b2⟩
  obtain ⟨A2, n2, rfl⟩ := hx.form
  obtain ⟨cn, hcn⟩ : ∃ cn, cn = (Tm.mk k c wq lb kids).leaves.length := ⟨_, rfl⟩
  have HCN := Lib.hid (show (Tm.mk k c wq lb kids).count = cn from hcn.symm)
  rw [← hcn] at hx ⊢
  clear hcn
  rw [HCN.out] at hl
  have hcn : (cn : Int) ≤ 200 := by omega
  have BB := Lib.hid (show Below w.heap.size w w2 from BF.out.trans (b2.mono (by omega)))
  clear hx b2 d0 d1 d2 d3 d4
  go_wp2
  go_ret
  rw [HW.out, HCN.out]
  exact ⟨by simp, HM.out.below BB.out, But.of_below BB.out⟩
set_option maxHeartbeats 4000000 in
set_option maxRecDepth 100000 in
theorem dmks_two (t : Tm) (p : Bool) (a b : Tm) (ht : t.two = some (p, a, b)) (iha : DMk a) (ihb : DMk b) : DMk t := by
  intro fr base w g n gs R S V hM hgs hn hl r hSb
  have hbw : base ≤ w.heap.size := by have := hM.out.ge; have := hM.out.lt; omega
  have hS : Sub S (Upto w.heap.size) := hSb.trans (Sub.upto hbw)
  obtain ⟨k, c, wq, lb, kids, v, rfl, rfl, hk, hc, hlb, hkids⟩ := id r
  obtain ⟨A, cap, rfl, _, _, _⟩ := hkids.form
  have bel : Below w.heap.size w (w.alloc (.cells #[.int .i64 k, .int .i64 c, .bool wq, .int .i64 lb, .slice A kids.length cap] 35)) := (Below.refl _ _).alloc (Nat.le_refl _) _
  have RA := Lib.hid (r.go bel hS)
  have BEL := Lib.hid bel
  have hcnt := Tm.count_two ht
  have HT := Lib.hid ht
  have HCN := Lib.hid hcnt
  obtain ⟨hkk, _⟩ := Tm.two_kind ht
  simp only [Tm.kind] at hkk
  have HKK := Lib.hid hkk
  have IHa := Lib.hid iha
  have IHb := Lib.hid ihb
  have HS := Lib.hid hS
  have HBX := Lib.hid (Blk.made w [.int .i64 k, .int .i64 c, .bool wq, .int .i64 lb, .slice A kids.length cap] 35 (base := 0) (Nat.zero_le _))
  rw [hcnt] at hl
  have HM := Lib.hid hM
  have HSB := Lib.hid hSb
  have HGS := Lib.hid hgs
  have HDS := Lib.hid (fun h : p = false => dmk_seq (by rw [HT.out, h]) fr R)
  have HDP := Lib.hid (fun h : p = true => dmk_par (by rw [HT.out, h]) fr R)
  have hfr : (fr : Int) ≤ 200 := by omega
  unfold tmV
  clear hkids ht r bel hcnt iha ihb hkk hS hM hSb hgs
  go_enter Tryd.func22, Tryd.ntmps22
  go_wp2_with fail
  refine (both_two _ p a b HT.out _ S _ (HS.out.trans (Sub.upto (by simp))) RA.out).mono ?_
  rintro e w1 ⟨⟨Va, Vb, rfl, ra, rb⟩, b1⟩
  obtain ⟨ka, ca, wa, la, kidsa, va, ea, rfl, _, _, _, hka⟩ := id ra
  obtain ⟨Aa, na, rfl, _⟩ := hka.form
  obtain ⟨kb, cb, wb, lb', kidsb, vb, eb, rfl, _, _, _, hkb⟩ := id rb
  obtain ⟨Ab, nb, rfl, _⟩ := hkb.form
  have RVa := Lib.hid ra
  have RVb := Lib.hid rb
  have B1 := Lib.hid b1
  have HBX1 := Lib.hid (HBX.out.below b1)
  unfold tmV
  clear ra rb b1 hka hkb ea eb
  go_upto_region 4 with (fail)
  have hbw : Below w1.heap.size w1 ((w1.alloc (.cells #[.int .i64 ka, .int .i64 ca, .bool wa, .int .i64 la, .slice Aa kidsa.length na] 35)).alloc (.cells #[.int .i64 kb, .int .i64 cb, .bool wb, .int .i64 lb', .slice Ab kidsb.length nb] 35)) := ((Below.refl _ _).alloc (Nat.le_refl _) _).alloc (by simp) _
  have hca : ((w1.alloc (.cells #[.int .i64 ka, .int .i64 ca, .bool wa, .int .i64 la, .slice Aa kidsa.length na] 35)).alloc (.cells #[.int .i64 kb, .int .i64 cb, .bool wb, .int .i64 lb', .slice Ab kidsb.length nb] 35)).cell? ⟨w1.heap.size, 0, none⟩ = some (.int .i64 ka) ∧ ((w1.alloc (.cells #[.int .i64 ka, .int .i64 ca, .bool wa, .int .i64 la, .slice Aa kidsa.length na] 35)).alloc (.cells #[.int .i64 kb, .int .i64 cb, .bool wb, .int .i64 lb', .slice Ab kidsb.length nb] 35)).cell? ⟨w1.heap.size, 1, none⟩ = some (.int .i64 ca) ∧ ((w1.alloc (.cells #[.int .i64 ka, .int .i64 ca, .bool wa, .int .i64 la, .slice Aa kidsa.length na] 35)).alloc (.cells #[.int .i64 kb, .int .i64 cb, .bool wb, .int .i64 lb', .slice Ab kidsb.length nb] 35)).cell? ⟨w1.heap.size, 2, none⟩ = some (.bool wa) ∧ ((w1.alloc (.cells #[.int .i64 ka, .int .i64 ca, .bool wa, .int .i64 la, .slice Aa kidsa.length na] 35)).alloc (.cells #[.int .i64 kb, .int .i64 cb, .bool wb, .int .i64 lb', .slice Ab kidsb.length nb] 35)).cell? ⟨w1.heap.size, 3, none⟩ = some (.int .i64 la) ∧ ((w1.alloc (.cells #[.int .i64 ka, .int .i64 ca, .bool wa, .int .i64 la, .slice Aa kidsa.length na] 35)).alloc (.cells #[.int .i64 kb, .int .i64 cb, .bool wb, .int .i64 lb', .slice Ab kidsb.length nb] 35)).cell? ⟨w1.heap.size, 4, none⟩ = some (.slice Aa kidsa.length na) := by simp
  have hcb : ((w1.alloc (.cells #[.int .i64 ka, .int .i64 ca, .bool wa, .int .i64 la, .slice Aa kidsa.length na] 35)).alloc (.cells #[.int .i64 kb, .int .i64 cb, .bool wb, .int .i64 lb', .slice Ab kidsb.length nb] 35)).cell? ⟨w1.heap.size + 1, 0, none⟩ = some (.int .i64 kb) ∧ ((w1.alloc (.cells #[.int .i64 ka, .int .i64 ca, .bool wa, .int .i64 la, .slice Aa kidsa.length na] 35)).alloc (.cells #[.int .i64 kb, .int .i64 cb, .bool wb, .int .i64 lb', .slice Ab kidsb.length nb] 35)).cell? ⟨w1.heap.size + 1, 1, none⟩ = some (.int .i64 cb) ∧ ((w1.alloc (.cells #[.int .i64 ka, .int .i64 ca, .bool wa, .int .i64 la, .slice Aa kidsa.length na] 35)).alloc (.cells #[.int .i64 kb, .int .i64 cb, .bool wb, .int .i64 lb', .slice Ab kidsb.length nb] 35)).cell? ⟨w1.heap.size + 1, 2, none⟩ = some (.bool wb) ∧ ((w1.alloc (.cells #[.int .i64 ka, .int .i64 ca, .bool wa, .int .i64 la, .slice Aa kidsa.length na] 35)).alloc (.cells #[.int .i64 kb, .int .i64 cb, .bool wb, .int .i64 lb', .slice Ab kidsb.length nb] 35)).cell? ⟨w1.heap.size + 1, 3, none⟩ = some (.int .i64 lb') ∧ ((w1.alloc (.cells #[.int .i64 ka, .int .i64 ca, .bool wa, .int .i64 la, .slice Aa kidsa.length na] 35)).alloc (.cells #[.int .i64 kb, .int .i64 cb, .bool wb, .int .i64 lb', .slice Ab kidsb.length nb] 35)).cell? ⟨w1.heap.size + 1, 4, none⟩ = some (.slice Ab kidsb.length nb) := by simp
  have hsz : (((w1.alloc (.cells #[.int .i64 ka, .int .i64 ca, .bool wa, .int .i64 la, .slice Aa kidsa.length na] 35)).alloc (.cells #[.int .i64 kb, .int .i64 cb, .bool wb, .int .i64 lb', .slice Ab kidsb.length nb] 35))).heap.size = w1.heap.size + 2 := by simp
  generalize ((w1.alloc (.cells #[.int .i64 ka, .int .i64 ca, .bool wa, .int .i64 la, .slice Aa kidsa.length na] 35)).alloc (.cells #[.int .i64 kb, .int .i64 cb, .bool wb, .int .i64 lb', .slice Ab kidsb.length nb] 35)) = W at *
  have hzw := BEL.out.size
  have hzb := B1.out.size
  rw [World.size_alloc] at hzw hzb
  have hz1' := Nat.le_of_eq hsz
  have hz2' := Nat.le_of_eq hsz.symm
  have hSW : Sub S (Upto w1.heap.size) := HS.out.trans (Sub.upto (by omega))
  have WRa := Lib.hid (RVa.out.go hbw hSW)
  have WRb := Lib.hid (RVb.out.go hbw hSW)
  have HSW := Lib.hid (hSW.trans (Sub.upto (show w1.heap.size ≤ W.heap.size by omega)))
  have HBW := Lib.hid hbw
  have HBX2 := Lib.hid (HBX1.out.below hbw)
  have CAc := Lib.hid hca
  have CBc := Lib.hid hcb
  obtain ⟨a0, a1, a2, a3, a4⟩ := hca
  obtain ⟨b0, b1, b2, b3, b4⟩ := hcb
  have hlt1 : w1.heap.size < W.heap.size := by omega
  have hlt2 : w1.heap.size + 1 < W.heap.size := by omega
  have CA := Lib.hid (show a.count ≤ 1048576 by omega)
  have CB := Lib.hid (show b.count ≤ 1048576 by omega)
  have FIN0 := Lib.hid (show Below w.heap.size w W from ((BEL.out.trans (B1.out.mono (by simp))).trans (hbw.mono (by omega))))
  clear hsz hbw hSW RVa RVb HBX HBX1 RA
  have HM1 := Lib.hid (HM.out.below FIN0.out)
  have hw2 := FIN0.out.size
  clear a0 a1 a2 a3 a4 b0 b1 b2 b3 b4
  obtain ⟨a0, a1, a2, a3, a4⟩ := CAc.out
  have hgn : g < W.heap.size := HM1.out.out.lt
  have NZ : ∀ x, w1.heap.size ≤ x → ¬ InL gs x := fun x hx e => by
    obtain ⟨i, hi⟩ := List.getElem?_of_mem (show x ∈ gs from e)
    have := (HM.out.row i x hi).1.lt
    omega
  have NZw : ¬ InL gs w.heap.size := fun e => by
    obtain ⟨i, hi⟩ := List.getElem?_of_mem (show w.heap.size ∈ gs from e)
    have := (HM.out.row i _ hi).1.lt
    omega
  have NS : ∀ x, S x → ¬ InL gs x := fun x hx e => by
    obtain ⟨i, hi⟩ := List.getElem?_of_mem (show x ∈ gs from e)
    have h1 := (HM.out.row i x hi).1.ge
    have h2 := HSB.out x hx
    simp only [Upto] at h2
    omega
  go_wp2_with fail
  refine (IHa.out fr base W g n gs R S _ HM1.out HGS.out hn (by omega) WRa.out HSB.out).mono ?_
  rintro e w2 ⟨rfl, m2, k2⟩
  have hs2 := k2.size
  have HM2 := Lib.hid m2
  have WRb2 := Lib.hid (WRb.out.but k2 HSW.out NS)
  have CB2 : w2.cell? ⟨w1.heap.size + 1, 0, none⟩ = some (.int .i64 kb) ∧ w2.cell? ⟨w1.heap.size + 1, 1, none⟩ = some (.int .i64 cb) ∧ w2.cell? ⟨w1.heap.size + 1, 2, none⟩ = some (.bool wb) ∧ w2.cell? ⟨w1.heap.size + 1, 3, none⟩ = some (.int .i64 lb') ∧ w2.cell? ⟨w1.heap.size + 1, 4, none⟩ = some (.slice Ab kidsb.length nb) := by
    obtain ⟨b0, b1, b2, b3, b4⟩ := CBc.out
    have NZ1 := NZ (w1.heap.size + 1) (by omega)
    exact ⟨k2.cell NZ1 b0, k2.cell NZ1 b1, k2.cell NZ1 b2, k2.cell NZ1 b3, k2.cell NZ1 b4⟩
  have HBX3 := Lib.hid (HBX2.out.but k2 NZw)
  have K2 := Lib.hid (show But (InL gs) w w2 from (But.of_below FIN0.out).trans k2)
  obtain ⟨b0, b1, b2, b3, b4⟩ := CB2
  clear a0 a1 a2 a3 a4 m2 k2 HM1 WRa WRb HBX2 CAc CBc
  go_wp2_with fail
  refine (IHb.out (fr + a.count) base w2 g n gs _ S _ HM2.out HGS.out hn (by omega) WRb2.out HSB.out).mono ?_
  rintro e w3 ⟨rfl, m3, k3⟩
  have hs3 := k3.size
  have HM3 := Lib.hid m3
  have HBX4 := Lib.hid (HBX3.out.but k3 NZw)
  have K3 := Lib.hid (K2.out.trans k3)
  clear b0 b1 b2 b3 b4 m3 k3 HM2 WRb2 HBX3 K2
  go_upto_region 7 with (fail)
  have ECN := Lib.hid (show ((fr + (a.count + b.count) : Nat) : Int) = (fr : Int) + (a.count : Int) + (b.count : Int) by omega)
  have mb : (a.count : Int) ≤ 200 := by omega
  have mb2 : (b.count : Int) ≤ 200 := by omega
  clear IHa IHb HT HS HM HSB B1 BEL HSW HBW CA CB FIN0 hw2 hgn NZ NS hs2 hs3
  have x0 := HBX4.out.cell 0 _ rfl
  cases p
  · have hkk : k = 2 := HKK.out
    clear HKK HDP
    subst hkk
    have HD2 := Lib.hid (HDS.out rfl)
    clear HDS x0
    have HM4 := Lib.hid (show MatB base w3 g n gs (bxR (dmk b (fr + a.count) (dmk a fr R)) fr (fr + a.count) (fr + a.count + b.count) fr (fr + a.count)) by rw [bxR_start]; exact HM3.out)
    clear HM3
    go_loopw [12, 13, 36, 37, 38, 39, 40, 41, 42, 43, 44, 45, 46, 47, 48, 49, 50, 51, 52, 53, 54, 55, 56, 57] (fun t _ _ _ _ _ _ _ _ _ _ _ _ _ _ _ _ _ _ _ _ _ _ _ wr => ∃ i : Nat, i ≤ a.count ∧ t = .int .i64 ((fr : Int) + (i : Int)) ∧ Hid (MatB base wr g n gs (bxR (dmk b (fr + a.count) (dmk a fr R)) fr (fr + a.count) (fr + a.count + b.count) (fr + i) (fr + a.count))) ∧ Hid (But (InL gs) w wr) ∧ Hid (Blk 0 wr w.heap.size [.int .i64 2, .int .i64 c, .bool wq, .int .i64 lb, .slice A kids.length cap])) (fun t _ _ _ _ _ _ _ _ _ _ _ _ _ _ _ _ _ _ _ _ _ _ _ _ => fr + a.count - (intOf t).toNat)
    case atStart => exact ⟨0, by omega, by simp, HM4, K3, HBX4⟩
    case round =>
      clear HM4 K3 HBX4
      obtain ⟨i, hi, rfl, M, K, B⟩ := hrel
      have x0 := B.out.cell 0 _ rfl
      by_cases hlt : i < a.count
      · go_upto_region 10 with (fail)
        have M2 := Lib.hid (show MatB base wr g n gs (bxR (dmk b (fr + a.count) (dmk a fr R)) fr (fr + a.count) (fr + a.count + b.count) (fr + i) (fr + a.count + 0)) from M.out)
        clear M x0
        go_loopw [13, 47, 48, 49, 50, 51, 52, 53, 54, 55, 56, 57] (fun t _ _ _ _ _ _ _ _ _ _ _ wr => ∃ j : Nat, j ≤ b.count ∧ t = .int .i64 ((fr : Int) + (a.count : Int) + (j : Int)) ∧ Hid (MatB base wr g n gs (bxR (dmk b (fr + a.count) (dmk a fr R)) fr (fr + a.count) (fr + a.count + b.count) (fr + i) (fr + a.count + j))) ∧ Hid (But (InL gs) w wr) ∧ Hid (Blk 0 wr w.heap.size [.int .i64 2, .int .i64 c, .bool wq, .int .i64 lb, .slice A kids.length cap])) (fun t _ _ _ _ _ _ _ _ _ _ _ _ => fr + a.count + b.count - (intOf t).toNat)
        case atStart => exact ⟨0, by omega, by simp, M2, K, B⟩
        case round =>
          clear M2 K B
          obtain ⟨j, hj, rfl, M, K, B⟩ := hrel
          by_cases hlj : j < b.count
          · obtain ⟨y, hy⟩ : ∃ y, gs[fr + i]? = some y := ⟨_, List.getElem?_eq_getElem (by have := HGS.out; omega)⟩
            have hin : InL gs y := List.mem_of_getElem? hy
            have c0 := M.out.at_ hy
            have c1 := M.out.at2 hy (k := fr + a.count + j) (by omega)
            have fz := (M.out.row _ _ hy).1.fr
            have hgy := (M.out.row _ _ hy).2
            have M2 := Lib.hid (by have := M.out.set hy (k := fr + a.count + j) (by omega) true; rw [bxR_set _ _ _ _ _ _ (by omega)] at this; exact this)
            have K2 := Lib.hid (K.out.setCell (p := ⟨y, fr + a.count + j, none⟩) hin (.bool true))
            have hyw : y ≠ w.heap.size := fun e => NZw (by rw [← e]; exact hin)
            have B2 := Lib.hid (B.out.other (p := ⟨y, fr + a.count + j, none⟩) hyw (.bool true))
            have r1 : (fr : Int) + (i : Int) < (n : Int) := by omega
            have r2 : (fr : Int) + (a.count : Int) + (j : Int) < (n : Int) := by omega
            clear hy hin hgy hyw M K B
            go_wp2
            go_roundw
            case rel => exact ⟨j + 1, by omega, by congr 1, M2, K2, B2⟩
            case measure => simp [intOf]; omega
          · have e : j = b.count := by omega
            subst e
            have M2 := Lib.hid (by have := M.out; rw [bxR_next _ _ _ _ _ (by omega)] at this; exact this)
            clear M
            go_wp2
            go_roundw
            case rel => exact ⟨i + 1, by omega, by congr 1, M2, K, B⟩
            case measure => simp [intOf]; omega
      · have e : i = a.count := by omega
        subst e
        go_wp2
        go_ret
        rw [← HD2.out, HCN.out]
        exact ⟨by rw [ECN.out]; rfl, M.out, K.out⟩
  · have hkk : k = 3 := HKK.out
    clear HKK HDS
    subst hkk
    have HD2 := Lib.hid (HDP.out rfl)
    clear HDP
    go_loopw [12, 13, 36, 37, 38, 39, 40, 41, 42, 43, 44, 45, 46, 47, 48, 49, 50, 51, 52, 53, 54, 55, 56, 57] (fun t _ _ _ _ _ _ _ _ _ _ _ _ _ _ _ _ _ _ _ _ _ _ _ wr => t = .int .i64 (fr : Int) ∧ w3 = wr) (fun t _ _ _ _ _ _ _ _ _ _ _ _ _ _ _ _ _ _ _ _ _ _ _ _ => fr + a.count - (intOf t).toNat)
    case atStart => exact ⟨rfl, rfl⟩
    case round =>
      obtain ⟨rfl, rfl⟩ := hrel
      by_cases hlt : 0 < a.count
      · go_wp2
        go_ret
        rw [← HD2.out, HCN.out]
        exact ⟨by (first | rw [ECN.out] | (rw [Int.natCast_add, ← Int.add_assoc])); rfl, HM3.out, K3.out⟩
      · go_wp2
        go_ret
        rw [← HD2.out, HCN.out]
        exact ⟨by (first | rw [ECN.out] | (rw [Int.natCast_add, ← Int.add_assoc])); rfl, HM3.out, K3.out⟩
theorem dmks_all (t : Tm) : DMk t := Tm.ind dmks_one dmks_two t
end Go.Proofs.YtknaoianhjeccaaDoor
