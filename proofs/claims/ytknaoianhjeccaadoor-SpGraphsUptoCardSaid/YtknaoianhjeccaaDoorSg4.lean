/- The walk of the reference's DCount. -/
import Derived.Test.YtknaoianhjeccaaDoorSg3
import Derived.Test.YtknaoianhjeccaaDoorSp7
namespace Go.Proofs.YtknaoianhjeccaaDoor
open Go.RowKit
set_option linter.unusedVariables false
def DCs (t : Tm) : Prop := ∀ (w : World) (S : Blocks) (V : Value), Sub S (Upto w.heap.size) → RdT w S t V → t.count ≤ 1048576 → Tab w →
  Calls Tryd.prog 12 #[V] w fun e w' => e = .returned (.int .u64 ((t.ways % 18446744073709551616 : Nat) : Int)) ∧ Below w.heap.size w w'
set_option maxHeartbeats 1000000 in
set_option maxRecDepth 100000 in
theorem dcs_one (t : Tm) (ht : t.two = none) : DCs t := by
  intro w S V hS r hl hT
  obtain ⟨k, c, wr, lb, kids, v, rfl, rfl, hk, hc, hlb, hkids⟩ := id r
  obtain ⟨A, cap, rfl, _, _, _⟩ := hkids.form
  have bel : Below w.heap.size w (w.alloc (.cells #[.int .i64 k, .int .i64 c, .bool wr, .int .i64 lb, .slice A kids.length cap] 35)) := (Below.refl _ _).alloc (Nat.le_refl _) _
  have RA := Lib.hid (r.go bel hS)
  have BEL := Lib.hid bel
  have HT := Lib.hid ht
  have HS := Lib.hid hS
  have HW := Lib.hid (Tm.ways_none ht)
  unfold tmV
  clear hkids ht r bel hT hS
  go_enter Tryd.func12, Tryd.ntmps12
  go_wp2_with fail
  refine (both_none _ HT.out _ S _ RA.out).mono ?_
  rintro e w1 ⟨rfl, b1⟩
  have HB1 := Lib.hid b1
  unfold tm0
  clear b1
  go_wp2
  go_ret
  rw [HW.out]
  have hz1 := BEL.out.size
  have hz2 := HB1.out.size
  refine ⟨rfl, ?_⟩
  exact ((BEL.out.trans (HB1.out.mono (by omega))).alloc (by omega) _).alloc (by simp; omega) _
set_option maxHeartbeats 1600000 in
set_option maxRecDepth 100000 in
theorem dcs_two (t : Tm) (p : Bool) (a b : Tm) (ht : t.two = some (p, a, b)) (iha : DCs a) (ihb : DCs b) : DCs t := by
  intro w S V hS r hl hT
  obtain ⟨k, c, wr, lb, kids, v, rfl, rfl, hk, hc, hlb, hkids⟩ := id r
  obtain ⟨A, cap, rfl, _, _, _⟩ := hkids.form
  have bel : Below w.heap.size w (w.alloc (.cells #[.int .i64 k, .int .i64 c, .bool wr, .int .i64 lb, .slice A kids.length cap] 35)) := (Below.refl _ _).alloc (Nat.le_refl _) _
  have RA := Lib.hid (r.go bel hS)
  have BEL := Lib.hid bel
  have hcnt := Tm.count_two ht
  have HT := Lib.hid ht
  have HCN := Lib.hid hcnt
  obtain ⟨hkk, _⟩ := Tm.two_kind ht
  simp only [Tm.kind] at hkk
  have HKK := Lib.hid hkk
  have IHa := Lib.hid iha
  have IHb := Lib.hid ihb
  have HS := Lib.hid hS
  have HBX := Lib.hid (Blk.made w [.int .i64 k, .int .i64 c, .bool wr, .int .i64 lb, .slice A kids.length cap] 35 (base := 0) (Nat.zero_le _))
  rw [hcnt] at hl
  have HW := Lib.hid (Tm.ways_two ht)
  have HTB := Lib.hid hT
  unfold tmV
  clear hkids ht r bel hcnt iha ihb hkk hT hS
  go_enter Tryd.func12, Tryd.ntmps12
  go_wp2_with fail
  refine (both_two _ p a b HT.out _ S _ (HS.out.trans (Sub.upto (by simp))) RA.out).mono ?_
  rintro e w1 ⟨⟨Va, Vb, rfl, ra, rb⟩, b1⟩
  obtain ⟨ka, ca, wa, la, kidsa, va, ea, rfl, _, _, _, hka⟩ := id ra
  obtain ⟨Aa, na, rfl, _⟩ := hka.form
  obtain ⟨kb, cb, wb, lb', kidsb, vb, eb, rfl, _, _, _, hkb⟩ := id rb
  obtain ⟨Ab, nb, rfl, _⟩ := hkb.form
  have RVa := Lib.hid ra
  have RVb := Lib.hid rb
  have B1 := Lib.hid b1
  have HBX1 := Lib.hid (HBX.out.below b1)
  unfold tmV
  clear ra rb b1 hka hkb ea eb
  go_upto_region 4 with (fail)
  have hbw : Below w1.heap.size w1 ((w1.alloc (.cells #[.int .i64 ka, .int .i64 ca, .bool wa, .int .i64 la, .slice Aa kidsa.length na] 35)).alloc (.cells #[.int .i64 kb, .int .i64 cb, .bool wb, .int .i64 lb', .slice Ab kidsb.length nb] 35)) := ((Below.refl _ _).alloc (Nat.le_refl _) _).alloc (by simp) _
  have hca : ((w1.alloc (.cells #[.int .i64 ka, .int .i64 ca, .bool wa, .int .i64 la, .slice Aa kidsa.length na] 35)).alloc (.cells #[.int .i64 kb, .int .i64 cb, .bool wb, .int .i64 lb', .slice Ab kidsb.length nb] 35)).cell? ⟨w1.heap.size, 0, none⟩ = some (.int .i64 ka) ∧ ((w1.alloc (.cells #[.int .i64 ka, .int .i64 ca, .bool wa, .int .i64 la, .slice Aa kidsa.length na] 35)).alloc (.cells #[.int .i64 kb, .int .i64 cb, .bool wb, .int .i64 lb', .slice Ab kidsb.length nb] 35)).cell? ⟨w1.heap.size, 1, none⟩ = some (.int .i64 ca) ∧ ((w1.alloc (.cells #[.int .i64 ka, .int .i64 ca, .bool wa, .int .i64 la, .slice Aa kidsa.length na] 35)).alloc (.cells #[.int .i64 kb, .int .i64 cb, .bool wb, .int .i64 lb', .slice Ab kidsb.length nb] 35)).cell? ⟨w1.heap.size, 2, none⟩ = some (.bool wa) ∧ ((w1.alloc (.cells #[.int .i64 ka, .int .i64 ca, .bool wa, .int .i64 la, .slice Aa kidsa.length na] 35)).alloc (.cells #[.int .i64 kb, .int .i64 cb, .bool wb, .int .i64 lb', .slice Ab kidsb.length nb] 35)).cell? ⟨w1.heap.size, 3, none⟩ = some (.int .i64 la) ∧ ((w1.alloc (.cells #[.int .i64 ka, .int .i64 ca, .bool wa, .int .i64 la, .slice Aa kidsa.length na] 35)).alloc (.cells #[.int .i64 kb, .int .i64 cb, .bool wb, .int .i64 lb', .slice Ab kidsb.length nb] 35)).cell? ⟨w1.heap.size, 4, none⟩ = some (.slice Aa kidsa.length na) := by simp
  have hcb : ((w1.alloc (.cells #[.int .i64 ka, .int .i64 ca, .bool wa, .int .i64 la, .slice Aa kidsa.length na] 35)).alloc (.cells #[.int .i64 kb, .int .i64 cb, .bool wb, .int .i64 lb', .slice Ab kidsb.length nb] 35)).cell? ⟨w1.heap.size + 1, 0, none⟩ = some (.int .i64 kb) ∧ ((w1.alloc (.cells #[.int .i64 ka, .int .i64 ca, .bool wa, .int .i64 la, .slice Aa kidsa.length na] 35)).alloc (.cells #[.int .i64 kb, .int .i64 cb, .bool wb, .int .i64 lb', .slice Ab kidsb.length nb] 35)).cell? ⟨w1.heap.size + 1, 1, none⟩ = some (.int .i64 cb) ∧ ((w1.alloc (.cells #[.int .i64 ka, .int .i64 ca, .bool wa, .int .i64 la, .slice Aa kidsa.length na] 35)).alloc (.cells #[.int .i64 kb, .int .i64 cb, .bool wb, .int .i64 lb', .slice Ab kidsb.length nb] 35)).cell? ⟨w1.heap.size + 1, 2, none⟩ = some (.bool wb) ∧ ((w1.alloc (.cells #[.int .i64 ka, .int .i64 ca, .bool wa, .int .i64 la, .slice Aa kidsa.length na] 35)).alloc (.cells #[.int .i64 kb, .int .i64 cb, .bool wb, .int .i64 lb', .slice Ab kidsb.length nb] 35)).cell? ⟨w1.heap.size + 1, 3, none⟩ = some (.int .i64 lb') ∧ ((w1.alloc (.cells #[.int .i64 ka, .int .i64 ca, .bool wa, .int .i64 la, .slice Aa kidsa.length na] 35)).alloc (.cells #[.int .i64 kb, .int .i64 cb, .bool wb, .int .i64 lb', .slice Ab kidsb.length nb] 35)).cell? ⟨w1.heap.size + 1, 4, none⟩ = some (.slice Ab kidsb.length nb) := by simp
  have hsz : (((w1.alloc (.cells #[.int .i64 ka, .int .i64 ca, .bool wa, .int .i64 la, .slice Aa kidsa.length na] 35)).alloc (.cells #[.int .i64 kb, .int .i64 cb, .bool wb, .int .i64 lb', .slice Ab kidsb.length nb] 35))).heap.size = w1.heap.size + 2 := by simp
  generalize ((w1.alloc (.cells #[.int .i64 ka, .int .i64 ca, .bool wa, .int .i64 la, .slice Aa kidsa.length na] 35)).alloc (.cells #[.int .i64 kb, .int .i64 cb, .bool wb, .int .i64 lb', .slice Ab kidsb.length nb] 35)) = W at *
  have hzw := BEL.out.size
  have hzb := B1.out.size
  rw [World.size_alloc] at hzw hzb
  have hz1' := Nat.le_of_eq hsz
  have hz2' := Nat.le_of_eq hsz.symm
  have hSW : Sub S (Upto w1.heap.size) := HS.out.trans (Sub.upto (by omega))
  have WRa := Lib.hid (RVa.out.go hbw hSW)
  have WRb := Lib.hid (RVb.out.go hbw hSW)
  have HSW := Lib.hid (hSW.trans (Sub.upto (show w1.heap.size ≤ W.heap.size by omega)))
  have HBW := Lib.hid hbw
  have HBX2 := Lib.hid (HBX1.out.below hbw)
  have CAc := Lib.hid hca
  have CBc := Lib.hid hcb
  obtain ⟨a0, a1, a2, a3, a4⟩ := hca
  obtain ⟨b0, b1, b2, b3, b4⟩ := hcb
  have hlt1 : w1.heap.size < W.heap.size := by omega
  have hlt2 : w1.heap.size + 1 < W.heap.size := by omega
  have CA := Lib.hid (show a.count ≤ 1048576 by omega)
  have CB := Lib.hid (show b.count ≤ 1048576 by omega)
  have FIN0 := Lib.hid (show Below w.heap.size w W from ((BEL.out.trans (B1.out.mono (by simp))).trans (hbw.mono (by omega))))
  clear hsz hbw hSW RVa RVb HBX HBX1 RA
  have HWP := Lib.hid (fun w' h => Stay.size h : ∀ w', Stay W w' → W.heap.size ≤ w'.heap.size)
  have HTW := Lib.hid (fun w' h => HTB.out.go (FIN0.out.trans ((Stay.below h).mono (by omega))) : ∀ w', Stay W w' → Tab w')
  go_region_held3 (fun w' => Stay W w') (first | assumption | exact Stay.mk (Kept.start _) | ((refine Stay.mk ?_; (repeat (with_reducible first | refine Kept.set ?_ (by omega) _ | refine Kept.drew ?_ | refine Kept.alloc ?_ _)); first | exact Kept.refl _ | assumption)))
    (first
      | ((go_at_call_of 12 (Value.agg #[.int .i64 ka, .int .i64 ca, .bool wa, .int .i64 la, .slice Aa kidsa.length na]); refine (IHa.out _ S _ (HSW.out.trans (Sub.upto (HWP.out _ (by first | assumption | exact Stay.mk (Kept.start _))))) (WRa.out.keep (Sub.refl _) (Same.sub (Stay.same (by first | assumption | exact Stay.mk (Kept.start _))) HSW.out)) CA.out (HTW.out _ (by first | assumption | exact Stay.mk (Kept.start _)))).mono ?_; rintro e wa1 ⟨rfl, hb1⟩; have hst1 : Stay W wa1 := Stay.step hb1 (by first | assumption | exact Stay.mk (Kept.start _)); have hk1 : Kept W wa1 := Kept.here hst1))
      | ((go_at_call_of 12 (Value.agg #[.int .i64 kb, .int .i64 cb, .bool wb, .int .i64 lb', .slice Ab kidsb.length nb]); refine (IHb.out _ S _ (HSW.out.trans (Sub.upto (HWP.out _ (by first | assumption | exact Stay.mk (Kept.start _))))) (WRb.out.keep (Sub.refl _) (Same.sub (Stay.same (by first | assumption | exact Stay.mk (Kept.start _))) HSW.out)) CB.out (HTW.out _ (by first | assumption | exact Stay.mk (Kept.start _)))).mono ?_; rintro e wb1 ⟨rfl, hb2⟩; have hst2 : Stay W wb1 := Stay.step hb2 (by first | assumption | exact Stay.mk (Kept.start _)); have hk2 : Kept W wb1 := Kept.here hst2)))
  have hstF := Lib.hid hst2
  have hbx := HBX2.out.below (hst2.below)
  have hcaF : wb1.cell? ⟨w1.heap.size, 0, none⟩ = some (.int .i64 ka) ∧ wb1.cell? ⟨w1.heap.size, 1, none⟩ = some (.int .i64 ca) ∧ wb1.cell? ⟨w1.heap.size, 2, none⟩ = some (.bool wa) ∧ wb1.cell? ⟨w1.heap.size, 3, none⟩ = some (.int .i64 la) ∧ wb1.cell? ⟨w1.heap.size, 4, none⟩ = some (.slice Aa kidsa.length na) := by
    obtain ⟨x0, x1, x2, x3, x4⟩ := CAc.out
    refine ⟨?_, ?_, ?_, ?_, ?_⟩ <;> (refine (hstF.out.below.cell (p := ⟨w1.heap.size, _, none⟩) hlt1).trans ?_; assumption)
  have hcbF : wb1.cell? ⟨w1.heap.size + 1, 0, none⟩ = some (.int .i64 kb) ∧ wb1.cell? ⟨w1.heap.size + 1, 1, none⟩ = some (.int .i64 cb) ∧ wb1.cell? ⟨w1.heap.size + 1, 2, none⟩ = some (.bool wb) ∧ wb1.cell? ⟨w1.heap.size + 1, 3, none⟩ = some (.int .i64 lb') ∧ wb1.cell? ⟨w1.heap.size + 1, 4, none⟩ = some (.slice Ab kidsb.length nb) := by
    obtain ⟨x0, x1, x2, x3, x4⟩ := CBc.out
    refine ⟨?_, ?_, ?_, ?_, ?_⟩ <;> (refine (hstF.out.below.cell (p := ⟨w1.heap.size + 1, _, none⟩) hlt2).trans ?_; assumption)
  have hsF := hstF.out.size
  have FIN := Lib.hid (show Below w.heap.size w wb1 from FIN0.out.trans (hstF.out.below.mono (by omega)))
  have WFa := Lib.hid (WRa.out.go hstF.out.below HSW.out)
  have WFb := Lib.hid (WRb.out.go hstF.out.below HSW.out)
  have HSF := Lib.hid (HSW.out.trans (Sub.upto hsF))
  have TF := Lib.hid (HTW.out _ hst2)
  rename_i hHeldX
  have x0 := hbx.cell 0 _ rfl
  have EM := Lib.hid (show IntKind.u64.wrap (((a.ways : Nat) : Int) % 18446744073709551616 * (((b.ways : Nat) : Int) % 18446744073709551616)) = ((a.ways * b.ways % 18446744073709551616 : Nat) : Int) by
    rw [IntKind.wrap_u64, ← mul_m64, Int.natCast_emod, Int.natCast_emod]; rfl)
  clear hHeldX hst1 hk1 hst2 hk2 a0 a1 a2 a3 a4 b0 b1 b2 b3 b4 HWP HBX2 WRa WRb hbx HTW FIN0
  go_upto_region 5 with (fail)
  rw [EM.out]
  cases p
  · have hkk : k = 2 := HKK.out
    clear HKK
    subst hkk
    go_wp2
    go_ret
    rw [HW.out]
    exact ⟨by simp, FIN.out⟩
  · have hkk : k = 3 := HKK.out
    clear HKK
    subst hkk
    obtain ⟨a0, a1, a2, a3, a4⟩ := hcaF
    obtain ⟨b0, b1, b2, b3, b4⟩ := hcbF
    have hl1 : w1.heap.size < wb1.heap.size := by omega
    have hl2 : w1.heap.size + 1 < wb1.heap.size := by omega
    have HWP := Lib.hid (fun w' h => Stay.size h : ∀ w', Stay wb1 w' → wb1.heap.size ≤ w'.heap.size)
    have HTW := Lib.hid (fun w' h => TF.out.go (Stay.below h) : ∀ w', Stay wb1 w' → Tab w')
    have HDC := Lib.hid (fun w h => dchoose_n a.count b.count CA.out CB.out w h : ∀ w, Tab w → Calls Tryd.prog 25 #[.int .i64 (a.leaves.length : Int), .int .i64 (b.leaves.length : Int)] w fun e w' => e = .returned (.int .u64 ((ch a.count b.count % 18446744073709551616 : Nat) : Int)) ∧ Below w.heap.size w w')
    have EN := Lib.hid (show IntKind.u64.wrap (((a.ways * b.ways % 18446744073709551616 : Nat) : Int) * (((ch a.count b.count : Nat) : Int) % 18446744073709551616)) = ((a.ways * b.ways * ch a.count b.count % 18446744073709551616 : Nat) : Int) by
      rw [IntKind.wrap_u64, ← mul_m64 (a.ways * b.ways), Int.natCast_emod (ch a.count b.count)]; rfl)
    generalize a.ways * b.ways % 18446744073709551616 = y at *
    clear hstF
    go_upto_region 6 with (fail)
    go_region_held3 (fun w' => Stay wb1 w') (first | assumption | exact Stay.mk (Kept.start _) | ((refine Stay.mk ?_; (repeat (with_reducible first | refine Kept.set ?_ (by omega) _ | refine Kept.drew ?_ | refine Kept.alloc ?_ _)); first | exact Kept.refl _ | assumption)))
      (first
        | ((go_at_call_of 21 (Value.agg #[.int .i64 ka, .int .i64 ca, .bool wa, .int .i64 la, .slice Aa kidsa.length na]); refine (dls_all a _ S _ (HSF.out.trans (Sub.upto (HWP.out _ (by first | assumption | exact Stay.mk (Kept.start _))))) (WFa.out.keep (Sub.refl _) (Same.sub (Stay.same (by first | assumption | exact Stay.mk (Kept.start _))) HSF.out)) CA.out).mono ?_; rintro e wx1 ⟨x1, rfl, hx1, hb1⟩; obtain ⟨A1, n1, rfl⟩ := hx1.form; clear hx1; have hst1 : Stay wb1 wx1 := Stay.step hb1 (by first | assumption | exact Stay.mk (Kept.start _)); have hk1 : Kept wb1 wx1 := Kept.here hst1))
        | ((go_at_call_of 21 (Value.agg #[.int .i64 kb, .int .i64 cb, .bool wb, .int .i64 lb', .slice Ab kidsb.length nb]); refine (dls_all b _ S _ (HSF.out.trans (Sub.upto (HWP.out _ (by first | assumption | exact Stay.mk (Kept.start _))))) (WFb.out.keep (Sub.refl _) (Same.sub (Stay.same (by first | assumption | exact Stay.mk (Kept.start _))) HSF.out)) CB.out).mono ?_; rintro e wx2 ⟨x2, rfl, hx2, hb2⟩; obtain ⟨A2, n2, rfl⟩ := hx2.form; clear hx2; have hst2 : Stay wb1 wx2 := Stay.step hb2 (by first | assumption | exact Stay.mk (Kept.start _)); have hk2 : Kept wb1 wx2 := Kept.here hst2))
        | ((go_at_call 25; refine (HDC.out _ (HTW.out _ (by first | assumption | exact Stay.mk (Kept.start _)))).mono ?_; rintro e wx3 ⟨rfl, hb3⟩; have hst3 : Stay wb1 wx3 := Stay.step hb3 (by first | assumption | exact Stay.mk (Kept.start _)); have hk3 : Kept wb1 wx3 := Kept.here hst3)))
    go_wp2
    go_ret
    rw [HW.out]
    rw [EN.out]
    exact ⟨by simp, FIN.out.trans (hst3.below.mono (by have := FIN.out.size; omega))⟩
theorem dcs_all (t : Tm) : DCs t := Tm.ind dcs_one dcs_two t
end Go.Proofs.YtknaoianhjeccaaDoor
