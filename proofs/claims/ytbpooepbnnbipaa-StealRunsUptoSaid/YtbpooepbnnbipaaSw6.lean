/- The walk of the reference's VRun. -/
import Derived.Test.YtbpooepbnnbipaaSw5
namespace Go.Proofs.Ytbpooepbnnbipaa
open Go.RowKit
set_option linter.unusedVariables false
theorem infoTxs : (Try.prog.info? 68).map (fun i => (i.zero, i.size, i.bytes)) = some (some (.slice none 0 0), 1, 24) := by kernel_rfl
theorem oneAt {w : World} {S : Blocks} : ∀ (e : Option Pt) (cs : List Value), Flat encAt okAny w S e cs → ∀ u ∈ cs, u.oneCell' = true := by
  rintro e cs ⟨rfl, _⟩ u hu
  obtain ⟨z, hz⟩ := txtA_str e
  simp [encAt, hz] at hu
  subst hu; rfl
theorem v0_mq {W : World} {X k n' cap : Nat} {kk c lb : Int} {wb : Bool} {Ak : Option Addr} (hX : X + 1 ≤ W.heap.size) (ty1 ty2 : TypeId) :
    V0 (X + 1) (((W.alloc (.map #[] 0)).alloc (.cells (madeCells #[.slice none 0 0] k) ty1)).alloc (.cells [.int .i64 kk, .int .i64 c, .bool wb, .int .i64 lb, .slice Ak n' cap, .slice none 0 0, .slice (some ⟨W.heap.size + 1, 0, none⟩) k k, .map (some W.heap.size), .slice none 0 0].toArray ty2)).drew (W.heap.size + 1 + 1) (W.heap.size + 1) W.heap.size k kk c lb wb (.slice Ak n' cap) 0 (.slice none 0 0) := by
  have e1 : (W.alloc (.map #[] 0)).heap.size = W.heap.size + 1 := by simp
  have e2 : ((W.alloc (.map #[] 0)).alloc (.cells (madeCells #[.slice none 0 0] k) ty1)).heap.size = W.heap.size + 1 + 1 := by simp
  have B := Blk.made ((W.alloc (.map #[] 0)).alloc (.cells (madeCells #[.slice none 0 0] k) ty1)) [.int .i64 kk, .int .i64 c, .bool wb, .int .i64 lb, .slice Ak n' cap, .slice none 0 0, .slice (some ⟨W.heap.size + 1, 0, none⟩) k k, .map (some W.heap.size), .slice none 0 0] ty2 (base := X + 1) (by omega)
  rw [e2] at B
  have R := RowAt.made (enc := encV) (size := 1) (base := X + 1) (W.alloc (.map #[] 0)) k (.slice none 0 0 : Value) ty1 (z := #[.slice none 0 0]) rfl rfl (by decide) (by omega)
  rw [e1, Nat.mul_one] at R
  have M := OwnK.made (P := Try.prog) (k := 9) (z := .int .i64 0) W
  exact ⟨B.drew, (R.below ((Below.refl _ _).alloc (Nat.le_refl _) _)).drew, ((M.below ((Below.refl _ _).alloc (Nat.le_refl _) _)).below ((Below.refl _ _).alloc (Nat.le_refl _) _)).drew, OwnL.nil _ _ _, by omega, by omega, by omega, hX, fun b e => by cases e⟩
theorem v0_qm {W : World} {X k n' cap : Nat} {kk c lb : Int} {wb : Bool} {Ak : Option Addr} (hX : X + 1 ≤ W.heap.size) (ty1 ty2 : TypeId) :
    V0 (X + 1) (((W.alloc (.cells (madeCells #[.slice none 0 0] k) ty1)).alloc (.map #[] 0)).alloc (.cells [.int .i64 kk, .int .i64 c, .bool wb, .int .i64 lb, .slice Ak n' cap, .slice none 0 0, .slice (some ⟨W.heap.size, 0, none⟩) k k, .map (some (W.heap.size + 1)), .slice none 0 0].toArray ty2)).drew (W.heap.size + 1 + 1) W.heap.size (W.heap.size + 1) k kk c lb wb (.slice Ak n' cap) 0 (.slice none 0 0) := by
  have e1 : (W.alloc (.cells (madeCells #[.slice none 0 0] k) ty1)).heap.size = W.heap.size + 1 := by simp
  have e2 : ((W.alloc (.cells (madeCells #[.slice none 0 0] k) ty1)).alloc (.map #[] 0)).heap.size = W.heap.size + 1 + 1 := by simp
  have B := Blk.made ((W.alloc (.cells (madeCells #[.slice none 0 0] k) ty1)).alloc (.map #[] 0)) [.int .i64 kk, .int .i64 c, .bool wb, .int .i64 lb, .slice Ak n' cap, .slice none 0 0, .slice (some ⟨W.heap.size, 0, none⟩) k k, .map (some (W.heap.size + 1)), .slice none 0 0] ty2 (base := X + 1) (by omega)
  rw [e2] at B
  have R := RowAt.made (enc := encV) (size := 1) (base := X + 1) W k (.slice none 0 0 : Value) ty1 (z := #[.slice none 0 0]) rfl rfl (by decide) hX
  rw [Nat.mul_one] at R
  have M := OwnK.made (P := Try.prog) (k := 9) (z := .int .i64 0) (W.alloc (.cells (madeCells #[.slice none 0 0] k) ty1))
  rw [e1] at M
  exact ⟨B.drew, ((R.below ((Below.refl _ _).alloc (Nat.le_refl _) _)).below ((Below.refl _ _).alloc (Nat.le_refl _) _)).drew, (M.below ((Below.refl _ _).alloc (Nat.le_refl _) _)).drew, OwnL.nil _ _ _, by omega, by omega, by omega, (by omega), fun b e => by cases e⟩
set_option maxHeartbeats 2000000 in
set_option maxRecDepth 100000 in
theorem vrun_bad (t : Tm) (n : Int) (hn : badW n) (ps : List (Int × Int)) (w : World) (S : Blocks) (V Pv : Value) (r : RdT w S t V) :
    Calls Try.prog 7 #[V, .int .i64 n, Pv] w fun e w' => RunA t n ps w e w' := by
  obtain ⟨kk, c, wr, lb, kids, vk, rfl, rfl, hk, hc, hlb, hkids⟩ := r
  obtain ⟨A, cap, rfl, hcl, hcm, _⟩ := hkids.form
  have HR : Hid (∀ w', Below w.heap.size w w' → RunA (.mk kk c wr lb kids) n ps w (.returned (.tuple #[.slice none 0 0, .int .i64 0, .int .i64 2])) w') := Lib.hid (fun w' hb => by
    have e1 : outR (.mk kk c wr lb kids) n ps = [] := by unfold outR; rw [if_pos hn]
    have e2 : leftR (.mk kk c wr lb kids) n ps = 0 := by unfold leftR; rw [if_pos hn]
    have e3 : errR n = 2 := by unfold errR; rw [if_pos hn]
    unfold RunA
    rw [e1, e2, e3]
    exact ⟨none, 0, rfl, RdL.nil (by simp [maxLen]), hb⟩)
  unfold tmV
  rcases hn with h1 | h1
  · have hd : decide (n < 1) = true := decide_eq_true h1
    clear hkids hk hc hlb
    go_enter Try.func7, Try.ntmps7
    go_wp2
    refine bodyPost_ret (v := .tuple #[.slice none 0 0, .int .i64 0, .int .i64 2]) (by simp [results, Try.results7, go_sem]) rfl ?_
    exact HR.out _ ((Below.refl _ _).alloc (Nat.le_refl _) _)
  · have hd : decide (n < 1) = false := decide_eq_false (by omega)
    clear hkids hk hc hlb
    go_enter Try.func7, Try.ntmps7
    go_wp2
    refine bodyPost_ret (v := .tuple #[.slice none 0 0, .int .i64 0, .int .i64 2]) (by simp [results, Try.results7, go_sem]) rfl ?_
    exact HR.out _ ((Below.refl _ _).alloc (Nat.le_refl _) _)
set_option maxHeartbeats 4000000 in
set_option maxRecDepth 100000 in
theorem vrun_good (t : Tm) (k : Nat) (hk1 : 1 ≤ k) (hk2 : k ≤ 16) (ps : List (Int × Int)) (w : World) (S : Blocks) (V Pv : Value) (r : RdT w S t V) (hS : Sub S (Upto w.heap.size)) (rp : RdL (Flat encPk okPk) 2 16 w S ps Pv) (hnt : (nodesT t).length ≤ 1048576) (hps : ps.length ≤ 1048576) :
    Calls Try.prog 7 #[V, .int .i64 (k : Int), Pv] w fun e w' => RunA t (k : Int) ps w e w' := by
  have RT := Lib.hid r
  have RP := Lib.hid rp
  obtain ⟨kk, c, wb, lb, kids, vk, rfl, rfl, hk, hc, hlb, hkids⟩ := r
  obtain ⟨Ak, cap, rfl, hcl, hcm, _⟩ := hkids.form
  obtain ⟨Ap, cp0, rfl, _, _, _⟩ := rp.form
  have HS := Lib.hid hS
  have HNT := Lib.hid hnt
  obtain ⟨T, hT⟩ : ∃ T, T = Tm.mk kk c wb lb kids := ⟨_, rfl⟩
  rw [← hT] at RT HNT ⊢
  have HT := Lib.hid hT
  unfold tmV at *
  generalize kids.length = n' at *
  clear hkids hk hlb hc rp hS hT hnt
  have h1 : decide ((k : Int) < 1) = false := decide_eq_false (by omega)
  have h2 : decide ((16 : Int) < (k : Int)) = false := decide_eq_false (by omega)
  obtain ⟨i0, hi, hz0, hz1, hz2⟩ := info_parts infoTx
  obtain ⟨j0, hj, hy0, hy1, hy2⟩ := info_parts infoTxs
  have hmm := @run_makeMap Try.prog
  have hmk := fun w => run_makeN (P := Try.prog) 67 68 j0 _ (zc := #[.slice none 0 0]) Try.underlying67 hj hy0 hy1 rfl k (by rw [hy2]; omega) (by omega) w
  go_enter Try.func7, Try.ntmps7
  go_upto_region 3 with (fail)
  have BX := Blk.made w [.int .i64 kk, .int .i64 c, .bool wb, .int .i64 lb, .slice Ak n' cap] 26 (base := 0) (Nat.zero_le _)
  have HB0 := Lib.hid ((Below.refl w.heap.size w).alloc (Nat.le_refl _) (.cells [.int .i64 kk, .int .i64 c, .bool wb, .int .i64 lb, .slice Ak n' cap].toArray 26))
  have hsz : (w.alloc (.cells [.int .i64 kk, .int .i64 c, .bool wb, .int .i64 lb, .slice Ak n' cap].toArray 26)).heap.size = w.heap.size + 1 := by simp
  change Code.wp _ _ _ _ (w.alloc (.cells [.int .i64 kk, .int .i64 c, .bool wb, .int .i64 lb, .slice Ak n' cap].toArray 26))
  generalize w.alloc (.cells [.int .i64 kk, .int .i64 c, .bool wb, .int .i64 lb, .slice Ak n' cap].toArray 26) = W at *
  obtain ⟨X, hX⟩ : ∃ X, X = w.heap.size := ⟨_, rfl⟩
  rw [← hX] at BX ⊢
  have HXW := Lib.hid hX
  have HSZ := Lib.hid (show X + 1 = W.heap.size by omega)
  have HBX := Lib.hid BX
  clear BX hX hsz
  go_cut [9] (fun x9 wx => ∃ Q D y, x9 = .pointer (some ⟨y, 0, none⟩) ∧ Hid (V0 (X + 1) wx y Q D k kk c lb wb (.slice Ak n' cap) 0 (.slice none 0 0)) ∧ Hid (Below W.heap.size W wx))
  case first =>
    have x0 := HBX.out.cell 0 _ rfl; have x1 := HBX.out.cell 1 _ rfl; have x2 := HBX.out.cell 2 _ rfl; have x3 := HBX.out.cell 3 _ rfl; have x4 := HBX.out.cell 4 _ rfl
    refine wp_region_pre 4 (S := (fun wx => wx.cell? ⟨X, 0, none⟩ = some (.int .i64 kk) ∧ wx.cell? ⟨X, 1, none⟩ = some (.int .i64 c) ∧ wx.cell? ⟨X, 2, none⟩ = some (.bool wb) ∧ wx.cell? ⟨X, 3, none⟩ = some (.int .i64 lb) ∧ wx.cell? ⟨X, 4, none⟩ = some (.slice Ak n' cap))) (by kernel_rfl) (by kernel_rfl) ⟨x0, x1, x2, x3, x4⟩ (fun hHeld => ?_)
    simp only [List.take_succ_cons, List.take_zero]
    refine wpAnyH_take_at (i := 0) (v := ?_) (some 21) rfl rfl (by kernel_rfl) (by kernel_rfl) (by kernel_rfl) (fun _ _ _ h => h) (Or.inl ⟨by rfl, ?_⟩) (by assumption) ?_
    rotate_left
    · (intro w hSw; (try dsimp only at hSw); go_simp; (try with_reducible rfl))
    (try simp only [Act.put, List.setIfInBounds_toArray, List.set_cons_zero, List.set_cons_succ])
    refine wpAnyH_take_at (i := 2) (v := ?_) (some 23) rfl rfl (by kernel_rfl) (by kernel_rfl) (by kernel_rfl) (fun _ _ _ h => h) (Or.inl ⟨by rfl, ?_⟩) (by assumption) ?_
    rotate_left
    · (intro w hSw; (try dsimp only at hSw); go_simp; (try with_reducible rfl))
    (try simp only [Act.put, List.setIfInBounds_toArray, List.set_cons_zero, List.set_cons_succ])
    refine wpAnyH_ready (rs := [1, 3]) (by kernel_rfl) (by simp) ?_
    refine AllReadyH.cons rfl (fun K hK => ?_) (AllReadyH.cons rfl (fun K hK => ?_) AllReadyH.nil)
    · have BL1 : Below W.heap.size W (W.alloc (.map #[] 0)) := (Below.refl _ _).alloc (Nat.le_refl _) _
      have BB := HBX.out.below BL1.drew
      go_simp
      skip
      refine hK.out _ _ ?_ (fun hHeld => ?_)
      · exact ⟨BB.cell 0 _ rfl, BB.cell 1 _ rfl, BB.cell 2 _ rfl, BB.cell 3 _ rfl, BB.cell 4 _ rfl⟩
      clear hK K
      (try simp only [Act.put, List.setIfInBounds_toArray, List.set_cons_zero, List.set_cons_succ])
      have BL2 : Below W.heap.size W ((W.alloc (.map #[] 0)).alloc (.cells (madeCells #[.slice none 0 0] k) 68)) := BL1.alloc BL1.size _
      have BB := HBX.out.below BL2.drew
      refine wpAnyH_ready (rs := [3]) (by kernel_rfl) (by simp) ?_
      refine AllReadyH.cons rfl (fun K hK => ?_) AllReadyH.nil
      go_simp
      skip
      refine hK.out _ _ ?_ (fun hHeld => ?_)
      · exact ⟨BB.cell 0 _ rfl, BB.cell 1 _ rfl, BB.cell 2 _ rfl, BB.cell 3 _ rfl, BB.cell 4 _ rfl⟩
      clear hK K
      (try simp only [Act.put, List.setIfInBounds_toArray, List.set_cons_zero, List.set_cons_succ])
      refine wpAnyH_done (by kernel_rfl) ?_ _
      unfold QPre
      simp only [List.drop_succ_cons, List.drop_zero]
      go_wp2
      go_meet
      exact ⟨_, _, _, rfl, Lib.hid (v0_mq (Nat.le_of_eq HSZ.out) _ _), Lib.hid (BL2.alloc BL2.size _).drew⟩
    · have BL1 : Below W.heap.size W (W.alloc (.cells (madeCells #[.slice none 0 0] k) 68)) := (Below.refl _ _).alloc (Nat.le_refl _) _
      have BB := HBX.out.below BL1.drew
      go_simp
      skip
      refine hK.out _ _ ?_ (fun hHeld => ?_)
      · exact ⟨BB.cell 0 _ rfl, BB.cell 1 _ rfl, BB.cell 2 _ rfl, BB.cell 3 _ rfl, BB.cell 4 _ rfl⟩
      clear hK K
      (try simp only [Act.put, List.setIfInBounds_toArray, List.set_cons_zero, List.set_cons_succ])
      have BL2 : Below W.heap.size W ((W.alloc (.cells (madeCells #[.slice none 0 0] k) 68)).alloc (.map #[] 0)) := BL1.alloc BL1.size _
      have BB := HBX.out.below BL2.drew
      refine wpAnyH_ready (rs := [1]) (by kernel_rfl) (by simp) ?_
      refine AllReadyH.cons rfl (fun K hK => ?_) AllReadyH.nil
      go_simp
      skip
      refine hK.out _ _ ?_ (fun hHeld => ?_)
      · exact ⟨BB.cell 0 _ rfl, BB.cell 1 _ rfl, BB.cell 2 _ rfl, BB.cell 3 _ rfl, BB.cell 4 _ rfl⟩
      clear hK K
      (try simp only [Act.put, List.setIfInBounds_toArray, List.set_cons_zero, List.set_cons_succ])
      refine wpAnyH_done (by kernel_rfl) ?_ _
      unfold QPre
      simp only [List.drop_succ_cons, List.drop_zero]
      go_wp2
      go_meet
      exact ⟨_, _, _, rfl, Lib.hid (v0_qm (Nat.le_of_eq HSZ.out) _ _), Lib.hid (BL2.alloc BL2.size _).drew⟩
  case rest =>
    clear hmm hmk
    obtain ⟨Q, D, y, rfl, HV0, HBW⟩ := hcut
    have HB1 := Lib.hid (HB0.out.trans (HBW.out.mono HB0.out.size))
    have HBX1 := Lib.hid (HBX.out.below HBW.out)
    have HXL := Lib.hid (show X < W.heap.size from HBX.out.lt)
    clear HB0 HBX HBW
    go_wp2
    go_loopw [28] (fun i wr => ∃ q : Nat, q ≤ k ∧ i = .int .i64 (q : Int) ∧ Hid (∃ va, V0 (X + 1) wr y Q D k kk c lb wb (.slice Ak n' cap) q va) ∧ Hid (Blk 0 wr X [.int .i64 kk, .int .i64 c, .bool wb, .int .i64 lb, .slice Ak n' cap]) ∧ Hid (Below w.heap.size w wr)) (fun i _ => k - (intOf i).toNat)
    case atStart => exact ⟨0, by omega, rfl, Lib.hid ⟨_, HV0.out⟩, HBX1, HB1⟩
    case round =>
      clear HV0 HBX1 HB1
      obtain ⟨q, hq, rfl, HG, HBX, HB1⟩ := hrel
      by_cases hlt : q < k
      · obtain ⟨va, hG⟩ := HG.out
        have HGD := Lib.hid hG
        have d5 := hG.hd.cell 5 _ rfl
        have f5 := hG.hd.fr 5
        have hyl := hG.hd.lt
        have na : va.ownBlock ≠ some y := fun e => by have := hG.la y e; omega
        have hqk : (q : Int) < (k : Int) := by omega
        have hbs := Nat.le_of_lt (Nat.lt_of_le_of_lt hG.hd.ge hG.hd.lt)
        clear hG HG
        go_wp2_with (at_builtin; refine wpList_append_one rfl _ _ 68 rfl i0 _ Try.underlying68 hi hz0 hz1 hz2 rfl (by decide) Flat.keeps HGD.out.oa (x := (none : Option Pt)) (cs := [.string ⟨#[45]⟩]) (Tx := Nowhere) ?d0 rfl rfl rfl (Sub.nowhere _) (Sub.nowhere _) not_nowhere ?d1 ?d2 ?d3 hbs ?_)
        case d0 => exact ⟨rfl, trivial⟩
        case d1 => simp [Value.oneCell']
        case d2 => rw [List.length_replicate]; unfold maxLen; omega
        case d3 => rw [List.length_replicate]; omega
        intro v5 w5 ho5 hg5 hd5
        obtain ⟨A5, c5, hv5⟩ := ho5.form
        have ho5' : OwnL (Flat encAt okAny) 1 9 w5 (X + 1) Nowhere (List.replicate (q + 1) none) v5 := by rw [List.replicate_succ']; exact ho5
        generalize (List.replicate q (none : Option Pt) ++ [none]).length = n5 at hv5
        have e5 := grown_cell hg5 d5 na
        have f6 := grown_frozen hg5 f5 hyl na
        have HG5 := Lib.hid (HGD.out.place hg5 ho5' (hd5.imp id (fun e => ⟨_, e, Nat.le_succ _⟩)))
        have bX : But (fun b => va.ownBlock = some b ∨ b = y) _ (w5.setCell ⟨y, 5, none⟩ v5) := ((But.of_grown hg5).sub fun b h => .inl h).setCell (.inr rfl) v5
        have nX : ¬ (va.ownBlock = some X ∨ X = y) := fun h => by
          have h1 := HGD.out.lQ
          have h2 := HGD.out.hd.ge
          rcases h with h | h
          · have := HGD.out.la X h; omega
          · omega
        have HBX5 := Lib.hid (HBX.out.but bX nX)
        have HB5 := Lib.hid (HB1.out.trans (bX.below HB1.out.size fun b hb => by
          have h0 := HXW.out
          have h2 := HGD.out.hd.ge
          rcases hb with e | e
          · have := HGD.out.la b e; omega
          · omega))
        subst hv5
        clear bX nX ho5 ho5' hg5 hd5 d5 f5 hyl na HGD HBX HB1 hbs
        go_wp2_with fail
        go_roundw
        case rel => exact ⟨q + 1, by omega, by go_num, Lib.hid ⟨_, HG5.out⟩, HBX5, HB5⟩
        case measure => simp [intOf]; omega
      · have hqk : q = k := by omega
        subst hqk
        --@LOOP2
        obtain ⟨va, hG⟩ := HG.out
        have hq0 : 0 < q := by omega
        have HS1 := Lib.hid (show Sub S (Upto (X + 1)) from fun b hb => by have h1 : b < w.heap.size := HS.out b hb; have := HXW.out; show b < X + 1; omega)
        obtain ⟨A, ca, col, hva, hvr⟩ := hG.vr hq0 HS1.out (t := T) (RT.out.go HB1.out HS.out)
        subst hva
        have HVR := Lib.hid hvr
        have d5 := hvr.hd.cell 5 _ rfl
        have cw := hvr.worker hq0
        have fw := hvr.at_.fr 0
        have hq1 : (0 : Int) < (q : Int) := by omega
        have HVR1 := Lib.hid (hvr.move hq0 (some []))
        have HCAL := Lib.hid (fun od col wk (hwk : wk < q) => calm_any (X + 1) y col T q A ca Q D kk c lb wb (.slice Ak n' cap) od wk hwk HNT.out hk2)
        have hXc : ∀ (col : Nat → Nat) od s wx, Vr (X + 1) wx y col T q A ca Q D kk c lb wb (.slice Ak n' cap) od s → ¬ Yc col X := fun col od s wx h hX => by have := h.ge X hX; omega
        have HXC := Lib.hid hXc
        rw [show txtA (some []) = .string ⟨#[]⟩ from rfl] at HVR1
        have HXR := Lib.hid (HBX.out.but (But.setCell (T := Yc col) (But.refl _ _) (p := ⟨A, 0, none⟩) (show Yc col A by unfold Yc; rw [hvr.cA]; decide) (.string ⟨#[]⟩)) (hXc _ _ _ _ hvr))
        have HBR := Lib.hid (HB1.out.setCell (p := ⟨A, 0, none⟩) (show w.heap.size ≤ A by have h1 := hvr.at_.ge; have h2 := HXW.out; omega) (.string ⟨#[]⟩))
        generalize txtA _ = v0 at cw
        clear hG HG hvr HBX HB1 hXc
        go_upto_region 9 with (fail)
        clear cw fw d5
        generalize World.setCell _ ⟨A, 0, none⟩ (.string ⟨#[]⟩) = W2 at *
        go_wp2_with fail
        refine (HCAL.out (.slice none 0 0) col 0 hq0 W2 _ HVR1.out (start_at T q hq0)).mono ?_
        rintro e w6 ⟨rfl, hY6, hb6⟩
        have HY6 : Hid (∃ od col, Vr (X + 1) w6 y col T q A ca Q D kk c lb wb (.slice Ak n' cap) od (runV T q (ps.take 0))) := Lib.hid ⟨_, col, hY6⟩
        have HX6 := Lib.hid (HXR.out.but hb6 (HXC.out _ _ _ _ HVR1.out))
        have HB6 := Lib.hid (HBR.out.trans (hb6.below HBR.out.size (fun b hb => by have h1 := HVR1.out.ge b hb; have h2 := HXW.out; omega)))
        clear hY6 hb6 HVR HVR1 HXR HBR HCAL
        go_wp2
        go_loopw [49] (fun i wr => ∃ j : Nat, j ≤ ps.length ∧ i = .int .i64 (j : Int) ∧ Hid (∃ od col, Vr (X + 1) wr y col T q A ca Q D kk c lb wb (.slice Ak n' cap) od (runV T q (ps.take j))) ∧ Hid (Blk 0 wr X [.int .i64 kk, .int .i64 c, .bool wb, .int .i64 lb, .slice Ak n' cap]) ∧ Hid (Below w.heap.size w wr)) (fun i _ => ps.length - (intOf i).toNat)
        case atStart => exact ⟨0, by omega, rfl, HY6, HX6, HB6⟩
        case round =>
          clear HY6 HX6 HB6
          obtain ⟨j, hj, rfl, HYJ, HXJ, HBJ⟩ := hrel
          by_cases hlt2 : j < ps.length
          · obtain ⟨pb, poff, cs, hA, hpb, _, hpc, hcs, hok⟩ := RdL.at_ RP.out hlt2
            subst hcs hA
            obtain ⟨pw, pm, hpe⟩ : ∃ pw pm, ps[j] = (pw, pm) := ⟨ps[j].1, ps[j].2, rfl⟩
            rw [hpe] at hpc
            have HTK : Hid (runV T q (ps.take (j + 1)) = pickV T (runV T q (ps.take j)) pw pm) := Lib.hid (by rw [List.take_succ_eq_append_getElem hlt2, runV_snoc, hpe])
            have hbw := But.of_below (T := Nowhere) HBJ.out
            have p0 : wr.cell? ⟨pb, poff + j * 2, none⟩ = some (.int .i64 pw) := hbw.cell (fun h => h) (hpc 0 _ rfl)
            have p1 : wr.cell? ⟨pb, poff + j * 2 + 1, none⟩ = some (.int .i64 pm) := hbw.cell (p := ⟨pb, poff + j * 2 + 1, none⟩) (fun h => h) (by have := hpc 1 _ rfl; rw [← Nat.add_assoc] at this; exact this)
            obtain ⟨od, col, hY⟩ := HYJ.out
            have HY := Lib.hid hY
            have HV := Lib.hid (run_ok T q hq0 (ps.take j))
            have hol : (runV T q (ps.take j)).out.length ≤ 1048576 := by
              have := run_out T q (ps.take j)
              rw [List.length_take] at this; omega
            generalize hsr : runV T q (ps.take j) = s at *
            have hjj : (j : Int) < (ps.length : Int) := by omega
            clear hpc hpe hbw hY HYJ hok hsr
            go_upto_region 13 with (fail)
            have BX1 := Blk.made wr [.int .i64 pw, .int .i64 pm] 63 (base := 0) (Nat.zero_le _)
            have bel : Below wr.heap.size wr (wr.alloc (.cells [.int .i64 pw, .int .i64 pm].toArray 63)) := (Below.refl _ _).alloc (Nat.le_refl _) _
            have HY1 := Lib.hid (HY.out.below bel)
            have HX1 := Lib.hid (HXJ.out.below bel)
            have HBL1 := Lib.hid (HBJ.out.trans (bel.mono HBJ.out.size))
            have HC4 := Lib.hid (HY.out.new wr.heap.size (Nat.le_refl _))
            change Code.wp _ _ _ _ (wr.alloc (.cells [.int .i64 pw, .int .i64 pm].toArray 63))
            generalize wr.alloc (.cells [.int .i64 pw, .int .i64 pm].toArray 63) = W1 at *
            generalize wr.heap.size = bx at *
            have HBX := Lib.hid BX1
            have x0 := BX1.cell 0 _ rfl
            have x1 := BX1.cell 1 _ rfl
            clear bel BX1 p0 p1 HXJ HBJ HY
            by_cases hwr : 0 ≤ pw ∧ pw < (q : Int)
            · obtain ⟨wk, rfl⟩ : ∃ wk : Nat, pw = (wk : Int) := ⟨pw.toNat, by omega⟩
              have hwk : wk < q := by omega
              have HPV : Hid (pickV T s (wk : Int) pm = calmW T (actV T s wk pm) wk) := Lib.hid (by
                unfold pickV
                rw [if_pos (by rw [HV.out.la]; omega)]
                rfl)
              have HCAL := Lib.hid (fun od col => calm_any (X + 1) y col T q A ca Q D kk c lb wb (.slice Ak n' cap) od wk hwk HNT.out hk2)
              have e1 : decide ((wk : Int) < 0) = false := decide_eq_false (by omega)
              have e2 : decide ((q : Int) ≤ (wk : Int)) = false := decide_eq_false (by omega)
              have WK : (wk : Int) < (q : Int) := by omega
              clear hwr
              go_upto_region 14 with (fail)
              clear e1 e2
              have d5 := HY1.out.hd.cell 5 _ rfl
              have cw := HY1.out.worker hwk
              cases hat : (s.at_[wk]?).getD none with
              | some p =>
                rw [hat] at cw
                replace cw : W1.cell? ⟨A, wk, none⟩ = some (.string (txtP p)) := cw
                have HAT := Lib.hid hat
                have hid2 : (bytesP p == [45]) = false := by
                  rw [beq_eq_false_iff_ne]
                  exact bytesP_idle p
                clear hat

                go_quiet (fail)
                have HY2 := Lib.hid (HY1.out.below (below_drewN (Below.refl _ W1) ‹Nat›))
                have HX2 := Lib.hid (HX1.out.below (below_drewN (Below.refl _ W1) ‹Nat›))
                have HB2 := Lib.hid (below_drewN HBL1.out ‹Nat›)
                have HBX2 := Lib.hid (HBX.out.drewN ‹Nat›)
                generalize W1.drewN ‹Nat› = W2 at *
                clear HY1 HX1 HBL1 HBX cw d5 x0 x1
                have hl1 : wk < s.at_.length := by rw [HV.out.la]; exact hwk
                have hatw : s.at_[wk] = some p := by have := HAT.out; rw [List.getElem?_eq_getElem hl1] at this; exact this
                obtain ⟨x, hx, h2x, hk1x⟩ := HV.out.calm _ (List.getElem_mem hl1) p hatw
                have hv : (subT T p).isSome = true := by rw [hx]; rfl
                have hlp : p.length ≤ 1048576 := by have h1 := path_len _ hv; have h2 := nm_lt hv; have := HNT.out; omega
                have hlf : lfP T p ≤ 1048576 := Nat.le_trans (lf_le hv) HNT.out
                have HPR : Hid (PreE T (((s.qs[wk]?).getD []) ++ othV s wk) s.dn p) := Lib.hid (by
                  have hT := (HV.out.at_ hwk).tok
                  rw [show (s.one wk).at_ = some p from HAT.out] at hT
                  exact preE_of hT (fun b hb => by
                    obtain ⟨par, y, z, e⟩ := subT_up hb
                    unfold twoT at e
                    rw [hx] at e
                    rw [show (some x).bind Tm.two = x.two from rfl, h2x] at e; cases e))
                have HVP := Lib.hid (vpart_any T p x hx W2 S _ (RT.out.go HB2.out HS.out) (HS.out.trans (Sub.upto HB2.out.size)) (Nat.le_trans (count_nodes T) HNT.out) hlp)
                have t0 := HX2.out.cell 0 _ rfl; have t1 := HX2.out.cell 1 _ rfl; have t2 := HX2.out.cell 2 _ rfl; have t3 := HX2.out.cell 3 _ rfl; have t4 := HX2.out.cell 4 _ rfl
                obtain ⟨f, hf⟩ : ∃ f, f = lfP T p := ⟨_, rfl⟩
                have HF := Lib.hid hf
                rw [← hf] at HVP hlf
                clear hl1 hatw hx h2x hk1x hv hlp hf
                go_wp2_with fail
                refine HVP.out.mono ?_
                rintro e w5 ⟨Vx, rfl, hrx, hb5⟩
                have HY5 := Lib.hid (HY2.out.below hb5)
                have HX5 := Lib.hid (HX2.out.below hb5)
                have HB5 := Lib.hid (HB2.out.trans (hb5.mono HB2.out.size))
                have HBX5 := Lib.hid (HBX2.out.below hb5)
                obtain ⟨ku, cu, wu, lu, kidsu, vu, eu, rfl, hku, _, _, hkd⟩ := hrx
                obtain ⟨Au, nu, rfl, _⟩ := hkd.form
                generalize kidsu.length = nu' at *
                clear hb5 hkd eu HVP HY2 HX2 HB2 HBX2 t0 t1 t2 t3 t4
                unfold tmV at *
                go_upto_region 17 with (fail)
                have BW := (Below.refl w5.heap.size w5).alloc (Nat.le_refl _) (.cells [.int .i64 ku, .int .i64 cu, .bool wu, .int .i64 lu, .slice Au nu' nu].toArray 26)
                change Code.wp _ _ _ _ (w5.alloc (.cells [.int .i64 ku, .int .i64 cu, .bool wu, .int .i64 lu, .slice Au nu' nu].toArray 26))
                generalize w5.alloc (.cells [.int .i64 ku, .int .i64 cu, .bool wu, .int .i64 lu, .slice Au nu' nu].toArray 26) = U at *
                have HYU := Lib.hid (HY5.out.below BW)
                have HXU := Lib.hid (HX5.out.below BW)
                have HBU := Lib.hid (HB5.out.trans (BW.mono HB5.out.size))
                have BX2 := HBX5.out.below BW
                generalize w5.heap.size = zx at *
                clear BW HY5 HX5 HB5 HBX5
                have x0 := BX2.cell 0 _ rfl
                have c4 := HYU.out.hd.cell 8 _ rfl
                obtain ⟨Ao, co, hodf⟩ := HYU.out.dn.form
                subst hodf
                have HF63 := Lib.hid (show f < 4611686018427387904 by omega)
                obtain ⟨k0, hk0, u0, u1, u2⟩ := info_parts infoDn
                have hyU := HYU.out.hd.lt
                have hbU := BX2.lt
                have HK := Lib.hid (But.of_below (T := Nowhere) (((Below.refl U.heap.size U).alloc (Nat.le_refl _) (.cells [.int .i64 (wk : Int), .int .i64 (f : Int)].toArray 34)).drew))
                have HLB : Hid (Below U.heap.size U ((U.alloc (.cells [.int .i64 (wk : Int), .int .i64 (f : Int)].toArray 34)).drew)) := Lib.hid ((Below.refl U.heap.size U).alloc (Nat.le_refl _) (.cells [.int .i64 (wk : Int), .int .i64 (f : Int)].toArray 34)).drew
                have hRDc : ∀ (q : Nat) (v : Value), (encDn (wk, f))[q]? = some v → (((U.alloc (.cells [.int .i64 (wk : Int), .int .i64 (f : Int)].toArray 34)).drew)).cell? ⟨U.heap.size, q, none⟩ = some v := (Blk.made U [.int .i64 (wk : Int), .int .i64 (f : Int)] 34 (base := 0) (Nat.zero_le _)).drew.cell
                have HRD := Lib.hid (rd_one (enc := encDn) (ok := okDn) (size := 2) (bytes := 16) (S := fun _ => True) (x := (wk, f)) rfl hRDc ⟨by show wk < _; omega, HF63.out⟩ trivial (by decide))
                have HOW := Lib.hid (HYU.out.dn.but (HK.out) (fun _ _ h => h))
                have nb : (Value.slice Ao s.out.length co).ownBlock ≠ some bx := fun e => by have := HYU.out.co bx e; have h4 := HC4.out; omega
                have ny : (Value.slice Ao s.out.length co).ownBlock ≠ some y := fun e => by have := HYU.out.co y e; rw [HYU.out.cy] at this; cases this
                have fy := (HYU.out.hd.but HK.out (fun h => h)).fr 8
                have hyL := (HYU.out.hd.but HK.out (fun h => h)).lt
                clear hRDc
                have ma1 : s.out.length + 1 ≤ maxLen := by unfold maxLen; omega
                have ma2 : (s.out.length + 1) * 16 ≤ 140737488355328 := by omega
                have HBB : Hid (X + 1 ≤ (((U.alloc (.cells [.int .i64 (wk : Int), .int .i64 (f : Int)].toArray 34)).drew)).heap.size) := Lib.hid (Nat.le_trans HYU.out.hd.ge (Nat.le_trans (Nat.le_of_lt hyU) HLB.out.size))
                refine wp_region_pre 11 (S := (fun wx => wx.cell? ⟨bx, 0, none⟩ = some (.int .i64 (wk : Int)) ∧ wx.cell? ⟨y, 8, none⟩ = some (.slice Ao s.out.length co))) (by kernel_rfl) (by kernel_rfl) ⟨x0, c4⟩ (fun hHeld => ?_)
                simp only [List.take_succ_cons, List.take_zero]
                refine wpAnyH_take_at (i := 0) (v := ?_) (some 78) rfl rfl (by kernel_rfl) (by kernel_rfl) (by kernel_rfl) (fun _ _ _ h => h) (Or.inl ⟨by rfl, ?_⟩) (by assumption) ?_
                rotate_left
                · (intro w hSw; (try dsimp only at hSw); go_simp; (try with_reducible rfl))
                (try simp only [Act.put, List.setIfInBounds_toArray, List.set_cons_zero, List.set_cons_succ])
                refine wpAnyH_take_at (i := 1) (v := ?_) (some 79) rfl rfl (by kernel_rfl) (by kernel_rfl) (by kernel_rfl) (fun _ _ _ h => h) (Or.inl ⟨by rfl, ?_⟩) (by assumption) ?_
                rotate_left
                · (intro w hSw; (try dsimp only at hSw); go_simp; (try with_reducible rfl))
                (try simp only [Act.put, List.setIfInBounds_toArray, List.set_cons_zero, List.set_cons_succ])
                refine wpAnyH_take_at (i := 2) (v := ?_) (some 80) rfl rfl (by kernel_rfl) (by kernel_rfl) (by kernel_rfl) (fun _ _ _ h => h) (Or.inl ⟨by rfl, ?_⟩) (by assumption) ?_
                rotate_left
                · (intro w hSw; (try dsimp only at hSw); go_simp; (try with_reducible rfl))
                (try simp only [Act.put, List.setIfInBounds_toArray, List.set_cons_zero, List.set_cons_succ])
                refine wpAnyH_take_at (i := 3) (v := ?_) (some 81) rfl rfl (by kernel_rfl) (by kernel_rfl) (by kernel_rfl) (fun _ _ _ h => h) (Or.inl ⟨by rfl, ?_⟩) (by assumption) ?_
                rotate_left
                · (intro w hSw; (try dsimp only at hSw); go_simp; (try with_reducible rfl))
                (try simp only [Act.put, List.setIfInBounds_toArray, List.set_cons_zero, List.set_cons_succ])
                refine wpAnyH_take_at (i := 4) (v := ?_) (some 82) rfl rfl (by kernel_rfl) (by kernel_rfl) (by kernel_rfl) (fun _ _ _ h => h) (Or.inl ⟨by rfl, ?_⟩) (by assumption) ?_
                rotate_left
                · (intro w hSw; (try dsimp only at hSw); go_simp; (try with_reducible rfl))
                (try simp only [Act.put, List.setIfInBounds_toArray, List.set_cons_zero, List.set_cons_succ])
                refine wpAnyH_take_at (i := 5) (v := ?_) (some 83) rfl rfl (by kernel_rfl) (by kernel_rfl) (by kernel_rfl) (fun _ _ _ h => h) (Or.inl ⟨by rfl, ?_⟩) (by assumption) ?_
                rotate_left
                · (intro w hSw; (try dsimp only at hSw); go_simp; (try with_reducible rfl))
                (try simp only [Act.put, List.setIfInBounds_toArray, List.set_cons_zero, List.set_cons_succ])
                refine wpAnyH_take_at (i := 6) (v := ?_) (some 84) rfl rfl (by kernel_rfl) (by kernel_rfl) (by kernel_rfl) (fun _ _ _ h => h) (Or.inl ⟨by rfl, ?_⟩) (by assumption) ?_
                rotate_left
                · (intro w hSw; (try dsimp only at hSw); go_simp; (try with_reducible rfl))
                (try simp only [Act.put, List.setIfInBounds_toArray, List.set_cons_zero, List.set_cons_succ])
                refine wpAnyH_take_at (i := 7) (v := ?_) (some 85) rfl rfl (by kernel_rfl) (by kernel_rfl) (by kernel_rfl) (fun _ _ _ h => h) (Or.inl ⟨by rfl, ?_⟩) (by assumption) ?_
                rotate_left
                · (intro w hSw; (try dsimp only at hSw); go_simp; (try with_reducible rfl))
                (try simp only [Act.put, List.setIfInBounds_toArray, List.set_cons_zero, List.set_cons_succ])
                refine wpAnyH_take_at (i := 8) (v := ?_) (some 86) rfl rfl (by kernel_rfl) (by kernel_rfl) (by kernel_rfl) (fun _ _ _ h => h) (Or.inl ⟨by rfl, ?_⟩) (by assumption) ?_
                rotate_left
                · (intro w hSw; (try dsimp only at hSw); go_simp; (try with_reducible rfl))
                (try simp only [Act.put, List.setIfInBounds_toArray, List.set_cons_zero, List.set_cons_succ])
                refine wpAnyH_ready (rs := [9]) (by kernel_rfl) (by simp) ?_
                refine AllReadyH.cons rfl (fun K hK => ?_) AllReadyH.nil
                go_simp
                skip
                refine hK.out _ _ ?_ (fun hHeld => ?_)
                · exact ⟨HK.out.cell (fun h => h) x0, HK.out.cell (fun h => h) c4⟩
                clear hK K
                (try simp only [Act.put, List.setIfInBounds_toArray, List.set_cons_zero, List.set_cons_succ])
                refine wpAnyH_ready (rs := [10]) (by kernel_rfl) (by simp) ?_
                refine AllReadyH.cons rfl (fun K hK => ?_) AllReadyH.nil
                refine step_append_list (by rfl) (.tmp 82) (.tmp 87) 28 (by rfl) (by rfl) (by rfl) k0 _ Try.underlying28 hk0 u0 u1 u2 rfl (by decide) Flat.keeps (l := s.out) (m := [(wk, f)]) (base := X + 1) (S := Nowhere) (Tx := Nowhere) (U := fun _ => True) (v := .slice Ao s.out.length co) (RdL.bare HRD.out _) HOW.out (Sub.nowhere _) (Sub.nowhere _) not_nowhere oneDn ma1 ma2 HBB.out ?_
                intro v5 w5 ho5 hg5 hd5
                obtain ⟨A5, c5, hv5⟩ := ho5.form
                generalize (s.out ++ [(wk, f)]).length = n5 at hv5
                subst hv5
                refine hK.out _ _ ?_ (fun hHeld => ?_)
                · exact ⟨grown_cell hg5 hHeld.1 nb, grown_cell hg5 hHeld.2 ny⟩
                clear hK K
                (try simp only [Act.put, List.setIfInBounds_toArray])
                refine wpAnyH_done (by kernel_rfl) ?_ _
                unfold QPre
                simp only [List.drop_succ_cons, List.drop_zero]
                have y4 := hHeld.2
                have f5 := grown_frozen hg5 fy hyL ny
                have HA := Lib.hid (HYU.out.append HLB.out hg5 ho5 hd5)
                clear x0 c4 nb ny fy hyL ho5 hg5 hd5 HRD HOW HK hk0 u0 u1 u2 ma1 ma2 hyU hbU
                go_wp2_with fail
                obtain ⟨col1, hA1, hA2, hA3⟩ := HA.out
                have hc1 : col1 bx = 4 := (hA2 bx BX2.lt).trans HC4.out
                have BX6 := Lib.hid (BX2.but hA3 (show ¬ Yc col bx from fun h => h HC4.out))
                have HX6 := Lib.hid (HXU.out.but hA3 (HXC.out _ _ _ _ HYU.out))
                have HB6 := Lib.hid (HBU.out.trans (hA3.below HBU.out.size (fun b hb => by have h1 := HYU.out.ge b hb; have h2 := HXW.out; omega)))
                have HY6 := Lib.hid hA1
                have HC1 := Lib.hid hc1
                clear hA1 hA2 hA3 hc1 HA hHeld y4 f5 BX2 HYU HXU HBU HBB HLB
                generalize w5.setCell ⟨y, 8, none⟩ (.slice A5 n5 c5) = W6 at *
                have c2 := HY6.out.hd.cell 5 _ rfl
                have x0 := BX6.out.cell 0 _ rfl
                have HBEH := Lib.hid (behind_any (X + 1) y col1 T q A ca Q D kk c lb wb (.slice Ak n' cap) (.slice A5 n5 c5) wk hwk HNT.out hk2 p)
                refine wp_region_pre 11 (S := (fun wx => wx.cell? ⟨y, 5, none⟩ = some (.slice (some ⟨A, 0, none⟩) q ca) ∧ wx.cell? ⟨bx, 0, none⟩ = some (.int .i64 (wk : Int)))) (by kernel_rfl) (by kernel_rfl) ⟨c2, x0⟩ (fun hHeld => ?_)
                simp only [List.take_succ_cons, List.take_zero]
                refine wpAnyH_take_at (i := 0) (v := ?_) (some 91) rfl rfl (by kernel_rfl) (by kernel_rfl) (by kernel_rfl) (fun _ _ _ h => h) (Or.inl ⟨by rfl, ?_⟩) (by assumption) ?_
                rotate_left
                · (intro w hSw; (try dsimp only at hSw); go_simp; (try with_reducible rfl))
                (try simp only [Act.put, List.setIfInBounds_toArray, List.set_cons_zero, List.set_cons_succ])
                refine wpAnyH_take_at (i := 1) (v := ?_) (some 92) rfl rfl (by kernel_rfl) (by kernel_rfl) (by kernel_rfl) (fun _ _ _ h => h) (Or.inl ⟨by rfl, ?_⟩) (by assumption) ?_
                rotate_left
                · (intro w hSw; (try dsimp only at hSw); go_simp; (try with_reducible rfl))
                (try simp only [Act.put, List.setIfInBounds_toArray, List.set_cons_zero, List.set_cons_succ])
                refine wpAnyH_take_at (i := 2) (v := ?_) (some 93) rfl rfl (by kernel_rfl) (by kernel_rfl) (by kernel_rfl) (fun _ _ _ h => h) (Or.inl ⟨by rfl, ?_⟩) (by assumption) ?_
                rotate_left
                · (intro w hSw; (try dsimp only at hSw); go_simp; (try with_reducible rfl))
                (try simp only [Act.put, List.setIfInBounds_toArray, List.set_cons_zero, List.set_cons_succ])
                refine wpAnyH_take_at (i := 3) (v := ?_) (some 94) rfl rfl (by kernel_rfl) (by kernel_rfl) (by kernel_rfl) (fun _ _ _ h => h) (Or.inl ⟨by rfl, ?_⟩) (by assumption) ?_
                rotate_left
                · (intro w hSw; (try dsimp only at hSw); go_simp; (try with_reducible rfl))
                (try simp only [Act.put, List.setIfInBounds_toArray, List.set_cons_zero, List.set_cons_succ])
                refine wpAnyH_take_at (i := 4) (v := ?_) (some 95) rfl rfl (by kernel_rfl) (by kernel_rfl) (by kernel_rfl) (fun _ _ _ h => h) (Or.inl ⟨by rfl, ?_⟩) (by assumption) ?_
                rotate_left
                · (intro w hSw; (try dsimp only at hSw); go_simp; (try with_reducible rfl))
                (try simp only [Act.put, List.setIfInBounds_toArray, List.set_cons_zero, List.set_cons_succ])
                refine wpAnyH_take_at (i := 5) (v := ?_) (some 96) rfl rfl (by kernel_rfl) (by kernel_rfl) (by kernel_rfl) (fun _ _ _ h => h) (Or.inl ⟨by rfl, ?_⟩) (by assumption) ?_
                rotate_left
                · (intro w hSw; (try dsimp only at hSw); go_simp; (try with_reducible rfl))
                (try simp only [Act.put, List.setIfInBounds_toArray, List.set_cons_zero, List.set_cons_succ])
                refine wpAnyH_take_at (i := 6) (v := ?_) (some 97) rfl rfl (by kernel_rfl) (by kernel_rfl) (by kernel_rfl) (fun _ _ _ h => h) (Or.inl ⟨by rfl, ?_⟩) (by assumption) ?_
                rotate_left
                · (intro w hSw; (try dsimp only at hSw); go_simp; (try with_reducible rfl))
                (try simp only [Act.put, List.setIfInBounds_toArray, List.set_cons_zero, List.set_cons_succ])
                refine wpAnyH_take_at (i := 7) (v := ?_) (some 98) rfl rfl (by kernel_rfl) (by kernel_rfl) (by kernel_rfl) (fun _ _ _ h => h) (Or.inl ⟨by rfl, ?_⟩) (by assumption) ?_
                rotate_left
                · (intro w hSw; (try dsimp only at hSw); go_simp; (try with_reducible rfl))
                (try simp only [Act.put, List.setIfInBounds_toArray, List.set_cons_zero, List.set_cons_succ])
                refine wpAnyH_take_at (i := 8) (v := ?_) (some 99) rfl rfl (by kernel_rfl) (by kernel_rfl) (by kernel_rfl) (fun _ _ _ h => h) (Or.inl ⟨by rfl, ?_⟩) (by assumption) ?_
                rotate_left
                · (intro w hSw; (try dsimp only at hSw); go_simp; (try with_reducible rfl))
                (try simp only [Act.put, List.setIfInBounds_toArray, List.set_cons_zero, List.set_cons_succ])
                refine wpAnyH_take_at (i := 9) (v := ?_) (some 100) rfl rfl (by kernel_rfl) (by kernel_rfl) (by kernel_rfl) (fun _ _ _ h => h) (Or.inl ⟨by rfl, ?_⟩) (by assumption) ?_
                rotate_left
                · (intro w hSw; (try dsimp only at hSw); go_simp; (try with_reducible rfl))
                (try simp only [Act.put, List.setIfInBounds_toArray, List.set_cons_zero, List.set_cons_succ])
                refine wpAnyH_ready (rs := [10]) (by kernel_rfl) (by simp) ?_
                refine AllReadyH.cons rfl (fun K hK => ?_) AllReadyH.nil
                go_simp
                refine (HBEH.out W6.drew _ _ (HY6.out.below (Below.refl _ _).drew) HPR.out).mono ?_
                rintro e w7 ⟨he, hy7, hb7⟩
                obtain ⟨v4, hv4⟩ := txtA_str (endP T s.dn ((s.qs[wk]?).getD []) p).1
                replace he : e = .returned (txtA (endP T s.dn ((s.qs[wk]?).getD []) p).1) := he
                rw [hv4] at he
                subst he
                refine hK.out _ _ ?_ (fun hHeld => ?_)
                · exact ⟨hy7.hd.cell 5 _ rfl, hb7.cell (fun h => h HC1.out) hHeld.2⟩
                clear hK K
                (try simp only [Act.put, List.setIfInBounds_toArray, List.set_cons_zero, List.set_cons_succ])
                refine wpAnyH_done (by kernel_rfl) ?_ _
                unfold QPre
                simp only [List.drop_succ_cons, List.drop_zero]
                have hY8 := hy7.move hwk (endP T s.dn ((s.qs[wk]?).getD []) p).1
                rw [hv4] at hY8
                have HYT : Hid (Vr (X + 1) (w7.setCell ⟨A, wk, none⟩ (.string v4)) y col1 T q A ca Q D kk c lb wb (.slice Ak n' cap) (.slice A5 n5 c5) (endV T s wk p)) := Lib.hid (by rw [HF.out] at hY8; exact hY8)
                have hb8 := (hb7.setCell (p := ⟨A, wk, none⟩) (show Yc col1 A by unfold Yc; rw [hy7.cA]; decide) (.string v4))
                have BXT := Lib.hid (BX6.out.drew.but hb8 (show ¬ Yc col1 bx from fun h => h HC1.out))
                have HXT := Lib.hid (HX6.out.drew.but hb8 (HXC.out _ _ _ _ HY6.out))
                have HBT := Lib.hid (HB6.out.drew.trans (hb8.below HB6.out.size (fun b hb => by have h1 := HY6.out.ge b hb; have h2 := HXW.out; omega)))
                have HACT : Hid (actV T s wk pm = endV T s wk p) := Lib.hid (by unfold actV; rw [HAT.out])
                have cw := hy7.worker hwk
                have fw := hy7.at_.fr wk
                generalize txtA (((_ : List (Option Pt))[wk]?).getD none) = v0 at cw
                clear hY8 hy7 hb7 hb8 hv4 hHeld c2 x0 BX6 HX6 HB6 HY6
                go_upto_region 22 with (fail)
                clear cw fw
                generalize w7.setCell ⟨A, wk, none⟩ (.string v4) = WT at *

                have x0 := BXT.out.cell 0 _ rfl
                go_wp2_with fail
                refine (HCAL.out (.slice A5 n5 c5) col1 WT _ HYT.out (by rw [← HACT.out]; exact act_at HV.out hwk pm)).mono ?_
                rintro e w9 ⟨rfl, hy9, hb9⟩
                have HY9 : Hid (∃ od col, Vr (X + 1) w9 y col T q A ca Q D kk c lb wb (.slice Ak n' cap) od (runV T q (ps.take (j + 1)))) := Lib.hid ⟨(.slice A5 n5 c5), col1, by rw [HTK.out, HPV.out, HACT.out]; exact hy9⟩
                have hXn : ¬ Yc col1 X := fun h => by have := HYT.out.ge X h; omega
                have HX9 := Lib.hid (HXT.out.but hb9 hXn)
                have HB9 := Lib.hid (HBT.out.trans (hb9.below HBT.out.size (fun b hb => by have h1 := HYT.out.ge b hb; have h2 := HXW.out; omega)))
                clear hy9 hb9 hXn x0
                go_wp2_with fail
                go_roundw
                case rel => exact ⟨j + 1, by omega, by go_num, HY9, HX9, HB9⟩
                case measure => simp [intOf]; omega
              | none =>
                rw [hat] at cw
                replace cw : W1.cell? ⟨A, wk, none⟩ = some (.string ⟨#[45]⟩) := cw
                have HAT := Lib.hid hat
                clear hat
                go_quiet (fail)
                have HY2 := Lib.hid (HY1.out.below (below_drewN (Below.refl _ W1) ‹Nat›))
                have HX2 := Lib.hid (HX1.out.below (below_drewN (Below.refl _ W1) ‹Nat›))
                have HB2 := Lib.hid (below_drewN HBL1.out ‹Nat›)
                have HBX2 := Lib.hid (HBX.out.drewN ‹Nat›)
                generalize W1.drewN ‹Nat› = W2 at *
                clear HY1 HX1 HBL1 HBX cw d5 x0 x1
                go_upto_region 19 with (fail)
                have x0 := HBX2.out.cell 0 _ rfl
                have x1 := HBX2.out.cell 1 _ rfl
                by_cases g1 : pm < 0
                · have e1 : decide (0 ≤ pm) = false := decide_eq_false (by omega)
                  have HACT : Hid (actV T s wk pm = s) := Lib.hid (by unfold actV; rw [HAT.out]; show (if 0 ≤ pm ∧ pm < s.at_.length ∧ pm ≠ wk then stealV s wk pm.toNat else s) = s; rw [if_neg (by rw [HV.out.la]; omega)])

                  go_quiet (fail)
                  have HYT := Lib.hid (HY2.out.below (below_drewN (Below.refl _ W2) ‹Nat›))
                  have HXT := Lib.hid (HX2.out.below (below_drewN (Below.refl _ W2) ‹Nat›))
                  have HBT := Lib.hid (below_drewN HB2.out ‹Nat›)
                  have BXT := Lib.hid (HBX2.out.drewN ‹Nat›)
                  generalize W2.drewN ‹Nat› = WT at *
                  clear HY2 HX2 HB2 HBX2 x0 x1 e1 g1

                  have x0 := BXT.out.cell 0 _ rfl
                  go_wp2_with fail
                  refine (HCAL.out od col WT _ HYT.out (by rw [← HACT.out]; exact act_at HV.out hwk pm)).mono ?_
                  rintro e w9 ⟨rfl, hy9, hb9⟩
                  have HY9 : Hid (∃ od col, Vr (X + 1) w9 y col T q A ca Q D kk c lb wb (.slice Ak n' cap) od (runV T q (ps.take (j + 1)))) := Lib.hid ⟨od, col, by rw [HTK.out, HPV.out, HACT.out]; exact hy9⟩
                  have hXn : ¬ Yc col X := fun h => by have := HYT.out.ge X h; omega
                  have HX9 := Lib.hid (HXT.out.but hb9 hXn)
                  have HB9 := Lib.hid (HBT.out.trans (hb9.below HBT.out.size (fun b hb => by have h1 := HYT.out.ge b hb; have h2 := HXW.out; omega)))
                  clear hy9 hb9 hXn x0
                  go_wp2_with fail
                  go_roundw
                  case rel => exact ⟨j + 1, by omega, by go_num, HY9, HX9, HB9⟩
                  case measure => simp [intOf]; omega

                · by_cases g2 : (q : Int) ≤ pm
                  · have e1 : decide (0 ≤ pm) = true := decide_eq_true (by omega)
                    have e2 : decide (pm < (q : Int)) = false := decide_eq_false (by omega)
                    have HACT : Hid (actV T s wk pm = s) := Lib.hid (by unfold actV; rw [HAT.out]; show (if 0 ≤ pm ∧ pm < s.at_.length ∧ pm ≠ wk then stealV s wk pm.toNat else s) = s; rw [if_neg (by rw [HV.out.la]; omega)])

                    go_quiet (fail)
                    have HYT := Lib.hid (HY2.out.below (below_drewN (Below.refl _ W2) ‹Nat›))
                    have HXT := Lib.hid (HX2.out.below (below_drewN (Below.refl _ W2) ‹Nat›))
                    have HBT := Lib.hid (below_drewN HB2.out ‹Nat›)
                    have BXT := Lib.hid (HBX2.out.drewN ‹Nat›)
                    generalize W2.drewN ‹Nat› = WT at *
                    clear HY2 HX2 HB2 HBX2 x0 x1 e1 e2 g1 g2

                    have x0 := BXT.out.cell 0 _ rfl
                    go_wp2_with fail
                    refine (HCAL.out od col WT _ HYT.out (by rw [← HACT.out]; exact act_at HV.out hwk pm)).mono ?_
                    rintro e w9 ⟨rfl, hy9, hb9⟩
                    have HY9 : Hid (∃ od col, Vr (X + 1) w9 y col T q A ca Q D kk c lb wb (.slice Ak n' cap) od (runV T q (ps.take (j + 1)))) := Lib.hid ⟨od, col, by rw [HTK.out, HPV.out, HACT.out]; exact hy9⟩
                    have hXn : ¬ Yc col X := fun h => by have := HYT.out.ge X h; omega
                    have HX9 := Lib.hid (HXT.out.but hb9 hXn)
                    have HB9 := Lib.hid (HBT.out.trans (hb9.below HBT.out.size (fun b hb => by have h1 := HYT.out.ge b hb; have h2 := HXW.out; omega)))
                    clear hy9 hb9 hXn x0
                    go_wp2_with fail
                    go_roundw
                    case rel => exact ⟨j + 1, by omega, by go_num, HY9, HX9, HB9⟩
                    case measure => simp [intOf]; omega

                  · have e1 : decide (0 ≤ pm) = true := decide_eq_true (by omega)
                    have e2 : decide (pm < (q : Int)) = true := decide_eq_true (by omega)
                    by_cases g3 : pm = (wk : Int)
                    · have e3 : (pm != (wk : Int)) = false := by simp [g3]
                      have HACT : Hid (actV T s wk pm = s) := Lib.hid (by unfold actV; rw [HAT.out]; show (if 0 ≤ pm ∧ pm < s.at_.length ∧ pm ≠ wk then stealV s wk pm.toNat else s) = s; rw [if_neg (by rw [HV.out.la]; omega)])

                      go_quiet (fail)
                      have HYT := Lib.hid (HY2.out.below (below_drewN (Below.refl _ W2) ‹Nat›))
                      have HXT := Lib.hid (HX2.out.below (below_drewN (Below.refl _ W2) ‹Nat›))
                      have HBT := Lib.hid (below_drewN HB2.out ‹Nat›)
                      have BXT := Lib.hid (HBX2.out.drewN ‹Nat›)
                      generalize W2.drewN ‹Nat› = WT at *
                      clear HY2 HX2 HB2 HBX2 x0 x1 e1 e2 e3 g1 g2 g3

                      have x0 := BXT.out.cell 0 _ rfl
                      go_wp2_with fail
                      refine (HCAL.out od col WT _ HYT.out (by rw [← HACT.out]; exact act_at HV.out hwk pm)).mono ?_
                      rintro e w9 ⟨rfl, hy9, hb9⟩
                      have HY9 : Hid (∃ od col, Vr (X + 1) w9 y col T q A ca Q D kk c lb wb (.slice Ak n' cap) od (runV T q (ps.take (j + 1)))) := Lib.hid ⟨od, col, by rw [HTK.out, HPV.out, HACT.out]; exact hy9⟩
                      have hXn : ¬ Yc col X := fun h => by have := HYT.out.ge X h; omega
                      have HX9 := Lib.hid (HXT.out.but hb9 hXn)
                      have HB9 := Lib.hid (HBT.out.trans (hb9.below HBT.out.size (fun b hb => by have h1 := HYT.out.ge b hb; have h2 := HXW.out; omega)))
                      clear hy9 hb9 hXn x0
                      go_wp2_with fail
                      go_roundw
                      case rel => exact ⟨j + 1, by omega, by go_num, HY9, HX9, HB9⟩
                      case measure => simp [intOf]; omega

                    · obtain ⟨v, rfl⟩ : ∃ v : Nat, pm = (v : Int) := ⟨pm.toNat, by omega⟩
                      have hvk : v < q := by omega
                      have hvw : v ≠ wk := by omega
                      have hvk2 : (v : Int) < (q : Int) := by omega
                      have e3 : ((v : Int) != (wk : Int)) = true := by simp; omega
                      have HAV := Lib.hid (show actV T s wk (v : Int) = stealV s wk v by
                        unfold actV
                        rw [HAT.out]
                        show (if 0 ≤ (v : Int) ∧ (v : Int) < s.at_.length ∧ (v : Int) ≠ wk then stealV s wk (v : Int).toNat else s) = _
                        rw [if_pos (by rw [HV.out.la]; omega)]
                        rfl)
                      obtain ⟨Bq, n6, cq, hrq⟩ := HY2.out.deque hvk
                      have d6 := HY2.out.hd.cell 6 _ rfl
                      have hqc : (s.qs[v]?).getD [] = [] ∨ ∃ x r, (s.qs[v]?).getD [] = x :: r := by
                        cases (s.qs[v]?).getD [] with
                        | nil => exact .inl rfl
                        | cons x r => exact .inr ⟨x, r, rfl⟩
                      clear g1 g2 g3
                      rcases hqc with hqn | ⟨x, r, hqx⟩
                      · have HACT := Lib.hid (show actV T s wk (v : Int) = s by rw [HAV.out]; unfold stealV; rw [hqn])
                        rw [hqn, List.length_nil] at cq
                        clear hrq hqn
                        go_quiet (fail)
                        have HYT := Lib.hid (HY2.out.below (below_drewN (Below.refl _ W2) ‹Nat›))
                        have HXT := Lib.hid (HX2.out.below (below_drewN (Below.refl _ W2) ‹Nat›))
                        have HBT := Lib.hid (below_drewN HB2.out ‹Nat›)
                        have BXT := Lib.hid (HBX2.out.drewN ‹Nat›)
                        generalize W2.drewN ‹Nat› = WT at *
                        clear HY2 HX2 HB2 HBX2 x0 x1 e1 e2 e3 cq d6

                        have x0 := BXT.out.cell 0 _ rfl
                        go_wp2_with fail
                        refine (HCAL.out od col WT _ HYT.out (by rw [← HACT.out]; exact act_at HV.out hwk (v : Int))).mono ?_
                        rintro e w9 ⟨rfl, hy9, hb9⟩
                        have HY9 : Hid (∃ od col, Vr (X + 1) w9 y col T q A ca Q D kk c lb wb (.slice Ak n' cap) od (runV T q (ps.take (j + 1)))) := Lib.hid ⟨od, col, by rw [HTK.out, HPV.out, HACT.out]; exact hy9⟩
                        have hXn : ¬ Yc col X := fun h => by have := HYT.out.ge X h; omega
                        have HX9 := Lib.hid (HXT.out.but hb9 hXn)
                        have HB9 := Lib.hid (HBT.out.trans (hb9.below HBT.out.size (fun b hb => by have h1 := HYT.out.ge b hb; have h2 := HXW.out; omega)))
                        clear hy9 hb9 hXn x0
                        go_wp2_with fail
                        go_roundw
                        case rel => exact ⟨j + 1, by omega, by go_num, HY9, HX9, HB9⟩
                        case measure => simp [intOf]; omega

                      · have HSL := Lib.hid (show actV T s wk (v : Int) = ⟨s.at_.set wk (some x), s.qs.set v r, s.dn, s.out⟩ by rw [HAV.out]; unfold stealV; rw [hqx])
                        rw [hqx] at cq hrq
                        obtain ⟨bq, oq, hBq, hbq, _, hxq⟩ := RdL.one (f := fun p => .string (txtP p)) hrq (q := 0) (by simp)
                        subst hBq
                        rw [Nat.add_zero, List.getElem_cons_zero] at hxq
                        obtain ⟨lr, hlr⟩ : ∃ lr, lr = r.length := ⟨_, rfl⟩
                        have hlq : (x :: r).length = lr + 1 := by simp [hlr]
                        have HRQ := Lib.hid hrq
                        obtain ⟨A9, c9, e0, hle, hcm, hby⟩ := hrq.form
                        injection e0 with ea _ ec
                        subst ea ec
                        rw [hlq] at cq hle hby
                        have HLR := Lib.hid hlr
                        have hq4 : bq ≠ Q := fun e => by have := hbq.2; rw [e, HY2.out.cQ] at this; cases this
                        have hqA : bq ≠ A := fun e => by have := hbq.2; rw [e, HY2.out.cA] at this; cases this
                        clear hlr hlq hrq hqx
                        have e4 : decide ((0 : Int) < (lr : Int) + 1) = true := decide_eq_true (by omega)
                        go_quiet (fail)
                        have bl3 := below_drewN (Below.refl W2.heap.size W2) ‹Nat›
                        have HY3 := Lib.hid (HY2.out.below bl3)
                        have HX3 := Lib.hid (HX2.out.below bl3)
                        have HB3 := Lib.hid (HB2.out.trans (bl3.mono HB2.out.size))
                        have HBX3 := Lib.hid (HBX2.out.below bl3)
                        have cq := (But.of_below (T := Nowhere) bl3).cell (p := ⟨Q, v, none⟩) (fun h => h) cq
                        have hxq := (But.of_below (T := Nowhere) bl3).cell (p := ⟨bq, oq, none⟩) (fun h => h) hxq
                        have HRQ3 := Lib.hid (HRQ.out.go Flat.keeps bl3 (fun b hb => hb.1) (Sub.refl _))
                        have HBQ : Hid (bq < W2.heap.size ∧ col bq = 4) := Lib.hid hbq
                        have HSZ3 := Lib.hid bl3.size
                        clear x0 x1 e1 e2 e3 e4 d6 HY2 HX2 HB2 HBX2 HRQ bl3 hbq
                        generalize W2.drewN ‹Nat› = W3 at *
                        have x0 := HBX3.out.cell 0 _ rfl
                        have x1 := HBX3.out.cell 1 _ rfl
                        have d5 := HY3.out.hd.cell 5 _ rfl
                        have d6 := HY3.out.hd.cell 6 _ rfl
                        have hlr1 : (0 : Int) < (lr : Int) + 1 := by omega
                        go_wp2_with fail
                        refine wp_region_pre 16 (S := (fun wx => wx.cell? ⟨y, 5, none⟩ = some (.slice (some ⟨A, 0, none⟩) q ca) ∧ wx.cell? ⟨y, 6, none⟩ = some (.slice (some ⟨Q, 0, none⟩) q q) ∧ wx.cell? ⟨bx, 0, none⟩ = some (.int .i64 (wk : Int)) ∧ wx.cell? ⟨bx, 1, none⟩ = some (.int .i64 (v : Int)) ∧ wx.cell? ⟨Q, v, none⟩ = some (.slice (some ⟨bq, oq, none⟩) (lr + 1) n6) ∧ wx.cell? ⟨bq, oq, none⟩ = some (.string (txtP x)))) (by kernel_rfl) (by kernel_rfl) ⟨d5, d6, x0, x1, cq, hxq⟩ (fun hHeld => ?_)
                        simp only [List.take_succ_cons, List.take_zero]
                        refine wpAnyH_take_at (i := 0) (v := ?_) (some 131) rfl rfl (by kernel_rfl) (by kernel_rfl) (by kernel_rfl) (fun _ _ _ h => h) (Or.inl ⟨by rfl, ?_⟩) (by assumption) ?_
                        rotate_left
                        · (intro w hSw; (try dsimp only at hSw); go_simp; (try with_reducible rfl))
                        (try simp only [Act.put, List.setIfInBounds_toArray, List.set_cons_zero, List.set_cons_succ])
                        refine wpAnyH_take_at (i := 1) (v := ?_) (some 132) rfl rfl (by kernel_rfl) (by kernel_rfl) (by kernel_rfl) (fun _ _ _ h => h) (Or.inl ⟨by rfl, ?_⟩) (by assumption) ?_
                        rotate_left
                        · (intro w hSw; (try dsimp only at hSw); go_simp; (try with_reducible rfl))
                        (try simp only [Act.put, List.setIfInBounds_toArray, List.set_cons_zero, List.set_cons_succ])
                        refine wpAnyH_take_at (i := 2) (v := ?_) (some 133) rfl rfl (by kernel_rfl) (by kernel_rfl) (by kernel_rfl) (fun _ _ _ h => h) (Or.inl ⟨by rfl, ?_⟩) (by assumption) ?_
                        rotate_left
                        · (intro w hSw; (try dsimp only at hSw); go_simp; (try with_reducible rfl))
                        (try simp only [Act.put, List.setIfInBounds_toArray, List.set_cons_zero, List.set_cons_succ])
                        refine wpAnyH_take_at (i := 3) (v := ?_) (some 134) rfl rfl (by kernel_rfl) (by kernel_rfl) (by kernel_rfl) (fun _ _ _ h => h) (Or.inl ⟨by rfl, ?_⟩) (by assumption) ?_
                        rotate_left
                        · (intro w hSw; (try dsimp only at hSw); go_simp; (try with_reducible rfl))
                        (try simp only [Act.put, List.setIfInBounds_toArray, List.set_cons_zero, List.set_cons_succ])
                        refine wpAnyH_take_at (i := 4) (v := ?_) (some 135) rfl rfl (by kernel_rfl) (by kernel_rfl) (by kernel_rfl) (fun _ _ _ h => h) (Or.inl ⟨by rfl, ?_⟩) (by assumption) ?_
                        rotate_left
                        · (intro w hSw; (try dsimp only at hSw); go_simp; (try with_reducible rfl))
                        (try simp only [Act.put, List.setIfInBounds_toArray, List.set_cons_zero, List.set_cons_succ])
                        refine wpAnyH_take_at (i := 5) (v := ?_) (some 136) rfl rfl (by kernel_rfl) (by kernel_rfl) (by kernel_rfl) (fun _ _ _ h => h) (Or.inl ⟨by rfl, ?_⟩) (by assumption) ?_
                        rotate_left
                        · (intro w hSw; (try dsimp only at hSw); go_simp; (try with_reducible rfl))
                        (try simp only [Act.put, List.setIfInBounds_toArray, List.set_cons_zero, List.set_cons_succ])
                        refine wpAnyH_take_at (i := 6) (v := ?_) (some 137) rfl rfl (by kernel_rfl) (by kernel_rfl) (by kernel_rfl) (fun _ _ _ h => h) (Or.inl ⟨by rfl, ?_⟩) (by assumption) ?_
                        rotate_left
                        · (intro w hSw; (try dsimp only at hSw); go_simp; (try with_reducible rfl))
                        (try simp only [Act.put, List.setIfInBounds_toArray, List.set_cons_zero, List.set_cons_succ])
                        refine wpAnyH_take_at (i := 7) (v := ?_) (some 138) rfl rfl (by kernel_rfl) (by kernel_rfl) (by kernel_rfl) (fun _ _ _ h => h) (Or.inl ⟨by rfl, ?_⟩) (by assumption) ?_
                        rotate_left
                        · (intro w hSw; (try dsimp only at hSw); go_simp; (try with_reducible rfl))
                        (try simp only [Act.put, List.setIfInBounds_toArray, List.set_cons_zero, List.set_cons_succ])
                        refine wpAnyH_take_at (i := 8) (v := ?_) (some 139) rfl rfl (by kernel_rfl) (by kernel_rfl) (by kernel_rfl) (fun _ _ _ h => h) (Or.inl ⟨by rfl, ?_⟩) (by assumption) ?_
                        rotate_left
                        · (intro w hSw; (try dsimp only at hSw); go_simp; (try with_reducible rfl))
                        (try simp only [Act.put, List.setIfInBounds_toArray, List.set_cons_zero, List.set_cons_succ])
                        refine wpAnyH_take_at (i := 9) (v := ?_) (some 140) rfl rfl (by kernel_rfl) (by kernel_rfl) (by kernel_rfl) (fun _ _ _ h => h) (Or.inl ⟨by rfl, ?_⟩) (by assumption) ?_
                        rotate_left
                        · (intro w hSw; (try dsimp only at hSw); go_simp; (try with_reducible rfl))
                        (try simp only [Act.put, List.setIfInBounds_toArray, List.set_cons_zero, List.set_cons_succ])
                        refine wpAnyH_take_at (i := 10) (v := ?_) (some 141) rfl rfl (by kernel_rfl) (by kernel_rfl) (by kernel_rfl) (fun _ _ _ h => h) (Or.inl ⟨by rfl, ?_⟩) (by assumption) ?_
                        rotate_left
                        · (intro w hSw; (try dsimp only at hSw); go_simp; (try with_reducible rfl))
                        (try simp only [Act.put, List.setIfInBounds_toArray, List.set_cons_zero, List.set_cons_succ])
                        refine wpAnyH_take_at (i := 11) (v := ?_) (some 142) rfl rfl (by kernel_rfl) (by kernel_rfl) (by kernel_rfl) (fun _ _ _ h => h) (Or.inl ⟨by rfl, ?_⟩) (by assumption) ?_
                        rotate_left
                        · (intro w hSw; (try dsimp only at hSw); go_simp; (try with_reducible rfl))
                        (try simp only [Act.put, List.setIfInBounds_toArray, List.set_cons_zero, List.set_cons_succ])
                        refine wpAnyH_take_at (i := 12) (v := ?_) (some 143) rfl rfl (by kernel_rfl) (by kernel_rfl) (by kernel_rfl) (fun _ _ _ h => h) (Or.inl ⟨by rfl, ?_⟩) (by assumption) ?_
                        rotate_left
                        · (intro w hSw; (try dsimp only at hSw); go_simp; (try with_reducible rfl))
                        (try simp only [Act.put, List.setIfInBounds_toArray, List.set_cons_zero, List.set_cons_succ])
                        refine wpAnyH_take_at (i := 13) (v := ?_) (some 144) rfl rfl (by kernel_rfl) (by kernel_rfl) (by kernel_rfl) (fun _ _ _ h => h) (Or.inl ⟨by rfl, ?_⟩) (by assumption) ?_
                        rotate_left
                        · (intro w hSw; (try dsimp only at hSw); go_simp; (try with_reducible rfl))
                        (try simp only [Act.put, List.setIfInBounds_toArray, List.set_cons_zero, List.set_cons_succ])
                        refine wpAnyH_take_at (i := 14) (v := ?_) (some 145) rfl rfl (by kernel_rfl) (by kernel_rfl) (by kernel_rfl) (fun _ _ _ h => h) (Or.inl ⟨by rfl, ?_⟩) (by assumption) ?_
                        rotate_left
                        · (intro w hSw; (try dsimp only at hSw); go_simp; (try with_reducible rfl))
                        (try simp only [Act.put, List.setIfInBounds_toArray, List.set_cons_zero, List.set_cons_succ])
                        refine wpAnyH_take_at (i := 15) (v := ?_) (some 146) rfl rfl (by kernel_rfl) (by kernel_rfl) (by kernel_rfl) (fun _ _ _ h => h) (Or.inl ⟨by rfl, ?_⟩) (by assumption) ?_
                        rotate_left
                        · (intro w hSw; (try dsimp only at hSw); go_simp; (try with_reducible rfl))
                        (try simp only [Act.put, List.setIfInBounds_toArray, List.set_cons_zero, List.set_cons_succ])
                        refine wpAnyH_done (by kernel_rfl) ?_ _
                        unfold QPre
                        simp only [List.drop_succ_cons, List.drop_zero]
                        have cw := (HY3.out.below (Below.refl _ _).drew).worker hwk
                        have fw := (HY3.out.below (Below.refl _ _).drew).at_.fr wk
                        generalize txtA (((_ : List (Option Pt))[wk]?).getD none) = v0 at cw
                        have HY4 := Lib.hid (show Vr (X + 1) ((W3.setCell ⟨A, wk, none⟩ (.string (txtP x))).drew) y col T q A ca Q D kk c lb wb (.slice Ak n' cap) od _ from ((HY3.out.below (Below.refl _ _).drew).move hwk (some x)))
                        have hb4 : But (Yc col) W3 ((W3.setCell ⟨A, wk, none⟩ (.string (txtP x))).drew) := (But.refl _ _).drew.setCell (p := ⟨A, wk, none⟩) (show Yc col A by unfold Yc; rw [HY3.out.cA]; decide) _
                        have n4 : ∀ b, col b = 4 → ¬ Yc col b := fun b h1 h2 => h2 h1
                        have HBX4 := Lib.hid (HBX3.out.but hb4 (n4 _ HC4.out))
                        have HX4 := Lib.hid (HX3.out.but hb4 (HXC.out _ _ _ _ HY3.out))
                        have HB4 := Lib.hid (HB3.out.trans (hb4.below HB3.out.size (fun b hb => by have h1 := HY3.out.ge b hb; have h2 := HXW.out; omega)))
                        have hb4q : (((W3.setCell ⟨A, wk, none⟩ (.string (txtP x))).drew)).cell? ⟨Q, v, none⟩ = some (.slice (some ⟨bq, oq, none⟩) (lr + 1) n6) := by
                          rw [World.cell?_drew, World.cell?_setCell_other _ _ _ _ (fun e => by injection e with e; have h1 := HY3.out.cA; rw [e, HY3.out.cQ] at h1; cases h1)]
                          exact cq
                        have HRQ4 := Lib.hid (HRQ3.out.keep Flat.keeps (S' := Old ((W3.setCell ⟨A, wk, none⟩ (.string (txtP x))).drew) col) (fun b hb => ⟨(show b < (W3.setCell ⟨A, wk, none⟩ (.string (txtP x))).heap.size from by rw [size_setCell]; exact Nat.lt_of_lt_of_le hb.1 HSZ3.out), hb.2⟩) (hb4.same (fun b hb => Nat.lt_of_lt_of_le hb.1 HSZ3.out) (fun b hb ht => ht hb.2)))
                        clear hHeld x0 x1 d5 d6 cq hxq hb4 n4
                        go_upto_region 21 with (fail)
                        clear cw fw
                        have cq4 := hb4q
                        generalize ((W3.setCell ⟨A, wk, none⟩ (.string (txtP x))).drew) = W4 at *
                        rw [show (x :: r).length = lr + 1 by rw [HLR.out]; rfl] at HRQ4
                        have x1 := HBX4.out.cell 1 _ rfl
                        have d6 := HY4.out.hd.cell 6 _ rfl
                        have fq := HY4.out.qfr v
                        have hlr0 : (1 : Int) ≤ (lr : Int) + 1 := by omega
                        go_wp2_with fail
                        obtain ⟨B2, hB2⟩ : ∃ B2, (if n6 = 1 then (some ⟨bq, oq, none⟩ : Option Addr) else some ⟨bq, oq + 1, none⟩) = B2 := ⟨_, rfl⟩
                        have HRD : Hid (RdP W4 (Old W4 col) r (.slice B2 lr (n6 - 1))) := Lib.hid (by
                          have h0 := HRQ4.out.drop (k := 1) (by simp)
                          rw [List.drop_succ_cons, List.drop_zero, Nat.add_sub_cancel] at h0
                          by_cases h6 : n6 = 1
                          · have hl0 : lr = 0 := by omega
                            have hr0 : r = [] := List.eq_nil_of_length_eq_zero (by rw [← HLR.out]; exact hl0)
                            rw [hr0, hl0, h6]
                            exact RdL.nil (by simp [maxLen])
                          · rw [if_neg h6] at hB2
                            subst hB2
                            exact h0)
                        refine wp_region_pre 15 (S := (fun wx => wx.cell? ⟨y, 6, none⟩ = some (.slice (some ⟨Q, 0, none⟩) q q) ∧ wx.cell? ⟨bx, 1, none⟩ = some (.int .i64 (v : Int)) ∧ wx.cell? ⟨Q, v, none⟩ = some (.slice (some ⟨bq, oq, none⟩) (lr + 1) n6))) (by kernel_rfl) (by kernel_rfl) ⟨d6, x1, cq4⟩ (fun hHeld => ?_)
                        simp only [List.take_succ_cons, List.take_zero]
                        refine wpAnyH_take_at (i := 0) (v := ?_) (some 148) rfl rfl (by kernel_rfl) (by kernel_rfl) (by kernel_rfl) (fun _ _ _ h => h) (Or.inl ⟨by rfl, ?_⟩) (by assumption) ?_
                        rotate_left
                        · (intro w hSw; (try dsimp only at hSw); go_simp; (try with_reducible rfl))
                        (try simp only [Act.put, List.setIfInBounds_toArray, List.set_cons_zero, List.set_cons_succ])
                        refine wpAnyH_take_at (i := 1) (v := ?_) (some 149) rfl rfl (by kernel_rfl) (by kernel_rfl) (by kernel_rfl) (fun _ _ _ h => h) (Or.inl ⟨by rfl, ?_⟩) (by assumption) ?_
                        rotate_left
                        · (intro w hSw; (try dsimp only at hSw); go_simp; (try with_reducible rfl))
                        (try simp only [Act.put, List.setIfInBounds_toArray, List.set_cons_zero, List.set_cons_succ])
                        refine wpAnyH_take_at (i := 2) (v := ?_) (some 150) rfl rfl (by kernel_rfl) (by kernel_rfl) (by kernel_rfl) (fun _ _ _ h => h) (Or.inl ⟨by rfl, ?_⟩) (by assumption) ?_
                        rotate_left
                        · (intro w hSw; (try dsimp only at hSw); go_simp; (try with_reducible rfl))
                        (try simp only [Act.put, List.setIfInBounds_toArray, List.set_cons_zero, List.set_cons_succ])
                        refine wpAnyH_take_at (i := 3) (v := ?_) (some 151) rfl rfl (by kernel_rfl) (by kernel_rfl) (by kernel_rfl) (fun _ _ _ h => h) (Or.inl ⟨by rfl, ?_⟩) (by assumption) ?_
                        rotate_left
                        · (intro w hSw; (try dsimp only at hSw); go_simp; (try with_reducible rfl))
                        (try simp only [Act.put, List.setIfInBounds_toArray, List.set_cons_zero, List.set_cons_succ])
                        refine wpAnyH_take_at (i := 4) (v := ?_) (some 152) rfl rfl (by kernel_rfl) (by kernel_rfl) (by kernel_rfl) (fun _ _ _ h => h) (Or.inl ⟨by rfl, ?_⟩) (by assumption) ?_
                        rotate_left
                        · (intro w hSw; (try dsimp only at hSw); go_simp; (try with_reducible rfl))
                        (try simp only [Act.put, List.setIfInBounds_toArray, List.set_cons_zero, List.set_cons_succ])
                        refine wpAnyH_take_at (i := 5) (v := ?_) (some 153) rfl rfl (by kernel_rfl) (by kernel_rfl) (by kernel_rfl) (fun _ _ _ h => h) (Or.inl ⟨by rfl, ?_⟩) (by assumption) ?_
                        rotate_left
                        · (intro w hSw; (try dsimp only at hSw); go_simp; (try with_reducible rfl))
                        (try simp only [Act.put, List.setIfInBounds_toArray, List.set_cons_zero, List.set_cons_succ])
                        refine wpAnyH_take_at (i := 6) (v := ?_) (some 154) rfl rfl (by kernel_rfl) (by kernel_rfl) (by kernel_rfl) (fun _ _ _ h => h) (Or.inl ⟨by rfl, ?_⟩) (by assumption) ?_
                        rotate_left
                        · (intro w hSw; (try dsimp only at hSw); go_simp; (try with_reducible rfl))
                        (try simp only [Act.put, List.setIfInBounds_toArray, List.set_cons_zero, List.set_cons_succ])
                        refine wpAnyH_take_at (i := 7) (v := ?_) (some 155) rfl rfl (by kernel_rfl) (by kernel_rfl) (by kernel_rfl) (fun _ _ _ h => h) (Or.inl ⟨by rfl, ?_⟩) (by assumption) ?_
                        rotate_left
                        · (intro w hSw; (try dsimp only at hSw); go_simp; (try with_reducible rfl))
                        (try simp only [Act.put, List.setIfInBounds_toArray, List.set_cons_zero, List.set_cons_succ])
                        refine wpAnyH_take_at (i := 8) (v := ?_) (some 156) rfl rfl (by kernel_rfl) (by kernel_rfl) (by kernel_rfl) (fun _ _ _ h => h) (Or.inl ⟨by rfl, ?_⟩) (by assumption) ?_
                        rotate_left
                        · (intro w hSw; (try dsimp only at hSw); go_simp; (try with_reducible rfl))
                        (try simp only [Act.put, List.setIfInBounds_toArray, List.set_cons_zero, List.set_cons_succ])
                        refine wpAnyH_take_at (i := 9) (v := ?_) (some 157) rfl rfl (by kernel_rfl) (by kernel_rfl) (by kernel_rfl) (fun _ _ _ h => h) (Or.inl ⟨by rfl, ?_⟩) (by assumption) ?_
                        rotate_left
                        · (intro w hSw; (try dsimp only at hSw); go_simp; (try with_reducible rfl))
                        (try simp only [Act.put, List.setIfInBounds_toArray, List.set_cons_zero, List.set_cons_succ])
                        refine wpAnyH_take_at (i := 10) (v := ?_) (some 158) rfl rfl (by kernel_rfl) (by kernel_rfl) (by kernel_rfl) (fun _ _ _ h => h) (Or.inl ⟨by rfl, ?_⟩) (by assumption) ?_
                        rotate_left
                        · (intro w hSw; (try dsimp only at hSw); go_simp; (try with_reducible rfl))
                        (try simp only [Act.put, List.setIfInBounds_toArray, List.set_cons_zero, List.set_cons_succ])
                        refine wpAnyH_take_at (i := 11) (v := ?_) (some 159) rfl rfl (by kernel_rfl) (by kernel_rfl) (by kernel_rfl) (fun _ _ _ h => h) (Or.inl ⟨by rfl, ?_⟩) (by assumption) ?_
                        rotate_left
                        · (intro w hSw; (try dsimp only at hSw); go_simp; (try with_reducible rfl))
                        (try simp only [Act.put, List.setIfInBounds_toArray, List.set_cons_zero, List.set_cons_succ])
                        refine wpAnyH_take_at (i := 12) (v := ?_) (some 160) rfl rfl (by kernel_rfl) (by kernel_rfl) (by kernel_rfl) (fun _ _ _ h => h) (Or.inl ⟨by rfl, ?_⟩) (by assumption) ?_
                        rotate_left
                        · (intro w hSw; (try dsimp only at hSw); go_simp; (try with_reducible rfl))
                        (try simp only [Act.put, List.setIfInBounds_toArray, List.set_cons_zero, List.set_cons_succ])
                        refine wpAnyH_take_at (i := 13) (v := ?_) (some 161) rfl rfl (by kernel_rfl) (by kernel_rfl) (by kernel_rfl) (fun _ _ _ h => h) (Or.inl ⟨by rfl, ?_⟩) (by assumption) ?_
                        rotate_left
                        · (intro w hSw; (try dsimp only at hSw); go_simp; (try with_reducible rfl))
                        (try simp only [Act.put, List.setIfInBounds_toArray, List.set_cons_zero, List.set_cons_succ])
                        refine wpAnyH_take_at (i := 14) (v := ?_) (some 162) rfl rfl (by kernel_rfl) (by kernel_rfl) (by kernel_rfl) (fun _ _ _ h => h) (Or.inl ⟨by rfl, ?_⟩) (by assumption) ?_
                        rotate_left
                        · (intro w hSw; (try dsimp only at hSw); go_simp; (try with_reducible rfl))
                        (try simp only [Act.put, List.setIfInBounds_toArray, List.set_cons_zero, List.set_cons_succ])
                        refine wpAnyH_done (by kernel_rfl) ?_ _
                        unfold QPre
                        simp only [List.drop_succ_cons, List.drop_zero]
                        clear hHeld hB2 x1 d6
                        have HY5 := Lib.hid ((HY4.out.below (Below.refl _ _).drew).queue hvk (v := .slice B2 lr (n6 - 1)) HRD.out)
                        have HYT := Lib.hid (show Vr (X + 1) ((W4.setCell ⟨Q, v, none⟩ (.slice B2 lr (n6 - 1))).drew) y col T q A ca Q D kk c lb wb (.slice Ak n' cap) od ⟨s.at_.set wk (some x), s.qs.set v r, s.dn, s.out⟩ from HY5.out)
                        have hb5 : But (Yc col) W4 ((W4.setCell ⟨Q, v, none⟩ (.slice B2 lr (n6 - 1))).drew) := (But.refl _ _).drew.setCell (p := ⟨Q, v, none⟩) (show Yc col Q by unfold Yc; rw [HY4.out.cQ]; decide) _
                        have BXT := Lib.hid (HBX4.out.but hb5 (fun h => h HC4.out))
                        have HXT := Lib.hid (HX4.out.but hb5 (HXC.out _ _ _ _ HY4.out))
                        have HBT := Lib.hid (HB4.out.trans (hb5.below HB4.out.size (fun b hb => by have h1 := HY4.out.ge b hb; have h2 := HXW.out; omega)))
                        have HACT := HSL
                        clear hb5 HY5
                        go_upto_region 22 with (fail)
                        clear cq4 fq
                        generalize ((W4.setCell ⟨Q, v, none⟩ (.slice B2 lr (n6 - 1))).drew) = WT at *
                        have x0 := BXT.out.cell 0 _ rfl
                        go_wp2_with fail
                        refine (HCAL.out od col WT _ HYT.out (by rw [← HACT.out]; exact act_at HV.out hwk (v : Int))).mono ?_
                        rintro e w9 ⟨rfl, hy9, hb9⟩
                        have HY9 : Hid (∃ od col, Vr (X + 1) w9 y col T q A ca Q D kk c lb wb (.slice Ak n' cap) od (runV T q (ps.take (j + 1)))) := Lib.hid ⟨od, col, by rw [HTK.out, HPV.out, HACT.out]; exact hy9⟩
                        have hXn : ¬ Yc col X := fun h => by have := HYT.out.ge X h; omega
                        have HX9 := Lib.hid (HXT.out.but hb9 hXn)
                        have HB9 := Lib.hid (HBT.out.trans (hb9.below HBT.out.size (fun b hb => by have h1 := HYT.out.ge b hb; have h2 := HXW.out; omega)))
                        clear hy9 hb9 hXn x0
                        go_wp2_with fail
                        go_roundw
                        case rel => exact ⟨j + 1, by omega, by go_num, HY9, HX9, HB9⟩
                        case measure => simp [intOf]; omega
            · have HPV : Hid (pickV T s pw pm = s) := Lib.hid (by
                unfold pickV
                rw [if_neg (by rw [HV.out.la]; exact hwr)])
              by_cases g1 : pw < 0
              · have e1 : decide (pw < 0) = true := decide_eq_true g1
                clear g1 hwr
                go_wp2_with fail
                have HY9 : Hid (∃ od col, Vr (X + 1) W1 y col T q A ca Q D kk c lb wb (.slice Ak n' cap) od (runV T q (ps.take (j + 1)))) := Lib.hid ⟨od, col, by rw [HTK.out, HPV.out]; exact HY1.out⟩
                go_roundw
                case rel => exact ⟨j + 1, by omega, by go_num, HY9, HX1, HBL1⟩
                case measure => simp [intOf]; omega
              · have e1 : decide (pw < 0) = false := decide_eq_false g1
                have e2 : decide ((q : Int) ≤ pw) = true := decide_eq_true (by omega)
                clear g1 hwr
                go_wp2_with fail
                have HY9 : Hid (∃ od col, Vr (X + 1) W1 y col T q A ca Q D kk c lb wb (.slice Ak n' cap) od (runV T q (ps.take (j + 1)))) := Lib.hid ⟨od, col, by rw [HTK.out, HPV.out]; exact HY1.out⟩
                go_roundw
                case rel => exact ⟨j + 1, by omega, by go_num, HY9, HX1, HBL1⟩
                case measure => simp [intOf]; omega
          · have hjp : j = ps.length := by omega
            subst hjp
            obtain ⟨od, col, hY⟩ := HYJ.out
            rw [List.take_length] at hY
            obtain ⟨Ao, co, hod⟩ := hY.dn.form
            subst hod
            have hnb : ¬ badW (q : Int) := by unfold badW; omega
            have HOUT : Hid (outR T (q : Int) ps = (runV T q ps).out) := Lib.hid (by unfold outR; rw [if_neg hnb]; rfl)
            have HLEFT : Hid (leftR T (q : Int) ps = (T.count : Int) - ((runV T q ps).out.length : Int)) := Lib.hid (by unfold leftR; rw [if_neg hnb, HOUT.out])
            have HERR : Hid (errR (q : Int) = 0) := Lib.hid (by unfold errR; rw [if_neg hnb])
            have hol := run_out T q ps
            have htc : T.count ≤ 1048576 := Nat.le_trans (count_nodes T) HNT.out
            have c8 := hY.hd.cell 8 _ rfl
            have hyl := hY.hd.lt
            have HY := Lib.hid hY
            generalize hln : (runV T q ps).out.length = n9 at c8 hol
            have HFIN : Hid (∀ w4, Below wr.heap.size wr w4 → RunA T (q : Int) ps w (.returned (.tuple #[.slice Ao n9 co, .int .i64 ((T.count : Int) - (n9 : Int)), .int .i64 0])) w4) := Lib.hid (fun w4 hb4 => by
              have hd := (HY.out.below hb4).dn.toRd (bytes := 16) (S' := Plus Nowhere w.heap.size w4.heap.size) Flat.keeps (by rw [hln]; omega) (Sub.nowhere _) (fun b h1 h2 => .inr ⟨by have := HXW.out; omega, h2⟩)
              unfold RunA
              rw [HOUT.out, HLEFT.out, HERR.out, hln]
              rw [hln] at hd
              exact ⟨Ao, co, rfl, hd, HBJ.out.trans (hb4.mono HBJ.out.size)⟩)
            have HDL := Lib.hid (dls_all T wr.drew S _ (HS.out.trans (Sub.upto HBJ.out.size)) ((RT.out.go HBJ.out HS.out).keep (Sub.refl _) (Same.refl _ _)) htc)
            have t0 := HXJ.out.cell 0 _ rfl; have t1 := HXJ.out.cell 1 _ rfl; have t2 := HXJ.out.cell 2 _ rfl; have t3 := HXJ.out.cell 3 _ rfl; have t4 := HXJ.out.cell 4 _ rfl
            have hXl := HXJ.out.lt
            obtain ⟨tc, htc2⟩ : ∃ tc, tc = T.leaves.length := ⟨_, rfl⟩
            have htc3 : T.count = tc := htc2.symm
            rw [htc3] at HFIN htc
            have hwr9 : IntKind.i64.wrap ((tc : Int) - (n9 : Int)) = (tc : Int) - (n9 : Int) := IntWalk.i64_in _ (by omega)
            have HTC := Lib.hid htc2
            clear hY HYJ hln hnb htc2 htc3
            go_upto_region 24 with (fail)
            refine wp_region_pre 14 (S := (fun w' => Stay wr w')) (by kernel_rfl) (by kernel_rfl) (Stay.mk (Kept.start _)) (fun hHeld => ?_)
            simp only [List.take_succ_cons, List.take_zero]
            refine wpAnyH_take_at (i := 0) (v := ?_) (some 169) rfl rfl (by kernel_rfl) (by kernel_rfl) (by kernel_rfl) (fun _ _ _ h => h) (Or.inl ⟨by rfl, ?_⟩) (by assumption) ?_
            rotate_left
            · (intro w hSw; (try dsimp only at hSw); go_simp; (try with_reducible rfl))
            (try simp only [Act.put, List.setIfInBounds_toArray, List.set_cons_zero, List.set_cons_succ])
            refine wpAnyH_take_at (i := 1) (v := ?_) (some 170) rfl rfl (by kernel_rfl) (by kernel_rfl) (by kernel_rfl) (fun _ _ _ h => h) (Or.inl ⟨by rfl, ?_⟩) (by assumption) ?_
            rotate_left
            · (intro w hSw; (try dsimp only at hSw); go_simp; (try with_reducible rfl))
            (try simp only [Act.put, List.setIfInBounds_toArray, List.set_cons_zero, List.set_cons_succ])
            refine wpAnyH_take_at (i := 2) (v := ?_) (some 171) rfl rfl (by kernel_rfl) (by kernel_rfl) (by kernel_rfl) (fun _ _ _ h => h) (Or.inl ⟨by rfl, ?_⟩) (by assumption) ?_
            rotate_left
            · (intro w hSw; (try dsimp only at hSw); go_simp; (try with_reducible rfl))
            (try simp only [Act.put, List.setIfInBounds_toArray, List.set_cons_zero, List.set_cons_succ])
            refine wpAnyH_take_at (i := 3) (v := ?_) (some 172) rfl rfl (by kernel_rfl) (by kernel_rfl) (by kernel_rfl) (fun _ _ _ h => h) (Or.inl ⟨by rfl, ?_⟩) (by assumption) ?_
            rotate_left
            · (intro w hSw; (try dsimp only at hSw); go_simp; (try with_reducible rfl))
            (try simp only [Act.put, List.setIfInBounds_toArray, List.set_cons_zero, List.set_cons_succ])
            refine wpAnyH_take_at (i := 4) (v := ?_) (some 173) rfl rfl (by kernel_rfl) (by kernel_rfl) (by kernel_rfl) (fun _ _ _ h => h) (Or.inl ⟨by rfl, ?_⟩) (by assumption) ?_
            rotate_left
            · (intro w hSw; (try dsimp only at hSw); go_simp; (try with_reducible rfl))
            (try simp only [Act.put, List.setIfInBounds_toArray, List.set_cons_zero, List.set_cons_succ])
            refine wpAnyH_take_at (i := 7) (v := ?_) (some 176) rfl rfl (by kernel_rfl) (by kernel_rfl) (by kernel_rfl) (fun _ _ _ h => h) (Or.inl ⟨by rfl, ?_⟩) (by assumption) ?_
            rotate_left
            · (intro w hSw; (try dsimp only at hSw); go_simp; (try with_reducible rfl))
            (try simp only [Act.put, List.setIfInBounds_toArray, List.set_cons_zero, List.set_cons_succ])
            refine wpAnyH_take_at (i := 8) (v := ?_) (some 177) rfl rfl (by kernel_rfl) (by kernel_rfl) (by kernel_rfl) (fun _ _ _ h => h) (Or.inl ⟨by rfl, ?_⟩) (by assumption) ?_
            rotate_left
            · (intro w hSw; (try dsimp only at hSw); go_simp; (try with_reducible rfl))
            (try simp only [Act.put, List.setIfInBounds_toArray, List.set_cons_zero, List.set_cons_succ])
            refine wpAnyH_take_at (i := 9) (v := ?_) (some 178) rfl rfl (by kernel_rfl) (by kernel_rfl) (by kernel_rfl) (fun _ _ _ h => h) (Or.inl ⟨by rfl, ?_⟩) (by assumption) ?_
            rotate_left
            · (intro w hSw; (try dsimp only at hSw); go_simp; (try with_reducible rfl))
            (try simp only [Act.put, List.setIfInBounds_toArray, List.set_cons_zero, List.set_cons_succ])
            refine wpAnyH_take_at (i := 10) (v := ?_) (some 179) rfl rfl (by kernel_rfl) (by kernel_rfl) (by kernel_rfl) (fun _ _ _ h => h) (Or.inl ⟨by rfl, ?_⟩) (by assumption) ?_
            rotate_left
            · (intro w hSw; (try dsimp only at hSw); go_simp; (try with_reducible rfl))
            (try simp only [Act.put, List.setIfInBounds_toArray, List.set_cons_zero, List.set_cons_succ])
            refine wpAnyH_take_at (i := 11) (v := ?_) (some 180) rfl rfl (by kernel_rfl) (by kernel_rfl) (by kernel_rfl) (fun _ _ _ h => h) (Or.inl ⟨by rfl, ?_⟩) (by assumption) ?_
            rotate_left
            · (intro w hSw; (try dsimp only at hSw); go_simp; (try with_reducible rfl))
            (try simp only [Act.put, List.setIfInBounds_toArray, List.set_cons_zero, List.set_cons_succ])
            refine wpAnyH_ready (rs := [5]) (by kernel_rfl) (by simp) ?_
            refine AllReadyH.cons rfl (fun K hK => ?_) AllReadyH.nil
            go_simp
            refine HDL.out.mono ?_
            rintro e w5 ⟨xv, rfl, hxv, hb5⟩
            obtain ⟨Ax, nx, rfl⟩ := hxv.form
            rw [← HTC.out]
            have hst5 : Stay wr w5 := Stay.step hb5 hHeld
            refine hK.out _ _ ?_ (fun hHeld => ?_)
            · exact hst5
            clear hK K
            (try simp only [Act.put, List.setIfInBounds_toArray, List.set_cons_zero, List.set_cons_succ])
            refine wpAnyH_take_at (i := 6) (v := ?_) (some 175) rfl rfl (by kernel_rfl) (by kernel_rfl) (by kernel_rfl) (fun _ _ _ h => h) (Or.inl ⟨by rfl, ?_⟩) (by assumption) ?_
            rotate_left
            · (intro w hSw; (try dsimp only at hSw); go_simp; (try with_reducible rfl))
            (try simp only [Act.put, List.setIfInBounds_toArray, List.set_cons_zero, List.set_cons_succ])
            refine wpAnyH_take_at (i := 12) (v := ?_) (some 181) rfl rfl (by kernel_rfl) (by kernel_rfl) (by kernel_rfl) (fun _ _ _ h => h) (Or.inl ⟨by rfl, ?_⟩) (by assumption) ?_
            rotate_left
            · (intro w hSw; (try dsimp only at hSw); go_simp; (try with_reducible rfl))
            (try simp only [Act.put, List.setIfInBounds_toArray, List.set_cons_zero, List.set_cons_succ])
            refine wpAnyH_take_at (i := 13) (v := ?_) (some 6) rfl rfl (by kernel_rfl) (by kernel_rfl) (by kernel_rfl) (fun _ _ _ h => h) (Or.inl ⟨by rfl, ?_⟩) (by assumption) ?_
            rotate_left
            · (intro w hSw; (try dsimp only at hSw); go_simp; (try with_reducible rfl))
            (try simp only [Act.put, List.setIfInBounds_toArray, List.set_cons_zero, List.set_cons_succ])
            refine wpAnyH_done (by kernel_rfl) ?_ _
            unfold QPre
            simp only [List.drop_succ_cons, List.drop_zero]
            go_wp2
            go_ret3
            exact HFIN.out _ (Stay.below hst5)
end Go.Proofs.Ytbpooepbnnbipaa
