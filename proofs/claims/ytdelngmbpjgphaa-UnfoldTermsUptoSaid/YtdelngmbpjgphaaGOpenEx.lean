/- Texts merged: SameT, HpEq, Un17, OpenEx. -/
import Derived.Test.YtdelngmbpjgphaaGScSpec
import Derived.BigQuiet
import Derived.Deep.RegionHeld3
import Derived.Test.YtdelngmbpjgphaaSr1
import Derived.ChangeKeysEq
import Derived.Test.YtdelngmbpjgphaaUn16
import Derived.Test.YtdelngmbpjgphaaOpen
/- Two readings of the same term are told to be the same. -/
namespace Go.Proofs.Ytdelngmbpjgphaa
open Go.RowKit
set_option linter.unusedVariables false

set_option maxHeartbeats 400000 in
theorem sameTerm_eq (m : Nat) : ∀ (e   : Tm) (w : World) (cs cs' : List Value), SizeOf.sizeOf e ≤ m → RdTm w (Upto w.heap.size) e cs → RdTm w (Upto w.heap.size) e cs' →
    Calls Try.prog 11 #[.agg cs.toArray, .agg cs'.toArray] w fun e w' => e = .returned (.bool true) ∧ Below w.heap.size w w' := by
  induction m with
  | zero => intro e w cs cs' h; cases e; simp at h
  | succ m ih =>
    intro e w cs cs' hm h1 h2
    obtain ⟨k, n, wr, lb, args⟩ := e
    obtain ⟨_, _, _, v, rfl, hv⟩ := h1.open_
    obtain ⟨_, _, _, v', rfl, hv'⟩ := h2.open_
    obtain ⟨A, cap, rfl, hl, hcm, hby⟩ := hv.form
    obtain ⟨A', cap', rfl, hl', hcm', _⟩ := hv'.form
    unfold maxLen at hcm hcm'
    clear h1 h2
    go_enter Try.func11, Try.ntmps11
    go_wp2
    go_loopw [30] (fun i wz => ∃ q : Nat, q ≤ args.length ∧ i = .int .i64 q ∧ wz.cell? ⟨w.heap.size, 4, none⟩ = some (.slice A args.length cap) ∧
       wz.cell? ⟨w.heap.size + 1, 4, none⟩ = some (.slice A' args.length cap') ∧ Below w.heap.size w wz ∧ w.heap.size + 2 ≤ wz.heap.size) (fun i _ => args.length - (intOf i).toNat)
    case atStart => exact ⟨0, by omega, rfl, by simp, by simp, ((Below.refl _ _).alloc (Nat.le_refl _) _).alloc (by simp) _, by simp⟩
    case round =>
      obtain ⟨q, hq, rfl, hb1, hb2, hbel, hsz⟩ := hrel
      by_cases hlt : q < args.length
      · obtain ⟨b, off, cs, rfl, hb, hcl, hcell, hrd⟩ := hv.at_ hlt
        have hb : b < w.heap.size := hb
        obtain ⟨b', off', cs', rfl, hb', hcl', hcell', hrd'⟩ := hv'.at_ hlt
        have hb' : b' < w.heap.size := hb'
        match cs, hcl with
        | [c0, c1, c2, c3, c4], _ =>
        match cs', hcl' with
        | [d0, d1, d2, d3, d4], _ =>
        have e0 := (hbel.cell (p := ⟨b, off + q * 5, none⟩) hb).trans (hcell 0 c0 rfl)
        have e1 := (hbel.cell (p := ⟨b, off + q * 5 + 1, none⟩) hb).trans (hcell 1 c1 rfl)
        have e2 := (hbel.cell (p := ⟨b, off + q * 5 + 2, none⟩) hb).trans (hcell 2 c2 rfl)
        have e3 := (hbel.cell (p := ⟨b, off + q * 5 + 3, none⟩) hb).trans (hcell 3 c3 rfl)
        have e4 := (hbel.cell (p := ⟨b, off + q * 5 + 4, none⟩) hb).trans (hcell 4 c4 rfl)
        have f0 := (hbel.cell (p := ⟨b', off' + q * 5, none⟩) hb').trans (hcell' 0 d0 rfl)
        have f1 := (hbel.cell (p := ⟨b', off' + q * 5 + 1, none⟩) hb').trans (hcell' 1 d1 rfl)
        have f2 := (hbel.cell (p := ⟨b', off' + q * 5 + 2, none⟩) hb').trans (hcell' 2 d2 rfl)
        have f3 := (hbel.cell (p := ⟨b', off' + q * 5 + 3, none⟩) hb').trans (hcell' 3 d3 rfl)
        have f4 := (hbel.cell (p := ⟨b', off' + q * 5 + 4, none⟩) hb').trans (hcell' 4 d4 rfl)
        have hone := one_size hlt
        simp only [Tm.mk.sizeOf_spec] at hm
        have hbd := hbel.drew
        have r1 := RdTm.keeps _ wr.drew _ (Upto wr.drew.heap.size) _ _ (Sub.upto hbd.size) (same_of_below hbd (Sub.refl _)) hrd
        have r2 := RdTm.keeps _ wr.drew _ (Upto wr.drew.heap.size) _ _ (Sub.upto hbd.size) (same_of_below hbd (Sub.refl _)) hrd'
        clear hcell hcell' hrd hrd'
        go_wp2
        go_region_held3 (fun w' => w'.cell? ⟨w.heap.size, 4, none⟩ = some (.slice (some ⟨b, off, none⟩) args.length cap) ∧ w'.cell? ⟨w.heap.size + 1, 4, none⟩ = some (.slice (some ⟨b', off', none⟩) args.length cap')
          ∧ w'.cell? ⟨b, off + q * 5, none⟩ = some c0 ∧ w'.cell? ⟨b, off + q * 5 + 1, none⟩ = some c1 ∧ w'.cell? ⟨b, off + q * 5 + 2, none⟩ = some c2 ∧ w'.cell? ⟨b, off + q * 5 + 3, none⟩ = some c3 ∧ w'.cell? ⟨b, off + q * 5 + 4, none⟩ = some c4
          ∧ w'.cell? ⟨b', off' + q * 5, none⟩ = some d0 ∧ w'.cell? ⟨b', off' + q * 5 + 1, none⟩ = some d1 ∧ w'.cell? ⟨b', off' + q * 5 + 2, none⟩ = some d2 ∧ w'.cell? ⟨b', off' + q * 5 + 3, none⟩ = some d3 ∧ w'.cell? ⟨b', off' + q * 5 + 4, none⟩ = some d4)
          (first | go_keep | (refine ⟨?_, ?_, ?_, ?_, ?_, ?_, ?_, ?_, ?_, ?_, ?_, ?_⟩ <;> first | assumption | exact (hbx.cell (by simp; omega)).trans (by assumption)))
          ((go_at_call 11; refine (ih args[q] _ [c0, c1, c2, c3, c4] [d0, d1, d2, d3, d4] (by omega) r1 r2).mono ?_; rintro e w' ⟨rfl, hbx⟩))
        have hbw := hbd.trans (hbx.mono hbd.size)
        have g1 := (hbx.cell (p := ⟨w.heap.size, 4, none⟩) (by simp; omega)).trans hb1
        have g2 := (hbx.cell (p := ⟨w.heap.size + 1, 4, none⟩) (by simp; omega)).trans hb2
        have hz := hbx.size
        simp at hz
        clear r1 r2 hbx ih
        go_wp2
        go_roundw
        case rel => exact ⟨q + 1, by omega, by go_num, g1, g2, hbw, by omega⟩
        case measure => simp [intOf]; omega
      · go_wp2
        go_ret
        exact ⟨rfl, hbel⟩

theorem sameTerm_any (e   : Tm) (w : World) (cs cs' : List Value) (h : RdTm w (Upto w.heap.size) e cs) (h' : RdTm w (Upto w.heap.size) e cs') :
    Calls Try.prog 11 #[.agg cs.toArray, .agg cs'.toArray] w fun e w' => e = .returned (.bool true) ∧ Below w.heap.size w w' :=
  sameTerm_eq _ e w cs cs' (Nat.le_refl _) h h'

end Go.Proofs.Ytdelngmbpjgphaa
/- Two heaps that hold the same are the same. -/
namespace Go.Proofs.Ytdelngmbpjgphaa
open Go.RowKit
set_option linter.unusedVariables false
theorem heap_eq' (d : Nat) (b0 b1 b2 b3 b4 b5 b6 b7 : Int) (W : World) : (Op.equalIn (d + 1 + 1) 38 (.agg #[vI b0, vI b1, vI b2, vI b3, vI b4, vI b5, vI b6, vI b7]) (.agg #[vI b0, vI b1, vI b2, vI b3, vI b4, vI b5, vI b6, vI b7])).run Try.prog W = .ok true W := by
  obtain ⟨i, hi⟩ : ∃ i, Try.prog.info? 3 = some i := Option.isSome_iff_exists.1 (show (Try.prog.info? 3).isSome = true by kernel_rfl)
  have hc : Try.prog.cellsOf 3 = 1 := by kernel_rfl
  rw [run_equalIn_array W (d + 1) _ _ Try.underlying38 hi, hc, show List.range 8 = [0, 1, 2, 3, 4, 5, 6, 7] from rfl]
  simp [Op.eqItems, part, go_sem]
theorem heap_eq (b0 b1 b2 b3 b4 b5 b6 b7 : Int) (W : World) : (Op.equalIn 10000 38 (.agg #[vI b0, vI b1, vI b2, vI b3, vI b4, vI b5, vI b6, vI b7]) (.agg #[vI b0, vI b1, vI b2, vI b3, vI b4, vI b5, vI b6, vI b7])).run Try.prog W = .ok true W := heap_eq' 9998 b0 b1 b2 b3 b4 b5 b6 b7 W
end Go.Proofs.Ytdelngmbpjgphaa
/- The walk of the law UnfoldTerms. -/
namespace Go.Proofs.Ytdelngmbpjgphaa
open Go.RowKit
set_option linter.unusedVariables false
theorem FrT.tm {X : Blocks} {w : World} {t : Tm} {k c lb : Int} {wr : Bool} {v : Value} (h : FrT X w t (tmV k c wr lb v)) : RdTm w (Upto w.heap.size) t [.int .i64 k, .int .i64 c, .bool wr, .int .i64 lb, v] := by
  obtain ⟨T, h1, h2, k', c', wr', lb', kids, v', rfl, e, i1, i2, i3, h4⟩ := h
  injection e with e
  simp only [Array.mk.injEq, List.cons.injEq, Value.int.injEq, Value.bool.injEq, true_and, and_true] at e
  obtain ⟨rfl, rfl, rfl, rfl, rfl⟩ := e
  exact RdTm.shut i1 i2 i3 (h4.sub RdTm.keeps h1)
set_option maxHeartbeats 4000000 in
set_option maxRecDepth 100000 in
theorem unfoldTerms_walk (l : List St) (f : Int) (h : List Int) (w : World) (v : Value) (r : RdSts w (Upto w.heap.size) l v) (hwt : St.wts l ≤ 1048576) (hl8 : h.length = 8) (hin : ∀ x ∈ h, inI x) :
    Calls Try.prog 4 #[v, .agg (h.map vI).toArray, vI f] w fun e w' => e = .returned (.bool true) ∧ Below w.heap.size w w' := by
  have C1 := fun (w : World) (S : Blocks) (hS : Sub S (Upto w.heap.size)) (r : RdSts w S l v) => unfold_any l f h w S v hS r hwt hl8 hin
  have C2 := fun (w : World) (S : Blocks) (hS : Sub S (Upto w.heap.size)) (r : RdSts w S l v) => nunfold_any l f h w S v hS r hwt hl8 hin
  obtain ⟨a0, a1, a2, a3, a4, a5, a6, a7, rfl⟩ := list8 hl8
  generalize hE : unfE l f [a0, a1, a2, a3, a4, a5, a6, a7] = E at *
  obtain ⟨t, hh, er⟩ := E
  have bA : Below w.heap.size w (w.alloc (.cells #[vI a0, vI a1, vI a2, vI a3, vI a4, vI a5, vI a6, vI a7] 38)) := (Below.refl _ _).alloc (Nat.le_refl _) _
  have BL := Lib.hid bA
  have H0 := Lib.hid (Blk.made w [vI a0, vI a1, vI a2, vI a3, vI a4, vI a5, vI a6, vI a7] 38 (base := 0) (Nat.zero_le _))
  have R := Lib.hid (r.go RdSt.keeps bA (Sub.refl _) (Sub.refl _))
  simp only [List.map] at C1 C2 ⊢
  have CA := Lib.hid C1
  have CB := Lib.hid C2
  clear r bA hin hl8 C1 C2 hE
  go_enter Try.func4, Try.ntmps4
  go_upto_region 1 with (fail)
  generalize w.alloc (.cells #[vI a0, vI a1, vI a2, vI a3, vI a4, vI a5, vI a6, vI a7] 38) = W0 at *
  have HSU := Lib.hid (show ∀ W, Below w.heap.size w W → Sub (Upto w.heap.size) (Upto W.heap.size) from fun W hb => Sub.upto hb.size)
  have c0 := H0.out.cell 0 _ rfl; have c1 := H0.out.cell 1 _ rfl; have c2 := H0.out.cell 2 _ rfl; have c3 := H0.out.cell 3 _ rfl; have c4 := H0.out.cell 4 _ rfl; have c5 := H0.out.cell 5 _ rfl; have c6 := H0.out.cell 6 _ rfl; have c7 := H0.out.cell 7 _ rfl
  go_wp2_with fail
  refine (CA.out W0 _ (HSU.out _ BL.out) R.out).mono ?_
  rintro e w1 ⟨⟨V, rfl, hf⟩, hl2, hin2, hb⟩
  try simp only at hl2 hf
  obtain ⟨b0, b1, b2, b3, b4, b5, b6, b7, rfl⟩ := list8 hl2
  obtain ⟨k5, ce5, wr5, lb5, A5, n5, cap5, rfl⟩ := hf.form
  have BL1 := Lib.hid (BL.out.trans (hb.mono BL.out.size))
  have H1 := Lib.hid (H0.out.below hb)
  have R1 := Lib.hid (R.out.go RdSt.keeps hb (HSU.out _ BL.out) (Sub.refl _))
  have HF1 := Lib.hid hf
  clear hb c0 c1 c2 c3 c4 c5 c6 c7 BL H0 R hf hl2 hin2
  have bT : Below w1.heap.size w1 (w1.alloc (.cells #[.int .i64 k5, .int .i64 ce5, .bool wr5, .int .i64 lb5, .slice A5 n5 cap5] 26)) := (Below.refl _ _).alloc (Nat.le_refl _) _
  have bB : Below w1.heap.size w1 (((w1.alloc (.cells #[.int .i64 k5, .int .i64 ce5, .bool wr5, .int .i64 lb5, .slice A5 n5 cap5] 26))).alloc (.cells #[vI b0, vI b1, vI b2, vI b3, vI b4, vI b5, vI b6, vI b7] 38)) := bT.alloc (by simp) _
  have G1 := Lib.hid (show Blk 0 (((w1.alloc (.cells #[.int .i64 k5, .int .i64 ce5, .bool wr5, .int .i64 lb5, .slice A5 n5 cap5] 26))).alloc (.cells #[vI b0, vI b1, vI b2, vI b3, vI b4, vI b5, vI b6, vI b7] 38)) w1.heap.size [.int .i64 k5, .int .i64 ce5, .bool wr5, .int .i64 lb5, .slice A5 n5 cap5] from (Blk.made w1 [.int .i64 k5, .int .i64 ce5, .bool wr5, .int .i64 lb5, .slice A5 n5 cap5] 26 (base := 0) (Nat.zero_le _)).al' _)
  have K1 := Lib.hid (show Blk 0 (((w1.alloc (.cells #[.int .i64 k5, .int .i64 ce5, .bool wr5, .int .i64 lb5, .slice A5 n5 cap5] 26))).alloc (.cells #[vI b0, vI b1, vI b2, vI b3, vI b4, vI b5, vI b6, vI b7] 38)) (w1.heap.size + 1) [vI b0, vI b1, vI b2, vI b3, vI b4, vI b5, vI b6, vI b7] from by
    have h := Blk.made (w1.alloc (.cells #[.int .i64 k5, .int .i64 ce5, .bool wr5, .int .i64 lb5, .slice A5 n5 cap5] 26)) [vI b0, vI b1, vI b2, vI b3, vI b4, vI b5, vI b6, vI b7] 38 (base := 0) (Nat.zero_le _)
    rw [show ((w1.alloc (.cells #[.int .i64 k5, .int .i64 ce5, .bool wr5, .int .i64 lb5, .slice A5 n5 cap5] 26))).heap.size = w1.heap.size + 1 from by simp] at h; exact h)
  have BL2 := Lib.hid (BL1.out.trans (bB.mono BL1.out.size))
  have H2 := Lib.hid (H1.out.below bB)
  have R2 := Lib.hid (R1.out.go RdSt.keeps bB (HSU.out _ BL1.out) (Sub.refl _))
  have HF2 := Lib.hid (HF1.out.below bB)
  clear bB bT
  go_upto_region 2 with (fail)
  generalize (((w1.alloc (.cells #[.int .i64 k5, .int .i64 ce5, .bool wr5, .int .i64 lb5, .slice A5 n5 cap5] 26))).alloc (.cells #[vI b0, vI b1, vI b2, vI b3, vI b4, vI b5, vI b6, vI b7] 38)) = W2 at *
  obtain ⟨z1, hzz⟩ : ∃ z, z = w1.heap.size := ⟨_, rfl⟩
  rw [← hzz] at G1 K1 ⊢
  clear hzz BL1 H1 R1 HF1
  have c0 := H2.out.cell 0 _ rfl; have c1 := H2.out.cell 1 _ rfl; have c2 := H2.out.cell 2 _ rfl; have c3 := H2.out.cell 3 _ rfl; have c4 := H2.out.cell 4 _ rfl; have c5 := H2.out.cell 5 _ rfl; have c6 := H2.out.cell 6 _ rfl; have c7 := H2.out.cell 7 _ rfl
  go_wp2_with fail
  refine (CB.out W2 _ (HSU.out _ BL2.out) R2.out).mono ?_
  rintro e w3 ⟨⟨V2, rfl, hf⟩, hb⟩
  try simp only at hf
  obtain ⟨k6, ce6, wr6, lb6, A6, n6, cap6, rfl⟩ := hf.form
  have BL3 := Lib.hid (BL2.out.trans (hb.mono BL2.out.size))
  have G3 := Lib.hid (G1.out.below hb)
  have K3 := Lib.hid (K1.out.below hb)
  have HF3 := Lib.hid (HF2.out.below hb)
  have HF4 := Lib.hid hf
  clear hb c0 c1 c2 c3 c4 c5 c6 c7 BL2 H2 R2 G1 K1 hf HF2
  have bT : Below w3.heap.size w3 (w3.alloc (.cells #[.int .i64 k6, .int .i64 ce6, .bool wr6, .int .i64 lb6, .slice A6 n6 cap6] 26)) := (Below.refl _ _).alloc (Nat.le_refl _) _
  have bB : Below w3.heap.size w3 (((w3.alloc (.cells #[.int .i64 k6, .int .i64 ce6, .bool wr6, .int .i64 lb6, .slice A6 n6 cap6] 26))).alloc (.cells #[vI b0, vI b1, vI b2, vI b3, vI b4, vI b5, vI b6, vI b7] 38)) := bT.alloc (by simp) _
  have L1 := Lib.hid (show Blk 0 (((w3.alloc (.cells #[.int .i64 k6, .int .i64 ce6, .bool wr6, .int .i64 lb6, .slice A6 n6 cap6] 26))).alloc (.cells #[vI b0, vI b1, vI b2, vI b3, vI b4, vI b5, vI b6, vI b7] 38)) w3.heap.size [.int .i64 k6, .int .i64 ce6, .bool wr6, .int .i64 lb6, .slice A6 n6 cap6] from (Blk.made w3 [.int .i64 k6, .int .i64 ce6, .bool wr6, .int .i64 lb6, .slice A6 n6 cap6] 26 (base := 0) (Nat.zero_le _)).al' _)
  have M1 := Lib.hid (show Blk 0 (((w3.alloc (.cells #[.int .i64 k6, .int .i64 ce6, .bool wr6, .int .i64 lb6, .slice A6 n6 cap6] 26))).alloc (.cells #[vI b0, vI b1, vI b2, vI b3, vI b4, vI b5, vI b6, vI b7] 38)) (w3.heap.size + 1) [vI b0, vI b1, vI b2, vI b3, vI b4, vI b5, vI b6, vI b7] from by
    have h := Blk.made (w3.alloc (.cells #[.int .i64 k6, .int .i64 ce6, .bool wr6, .int .i64 lb6, .slice A6 n6 cap6] 26)) [vI b0, vI b1, vI b2, vI b3, vI b4, vI b5, vI b6, vI b7] 38 (base := 0) (Nat.zero_le _)
    rw [show ((w3.alloc (.cells #[.int .i64 k6, .int .i64 ce6, .bool wr6, .int .i64 lb6, .slice A6 n6 cap6] 26))).heap.size = w3.heap.size + 1 from by simp] at h; exact h)
  have BL5 := Lib.hid (BL3.out.trans (bB.mono BL3.out.size))
  have G5 := Lib.hid (G3.out.below bB)
  have K5 := Lib.hid (K3.out.below bB)
  have HF5 := Lib.hid (HF3.out.below bB)
  have HF6 := Lib.hid (HF4.out.below bB)
  clear bB bT
  go_upto_region 3 with (fail)
  generalize (((w3.alloc (.cells #[.int .i64 k6, .int .i64 ce6, .bool wr6, .int .i64 lb6, .slice A6 n6 cap6] 26))).alloc (.cells #[vI b0, vI b1, vI b2, vI b3, vI b4, vI b5, vI b6, vI b7] 38)) = W5 at *
  obtain ⟨z2, hzz⟩ : ∃ z, z = w3.heap.size := ⟨_, rfl⟩
  rw [← hzz] at L1 M1 ⊢
  clear hzz BL3 G3 K3 HF3 HF4
  have c0 := G5.out.cell 0 _ rfl; have c1 := G5.out.cell 1 _ rfl; have c2 := G5.out.cell 2 _ rfl; have c3 := G5.out.cell 3 _ rfl; have c4 := G5.out.cell 4 _ rfl
  have d0 := K5.out.cell 0 _ rfl; have d1 := K5.out.cell 1 _ rfl; have d2 := K5.out.cell 2 _ rfl; have d3 := K5.out.cell 3 _ rfl; have d4 := K5.out.cell 4 _ rfl; have d5 := K5.out.cell 5 _ rfl; have d6 := K5.out.cell 6 _ rfl; have d7 := K5.out.cell 7 _ rfl
  have f0 := L1.out.cell 0 _ rfl; have f1 := L1.out.cell 1 _ rfl; have f2 := L1.out.cell 2 _ rfl; have f3 := L1.out.cell 3 _ rfl; have f4 := L1.out.cell 4 _ rfl
  have g0 := M1.out.cell 0 _ rfl; have g1 := M1.out.cell 1 _ rfl; have g2 := M1.out.cell 2 _ rfl; have g3 := M1.out.cell 3 _ rfl; have g4 := M1.out.cell 4 _ rfl; have g5 := M1.out.cell 5 _ rfl; have g6 := M1.out.cell 6 _ rfl; have g7 := M1.out.cell 7 _ rfl
  have hpe := heap_eq b0 b1 b2 b3 b4 b5 b6 b7 W5
  go_wp2_with fail
  refine (sameTerm_any t W5 _ _ HF5.out.tm HF6.out.tm).mono ?_
  rintro e wc ⟨rfl, hb3⟩
  have BL6 := Lib.hid (BL5.out.trans (hb3.mono BL5.out.size))
  clear hpe hb3 c0 c1 c2 c3 c4 d0 d1 d2 d3 d4 d5 d6 d7 f0 f1 f2 f3 f4 g0 g1 g2 g3 g4 g5 g6 g7
  go_wp2
  go_ret
  exact ⟨rfl, BL6.out⟩
end Go.Proofs.Ytdelngmbpjgphaa
/- Expressions that came in: they read as Lean data. -/
namespace Go.Proofs.Ytdelngmbpjgphaa
open Go.ChangeShapes Go.WideShapes Go.ChangeAt Go.RowKit Go.Deep
set_option linter.unusedVariables false
instance : Inhabited Ex := ⟨.mk 0 0 ⟨#[]⟩ []⟩
instance : Inhabited St := ⟨.mk 0 ⟨#[]⟩ default default [] []⟩
instance : Inhabited Tm := ⟨.mk 0 0 false 0 []⟩
theorem cellsInt : Try.prog.cellsOf 3 = 1 := by kernel_rfl
theorem cellsStr : Try.prog.cellsOf 9 = 1 := by kernel_rfl
theorem cellsBool : Try.prog.cellsOf 4 = 1 := by kernel_rfl
theorem cellsEx : Try.prog.cellsOf 110 = 4 := by kernel_rfl
theorem cellsExs : Try.prog.cellsOf 108 = 1 := by kernel_rfl
theorem bytesEx : Try.prog.bytesOf 110 = 56 := by kernel_rfl

section
variable {H : Type} {enc : TypeId × Value → H} {w : World} {spare : Nat → Bool} {held : Bool}
theorem ex_open : ∀ (fuel : Nat) (cs : List Value) (x : DataW H × List MemPlace), DataW.trod enc Try.prog w 0 spare held fuel 110 cs = some x → Light Try.prog 110 x.1 →
    ∃ e, RdEx w (Upto w.heap.size) e cs ∧ Ex.wt e ≤ Rows.uptoBulk x.1 := by
  intro fuel
  induction fuel using Nat.strongRecOn with
  | ind fuel ih =>
    intro cs x h hL
    obtain ⟨xs, n, rfl, rfl, hlen, hxl, hg⟩ := DataW.trod_struct Try.underlying110 h
    rw [cellsEx] at hlen
    obtain ⟨c0, c1, c2, c3, rfl⟩ := len4 hlen
    obtain ⟨y0, y1, y2, y3, rfl⟩ := len4 hxl
    have g0 := hg 0 _ rfl
    have g1 := hg 1 _ rfl
    have g2 := hg 2 _ rfl
    have g3 := hg 3 _ rfl
    simp [cellsInt, cellsStr, cellsExs] at g0 g1 g2 g3
    have l2 := hL.field Try.underlying110 (i := 2) (f := _) (d := y2.1) rfl rfl
    have l3 := hL.field Try.underlying110 (i := 3) (f := _) (d := y3.1) rfl rfl
    obtain ⟨k, e0, rfl, wk⟩ := DataW.trod_int Try.underlying3 g0
    obtain ⟨m, e1, rfl, wm⟩ := DataW.trod_int Try.underlying3 g1
    obtain ⟨s, e2, rfl, ws⟩ := DataW.trod_string Try.underlying9 g2
    obtain ⟨l, v, e3, hv, hb⟩ := slice_open (mu := Ex.wt) (rd := RdEx) Try.underlying108 cellsEx bytesEx (by decide) l3 g3 (fun n' cs' y hn hy hLy => ih n' (by omega) cs' y hy hLy)
    simp only [List.cons.injEq, and_true] at e0 e1 e2 e3
    subst e0 e1 e2 e3
    refine ⟨.mk k m s l, RdEx.shut (inI_wf wk) (inI_wf wm) l2.string hv, ?_⟩
    simp only [Ex.wt, Ex.wts_eq, List.map_cons, List.map_nil, Rows.uptoBulk, Rows.uptoBulkAll, Array.length_toList]
    have : s.data.size = s.size := rfl
    omega
end
end Go.Proofs.Ytdelngmbpjgphaa
