/- Two readings of the same expression are told to be the same. -/
import Derived.Test.YtijahadmaggncaaDoorGTwo
namespace Go.Proofs.YtijahadmaggncaaDoor
open Go.RowKit
set_option linter.unusedVariables false

set_option maxHeartbeats 400000 in
theorem sameExpr_eq (m : Nat) : ∀ (e : Ex) (w : World) (cs cs' : List Value), SizeOf.sizeOf e ≤ m → RdEx w (Upto w.heap.size) e cs → RdEx w (Upto w.heap.size) e cs' →
    Calls Tryd.prog 52 #[.agg cs.toArray, .agg cs'.toArray] w fun e w' => e = .returned (.bool true) ∧ Below w.heap.size w w' := by
  induction m with
  | zero => intro e w cs cs' h; cases e; simp at h
  | succ m ih =>
    intro e w cs cs' hm h1 h2
    obtain ⟨k, n, s, args⟩ := e
    obtain ⟨_, _, _, v, rfl, hv⟩ := h1.open_
    obtain ⟨_, _, _, v', rfl, hv'⟩ := h2.open_
    obtain ⟨A, cap, rfl, hl, hcm, hby⟩ := hv.form
    obtain ⟨A', cap', rfl, hl', hcm', _⟩ := hv'.form
    unfold maxLen at hcm hcm'
    clear h1 h2
    go_enter Tryd.func52, Tryd.ntmps52
    go_wp2
    go_loopw [37] (fun i wr => ∃ q : Nat, q ≤ args.length ∧ i = .int .i64 q ∧ wr.cell? ⟨w.heap.size, 3, none⟩ = some (.slice A args.length cap) ∧
       wr.cell? ⟨w.heap.size + 1, 3, none⟩ = some (.slice A' args.length cap') ∧ Below w.heap.size w wr ∧ w.heap.size + 2 ≤ wr.heap.size) (fun i _ => args.length - (intOf i).toNat)
    case atStart => exact ⟨0, by omega, rfl, by simp, by simp, ((Below.refl _ _).alloc (Nat.le_refl _) _).alloc (by simp) _, by simp⟩
    case round =>
      obtain ⟨q, hq, rfl, hb1, hb2, hbel, hsz⟩ := hrel
      by_cases hlt : q < args.length
      · obtain ⟨b, off, cs, rfl, hb, hcl, hcell, hrd⟩ := hv.at_ hlt
        have hb : b < w.heap.size := hb
        obtain ⟨b', off', cs', rfl, hb', hcl', hcell', hrd'⟩ := hv'.at_ hlt
        have hb' : b' < w.heap.size := hb'
        match cs, hcl with
        | [c0, c1, c2, c3], _ =>
        match cs', hcl' with
        | [d0, d1, d2, d3], _ =>
        have e0 := (hbel.cell (p := ⟨b, off + q * 4, none⟩) hb).trans (hcell 0 c0 rfl)
        have e1 := (hbel.cell (p := ⟨b, off + q * 4 + 1, none⟩) hb).trans (hcell 1 c1 rfl)
        have e2 := (hbel.cell (p := ⟨b, off + q * 4 + 2, none⟩) hb).trans (hcell 2 c2 rfl)
        have e3 := (hbel.cell (p := ⟨b, off + q * 4 + 3, none⟩) hb).trans (hcell 3 c3 rfl)
        have f0 := (hbel.cell (p := ⟨b', off' + q * 4, none⟩) hb').trans (hcell' 0 d0 rfl)
        have f1 := (hbel.cell (p := ⟨b', off' + q * 4 + 1, none⟩) hb').trans (hcell' 1 d1 rfl)
        have f2 := (hbel.cell (p := ⟨b', off' + q * 4 + 2, none⟩) hb').trans (hcell' 2 d2 rfl)
        have f3 := (hbel.cell (p := ⟨b', off' + q * 4 + 3, none⟩) hb').trans (hcell' 3 d3 rfl)
        have hone := one_size hlt
        simp only [Ex.mk.sizeOf_spec] at hm
        have hbd := hbel.drew
        have r1 := RdEx.keeps _ wr.drew _ (Upto wr.drew.heap.size) _ _ (Sub.upto hbd.size) (same_of_below hbd (Sub.refl _)) hrd
        have r2 := RdEx.keeps _ wr.drew _ (Upto wr.drew.heap.size) _ _ (Sub.upto hbd.size) (same_of_below hbd (Sub.refl _)) hrd'
        clear hcell hcell' hrd hrd'
        go_wp2
        go_region_held3 (fun w' => w'.cell? ⟨w.heap.size, 3, none⟩ = some (.slice (some ⟨b, off, none⟩) args.length cap) ∧ w'.cell? ⟨w.heap.size + 1, 3, none⟩ = some (.slice (some ⟨b', off', none⟩) args.length cap')
          ∧ w'.cell? ⟨b, off + q * 4, none⟩ = some c0 ∧ w'.cell? ⟨b, off + q * 4 + 1, none⟩ = some c1 ∧ w'.cell? ⟨b, off + q * 4 + 2, none⟩ = some c2 ∧ w'.cell? ⟨b, off + q * 4 + 3, none⟩ = some c3
          ∧ w'.cell? ⟨b', off' + q * 4, none⟩ = some d0 ∧ w'.cell? ⟨b', off' + q * 4 + 1, none⟩ = some d1 ∧ w'.cell? ⟨b', off' + q * 4 + 2, none⟩ = some d2 ∧ w'.cell? ⟨b', off' + q * 4 + 3, none⟩ = some d3)
          (first | go_keep | (refine ⟨?_, ?_, ?_, ?_, ?_, ?_, ?_, ?_, ?_, ?_⟩ <;> first | assumption | exact (hbx.cell (by simp; omega)).trans (by assumption)))
          ((go_at_call 52; refine (ih args[q] _ [c0, c1, c2, c3] [d0, d1, d2, d3] (by omega) r1 r2).mono ?_; rintro e w' ⟨rfl, hbx⟩))
        have hbw := hbd.trans (hbx.mono hbd.size)
        have g1 := (hbx.cell (p := ⟨w.heap.size, 3, none⟩) (by simp; omega)).trans hb1
        have g2 := (hbx.cell (p := ⟨w.heap.size + 1, 3, none⟩) (by simp; omega)).trans hb2
        have hz := hbx.size
        simp at hz
        clear r1 r2 hbx ih
        go_wp2
        go_roundw
        case rel => exact ⟨q + 1, by omega, by go_num, g1, g2, hbw, by omega⟩
        case measure => simp [intOf]; omega
      · go_wp2
        go_ret
        exact ⟨rfl, hbel⟩

theorem sameExpr_any (e : Ex) (w : World) (cs cs' : List Value) (h : RdEx w (Upto w.heap.size) e cs) (h' : RdEx w (Upto w.heap.size) e cs') :
    Calls Tryd.prog 52 #[.agg cs.toArray, .agg cs'.toArray] w fun e w' => e = .returned (.bool true) ∧ Below w.heap.size w w' :=
  sameExpr_eq _ e w cs cs' (Nat.le_refl _) h h'

end Go.Proofs.YtijahadmaggncaaDoor
