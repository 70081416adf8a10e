/- Two readings of the same statement or block are told to be the same. -/
import Derived.Test.YtijahadmaggncaaDoorSameE
namespace Go.Proofs.YtijahadmaggncaaDoor
open Go.RowKit
set_option linter.unusedVariables false
def StmtsSame (l : List St) : Prop := ∀ (w : World) (v v' : Value), RdSts w (Upto w.heap.size) l v → RdSts w (Upto w.heap.size) l v' →
    Calls Tryd.prog 10 #[v, v'] w fun e w' => e = .returned (.bool true) ∧ Below w.heap.size w w'
def StmtSame (s : St) : Prop := ∀ (w : World) (cs cs' : List Value), RdSt w (Upto w.heap.size) s cs → RdSt w (Upto w.heap.size) s cs' →
    Calls Tryd.prog 28 #[.agg cs.toArray, .agg cs'.toArray] w fun e w' => e = .returned (.bool true) ∧ Below w.heap.size w w'

set_option maxHeartbeats 1000000 in
theorem sameStmt_eq (k : Int) (s : ByteArray) (a b : Ex) (body els : List St) (h1 : StmtsSame body) (h2 : StmtsSame els) : StmtSame (.mk k s a b body els) := by
  intro w cs cs' r r'
  obtain ⟨hk, _, a0, a1, a2, a3, b0, b1, b2, b3, v, v', rfl, ra, rb, rv, rv'⟩ := r.open_
  obtain ⟨_, _, c0, c1, c2, c3, d0, d1, d2, d3, u, u', rfl, rc, rd, ru, ru'⟩ := r'.open_
  clear r r'
  go_enter Tryd.func28, Tryd.ntmps28
  go_wp2
  refine forget (fun w0 => Below w.heap.size w w0 ∧ w0.heap.size = w.heap.size + 2 ∧ w0.cell? ⟨w.heap.size, 2 + 0, none⟩ = some a0 ∧ w0.cell? ⟨w.heap.size, 2 + 1, none⟩ = some a1 ∧ w0.cell? ⟨w.heap.size, 2 + 2, none⟩ = some a2 ∧ w0.cell? ⟨w.heap.size, 2 + 3, none⟩ = some a3 ∧ w0.cell? ⟨w.heap.size, 6 + 0, none⟩ = some b0 ∧ w0.cell? ⟨w.heap.size, 6 + 1, none⟩ = some b1 ∧ w0.cell? ⟨w.heap.size, 6 + 2, none⟩ = some b2 ∧ w0.cell? ⟨w.heap.size, 6 + 3, none⟩ = some b3 ∧
    w0.cell? ⟨w.heap.size + 1, 2 + 0, none⟩ = some c0 ∧ w0.cell? ⟨w.heap.size + 1, 2 + 1, none⟩ = some c1 ∧ w0.cell? ⟨w.heap.size + 1, 2 + 2, none⟩ = some c2 ∧ w0.cell? ⟨w.heap.size + 1, 2 + 3, none⟩ = some c3 ∧ w0.cell? ⟨w.heap.size + 1, 6 + 0, none⟩ = some d0 ∧ w0.cell? ⟨w.heap.size + 1, 6 + 1, none⟩ = some d1 ∧ w0.cell? ⟨w.heap.size + 1, 6 + 2, none⟩ = some d2 ∧ w0.cell? ⟨w.heap.size + 1, 6 + 3, none⟩ = some d3 ∧
    w0.cell? ⟨w.heap.size, 0, none⟩ = some (.int .i64 k) ∧ w0.cell? ⟨w.heap.size, 1, none⟩ = some (.string s) ∧ w0.cell? ⟨w.heap.size + 1, 1, none⟩ = some (.string s) ∧
    w0.cell? ⟨w.heap.size, 10, none⟩ = some v ∧ w0.cell? ⟨w.heap.size, 11, none⟩ = some v' ∧ w0.cell? ⟨w.heap.size + 1, 10, none⟩ = some u ∧ w0.cell? ⟨w.heap.size + 1, 11, none⟩ = some u') ?_ ?_
  · simp
    exact ((Below.refl _ _).alloc (Nat.le_refl _) _).alloc (by simp) _
  rintro w0 ⟨hb0, hsz0, e1, e2, e3, e4, e5, e6, e7, e8, e9, e10, e11, e12, e13, e14, e15, e16, e17, e18, e19, e20, e21, e22, e23⟩
  have hs1 : w.heap.size < w0.heap.size := by omega
  have hs2 : w.heap.size + 1 < w0.heap.size := by omega
  have kE : ∀ w', Stay w0 w' → (RdEx w' (Upto w'.heap.size) a [a0, a1, a2, a3] ∧ RdEx w' (Upto w'.heap.size) a [c0, c1, c2, c3]) ∧ (RdEx w' (Upto w'.heap.size) b [b0, b1, b2, b3] ∧ RdEx w' (Upto w'.heap.size) b [d0, d1, d2, d3]) := fun w' hS =>
    have q : ∀ e cs, RdEx w (Upto w.heap.size) e cs → RdEx w' (Upto w'.heap.size) e cs := fun e cs h => RdEx.keeps _ _ _ _ _ _ (Sub.upto (by have := hS.size; omega)) (fun p hp => (hS.1 p (Nat.lt_of_lt_of_le hp (by omega))).trans (hb0.cell hp)) h
    ⟨⟨q _ _ ra, q _ _ rc⟩, ⟨q _ _ rb, q _ _ rd⟩⟩
  have HE := Lib.hid kE
  clear kE ra rb rc rd
  go_cut [5, 6, 7] (fun x5 x6 x7 wx => x5 = .bool true ∧ x6 = .bool true ∧ x7 = .bool true ∧ Stay w0 wx)
  case first =>
    go_region_held3 (fun w' => Stay w0 w') ((refine Stay.mk ?_; with_reducible first | exact Kept.start _ | exact Kept.next hbx (by assumption)))
      (first
        | (go_at_call_of 52 a0; refine (sameExpr_any a _ [a0, a1, a2, a3] [c0, c1, c2, c3] (HE.out _ (by assumption)).1.1 (HE.out _ (by assumption)).1.2).mono ?_; rintro e w' ⟨rfl, hbx⟩)
        | (go_at_call_of 52 b0; refine (sameExpr_any b _ [b0, b1, b2, b3] [d0, d1, d2, d3] (HE.out _ (by assumption)).2.1 (HE.out _ (by assumption)).2.2).mono ?_; rintro e w' ⟨rfl, hbx⟩))
    all_goals (try go_wp2_with fail)
    all_goals go_meet
    all_goals exact ⟨rfl, rfl, rfl, by assumption⟩
  case rest =>
    obtain ⟨rfl, rfl, rfl, hS⟩ := hcut
    clear HE
    have kS : ∀ w', Stay w0 w' → (RdSts w' (Upto w'.heap.size) body v ∧ RdSts w' (Upto w'.heap.size) body u) ∧ (RdSts w' (Upto w'.heap.size) els v' ∧ RdSts w' (Upto w'.heap.size) els u') := fun w' hS =>
      have q : ∀ e cs, RdSts w (Upto w.heap.size) e cs → RdSts w' (Upto w'.heap.size) e cs := fun e cs h => h.keep RdSt.keeps (Sub.upto (by have := hS.size; omega)) (fun p hp => (hS.1 p (Nat.lt_of_lt_of_le hp (by omega))).trans (hb0.cell hp))
      ⟨⟨q _ _ rv, q _ _ ru⟩, ⟨q _ _ rv', q _ _ ru'⟩⟩
    have HE := Lib.hid kS
    have H1 := Lib.hid h1
    have H2 := Lib.hid h2
    clear kS rv ru rv' ru' h1 h2
    go_wp2
    go_cut [8, 9] (fun x8 x9 wx => x8 = .bool true ∧ x9 = .bool true ∧ Stay w0 wx)
    case first =>
      go_region_held3 (fun w' => Stay w0 w') ((refine Stay.mk ?_; with_reducible first | exact Kept.drew (Kept.here (by assumption)) | exact Kept.next hbx (by assumption)))
        (first
          | (go_at_call_of 10 v; refine (H1.out _ v u (HE.out _ (by assumption)).1.1 (HE.out _ (by assumption)).1.2).mono ?_; rintro e w' ⟨rfl, hbx⟩)
          | (go_at_call_of 10 v'; refine (H2.out _ v' u' (HE.out _ (by assumption)).2.1 (HE.out _ (by assumption)).2.2).mono ?_; rintro e w' ⟨rfl, hbx⟩))
      all_goals (try go_wp2_with fail)
      all_goals go_meet
      all_goals exact ⟨rfl, rfl, by assumption⟩
    case rest =>
      obtain ⟨rfl, rfl, hS'⟩ := hcut
      have hk0 := (hS'.1 ⟨w.heap.size, 0, none⟩ (by simp; omega)).trans e17
      have hbel := hb0.trans (hS'.below.mono (by omega))
      clear HE H1 H2 hS hS' hb0 e1 e2 e3 e4 e5 e6 e7 e8 e9 e10 e11 e12 e13 e14 e15 e16 e17 e18 e19 e20 e21 e22 e23
      go_wp2
      all_goals go_ret
      all_goals exact ⟨rfl, hbel⟩

set_option maxHeartbeats 1000000 in
theorem sameStmts_one (l : List St) (h : ∀ s ∈ l, StmtSame s) : StmtsSame l := by
  intro w v v' r r'
  obtain ⟨A, cap, rfl, hl, hcm, hby⟩ := r.form
  obtain ⟨A', cap', rfl, hl', hcm', _⟩ := r'.form
  unfold maxLen at hcm hcm'
  have H := Lib.hid h
  clear h
  go_enter Tryd.func10, Tryd.ntmps10
  go_wp2
  go_loopw [13] (fun i wr => ∃ q : Nat, q ≤ l.length ∧ i = .int .i64 q ∧ Below w.heap.size w wr) (fun i _ => l.length - (intOf i).toNat)
  case atStart => exact ⟨0, by omega, rfl, Below.refl _ _⟩
  case round =>
    obtain ⟨q, hq, rfl, hbel⟩ := hrel
    by_cases hlt : q < l.length
    · obtain ⟨b, off, cs, rfl, hb, hcl, hcell, hrd⟩ := r.at_ hlt
      have hb : b < w.heap.size := hb
      obtain ⟨b', off', cs', rfl, hb', hcl', hcell', hrd'⟩ := r'.at_ hlt
      have hb' : b' < w.heap.size := hb'
      match cs, hcl with
      | [c0, c1, c2, c3, c4, c5, c6, c7, c8, c9, c10, c11], _ =>
      match cs', hcl' with
      | [d0, d1, d2, d3, d4, d5, d6, d7, d8, d9, d10, d11], _ =>
      have e0 := (hbel.cell (p := ⟨b, off + q * 12, none⟩) hb).trans (hcell 0 c0 rfl)
      have e1 := (hbel.cell (p := ⟨b, off + q * 12 + 1, none⟩) hb).trans (hcell 1 c1 rfl); have e2 := (hbel.cell (p := ⟨b, off + q * 12 + 2, none⟩) hb).trans (hcell 2 c2 rfl); have e3 := (hbel.cell (p := ⟨b, off + q * 12 + 3, none⟩) hb).trans (hcell 3 c3 rfl); have e4 := (hbel.cell (p := ⟨b, off + q * 12 + 4, none⟩) hb).trans (hcell 4 c4 rfl); have e5 := (hbel.cell (p := ⟨b, off + q * 12 + 5, none⟩) hb).trans (hcell 5 c5 rfl); have e6 := (hbel.cell (p := ⟨b, off + q * 12 + 6, none⟩) hb).trans (hcell 6 c6 rfl); have e7 := (hbel.cell (p := ⟨b, off + q * 12 + 7, none⟩) hb).trans (hcell 7 c7 rfl); have e8 := (hbel.cell (p := ⟨b, off + q * 12 + 8, none⟩) hb).trans (hcell 8 c8 rfl); have e9 := (hbel.cell (p := ⟨b, off + q * 12 + 9, none⟩) hb).trans (hcell 9 c9 rfl); have e10 := (hbel.cell (p := ⟨b, off + q * 12 + 10, none⟩) hb).trans (hcell 10 c10 rfl); have e11 := (hbel.cell (p := ⟨b, off + q * 12 + 11, none⟩) hb).trans (hcell 11 c11 rfl)
      have f0 := (hbel.cell (p := ⟨b', off' + q * 12, none⟩) hb').trans (hcell' 0 d0 rfl)
      have f1 := (hbel.cell (p := ⟨b', off' + q * 12 + 1, none⟩) hb').trans (hcell' 1 d1 rfl); have f2 := (hbel.cell (p := ⟨b', off' + q * 12 + 2, none⟩) hb').trans (hcell' 2 d2 rfl); have f3 := (hbel.cell (p := ⟨b', off' + q * 12 + 3, none⟩) hb').trans (hcell' 3 d3 rfl); have f4 := (hbel.cell (p := ⟨b', off' + q * 12 + 4, none⟩) hb').trans (hcell' 4 d4 rfl); have f5 := (hbel.cell (p := ⟨b', off' + q * 12 + 5, none⟩) hb').trans (hcell' 5 d5 rfl); have f6 := (hbel.cell (p := ⟨b', off' + q * 12 + 6, none⟩) hb').trans (hcell' 6 d6 rfl); have f7 := (hbel.cell (p := ⟨b', off' + q * 12 + 7, none⟩) hb').trans (hcell' 7 d7 rfl); have f8 := (hbel.cell (p := ⟨b', off' + q * 12 + 8, none⟩) hb').trans (hcell' 8 d8 rfl); have f9 := (hbel.cell (p := ⟨b', off' + q * 12 + 9, none⟩) hb').trans (hcell' 9 d9 rfl); have f10 := (hbel.cell (p := ⟨b', off' + q * 12 + 10, none⟩) hb').trans (hcell' 10 d10 rfl); have f11 := (hbel.cell (p := ⟨b', off' + q * 12 + 11, none⟩) hb').trans (hcell' 11 d11 rfl)
      have hsz := hbel.size
      have hb1 : b < wr.heap.size := by omega
      have hb1' : b' < wr.heap.size := by omega
      have hbd := hbel.drew
      have r1 := RdSt.keeps _ wr.drew _ (Upto wr.drew.heap.size) _ _ (Sub.upto hbd.size) (same_of_below hbd (Sub.refl _)) hrd
      have r2 := RdSt.keeps _ wr.drew _ (Upto wr.drew.heap.size) _ _ (Sub.upto hbd.size) (same_of_below hbd (Sub.refl _)) hrd'
      have hmem := List.getElem_mem hlt
      clear hcell hcell' hrd hrd'
      go_wp2
      go_region_held3 (fun w' => Stay wr w') ((refine Stay.mk ?_; with_reducible first | exact Kept.start _ | exact Kept.next hbx (by assumption)))
        ((go_at_call 28; refine (H.out l[q] hmem _ [c0, c1, c2, c3, c4, c5, c6, c7, c8, c9, c10, c11] [d0, d1, d2, d3, d4, d5, d6, d7, d8, d9, d10, d11] r1 r2).mono ?_; rintro e w' ⟨rfl, hbx⟩))
      have hbw := hbd.trans (hbx.mono hbd.size)
      clear r1 r2 hbx
      go_wp2
      go_roundw
      case rel => exact ⟨q + 1, by omega, by go_num, hbw⟩
      case measure => simp [intOf]; omega
    · go_wp2
      go_ret
      exact ⟨rfl, hbel⟩

theorem same_all (m : Nat) : (∀ s : St, SizeOf.sizeOf s ≤ m → StmtSame s) ∧ (∀ l : List St, SizeOf.sizeOf l ≤ m → StmtsSame l) := by
  induction m with
  | zero => exact ⟨fun s h => by cases s; simp at h, fun l h => by cases l <;> simp at h⟩
  | succ m ih =>
    have h1 : ∀ s : St, SizeOf.sizeOf s ≤ m + 1 → StmtSame s := fun s h => by
      obtain ⟨k, s, a, b, body, els⟩ := s
      simp only [St.mk.sizeOf_spec] at h
      exact sameStmt_eq k s a b body els (ih.2 body (by omega)) (ih.2 els (by omega))
    exact ⟨h1, fun l h => sameStmts_one l fun s hs => h1 s (by have := List.sizeOf_lt_of_mem hs; omega)⟩
theorem sameStmts_any (l : List St) : StmtsSame l := (same_all _).2 l (Nat.le_refl _)
end Go.Proofs.YtijahadmaggncaaDoor
