/- The walk of graph.Closure. -/
import Derived.Test.YtknaoianhjeccaaDoorEd1
import Derived.Test.YtknaoianhjeccaaDoorEd2
import Derived.Test.YtknaoianhjeccaaDoorGr7
import Derived.Test.YtknaoianhjeccaaDoorWysLt
namespace Go.Proofs.YtknaoianhjeccaaDoor
open Go.RowKit
set_option linter.unusedVariables false
theorem SetsAt.setsR {lo : Nat} {w : World} {g n : Nat} {P : Nat → Nat → Bool} {vs : List Value} (h : SetsAt lo w g n P vs) (hn : n ≤ 200) : SetsR w w.heap.size n P (.slice (some ⟨g, 0, none⟩) n n) :=
  ⟨_, _, rfl, Nat.le_refl _, by unfold maxLen; omega, hn, fun i hi => by
    have hv : vs[i]? = some (vs[i]'(by rw [h.len]; exact hi)) := List.getElem?_eq_getElem _
    obtain ⟨T, l, h1, h2, h3, h4, h5⟩ := h.row i _ hv
    obtain ⟨A, cap, e, _⟩ := h5.form
    have hc := h.out.cell i _ hv
    rw [e] at hc h5
    exact ⟨g, 0, T, l, A, cap, rfl, h.out.lt, h1, h4, h5, by rw [Nat.zero_add]; exact hc⟩⟩
theorem RdL.form0 {α : Type} {rd : World → Blocks → α → List Value → Prop} {size bytes : Nat} {w : World} {S : Blocks} {l : List α} {v : Value} (h : RdL rd size bytes w S l v) : ∃ A cap, v = .slice A l.length cap := by
  obtain ⟨A, cap, e, _⟩ := h.form
  exact ⟨A, cap, e⟩
set_option maxHeartbeats 1600000 in
set_option maxRecDepth 100000 in
theorem closure_any (N : Int) (hNi : inI N) (ps : List (Int × Int)) (w : World) (S : Blocks) (ve : Value) (hS : Sub S (Upto w.heap.size)) (hT : Tab w) (r : RdP w S ps ve) :
    Calls Tryd.prog 5 #[.agg #[.int .i64 N, ve]] w fun e w' => ∃ N' x, e = .returned (.tuple #[.agg #[.int .i64 N', x], .int .i64 (wrongE N ps)]) ∧
      (wrongE N ps = 0 → N' = N ∧ RdP w' (Plus Nowhere w.heap.size w'.heap.size) ((edgU (rowP N.toNat (waysE N.toNat (natsP ps))) N.toNat).map ceE) x) ∧ (wrongE N ps ≠ 0 → N' = 0 ∧ x = .slice none 0 0) ∧ Below w.heap.size w w' := by
  obtain ⟨A, cap, rfl, hl, hcm, hby⟩ := r.form
  unfold maxLen at hcm
  have b0 := (Blk.made w [.int .i64 N, .slice A ps.length cap] 24 (base := 0) (Nat.zero_le _)).but (But.alloc (T := Nowhere) (But.refl _ _) (.cells #[.int .i64 0, .slice none 0 0] 24)) (fun h => h)
  have b4 := Blk.made (w.alloc (.cells #[.int .i64 N, .slice A ps.length cap] 24)) [.int .i64 0, .slice none 0 0] 24 (base := 0) (Nat.zero_le _)
  have bl : Below w.heap.size w ((w.alloc (.cells #[.int .i64 N, .slice A ps.length cap] 24)).alloc (.cells #[.int .i64 0, .slice none 0 0] 24)) := ((Below.refl _ _).alloc (Nat.le_refl _) _).alloc (by simp) _
  rw [show (w.alloc (.cells #[.int .i64 N, .slice A ps.length cap] 24)).heap.size = w.heap.size + 1 by simp] at b4
  have hsz0 : w.heap.size ≤ (((w.alloc (.cells #[.int .i64 N, .slice A ps.length cap] 24)).alloc (.cells #[.int .i64 0, .slice none 0 0] 24))).heap.size := bl.size
  have k0 := b0.cell 0 _ rfl
  have k1 := b0.cell 1 _ rfl
  have HB0 := Lib.hid b0
  have HB4 := Lib.hid b4
  have BL := Lib.hid bl
  have HT := Lib.hid hT
  have C1 := Lib.hid (behind_any N hNi ps ((w.alloc (.cells #[.int .i64 N, .slice A ps.length cap] 24)).alloc (.cells #[.int .i64 0, .slice none 0 0] 24)) S _ (hS.trans (Sub.upto hsz0)) (hT.go bl) (r.go Flat.keeps bl hS (Sub.refl _)))
  clear b0 b4 bl r hS hT
  go_enter Tryd.func5, Tryd.ntmps5
  go_upto_region 1 with (fail)
  generalize ((w.alloc (.cells #[.int .i64 N, .slice A ps.length cap] 24)).alloc (.cells #[.int .i64 0, .slice none 0 0] 24)) = W0 at *
  go_wp2_with fail
  refine C1.out.mono ?_
  rintro e w1 ⟨x, rfl, hso, hsn, hb1⟩
  have BL1 := Lib.hid (BL.out.trans (hb1.mono BL.out.size))
  have HB1 := Lib.hid (HB0.out.below hb1)
  have HB41 := Lib.hid (HB4.out.below hb1)
  have h4lt := HB4.out.lt
  have hz1 := hb1.size
  clear C1 BL HB0 HB4 hb1 k0 k1 hsz0
  by_cases hw : wrongE N ps = 0
  · skip
    obtain ⟨g, vs, rfl, hA⟩ := hso hw
    obtain ⟨hn0, hn2, hgd, hrd⟩ := wrongE_zero hw
    obtain ⟨hps, hval⟩ := good_ps hgd
    obtain ⟨n, hnn⟩ : ∃ n : Nat, N = (n : Int) := ⟨N.toNat, by omega⟩
    subst hnn
    rw [Int.toNat_natCast] at hval hrd hA ⊢
    have hn200 : n ≤ 200 := by omega
    obtain ⟨es, hes⟩ : ∃ es, es = natsP ps := ⟨_, rfl⟩
    rw [← hes] at hval hA
    have HES := Lib.hid hes
    have hbd : Below w1.heap.size w1 w1.drew := (Below.refl _ _).drew
    have BLD := Lib.hid (BL1.out.trans (hbd.mono BL1.out.size))
    have HBD := Lib.hid (HB1.out.below hbd)
    have HB4D := Lib.hid (HB41.out.below hbd)
    have C2 := Lib.hid (edges_any n (waysE n es) (fun i m h => waysE_lt hval n i m h) w1.drew _ (HT.out.go BLD.out) ((hA.below hbd).setsR hn200))
    have HW0 := Lib.hid hw
    have hwl := BL1.out.size
    rw [hw]
    clear hw hgd hrd hes hps hval hn0 hn2 hso hsn hA
    clear hbd
    go_upto_region 4 with (fail)
    have k0 : w1.drew.cell? ⟨w.heap.size, 0, none⟩ = some (.int .i64 (n : Int)) := HBD.out.cell 0 _ rfl
    go_region_with (go_at_call 14; refine C2.out.mono ?_; rintro e w2 ⟨x2, rfl, hx2, hb2⟩; obtain ⟨A2, c2, rfl⟩ := RdL.form0 hx2; have j0 : w2.cell? ⟨w.heap.size, 0, none⟩ = some (.int .i64 (n : Int)) := (HBD.out.below hb2).cell 0 _ rfl; have B42 := HB4D.out.below hb2; have f40 := B42.fr 0; have f41 := B42.fr 1; have j40 := B42.cell 0 _ rfl; have j41 := B42.cell 1 _ rfl)
    all_goals
      have hsz2 := hb2.size
      have BT := Lib.hid (B42.two (.int .i64 (n : Int)) (.slice A2 ((edgU (rowP n (waysE n es)) n).map ceE).length c2))
      have BB := Lib.hid (below_two (BLD.out.trans (hb2.mono BLD.out.size)) (show w.heap.size ≤ w.heap.size + 1 by omega) (.int .i64 (n : Int)) (.slice A2 ((edgU (rowP n (waysE n es)) n).map ceE).length c2))
      have hd : w1.drew.heap.size = w1.heap.size := rfl
      have hno : ¬ Plus Nowhere w1.drew.heap.size w2.heap.size (w.heap.size + 1) := fun h => h.elim (fun h => h.elim) (fun h => by have := h.1; omega)
      have HR2 := Lib.hid (((hx2.stored Flat.keeps (p := ⟨w.heap.size + 1, 0, none⟩) hno (.int .i64 (n : Int))).stored Flat.keeps (p := ⟨w.heap.size + 1, 1, none⟩) hno (.slice A2 ((edgU (rowP n (waysE n es)) n).map ceE).length c2)).sub (S' := Plus Nowhere w.heap.size w2.heap.size) Flat.keeps (fun b h => h.elim (fun h => h.elim) (fun h => .inr ⟨by have := h.1; omega, h.2⟩)))
      clear hd hno hx2 hb2 C2
      rw [List.length_map] at BT BB HR2
      go_wp2
      have r0 := BT.out.cell 0 _ rfl
      have r1 := BT.out.cell 1 _ rfl
      refine bodyPost_ret (v := .tuple #[.agg #[.int .i64 (n : Int), .slice A2 (edgU (rowP n (waysE n es)) n).length c2], .int .i64 0]) (by simp [results, Tryd.f5, go_sem, r0, r1]) rfl ⟨(n : Int), .slice A2 (edgU (rowP n (waysE n es)) n).length c2, ?_, fun _ => ⟨rfl, ?_⟩, fun h => absurd HW0.out h, BB.out⟩
      · rw [HW0.out]
      · rw [← HES.out]
        simpa using HR2.out
  · have HW := Lib.hid hw
    have f40 := HB41.out.fr 0
    have f41 := HB41.out.fr 1
    have k40 := HB41.out.cell 0 _ rfl
    have k41 := HB41.out.cell 1 _ rfl
    have BT := Lib.hid (HB41.out.two (.int .i64 0) (.slice none 0 0))
    have BB := Lib.hid (below_two BL1.out (show w.heap.size ≤ w.heap.size + 1 by omega) (.int .i64 0) (.slice none 0 0))
    clear hso hsn
    go_wp2_with fail
    have r0 := BT.out.cell 0 _ rfl
    have r1 := BT.out.cell 1 _ rfl
    refine bodyPost_ret (v := .tuple #[.agg #[.int .i64 0, .slice none 0 0], .int .i64 (wrongE N ps)]) (by simp [results, Tryd.f5, go_sem, r0, r1]) rfl ⟨_, _, rfl, fun h => absurd h HW.out, fun _ => ⟨rfl, rfl⟩, BB.out⟩
end Go.Proofs.YtknaoianhjeccaaDoor
