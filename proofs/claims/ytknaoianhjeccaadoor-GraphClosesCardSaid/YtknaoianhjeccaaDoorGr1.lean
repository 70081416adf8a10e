/- The walk of graph.take. -/
import Derived.Test.YtknaoianhjeccaaDoorGs3
import Derived.Test.YtknaoianhjeccaaDoorBsLess
import Derived.Test.YtknaoianhjeccaaDoorRowsI
import Derived.Test.YtknaoianhjeccaaDoorNxStep
import Derived.Test.YtknaoianhjeccaaDoorPairRow
import Derived.Test.YtknaoianhjeccaaDoorGrSpec2
import Derived.Deep.RegionLaw
namespace Go.Proofs.YtknaoianhjeccaaDoor
open Go.RowKit
set_option linter.unusedVariables false
theorem less_is {l m : List Nat} {P Q : Nat → Bool} (h : SetIs l P) (h' : SetIs m Q) : SetIs (zipB bsLess l m) (fun n => P n && !Q n) :=
  h.zip h' (g := fun a b => a && !b) (fun a b ha _ => okU_and ha) (fun a b j ha hb hj => by
    unfold bsLess
    rw [Nat.testBit_and]
    congr 1
    unfold okU at hb
    rw [show 18446744073709551615 - b = 2 ^ 64 - (b + 1) by omega, Nat.testBit_two_pow_sub_succ (by omega), decide_eq_true hj, Bool.true_and]) rfl
theorem one_is (n : Nat) (h : n ≤ 65535) : SetIs ([(n : Int)].foldl addL []) (fun m => decide (m = n)) := by
  have : [(n : Int)].foldl addL [] = orB [] n := by
    show addL [] (n : Int) = _
    unfold addL
    rw [if_pos (by unfold inTick; simp; omega)]; rfl
  rw [this]
  exact (SetIs.nil.add n).congr fun m => by simp
theorem addL_is {l : List Nat} {P : Nat → Bool} (h : SetIs l P) {n : Nat} (hn : n ≤ 65535) : SetIs (addL l n) (fun m => P m || decide (m = n)) := by
  unfold addL
  rw [if_pos (by unfold inTick; simp; omega)]
  exact h.add n
/-- how things stand behind q edges -/
def Aft1 (N : Nat) (es : List (Nat × Nat)) (w : World) (A : Option Addr) (cap q : Nat) (wr : World) : Prop := ∃ vs : List Value,
  Hid (Blk 0 wr w.heap.size [.int .i64 (N : Int), .slice A es.length cap]) ∧ Hid (Blk 0 wr (w.heap.size + 1) (rowN N (wtE (es.take q) []))) ∧
  Hid (NextT (w.heap.size + 1 + 1 + 1) wr (w.heap.size + 1 + 1) N (nxI (es.take q)) vs) ∧ Below w.heap.size w wr ∧ w.heap.size + 1 + 1 + 1 ≤ wr.heap.size
/-- how long a slice is -/
def lenV : Value → Nat
  | .slice _ n _ => n
  | _ => 0
set_option maxHeartbeats 1600000 in
set_option maxRecDepth 100000 in
theorem take_any (N : Nat) (hN : N ≤ 200) (es : List (Nat × Nat)) (hv : ∀ a b, (a, b) ∈ es → a < N ∧ b < N) (w : World) (S : Blocks) (ve : Value) (hS : Sub S (Upto w.heap.size)) (hT : Tab w) (r : RdP w S (es.map ceE) ve) :
    Calls Tryd.prog 37 #[.agg #[.int .i64 N, ve]] w fun e w' => ∃ x, e = .returned x ∧ OwnI 3 w' w.heap.size Nowhere ((takeG N es).map fun (n : Nat) => (n : Int)) x ∧ Below w.heap.size w w' := by
  obtain ⟨A, cap, rfl, hl, hcm, hby⟩ := r.form
  unfold maxLen at hcm
  rw [List.length_map] at r hl hby ⊢
  obtain ⟨i0, hi, hz0, hz1, hz2⟩ := info_parts infoII
  obtain ⟨i1, hj, hy0, hy1, hy2⟩ := info_parts infoIIs
  have hmk := fun w => run_make1 (P := Tryd.prog) 71 3 i0 _ Tryd.underlying71 hi hz0 hz1 rfl N (by rw [hz2]; omega) (by omega) w
  have hmk2 := fun w => run_make1 (P := Tryd.prog) 75 71 i1 _ Tryd.underlying75 hj hy0 hy1 rfl N (by rw [hy2]; omega) (by omega) w
  have R := Lib.hid r
  have HS := Lib.hid hS
  have HT := Lib.hid hT
  have HV := Lib.hid hv
  clear r hS hT hv
  go_enter Tryd.func37, Tryd.ntmps37
  go_upto_region 3 with (fail)
  clear hmk hmk2
  have bA : Below w.heap.size w (w.alloc (.cells #[.int .i64 (N : Int), .slice A es.length cap] 24)) := (Below.refl _ _).alloc (Nat.le_refl _) _
  have bB : Below ((w.alloc (.cells #[.int .i64 (N : Int), .slice A es.length cap] 24))).heap.size (w.alloc (.cells #[.int .i64 (N : Int), .slice A es.length cap] 24)) (((w.alloc (.cells #[.int .i64 (N : Int), .slice A es.length cap] 24))).alloc (.cells (Array.replicate N (.int .i64 0)) 3)) := (Below.refl _ _).alloc (Nat.le_refl _) _
  have bC : Below ((((w.alloc (.cells #[.int .i64 (N : Int), .slice A es.length cap] 24))).alloc (.cells (Array.replicate N (.int .i64 0)) 3))).heap.size (((w.alloc (.cells #[.int .i64 (N : Int), .slice A es.length cap] 24))).alloc (.cells (Array.replicate N (.int .i64 0)) 3)) (((((w.alloc (.cells #[.int .i64 (N : Int), .slice A es.length cap] 24))).alloc (.cells (Array.replicate N (.int .i64 0)) 3))).alloc (.cells (Array.replicate N (.slice none 0 0)) 71)) := (Below.refl _ _).alloc (Nat.le_refl _) _
  have b0 := (Blk.made w [.int .i64 (N : Int), .slice A es.length cap] 24 (base := 0) (Nat.zero_le _)).below bB |>.below bC
  have m0 := (Blk.madeN (w.alloc (.cells #[.int .i64 (N : Int), .slice A es.length cap] 24)) N (.int .i64 0) 3 (base := 0) (Nat.zero_le _)).below bC
  have x0 := NextT.made (((w.alloc (.cells #[.int .i64 (N : Int), .slice A es.length cap] 24))).alloc (.cells (Array.replicate N (.int .i64 0)) 3)) N 71 (base := w.heap.size + 1 + 1 + 1) (by simp)
  have BL := Lib.hid (show Below w.heap.size w (((((w.alloc (.cells #[.int .i64 (N : Int), .slice A es.length cap] 24))).alloc (.cells (Array.replicate N (.int .i64 0)) 3))).alloc (.cells (Array.replicate N (.slice none 0 0)) 71)) from (bA.trans (bB.mono (by simp))).trans (bC.mono (by simp; omega)))
  have hsz : ((((((w.alloc (.cells #[.int .i64 (N : Int), .slice A es.length cap] 24))).alloc (.cells (Array.replicate N (.int .i64 0)) 3))).alloc (.cells (Array.replicate N (.slice none 0 0)) 71))).heap.size = w.heap.size + 1 + 1 + 1 := by simp
  rw [show ((w.alloc (.cells #[.int .i64 (N : Int), .slice A es.length cap] 24))).heap.size = w.heap.size + 1 by simp] at m0
  rw [show ((((w.alloc (.cells #[.int .i64 (N : Int), .slice A es.length cap] 24))).alloc (.cells (Array.replicate N (.int .i64 0)) 3))).heap.size = w.heap.size + 1 + 1 by simp] at x0
  rw [rowN_zero] at m0
  clear bA bB bC
  have e1 : ((w.alloc (.cells #[.int .i64 (N : Int), .slice A es.length cap] 24))).heap.size = w.heap.size + 1 := by simp
  have e2 : ((((w.alloc (.cells #[.int .i64 (N : Int), .slice A es.length cap] 24))).alloc (.cells (Array.replicate N (.int .i64 0)) 3))).heap.size = w.heap.size + 1 + 1 := by simp
  generalize (((((w.alloc (.cells #[.int .i64 (N : Int), .slice A es.length cap] 24))).alloc (.cells (Array.replicate N (.int .i64 0)) 3))).alloc (.cells (Array.replicate N (.slice none 0 0)) 71)) = W0 at *
  have HB0 := Lib.hid b0
  have HM0 := Lib.hid m0
  have HX0 := Lib.hid x0
  clear b0 m0 x0 e1 e2
  have k0 := HB0.out.cell 0 _ rfl
  have k1 := HB0.out.cell 1 _ rfl
  go_wp2
  go_loopw [23] (fun t wr => ∃ q : Nat, q ≤ es.length ∧ t = .int .i64 q ∧ Aft1 N es w A cap q wr) (fun t _ => es.length - (intOf t).toNat)
  case atStart =>
    refine ⟨0, by omega, rfl, List.replicate N (.slice none 0 0), HB0, ?_, ?_, BL.out, by omega⟩
    · exact Lib.hid (HM0.out.congrN fun k _ => by simp [wtE])
    · exact Lib.hid (HX0.out.congr fun i _ => by simp [nxI, nxE])
  case round =>
    obtain ⟨q, hq, rfl, vs, B1, M1, X1, BL1, hsz1⟩ := hrel
    have k0 := B1.out.cell 0 _ rfl
    have k1 := B1.out.cell 1 _ rfl
    by_cases hlt : q < es.length
    · skip
      have hlt2 : q < (es.map ceE).length := by rw [List.length_map]; exact hlt
      obtain ⟨bb, off, rfl, hbS, hok, hc1, hc2⟩ := RdP.at1 (R.out.go Flat.keeps BL1 HS.out (Sub.refl _)) hlt2
      obtain ⟨a, b, hab⟩ : ∃ a b, es[q] = (a, b) := ⟨_, _, rfl⟩
      rw [ceE_at hlt hab hlt2] at hc1 hc2
      have hmem : (a, b) ∈ es := by rw [← hab]; exact List.getElem_mem hlt
      have haN := (HV.out a b hmem).1
      have hbN := (HV.out a b hmem).2
      have htk := Lib.hid (show es.take (q + 1) = es.take q ++ [(a, b)] by rw [List.take_succ_eq_append_getElem hlt, hab])
      have hwle : wtE (es.take q) [] b ≤ 8796093022208 := by have := wtE_le (es.take q) [] b; simp at this; omega
      have hnle : (nxI (es.take q) a).length ≤ 8796093022208 := by rw [nxI_len]; have := nxE_len (es.take q) a; simp at this; omega
      simp only at hc1 hc2
      clear hok hab hmem hlt2
      have HRW := Lib.hid (fun v (h : vs[a]? = some v) => (X1.out.row a v h).lt)
      have hbx := (Below.refl wr.heap.size wr).alloc (Nat.le_refl _) (.cells #[.int .i64 (a : Int), .int .i64 (b : Int)] 49)
      have E1 := Lib.hid (Blk.made wr [.int .i64 (a : Int), .int .i64 (b : Int)] 49 (base := 0) (Nat.zero_le _))
      have M2 := Lib.hid (M1.out.below hbx)
      have B2 := Lib.hid (B1.out.below hbx)
      have X2 := Lib.hid (X1.out.below hbx)
      have BL2 := Lib.hid (BL1.trans (hbx.mono BL1.size))
      have hsz2 : w.heap.size + 1 + 1 + 1 ≤ (wr.alloc (.cells #[.int .i64 (a : Int), .int .i64 (b : Int)] 49)).heap.size := by rw [World.size_alloc]; omega
      have hrs : wr.heap.size < (wr.alloc (.cells #[.int .i64 (a : Int), .int .i64 (b : Int)] 49)).heap.size := by rw [World.size_alloc]; omega
      clear hbx
      go_upto_region 6 with (fail)
      have e0 := E1.out.cell 0 _ rfl
      have e1 := E1.out.cell 1 _ rfl
      have m0 := M2.out.atN hbN
      have mf := M2.out.fr b
      generalize hW1 : wr.alloc (.cells #[.int .i64 (a : Int), .int .i64 (b : Int)] 49) = W1 at *
      clear hW1
      obtain ⟨y, hy⟩ : ∃ y, y = wtE (es.take q) [] b := ⟨_, rfl⟩
      rw [← hy] at m0 hwle
      have M3 := M2.out.setN (k := b) (y := y + 1) hbN
      have ey : (((y + 1 : Nat)) : Int) = (y : Int) + 1 := by omega
      rw [ey] at M3
      have HM3 := Lib.hid M3
      have hb3 : But (Is (w.heap.size + 1)) W1 (W1.setCell ⟨w.heap.size + 1, b, none⟩ (.int .i64 ((y : Int) + 1))) := (But.refl (Is (w.heap.size + 1)) W1).setCell (p := ⟨w.heap.size + 1, b, none⟩) (show Is _ _ from rfl) _
      have B3 := Lib.hid (B2.out.but hb3 (by unfold Is; omega))
      have E3 := Lib.hid (E1.out.but hb3 (by unfold Is; omega))
      have X3 := Lib.hid (X2.out.low hb3 (by unfold Is; omega) (fun k hk => by unfold Is at hk; omega))
      have BL3 := Lib.hid (BL2.out.setCell (p := ⟨w.heap.size + 1, b, none⟩) (by show w.heap.size ≤ w.heap.size + 1; omega) (.int .i64 ((y : Int) + 1)))
      have HY := Lib.hid hy
      rw [← size_setCell W1 ⟨w.heap.size + 1, b, none⟩ (.int .i64 ((y : Int) + 1))] at hsz2 hrs
      clear M3 ey hb3 M2 B2 X2 BL2 E1 hy M1 B1 X1
      go_upto_region 7 with (fail)
      generalize W1.setCell ⟨w.heap.size + 1, b, none⟩ (.int .i64 ((y : Int) + 1)) = W3 at *
      clear e0 e1 m0 mf k0 k1 hc1 hc2
      have HKEY := Lib.hid (show ∀ (Ai : Option Addr) (ci : Nat) (v' : Value) (w2 : World), vs[a]? = some (.slice Ai (nxI (es.take q) a).length ci) → OwnI 3 w2 (w.heap.size + 1 + 1 + 1) Nowhere (nxI (es.take q) a ++ [(b : Int)]) v' →
          (W3.alloc (.cells #[.int .i64 (b : Int)] 3)).drew.grownBy w2 (Value.slice Ai (nxI (es.take q) a).length ci).ownBlock →
          (v'.ownBlock = (Value.slice Ai (nxI (es.take q) a).length ci).ownBlock ∨ v'.ownBlock = some (W3.alloc (.cells #[.int .i64 (b : Int)] 3)).drew.heap.size) →
          Aft1 N es w (some ⟨bb, off, none⟩) cap (q + 1) (w2.setCell ⟨w.heap.size + 1 + 1, a, none⟩ v') from by
        intro Ai ci v' w2 hvs ho1 hg1 hw1
        have hbl := (Below.refl W3.heap.size W3).alloc (Nat.le_refl _) (.cells #[.int .i64 (b : Int)] 3) |>.drew
        have hvl := (X3.out.row a _ hvs).lt
        have hbg := (But.of_below hbl).trans ((But.of_grown hg1).sub (U := fun k => (Value.slice Ai (nxI (es.take q) a).length ci).ownBlock = some k) (fun _ h => h))
        have X5 := (X3.out.below hbl).app hvs hg1 ho1 hw1 (Nat.le_refl _)
        refine ⟨_, Lib.hid ((B3.out.but hbg (fun e => by have := hvl _ e; omega)).other (p := ⟨w.heap.size + 1 + 1, a, none⟩) (by show w.heap.size + 1 + 1 ≠ w.heap.size; omega) _),
          Lib.hid (((HM3.out.but hbg (fun e => by have := hvl _ e; omega)).other (p := ⟨w.heap.size + 1 + 1, a, none⟩) (by show w.heap.size + 1 + 1 ≠ w.heap.size + 1; omega) _).congrN fun k _ => ?_), Lib.hid (X5.congr fun i _ => ?_), (BL3.out.trans (hbg.below BL3.out.size (fun k e => by have := hvl _ e; omega))).setCell (p := ⟨w.heap.size + 1 + 1, a, none⟩) (by show w.heap.size ≤ w.heap.size + 1 + 1; omega) _, by rw [size_setCell]; exact Nat.le_trans hsz2 hbg.size⟩
        · rw [htk.out, wtE_snoc]
          by_cases e : k = b
          · subst e; rw [if_pos rfl, if_pos rfl, HY.out]
          · rw [if_neg e, if_neg (fun h => e h.symm)]
        · rw [htk.out]
          unfold nxI
          rw [nxE_snoc]
          by_cases e : i = a
          · subst e; rw [if_pos rfl, if_pos rfl, List.map_append]; rfl
          · rw [if_neg e, if_neg (fun h => e h.symm)])
      have e0 := E3.out.cell 0 _ rfl
      have e1 := E3.out.cell 1 _ rfl
      obtain ⟨Ai, ci, hvs, hx, ho⟩ := X3.out.at_ haN
      have hbl := (Below.refl W3.heap.size W3).alloc (Nat.le_refl _) (.cells #[.int .i64 (b : Int)] 3) |>.drew
      have H2d := Lib.hid (ho.keep Flat.keeps hbl)
      have HRD := Lib.hid (show RdI (W3.alloc (.cells #[.int .i64 (b : Int)] 3)).drew (fun _ => True) [(b : Int)] (.slice (some ⟨W3.heap.size, 0, none⟩) 1 1) from rd_one (enc := encI) (x := (b : Int)) rfl (cells_newAt W3 [.int .i64 (b : Int)] 3 rfl) (by unfold inI; omega) trivial (by decide))
      have E4 := Lib.hid (E3.out.below hbl)
      have X4 := Lib.hid (X3.out.below hbl)
      have M4 := Lib.hid (HM3.out.below hbl)
      have B4 := Lib.hid (B3.out.below hbl)
      have BL4 := Lib.hid (BL3.out.trans (hbl.mono BL3.out.size))
      have m1 := Lib.hid (show (nxI (es.take q) a).length + [(b : Int)].length ≤ maxLen by unfold maxLen; simp; omega)
      have m2 := Lib.hid (show ((nxI (es.take q) a).length + [(b : Int)].length) * 8 ≤ 140737488355328 by simp; omega)
      have HBB := Lib.hid (show w.heap.size + 1 + 1 + 1 ≤ (W3.alloc (.cells #[.int .i64 (b : Int)] 3)).drew.heap.size from Nat.le_trans hsz2 hbl.size)
      have HND := Lib.hid (show (Value.slice Ai (nxI (es.take q) a).length ci).ownBlock ≠ some (w.heap.size + 1 + 1) from fun e => by have := (ho.lt _ e).1; omega)
      have HNE := Lib.hid (show (Value.slice Ai (nxI (es.take q) a).length ci).ownBlock ≠ some wr.heap.size from fun e => by have := (HRW.out _ hvs _ e).2; omega)
      have HOL := Lib.hid (ho.lt)
      have ha0 : (W3.alloc (.cells #[.int .i64 (b : Int)] 3)).cell? ⟨w.heap.size + 1 + 1, a, none⟩ = some (.slice Ai (nxI (es.take q) a).length ci) := X4.out.out.cell a _ hvs
      have ha1 : (W3.alloc (.cells #[.int .i64 (b : Int)] 3)).cell? ⟨wr.heap.size, 0, none⟩ = some (.int .i64 (a : Int)) := E4.out.cell 0 _ rfl
      clear hbl ho
      go_region_law ((refine step_append_list (by rfl) (.tmp 41) (.tmp 44) 71 (by rfl) (by rfl) (by rfl) i0 _ Tryd.underlying71 hi hz0 hz1 hz2 rfl (by decide) Flat.keeps (l := nxI (es.take q) a) (m := [(b : Int)]) (base := w.heap.size + 1 + 1 + 1) (S := Nowhere) (Tx := Nowhere) (U := fun _ => True) (v := .slice Ai (nxI (es.take q) a).length ci) (RdL.bare HRD.out _) H2d.out (Sub.nowhere _) (Sub.nowhere _) not_nowhere oneI m1.out m2.out HBB.out ?_; intro v' w2 ho1 hg1 hw1; obtain ⟨A', c', rfl⟩ := ho1.form; have q0 : w2.cell? ⟨w.heap.size + 1 + 1, a, none⟩ = some (.slice Ai (nxI (es.take q) a).length ci) := grown_cell hg1 (X4.out.out.cell a _ hvs) HND.out; have qf : w2.frozen? ⟨w.heap.size + 1 + 1, a, none⟩ = false := grown_frozen hg1 (X4.out.out.fr a) X4.out.out.lt HND.out; have q1 : w2.cell? ⟨wr.heap.size, 0, none⟩ = some (.int .i64 (a : Int)) := grown_cell hg1 (E4.out.cell 0 _ rfl) HNE.out))
      all_goals
        have hkey := HKEY.out _ _ _ _ hvs ho1 hg1 hw1
        rw [show (nxI (es.take q) a ++ [(b : Int)]).length = (nxI (es.take q) a).length + 1 by simp] at hkey
        obtain ⟨vs', B5, M5, X5, BL5, hsz5⟩ := hkey
        clear HKEY ho1 hg1 hw1 X3 B3 HM3 BL3 X4 M4 B4 BL4 E3 E4 hi hj q0 q1 qf e0 e1 hx H2d HRD ha0 ha1
        go_wp2_with fail
        go_roundw
        case rel => exact ⟨q + 1, by omega, by go_num, vs', B5, M5, X5, BL5, hsz5⟩
        case measure => simp [intOf]; omega
    · skip
      have hqe : q = es.length := by omega
      subst hqe
      obtain ⟨W1, hW1⟩ : ∃ W1 : World, W1 = wr := ⟨_, rfl⟩
      subst hW1
      rw [List.take_length] at M1 X1
      have TW := Lib.hid (HT.out.go BL1)
      clear hq hlt k0 k1 R HS HB0 HM0 HX0 BL
      go_wp2
      go_loopw [8, 50] (fun s t wr => ∃ (q : Nat) (lst : List Nat), q ≤ N ∧ t = .int .i64 q ∧ Hid (RdU wr (Plus Nowhere W1.heap.size wr.heap.size) lst s) ∧ Hid (SetIs lst (fun m => decide (m < q) && rdyE es [] m)) ∧ Below W1.heap.size W1 wr) (fun _ t _ => N - (intOf t).toNat)
      case atStart => exact ⟨0, [], by omega, rfl, Lib.hid (RdL.nil (by unfold maxLen; omega)), Lib.hid (SetIs.nil.congr fun m => by simp), Below.refl _ _⟩
      case round =>
        obtain ⟨q, lst, hq, rfl, R1, SI, hb⟩ := hrel
        by_cases hlt : q < N
        · skip
          have m0 := (M1.out.below hb).atN hlt
          have hwle : wtE es [] q ≤ 8796093022208 := by have := wtE_le es [] q; omega
          have hq6 : q ≤ 65535 := by omega
          have hsz := hb.size
          have HRS := Lib.hid (show ∀ x : Bool, (rdyE es [] q = x) → ∀ m, (decide (m < q + 1) && rdyE es [] m) = ((decide (m < q) && rdyE es [] m) || (x && decide (m = q))) from by
            intro x hx m
            by_cases e : m = q
            · subst e; rw [hx]; simp
            · have : decide (m < q + 1) = decide (m < q) := decide_eq_decide.2 (by omega)
              rw [this]; simp [e])
          have HR0 := Lib.hid (show rdyE es [] q = decide (wtE es [] q = 0) from by rw [Bool.eq_iff_iff]; unfold rdyE; simp)
          by_cases h0 : wtE es [] q = 0
          · rw [h0] at m0
            have HS2 := Lib.hid ((addL_is SI.out hq6).congr (Q := fun m => decide (m < q + 1) && rdyE es [] m) fun m => by rw [HRS.out true (by rw [HR0.out, h0]; rfl) m, Bool.true_and])
            have HA := Lib.hid (add_any lst q wr _ _ plus_upto R1.out)
            clear h0 HRS HR0 hwle R1 SI
            have m1 : wr.cell? ⟨w.heap.size + 1, q, none⟩ = some (.int .i64 0) := m0
            clear m0
            go_wp2_with (go_at_call 28; refine HA.out.mono ?_; rintro e w' ⟨u, rfl, hu, hb2⟩)
            go_roundw
            case rel => exact ⟨q + 1, _, by omega, by go_num, Lib.hid (hu.keep Flat.keeps (plus_in hsz hb2.size) (Same.refl _ _)), HS2, hb.trans (hb2.mono hsz)⟩
            case measure => simp [intOf]; omega
          · obtain ⟨y, hy⟩ : ∃ y, y = wtE es [] q := ⟨_, rfl⟩
            have HS2 := Lib.hid (SI.out.congr (Q := fun m => decide (m < q + 1) && rdyE es [] m) fun m => by rw [HRS.out false (by rw [HR0.out, decide_eq_false h0]) m, Bool.false_and, Bool.or_false])
            rw [← hy] at m0 h0 hwle
            have h1 : ¬ (y : Int) = 0 := by omega
            clear HRS HR0 hy SI h0
            go_wp2_with fail
            go_roundw
            case rel => exact ⟨q + 1, lst, by omega, by go_num, R1, HS2, hb⟩
            case measure => simp [intOf]; omega
        · have hqn : q = N := by omega
          subst hqn
          obtain ⟨W2, hW2⟩ : ∃ W2 : World, W2 = wr := ⟨_, rfl⟩
          subst hW2
          have R2 := Lib.hid (show RS W1.heap.size W2 lst _ (.slice none 0 0) from RS.new (n := W1.heap.size) R1.out (Nat.le_refl _) (by simp [Value.ownBlock]))
          have HB2 := Lib.hid (show But (Is (w.heap.size + 1)) W1 W2 from But.of_below hb)
          have M2 := Lib.hid ((M1.out.below hb).congrN (g := wtE es []) fun k _ => rfl)
          have BL2 := Lib.hid BL1
          clear R1 hb M1 BL1 hq hlt
          go_wp2
          go_loopw [7, 8] (fun o s wr => ∃ (out lst : List Nat), GO q es out ∧ takeL q es (q - out.length) out = takeG q es ∧ Hid (OwnI 3 wr W1.heap.size Nowhere (out.map fun (n : Nat) => (n : Int)) o) ∧ Hid (RS W1.heap.size wr lst s o) ∧ Hid (SetIs lst (fun m => decide (m < q) && rdyE es out m)) ∧
            Hid (Blk 0 wr (w.heap.size + 1) (rowN q (wtE es out))) ∧ Hid (But (Is (w.heap.size + 1)) W1 wr)) (fun o _ _ => q - lenV o)
          case atStart => exact ⟨[], lst, GO.nil _ _, rfl, Lib.hid (OwnL.nil _ _ _), R2, SI, M2, HB2⟩
          case round =>
            obtain ⟨W3, hW3⟩ : ∃ W3 : World, W3 = wr := ⟨_, rfl⟩
            subst hW3
            obtain ⟨out, lst, hG, hTk, O, R, SI, M, HB⟩ := hrel
            obtain ⟨Ao, co, rfl⟩ := O.out.form
            obtain ⟨T, T1, T2, T3, r⟩ := R.out.ex
            obtain ⟨As, cs, rfl, _, hcs, _⟩ := r.form
            unfold maxLen at hcs
            have hlen : (out.map fun (n : Nat) => (n : Int)).length = out.length := by simp
            rw [hlen] at O R T3 ⊢
            by_cases h0 : 0 < lst.length
            · skip
              obtain ⟨n, rr, hle, hme⟩ := set_some SI.out h0
              obtain ⟨hnN, hrdy⟩ := least_some hle
              have hno := (rdyE_iff.1 hrdy).1
              have hhd : headI (memB lst lst.length) = (n : Int) := by rw [hme]; rfl
              obtain ⟨htk2, hol⟩ := takeL_some hG hle
              have HHD := Lib.hid hhd
              have hB3 := Lib.hid (show Below w.heap.size w W3 from BL2.out.trans (HB.out.below (by omega) (fun k hk => by unfold Is at hk; omega)))
              have C1 := Lib.hid (first_any lst W3 T _ T1 (HT.out.go hB3.out) r)
              have HRY := Lib.hid hrdy
              have HLE := Lib.hid (And.intro hle hme)
              have HTK := Lib.hid (And.intro htk2 hTk)
              have HSI := Lib.hid (show SetIs (zipB bsLess lst ([(n : Int)].foldl addL [])) (rkE q es out n 0) from (less_is SI.out (one_is n (by omega))).congr fun m => rkE_zero es out n q m)
              clear r T1 T2 T3 hle hme hhd hrdy htk2 hTk SI hlen
              go_wp2_with fail
              refine C1.out.mono ?_
              rintro e w2 ⟨rfl, hb2⟩
              rw [HHD.out]
              have O2 := Lib.hid (O.out.keep Flat.keeps hb2)
              have R4 := Lib.hid (R.out.below hb2)
              have M4 := Lib.hid (M.out.below hb2)
              have HB4 := Lib.hid (HB.out.trans (But.of_below hb2))
              have hw1 : W1.heap.size ≤ w2.heap.size := HB4.out.size
              clear O R M HB hb2 C1 HHD
              go_wp2_with (at_builtin; refine wpList_append_one rfl _ _ 71 rfl i0 _ Tryd.underlying71 hi hz0 hz1 hz2 rfl (by decide) Flat.keeps O2.out (x := (n : Int)) (cs := [Value.int .i64 (n : Int)]) (Tx := Nowhere) ?d0 rfl rfl rfl (Sub.nowhere _) (Sub.nowhere _) not_nowhere ?d1 ?d2 ?d3 ?d4 ?_)
              case d0 => exact ⟨rfl, by unfold inI; omega⟩
              case d1 => simp [Value.oneCell']
              case d2 => rw [List.length_map]; unfold maxLen; omega
              case d3 => rw [List.length_map]; omega
              try (case d4 => exact hw1)
              intro v3 w3 ho3 hg3 hk3
              obtain ⟨A3, c3, rfl⟩ := ho3.form
              have hl3 : (out.map (fun (n : Nat) => (n : Int)) ++ [(n : Int)]).length = out.length + 1 := by simp
              rw [hl3] at ho3 hk3 ⊢
              have hlt2 := O2.out.lt
              have O3 := Lib.hid ho3
              have R5 := Lib.hid (R4.out.grown hg3 hk3 (by omega))
              have M5 := Lib.hid (M4.out.but (But.of_grown hg3) (fun e => by have := (hlt2 _ e).1; omega))
              have HB5 := Lib.hid (HB4.out.grew hg3 (fun k e => (hlt2 k e).1))
              have hw3 : W1.heap.size ≤ w3.heap.size := HB5.out.size
              clear ho3 hg3 hk3 hlt2 hl3 R4 M4 HB4 O2 hw1
              have b4 := (Below.refl w3.heap.size w3).alloc (Nat.le_refl _) (.cells #[.int .i64 (n : Int)] 3)
              have c4 : (w3.alloc (.cells #[.int .i64 (n : Int)] 3)).cell? ⟨w3.heap.size, 0, none⟩ = some (.int .i64 (n : Int)) := new_at _ _ _
              have CO := Lib.hid (of_any [(n : Int)] (w3.alloc (.cells #[.int .i64 (n : Int)] 3)) (Plus Nowhere w3.heap.size (w3.heap.size + 1)) (.slice (some ⟨w3.heap.size, 0, none⟩) 1 1) (fun k h => h.elim (fun h => h.elim) (fun h => by have := h.2; show k < _; rw [World.size_alloc]; exact this)) (rdI_one c4 (by unfold inI; omega) (.inr ⟨Nat.le_refl _, Nat.lt_succ_self _⟩)))
              have B4 := Lib.hid b4
              clear b4 c4
              go_wp2_with fail
              refine CO.out.mono ?_
              rintro e w5 ⟨u5, rfl, hu5, hb5⟩
              have b5 : Below w3.heap.size w3 w5 := B4.out.trans (hb5.mono (by rw [World.size_alloc]; omega))
              obtain ⟨T, T1, T2, T3, r⟩ := (R5.out.below b5).ex
              have CL := Lib.hid (bsLess_any lst _ w5 T _ _ u5 T1 plus_upto r hu5)
              have B5 := Lib.hid b5
              clear CO B4 b5 r T1 T2 T3 hu5 hb5
              go_wp2_with fail
              refine CL.out.mono ?_
              rintro e w6 ⟨x6, rfl, hu6, hb6⟩
              have b6 : Below w3.heap.size w3 w6 := B5.out.trans (hb6.mono B5.out.size)
              have R6 := Lib.hid (RS.new (o := .slice A3 (out.length + 1) c3) hu6 (Nat.le_trans hw3 B5.out.size) (fun k hk => Nat.lt_of_lt_of_le (O3.out.lt k hk).2 B5.out.size))
              have O6 := Lib.hid (O3.out.keep Flat.keeps b6)
              have M6 := Lib.hid ((M5.out.below b6).congrN (g := wkE es out n 0) (fun k _ => (wkE_zero es out n k).symm))
              have HB6 := Lib.hid (HB5.out.trans (But.of_below b6))
              have X6 := Lib.hid (X1.out.low HB6.out (by unfold Is; omega) (fun k hk => by unfold Is at hk; omega))
              obtain ⟨Ai, ci, hvs, hx, hro⟩ := X6.out.at_ hnN
              have HRO := Lib.hid hro
              have hw6 : W1.heap.size ≤ w6.heap.size := HB6.out.size
              have hcm2 : (nxI es n).length ≤ es.length := by rw [nxI_len]; exact nxE_len es n
              clear CL B5 hu6 hb6 b6 O3 R5 M5 HB5 hw3 hro X6 hvs
              go_wp2
              clear hx
              go_loopw [8, 80] (fun s t wr => ∃ (k : Nat) (ls : List Nat), k ≤ (nxI es n).length ∧ t = .int .i64 k ∧ Hid (RS W1.heap.size wr ls s (.slice A3 (out.length + 1) c3)) ∧ Hid (SetIs ls (rkE q es out n k)) ∧ Hid (Blk 0 wr (w.heap.size + 1) (rowN q (wkE es out n k))) ∧ Hid (But (Is (w.heap.size + 1)) w6 wr)) (fun _ t _ => (nxI es n).length - (intOf t).toNat)
              case atStart => exact ⟨0, _, by omega, rfl, R6, HSI, M6, Lib.hid (But.refl _ _)⟩
              case round =>
                clear R6 HSI M6
                obtain ⟨k, ls, hk, rfl, R, SI, M, HB⟩ := hrel
                by_cases hlt : k < (nxI es n).length
                · skip
                  have hltE : k < (nxE es n).length := by rw [← nxI_len]; exact hlt
                  have hro2 := HRO.out.but HB.out (fun j e => by have := (HRO.out.lt j e).1; unfold Is; omega)
                  obtain ⟨g, cc, hv, _, _, _, _, _, hcells⟩ := OwnI.open_ hro2 (by omega)
                  injection hv with hA _ hcc
                  subst hA hcc
                  obtain ⟨m, hm⟩ : ∃ m, m = (nxE es n)[k] := ⟨_, rfl⟩
                  have hcell := (hcells k hlt).2
                  rw [show (nxI es n)[k] = (m : Int) by rw [hm]; simp [nxI]] at hcell
                  have hmN : m < q := (HV.out n m (nxE_mem.1 (by rw [hm]; exact List.getElem_mem _))).2
                  have m0 := M.out.atN hmN
                  have mf := M.out.fr m
                  have hwp := wkE_pos hno hltE
                  have hwl := wkE_le es out n k m
                  have HWS := Lib.hid (fun x => wkE_succ hno hltE x)
                  have HMM := Lib.hid hm
                  rw [← hm] at hwp HWS
                  obtain ⟨y, hy⟩ : ∃ y, y = wkE es out n k m := ⟨_, rfl⟩
                  rw [← hy] at m0 hwp hwl
                  have HY := Lib.hid hy
                  clear hy hm hro2 hcells
                  have hsw := HB.out.size
                  have hol6 := O6.out.lt
                  by_cases h1 : y = 1
                  · subst h1
                    have m2 : wr.cell? ⟨w.heap.size + 1, m, none⟩ = some (.int .i64 1) := m0
                    clear m0 hwp hwl
                    have M7 := Lib.hid ((M.out.setN (k := m) (y := 0) hmN).congrN (g := wkE es out n (k + 1)) fun x _ => by
                      rw [HWS.out x]
                      by_cases e : x = m
                      · subst e; rw [if_pos rfl, if_pos rfl, ← HY.out]
                      · rw [if_neg e, if_neg e])
                    have R7 := Lib.hid (R.out.set (p := ⟨w.heap.size + 1, m, none⟩) (by show w.heap.size + 1 < _; omega) (.int .i64 0))
                    have HB7 := Lib.hid (HB.out.setCell (p := ⟨w.heap.size + 1, m, none⟩) (show Is _ _ from rfl) (.int .i64 0))
                    have hz : wkE es out n (k + 1) m = 0 := by rw [HWS.out m, if_pos rfl, ← HY.out]
                    have S7 := Lib.hid ((addL_is SI.out (show m ≤ 65535 by omega)).congr (Q := rkE q es out n (k + 1)) fun x => by
                      rw [rkE_yes HV.out hG HRY.out hltE (by rw [← HMM.out]; exact hz) x, ← HMM.out])
                    have m7 := M7.out.atN hmN
                    rw [hz] at m7
                    have m8 : (wr.setCell ⟨w.heap.size + 1, m, none⟩ (.int .i64 0)).cell? ⟨w.heap.size + 1, m, none⟩ = some (.int .i64 0) := m7
                    clear m7 hz M SI R HB HWS HY
                    go_upto_region 25 with (fail)
                    generalize wr.setCell ⟨w.heap.size + 1, m, none⟩ (.int .i64 0) = W7 at *
                    obtain ⟨T, T1, T2, T3, r⟩ := R7.out.ex
                    have HA := Lib.hid (add_any ls m W7 T _ T1 r)
                    have HTS := Lib.hid (And.intro T1 (And.intro T2 T3))
                    have hw7 := HB7.out.size
                    clear r T1 T2 T3 hcell m2 mf
                    go_wp2_with fail
                    refine HA.out.mono ?_
                    rintro e w8 ⟨u8, rfl, hu8, hb8⟩
                    have R8 := Lib.hid (RS.more (lo := W1.heap.size) (o := .slice A3 (out.length + 1) c3) HTS.out.1 HTS.out.2.1 HTS.out.2.2 hu8 hb8.size (by omega) (fun j e => by have := (hol6 j e).2; omega))
                    have M8 := Lib.hid (M7.out.below hb8)
                    have HB8 := Lib.hid (HB7.out.trans (But.of_below hb8))
                    clear HA HTS hu8 hb8 M7 HB7 m8
                    go_wp2_with fail
                    go_roundw
                    case rel => exact ⟨k + 1, _, by omega, by go_num, R8, S7, M8, HB8⟩
                    case measure => simp [intOf]; omega
                  · have M7 := M.out.setN (k := m) (y := y - 1) hmN
                    have hyc : ((y - 1 : Nat) : Int) = (y : Int) - 1 := by omega
                    rw [hyc] at M7
                    have M8 := Lib.hid (M7.congrN (g := wkE es out n (k + 1)) fun x _ => by
                      rw [HWS.out x]
                      by_cases e : x = m
                      · subst e; rw [if_pos rfl, if_pos rfl, ← HY.out]
                      · rw [if_neg e, if_neg e])
                    have R7 := Lib.hid (R.out.set (p := ⟨w.heap.size + 1, m, none⟩) (by show w.heap.size + 1 < _; omega) (.int .i64 ((y : Int) - 1)))
                    have HB7 := Lib.hid (HB.out.setCell (p := ⟨w.heap.size + 1, m, none⟩) (show Is _ _ from rfl) (.int .i64 ((y : Int) - 1)))
                    have hz : wkE es out n (k + 1) m = y - 1 := by rw [HWS.out m, if_pos rfl, ← HY.out]
                    have S7 := Lib.hid (SI.out.congr (Q := rkE q es out n (k + 1)) fun x => by
                      rw [rkE_no hno hltE (by rw [← HMM.out, hz]; omega) x])
                    have m7 := M8.out.atN hmN
                    rw [hz, hyc] at m7
                    have hne : ¬ (y : Int) - 1 = 0 := by omega
                    clear hz M SI R HB HWS HY M7 hyc
                    go_upto_region 25 with (fail)
                    generalize wr.setCell ⟨w.heap.size + 1, m, none⟩ (.int .i64 ((y : Int) - 1)) = W7 at *
                    go_wp2_with fail
                    go_roundw
                    case rel => exact ⟨k + 1, ls, by omega, by go_num, R7, S7, M8, HB7⟩
                    case measure => simp [intOf]; omega
                · skip
                  have hke : k = (nxE es n).length := by rw [← nxI_len]; omega
                  have S7 := Lib.hid (SI.out.congr (Q := fun m => decide (m < q) && rdyE es (out ++ [n]) m) fun x => by rw [hke, rkE_all hno])
                  have M7 := Lib.hid (M.out.congrN (g := wtE es (out ++ [n])) fun x _ => by rw [hke, wkE_all hno])
                  have O7 := O6.out.but HB.out (fun j e => by have := (O6.out.lt j e).1; unfold Is; omega)
                  rw [show out.map (fun (n : Nat) => (n : Int)) ++ [(n : Int)] = (out ++ [n]).map (fun (n : Nat) => (n : Int)) by simp] at O7
                  have HO7 := Lib.hid O7
                  have HB7 := Lib.hid (HB6.out.trans HB.out)
                  have HTK7 := Lib.hid (show takeL q es (q - (out ++ [n]).length) (out ++ [n]) = takeG q es by rw [← HTK.out.1]; exact HTK.out.2)
                  clear hke O7 HRO O6 SI M HB HB6
                  go_wp2_with fail
                  go_roundw
                  case rel => exact ⟨out ++ [n], ls, hG.snoc hnN HRY.out, HTK7.out, HO7, R, S7, M7, HB7⟩
                  case measure => simp [lenV]; omega
            · skip
              have hl0 : lst.length = 0 := by omega
              have hout := takeL_none (set_none SI.out hl0) (q - out.length)
              rw [hTk] at hout
              subst hout
              have HO := Lib.hid (O.out.low (base' := w.heap.size) (by omega))
              have HBW := Lib.hid (show Below w.heap.size w W3 from BL2.out.trans (HB.out.below (by omega) (fun k hk => by unfold Is at hk; omega)))
              clear O R SI M HB r T1 T2 T3 hTk hG
              go_wp2
              go_ret
              exact ⟨_, rfl, HO.out, HBW.out⟩
end Go.Proofs.YtknaoianhjeccaaDoor
