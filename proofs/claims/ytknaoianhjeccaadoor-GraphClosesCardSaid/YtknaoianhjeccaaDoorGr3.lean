/- The walk of the reference's reach. -/
import Derived.Test.YtknaoianhjeccaaDoorGrSpec3
import Derived.Test.YtknaoianhjeccaaDoorPairRow
import Derived.Test.YtknaoianhjeccaaDoorMatB
import Derived.BigRegion
namespace Go.Proofs.YtknaoianhjeccaaDoor
open Go.RowKit
set_option linter.unusedVariables false
theorem infoGb : (Tryd.prog.info? 4).map (fun i => (i.zero, i.size, i.bytes)) = some (some (.bool false), 1, 1) := by kernel_rfl
theorem infoGbs : (Tryd.prog.info? 47).map (fun i => (i.zero, i.size, i.bytes)) = some (some (.slice none 0 0), 1, 24) := by kernel_rfl
/-- round k at row i, column j: what is done has the next round's value -/
def mixW (E : Nat → Nat → Bool) (k i j : Nat) : Nat → Nat → Bool := fun i' j' => if i' < i ∨ (i' = i ∧ j' < j) then wsh E (k + 1) i' j' else wsh E k i' j'
theorem mixW_zero (E : Nat → Nat → Bool) (k : Nat) (i' j' : Nat) : mixW E k 0 0 i' j' = wsh E k i' j' := by unfold mixW; rw [if_neg (by omega)]
theorem mixW_row (E : Nat → Nat → Bool) (k i n : Nat) {i' j' : Nat} (hj : j' < n) : mixW E k i n i' j' = mixW E k (i + 1) 0 i' j' := by
  unfold mixW
  by_cases h : i' < i ∨ i' = i ∧ j' < n
  · rw [if_pos h, if_pos (by omega)]
  · rw [if_neg h, if_neg (by omega)]
theorem mixW_all (E : Nat → Nat → Bool) (k n : Nat) {i' j' : Nat} (hi : i' < n) : mixW E k n 0 i' j' = wsh E (k + 1) i' j' := by
  unfold mixW; rw [if_pos (by omega)]
theorem mixW_at (E : Nat → Nat → Bool) (k i j : Nat) : mixW E k i j i j = wsh E k i j := by unfold mixW; rw [if_neg (by omega)]
theorem mixW_to (E : Nat → Nat → Bool) (k i j : Nat) : mixW E k i j i k = wsh E k i k := by
  unfold mixW; split
  · exact wsh_to E k i
  · rfl
theorem mixW_from (E : Nat → Nat → Bool) (k i j : Nat) : mixW E k i j k j = wsh E k k j := by
  unfold mixW; split
  · exact wsh_from E k j
  · rfl
theorem mixW_step (E : Nat → Nat → Bool) (k i j : Nat) (x : Bool) (hx : x = (wsh E k i j || (wsh E k i k && wsh E k k j))) (i' j' : Nat) : setR (mixW E k i j) i j x i' j' = mixW E k i (j + 1) i' j' := by
  unfold setR
  by_cases h : i' = i ∧ j' = j
  · rw [if_pos h, h.1, h.2, hx]
    unfold mixW
    rw [if_pos (by omega)]; rfl
  · rw [if_neg h]
    unfold mixW
    by_cases h2 : i' < i ∨ i' = i ∧ j' < j
    · rw [if_pos h2, if_pos (by omega)]
    · rw [if_neg h2, if_neg (by omega)]
theorem edB_snoc (es : List (Nat × Nat)) (a b i j : Nat) : edB (es ++ [(a, b)]) i j = setR (edB es) a b true i j := by
  unfold edB setR
  by_cases h : i = a ∧ j = b
  · rw [if_pos h, h.1, h.2]; simp
  · rw [if_neg h]
    rw [Bool.eq_iff_iff]
    simp only [List.contains_iff_mem, List.mem_append, List.mem_singleton, Prod.mk.injEq]
    constructor
    · rintro (h1 | h1)
      · exact h1
      · exact absurd h1 h
    · exact .inl
set_option maxHeartbeats 2000000 in
set_option maxRecDepth 100000 in
theorem reach_any (N : Nat) (hN : N ≤ 200) (es : List (Nat × Nat)) (hv : ∀ a b, (a, b) ∈ es → a < N ∧ b < N) (w : World) (S : Blocks) (ve : Value) (hS : Sub S (Upto w.heap.size)) (r : RdP w S (es.map ceE) ve) :
    Calls Tryd.prog 16 #[.agg #[.int .i64 N, ve]] w fun e w' => ∃ g gs, e = .returned (.slice (some ⟨g, 0, none⟩) N N) ∧ gs.length = N ∧ MatB w.heap.size w' g N gs (waysE N es) ∧ Below w.heap.size w w' := by
  obtain ⟨A, cap, rfl, hl, hcm, hby⟩ := r.form
  unfold maxLen at hcm
  rw [List.length_map] at r hl hby ⊢
  obtain ⟨i0, hi, hz0, hz1, hz2⟩ := info_parts infoGb
  obtain ⟨i1, hj, hy0, hy1, hy2⟩ := info_parts infoGbs
  have hmk1 := fun w => run_make1 (P := Tryd.prog) 45 47 i1 _ Tryd.underlying45 hj hy0 hy1 rfl N (by rw [hy2]; omega) (by omega) w
  have hmk2 := fun w => run_make1 (P := Tryd.prog) 47 4 i0 _ Tryd.underlying47 hi hz0 hz1 rfl N (by rw [hz2]; omega) (by omega) w
  have R := Lib.hid r
  have HS := Lib.hid hS
  have HV := Lib.hid hv
  clear r hS hv hi hz0 hz1 hz2 hj hy0 hy1 hy2
  go_enter Tryd.func16, Tryd.ntmps16
  go_upto_region 2 with (fail)
  clear hmk1
  have bA : Below w.heap.size w (w.alloc (.cells #[.int .i64 (N : Int), .slice A es.length cap] 24)) := (Below.refl _ _).alloc (Nat.le_refl _) _
  have bB : Below ((w.alloc (.cells #[.int .i64 (N : Int), .slice A es.length cap] 24))).heap.size (w.alloc (.cells #[.int .i64 (N : Int), .slice A es.length cap] 24)) (((w.alloc (.cells #[.int .i64 (N : Int), .slice A es.length cap] 24))).alloc (.cells (Array.replicate N (.slice none 0 0)) 47)) := (Below.refl _ _).alloc (Nat.le_refl _) _
  have b0 := (Blk.made w [.int .i64 (N : Int), .slice A es.length cap] 24 (base := 0) (Nat.zero_le _)).below bB
  have m0 := MatB.made (base := w.heap.size) (w.alloc (.cells #[.int .i64 (N : Int), .slice A es.length cap] 24)) N 47 (fun _ _ => false) (by simp)
  have BL := Lib.hid (show Below w.heap.size w (((w.alloc (.cells #[.int .i64 (N : Int), .slice A es.length cap] 24))).alloc (.cells (Array.replicate N (.slice none 0 0)) 47)) from bA.trans (bB.mono (by simp)))
  have hsz : ((((w.alloc (.cells #[.int .i64 (N : Int), .slice A es.length cap] 24))).alloc (.cells (Array.replicate N (.slice none 0 0)) 47))).heap.size = w.heap.size + 1 + 1 := by simp
  rw [show ((w.alloc (.cells #[.int .i64 (N : Int), .slice A es.length cap] 24))).heap.size = w.heap.size + 1 by simp] at m0
  clear bA bB
  generalize (((w.alloc (.cells #[.int .i64 (N : Int), .slice A es.length cap] 24))).alloc (.cells (Array.replicate N (.slice none 0 0)) 47)) = W0 at *
  have HB0 := Lib.hid b0
  have HM0 := Lib.hid m0
  clear b0 m0
  have hbz : w.heap.size + 1 ≤ W0.heap.size := by omega
  clear hsz
  go_wp2
  go_loopw [15] (fun t wr => ∃ (j : Nat) (gs : List Nat), j ≤ N ∧ t = .int .i64 j ∧ gs.length = j ∧ Hid (MatB w.heap.size wr (w.heap.size + 1) N gs (fun _ _ => false)) ∧ Hid (Blk 0 wr w.heap.size [.int .i64 (N : Int), .slice A es.length cap]) ∧ Below w.heap.size w wr) (fun t _ => N - (intOf t).toNat)
  case atStart => exact ⟨0, [], by omega, rfl, rfl, HM0, HB0, BL.out⟩
  case round =>
    clear HM0 HB0 BL
    obtain ⟨j, gs, hjn, rfl, hgl, M, B, hb⟩ := hrel
    have k0 := B.out.cell 0 _ rfl
    have k1 := B.out.cell 1 _ rfl
    have hle := hb.size
    by_cases hlt : j < N
    · skip
      have hm2 := M.out.push (by rw [hgl]; exact hlt) 4 hle
      have HM2 := Lib.hid (hm2.congr (rows' := fun _ _ => false) (fun i k _ _ => by unfold putR; split <;> rfl))
      have B2 := Lib.hid ((B.out.below ((Below.refl _ _).alloc (Nat.le_refl _) (.cells (Array.replicate N (.bool false)) 4))).other (p := ⟨w.heap.size + 1, gs.length, none⟩) (by show w.heap.size + 1 ≠ _; omega) (.slice (some ⟨wr.heap.size, 0, none⟩) N N))
      have hb2 := (hb.alloc hle (.cells (Array.replicate N (.bool false)) 4)).setCell (p := ⟨w.heap.size + 1, gs.length, none⟩) (Nat.le_succ _) (.slice (some ⟨wr.heap.size, 0, none⟩) N N)
      have HG := Lib.hid (show (gs ++ [wr.heap.size]).length = j + 1 by simp [hgl])
      have hcr := M.out.out.cell j (.slice none 0 0) (by
        rw [List.getElem?_append_right (by simp; rw [hgl]; exact Nat.le_refl _), List.length_map, hgl, Nat.sub_self, List.getElem?_replicate, if_pos (by omega)])
      have hfr := M.out.out.fr j
      have hlt1 := M.out.out.lt
      rw [hgl, World.setCell_alloc_past _ _ _ _ hlt1] at HM2 B2 hb2
      have HGL := Lib.hid hgl
      clear hm2 M B hb hgl
      go_wp2
      go_roundw
      case rel => exact ⟨j + 1, gs ++ [wr.heap.size], by omega, by go_num, HG.out, HM2, B2, hb2⟩
      case measure => simp [intOf]; omega
    · skip
      have hjn' : j = N := by omega
      subst hjn'
      have HGL := Lib.hid hgl
      clear hgl hmk2 hlt hjn
      have M0 := Lib.hid (M.out.congr (rows' := edB (es.take 0)) (fun i k _ _ => by simp [edB]))
      have HB1 := Lib.hid B.out
      have HBB := Lib.hid hb
      clear M B hb
      go_wp2
      go_loopw [28] (fun t wr => ∃ q : Nat, q ≤ es.length ∧ t = .int .i64 q ∧ Hid (MatB w.heap.size wr (w.heap.size + 1) j gs (edB (es.take q))) ∧ Below w.heap.size w wr) (fun t _ => es.length - (intOf t).toNat)
      case atStart => exact ⟨0, by omega, rfl, M0, HBB.out⟩
      case round =>
        clear M0 HBB k0 k1
        obtain ⟨q, hq, rfl, M, hb⟩ := hrel
        have hle := hb.size
        by_cases hlt : q < es.length
        · skip
          have hlt2 : q < (es.map ceE).length := by rw [List.length_map]; exact hlt
          obtain ⟨bb, off, rfl, hbS, hok, hc1, hc2⟩ := RdP.at1 (R.out.go Flat.keeps hb HS.out (Sub.refl _)) hlt2
          obtain ⟨a, b, hab⟩ : ∃ a b, es[q] = (a, b) := ⟨_, _, rfl⟩
          have hce : (es.map ceE)[q] = ((a : Int), (b : Int)) := by rw [List.getElem_map, hab]; rfl
          rw [hce] at hc1 hc2
          have hmem : (a, b) ∈ es := by rw [← hab]; exact List.getElem_mem hlt
          have haN := (HV.out a b hmem).1
          have hbN := (HV.out a b hmem).2
          have htk := Lib.hid (show es.take (q + 1) = es.take q ++ [(a, b)] by rw [List.take_succ_eq_append_getElem hlt, hab])
          simp only at hc1 hc2
          clear hok hab hmem hlt2 hce
          have hbx := (Below.refl wr.heap.size wr).alloc (Nat.le_refl _) (.cells #[.int .i64 (a : Int), .int .i64 (b : Int)] 49)
          have E1 := Lib.hid (Blk.made wr [.int .i64 (a : Int), .int .i64 (b : Int)] 49 (base := 0) (Nat.zero_le _))
          have M2 := Lib.hid (M.out.below hbx)
          have BL2 := Lib.hid (hb.trans (hbx.mono hle))
          clear hbx M hb
          go_upto_region 10 with (fail)
          generalize wr.alloc (.cells #[.int .i64 (a : Int), .int .i64 (b : Int)] 49) = W1 at *
          clear hc1 hc2
          have e0 := E1.out.cell 0 _ rfl
          have e1 := E1.out.cell 1 _ rfl
          obtain ⟨ga, hga⟩ : ∃ ga, gs[a]? = some ga := ⟨gs[a]'(by rw [HGL.out]; exact haN), List.getElem?_eq_getElem _⟩
          have r0 := M2.out.at_ hga
          have r1 := M2.out.at2 hga hbN
          have rf := (M2.out.row a ga hga).1.fr b
          have hge := (M2.out.row a ga hga).1.ge
          have M3 := Lib.hid (((M2.out.set hga hbN true).congr (rows' := edB (es.take (q + 1))) (fun i k _ _ => by rw [htk.out, edB_snoc])).drewN 1)
          have B3 := Lib.hid (BL2.out.setCell (p := ⟨ga, b, none⟩) hge (.bool true)).drew
          generalize edB (List.take q es) a b = xx at *
          clear M2 BL2 E1 hga hge
          go_region
          all_goals
            go_wp2_with fail
            go_roundw
            case rel => exact ⟨q + 1, by omega, by go_num, M3, B3.out⟩
            case measure => simp [intOf]; omega
        · skip
          have hqe : q = es.length := by omega
          subst hqe
          rw [List.take_length] at M
          have M0 := Lib.hid (M.out.congr (rows' := wsh (edB es) 0) (fun i k _ _ => rfl))
          have HBB := Lib.hid hb
          clear M hb hq hlt hle
          go_wp2
          go_loopw [43] (fun t wr => ∃ k : Nat, k ≤ j ∧ t = .int .i64 k ∧ Hid (MatB w.heap.size wr (w.heap.size + 1) j gs (wsh (edB es) k)) ∧ Below w.heap.size w wr) (fun t _ => j - (intOf t).toNat)
          case atStart => exact ⟨0, by omega, rfl, M0, HBB.out⟩
          case round =>
            clear M0 HBB
            obtain ⟨k, hk, rfl, M, hb⟩ := hrel
            by_cases hlt : k < j
            · skip
              have M0 := Lib.hid (M.out.congr (rows' := mixW (edB es) k 0 0) (fun i j _ _ => (mixW_zero _ _ _ _).symm))
              have HBB := Lib.hid hb
              clear M hb
              go_wp2
              go_loopw [48] (fun t wr => ∃ i : Nat, i ≤ j ∧ t = .int .i64 i ∧ Hid (MatB w.heap.size wr (w.heap.size + 1) j gs (mixW (edB es) k i 0)) ∧ Below w.heap.size w wr) (fun t _ => j - (intOf t).toNat)
              case atStart => exact ⟨0, by omega, rfl, M0, HBB.out⟩
              case round =>
                clear M0 HBB
                obtain ⟨i, hi, rfl, M, hb⟩ := hrel
                by_cases hlti : i < j
                · skip
                  have M0 := M
                  have HBB := Lib.hid hb
                  clear M hb
                  go_wp2
                  go_loopw [53] (fun t wr => ∃ p : Nat, p ≤ j ∧ t = .int .i64 p ∧ Hid (MatB w.heap.size wr (w.heap.size + 1) j gs (mixW (edB es) k i p)) ∧ Below w.heap.size w wr) (fun t _ => j - (intOf t).toNat)
                  case atStart => exact ⟨0, by omega, rfl, M0, HBB.out⟩
                  case round =>
                    clear M0 HBB
                    obtain ⟨p, hp, rfl, M, hb⟩ := hrel
                    by_cases hltp : p < j
                    · skip
                      obtain ⟨gi, hgi⟩ : ∃ gi, gs[i]? = some gi := ⟨gs[i]'(by rw [HGL.out]; exact hlti), List.getElem?_eq_getElem _⟩
                      obtain ⟨gk, hgk⟩ : ∃ gk, gs[k]? = some gk := ⟨gs[k]'(by rw [HGL.out]; exact hlt), List.getElem?_eq_getElem _⟩
                      have a0 := M.out.at_ hgi
                      have a1 := M.out.at_ hgk
                      have a2 := M.out.at2 hgi hltp
                      have a3 := M.out.at2 hgi hlt
                      have a4 := M.out.at2 hgk hltp
                      have a5 := (M.out.row i gi hgi).1.fr p
                      rw [mixW_at] at a2
                      rw [mixW_to] at a3
                      rw [mixW_from] at a4
                      have hge := (M.out.row i gi hgi).1.ge
                      have HX := Lib.hid (fun (x : Bool) (hx : x = (wsh (edB es) k i p || (wsh (edB es) k i k && wsh (edB es) k k p))) => (((M.out.set hgi hltp x).congr (rows' := mixW (edB es) k i (p + 1)) (fun i' j' _ _ => mixW_step _ _ _ _ x hx i' j')).drewN 1))
                      have HBX := Lib.hid (fun (x : Bool) => (hb.setCell (p := ⟨gi, p, none⟩) hge (.bool x)).drew)
                      clear M hb hge
                      generalize wsh (edB es) k i p = x at *
                      generalize wsh (edB es) k i k = y at *
                      generalize wsh (edB es) k k p = z at *
                      obtain ⟨W, hW⟩ : ∃ W : World, W = wr := ⟨_, rfl⟩
                      subst hW
                      cases x
                      · cases y
                        · have M3 := Lib.hid (HX.out false rfl)
                          have B3 := HBX.out false
                          clear HX HBX
                          go_wp2
                          go_region
                          all_goals
                            go_wp2
                            go_roundw
                            case rel => exact ⟨p + 1, by omega, by go_num, M3, B3⟩
                            case measure => simp [intOf]; omega
                        · cases z
                          · have M3 := Lib.hid (HX.out false rfl)
                            have B3 := HBX.out false
                            clear HX HBX
                            go_wp2
                            go_region
                            all_goals
                              go_wp2
                              go_roundw
                              case rel => exact ⟨p + 1, by omega, by go_num, M3, B3⟩
                              case measure => simp [intOf]; omega
                          · have M3 := Lib.hid (HX.out true rfl)
                            have B3 := HBX.out true
                            clear HX HBX
                            go_wp2
                            go_region
                            all_goals
                              go_wp2
                              go_roundw
                              case rel => exact ⟨p + 1, by omega, by go_num, M3, B3⟩
                              case measure => simp [intOf]; omega
                      · have M3 := Lib.hid (HX.out true rfl)
                        have B3 := HBX.out true
                        clear HX HBX
                        go_wp2
                        go_region
                        all_goals
                          go_wp2
                          go_roundw
                          case rel => exact ⟨p + 1, by omega, by go_num, M3, B3⟩
                          case measure => simp [intOf]; omega
                    · skip
                      have hpe : p = j := by omega
                      subst hpe
                      have M4 := Lib.hid (M.out.congr (rows' := mixW (edB es) k (i + 1) 0) (fun i' j' _ hj' => mixW_row _ _ _ _ hj'))
                      clear M
                      go_wp2
                      go_roundw
                      case rel => exact ⟨i + 1, by omega, by go_num, M4, hb⟩
                      case measure => simp [intOf]; omega
                · skip
                  have hie : i = j := by omega
                  subst hie
                  have M4 := Lib.hid (M.out.congr (rows' := wsh (edB es) (k + 1)) (fun i' j' hi' _ => mixW_all _ _ _ (by rw [HGL.out] at hi'; exact hi')))
                  clear M
                  go_wp2
                  go_roundw
                  case rel => exact ⟨k + 1, by omega, by go_num, M4, hb⟩
                  case measure => simp [intOf]; omega
            · skip
              have hke : k = j := by omega
              subst hke
              go_wp2
              go_ret
              exact ⟨_, gs, rfl, HGL.out, M.out, hb⟩
end Go.Proofs.YtknaoianhjeccaaDoor
