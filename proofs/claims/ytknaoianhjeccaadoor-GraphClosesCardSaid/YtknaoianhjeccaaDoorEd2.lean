/- The walk of the reference's BClosure. -/
import Derived.Test.YtknaoianhjeccaaDoorClSpec
import Derived.Test.YtknaoianhjeccaaDoorPairRow
import Derived.Test.YtknaoianhjeccaaDoorGr4
import Derived.Test.YtknaoianhjeccaaDoorGrSpec4
import Derived.Test.YtknaoianhjeccaaDoorBlk
namespace Go.Proofs.YtknaoianhjeccaaDoor
open Go.RowKit
set_option linter.unusedVariables false
theorem infoEd2 : (Tryd.prog.info? 49).map (fun i => (i.zero, i.size, i.bytes)) = some (some (.agg #[.int .i64 0, .int .i64 0]), 2, 16) := by kernel_rfl
/-- row i, its first j looked at -/
def edJ (c : Bool) (n : Nat) (W : Nat → Nat → Bool) (i j : Nat) : List (Nat × Nat) := edgU (rowP n (coreP c n W)) i ++ ((List.range j).filter (coreP c n W i)).map fun m => (i, m)
theorem edJ_zero (c : Bool) (n : Nat) (W : Nat → Nat → Bool) (i : Nat) : edJ c n W i 0 = edgU (rowP n (coreP c n W)) i := by simp [edJ]
theorem edJ_all (c : Bool) (n : Nat) (W : Nat → Nat → Bool) (i : Nat) : edJ c n W i n = edgU (rowP n (coreP c n W)) (i + 1) := by rw [edgU_succ]; rfl
theorem edJ_succ (c : Bool) (n : Nat) (W : Nat → Nat → Bool) (i j : Nat) : edJ c n W i (j + 1) = if coreP c n W i j then edJ c n W i j ++ [(i, j)] else edJ c n W i j := by
  unfold edJ
  rw [List.range_succ, List.filter_append, List.map_append, ← List.append_assoc]
  by_cases h : coreP c n W i j = true
  · rw [if_pos h]; simp [h]
  · rw [if_neg h]; simp [h]
theorem edJ_len (c : Bool) (n : Nat) (W : Nat → Nat → Bool) (i j : Nat) (hi : i < n) (hj : j ≤ n) (hn : n ≤ 200) : (edJ c n W i j).length ≤ 40200 := by
  unfold edJ
  rw [List.length_append, List.length_map]
  have h1 := edgU_len (rowP n (coreP c n W)) n (rowP_len n _) i
  have h2 := List.length_filter_le (coreP c n W i) (List.range j)
  rw [List.length_range] at h2
  have h3 : i * n ≤ 200 * 200 := Nat.mul_le_mul (by omega) hn
  omega
theorem Blk.two {base : Nat} {W : World} {b : Nat} {u0 u1 : Value} (B : Blk base W b [u0, u1]) (x y : Value) : Blk base ((W.setCell ⟨b, 0, none⟩ x).setCell ⟨b, 1, none⟩ y) b [x, y] := (B.set (i := 0) (by simp) x).set (i := 1) (by simp) y
theorem below_two {B : Nat} {w W : World} {b : Nat} (h : Below B w W) (hb : B ≤ b) (x y : Value) : Below B w ((W.setCell ⟨b, 0, none⟩ x).setCell ⟨b, 1, none⟩ y) := (h.setCell (p := ⟨b, 0, none⟩) hb x).setCell (p := ⟨b, 1, none⟩) hb y
set_option maxHeartbeats 1600000 in
set_option maxRecDepth 100000 in
theorem bclosure_any (N : Int) (hNi : inI N) (ps : List (Int × Int)) (c : Bool) (w : World) (S : Blocks) (ve : Value) (hS : Sub S (Upto w.heap.size)) (r : RdP w S ps ve) :
    Calls Tryd.prog 6 #[.agg #[.int .i64 N, ve], .bool c] w fun e w' => ∃ N' x, e = .returned (.tuple #[.agg #[.int .i64 N', x], .int .i64 (wrongE N ps)]) ∧
      (wrongE N ps = 0 → N' = N ∧ RdP w' (Plus Nowhere w.heap.size w'.heap.size) ((edgU (rowP N.toNat (coreP c N.toNat (waysE N.toNat (natsP ps)))) N.toNat).map ceE) x) ∧ (wrongE N ps ≠ 0 → N' = 0 ∧ x = .slice none 0 0) ∧ Below w.heap.size w w' := by
  obtain ⟨A, cap, rfl, hl, hcm, hby⟩ := r.form
  unfold maxLen at hcm
  obtain ⟨i0, hi, hz0, hz1, hz2⟩ := info_parts infoEd2
  have b0 := (Blk.made w [.int .i64 N, .slice A ps.length cap] 24 (base := 0) (Nat.zero_le _)).but (But.alloc (T := Nowhere) (But.refl _ _) (.cells #[.int .i64 0, .slice none 0 0] 24)) (fun h => h)
  have b4 := Blk.made (w.alloc (.cells #[.int .i64 N, .slice A ps.length cap] 24)) [.int .i64 0, .slice none 0 0] 24 (base := 0) (Nat.zero_le _)
  have bl : Below w.heap.size w ((w.alloc (.cells #[.int .i64 N, .slice A ps.length cap] 24)).alloc (.cells #[.int .i64 0, .slice none 0 0] 24)) := ((Below.refl _ _).alloc (Nat.le_refl _) _).alloc (by simp) _
  rw [show (w.alloc (.cells #[.int .i64 N, .slice A ps.length cap] 24)).heap.size = w.heap.size + 1 by simp] at b4
  have hsz0 : w.heap.size ≤ (((w.alloc (.cells #[.int .i64 N, .slice A ps.length cap] 24)).alloc (.cells #[.int .i64 0, .slice none 0 0] 24))).heap.size := bl.size
  have k0 := b0.cell 0 _ rfl
  have k1 := b0.cell 1 _ rfl
  have HB0 := Lib.hid b0
  have HB4 := Lib.hid b4
  have BL := Lib.hid bl
  have HS := Lib.hid hS
  have RA := Lib.hid (r.go Flat.keeps bl hS (Sub.refl _))
  have C1 := Lib.hid (bwrong_any N hNi ps ((w.alloc (.cells #[.int .i64 N, .slice A ps.length cap] 24)).alloc (.cells #[.int .i64 0, .slice none 0 0] 24)) S _ (hS.trans (Sub.upto hsz0)) (r.go Flat.keeps bl hS (Sub.refl _)))
  clear b0 b4 bl r hS
  go_enter Tryd.func6, Tryd.ntmps6
  go_upto_region 1 with (fail)
  generalize ((w.alloc (.cells #[.int .i64 N, .slice A ps.length cap] 24)).alloc (.cells #[.int .i64 0, .slice none 0 0] 24)) = W0 at *
  go_wp2_with fail
  refine C1.out.mono ?_
  rintro e w1 ⟨rfl, hb1⟩
  have BL1 := Lib.hid (BL.out.trans (hb1.mono BL.out.size))
  have HB1 := Lib.hid (HB0.out.below hb1)
  have HB41 := Lib.hid (HB4.out.below hb1)
  have R1 := Lib.hid (RA.out.go Flat.keeps hb1 (HS.out.trans (Sub.upto BL.out.size)) (Sub.refl _))
  clear C1 BL HB0 HB4 hb1 k0 k1 hsz0 RA
  by_cases hw : wrongE N ps = 0
  · skip
    obtain ⟨hn0, hn2, hgd, hrd⟩ := wrongE_zero hw
    obtain ⟨hps, hval⟩ := good_ps hgd
    obtain ⟨n, hnn⟩ : ∃ n : Nat, N = (n : Int) := ⟨N.toNat, by omega⟩
    subst hnn
    rw [Int.toNat_natCast] at hval hrd
    have hn200 : n ≤ 200 := by omega
    have hSz := Lib.hid (show Sub S (Upto w1.heap.size) from HS.out.trans (Sub.upto BL1.out.size))
    have C2 := Lib.hid (reach_any n hn200 (natsP ps) hval w1 S _ hSz.out (by rw [hps]; exact R1.out))
    obtain ⟨es, hes⟩ : ∃ es, es = natsP ps := ⟨_, rfl⟩
    rw [← hes] at C2 hval
    have HES := Lib.hid hes
    have HW0 := Lib.hid hw
    rw [hw]
    clear hw hgd hrd hes hps hval hn0 hn2 R1
    have k0 := HB1.out.cell 0 _ rfl
    have k1 := HB1.out.cell 1 _ rfl
    go_wp2_with fail
    refine C2.out.mono ?_
    rintro e w2 ⟨g, gs, rfl, hgl, hM, hb2⟩
    have HGL := Lib.hid hgl
    have BL2 := Lib.hid (BL1.out.trans (hb2.mono BL1.out.size))
    have HB2 := Lib.hid (HB1.out.below hb2)
    have HB42 := Lib.hid (HB41.out.below hb2)
    have hw2 := BL2.out.size
    have h4lt := HB42.out.lt
    have b8 := Blk.made w2 [.int .i64 (n : Int), .slice none 0 0] 24 (base := 0) (Nat.zero_le _)
    have b9 : Below w2.heap.size w2 (w2.alloc (.cells #[.int .i64 (n : Int), .slice none 0 0] 24)) := (Below.refl _ _).alloc (Nat.le_refl _) _
    have hz3 : w2.heap.size < ((w2.alloc (.cells #[.int .i64 (n : Int), .slice none 0 0] 24))).heap.size := by simp
    have M := Lib.hid hM
    have B8 := Lib.hid b8
    have BE := Lib.hid b9
    obtain ⟨m, hm⟩ : ∃ m, w2.heap.size = m := ⟨_, rfl⟩
    clear C2 hM hgl hb2 k0 k1 HB1 BL1 HB41 b8 b9
    have k0 := HB2.out.cell 0 _ rfl
    have k1 := HB2.out.cell 1 _ rfl
    go_upto_region 6 with (fail)
    rw [hm] at h4lt B8 BE hz3 hw2
    generalize (w2.alloc (.cells #[.int .i64 (n : Int), .slice none 0 0] 24)) = W2 at *
    have OO := Lib.hid (show OwnP 49 W2 (m + 1) Nowhere ((edgU (rowP n (coreP c n (waysE n es))) 0).map ceE) (.slice none 0 0) from OwnL.nil _ _ _)
    clear k0 k1
    have HMM := Lib.hid hm
    clear hm
    go_wp2
    go_loopw [26] (fun t wr => ∃ i : Nat, i ≤ n ∧ t = .int .i64 i ∧ ∃ o, Hid (Blk 0 wr m [.int .i64 (n : Int), o]) ∧ Hid (OwnP 49 wr (m + 1) Nowhere ((edgU (rowP n (coreP c n (waysE n es))) i).map ceE) o) ∧ Hid (Below m w2 wr)) (fun t _ => n - (intOf t).toNat)
    case atStart => exact ⟨0, by omega, rfl, _, B8, OO, BE⟩
    case round =>
      clear OO BE B8
      obtain ⟨i, hin, rfl, o, B8, O, HB⟩ := hrel
      obtain ⟨W3, hW3⟩ : ∃ W3 : World, W3 = wr := ⟨_, rfl⟩
      subst hW3
      by_cases hlt : i < n
      · skip
        obtain ⟨gi, hgi⟩ : ∃ gi, gs[i]? = some gi := ⟨gs[i]'(by rw [HGL.out]; exact hlt), List.getElem?_eq_getElem _⟩
        have HGI := Lib.hid hgi
        have OO := Lib.hid (show OwnP 49 W3 (m + 1) Nowhere ((edJ c n (waysE n es) i 0).map ceE) o by rw [edJ_zero]; exact O.out)
        clear hgi
        go_wp2
        go_loopw [31] (fun t wr => ∃ j : Nat, j ≤ n ∧ t = .int .i64 j ∧ ∃ o, Hid (Blk 0 wr m [.int .i64 (n : Int), o]) ∧ Hid (OwnP 49 wr (m + 1) Nowhere ((edJ c n (waysE n es) i j).map ceE) o) ∧ Hid (Below m w2 wr)) (fun t _ => n - (intOf t).toNat)
        case atStart => exact ⟨0, by omega, rfl, _, B8, OO, HB⟩
        case round =>
          clear OO HB B8 O
          obtain ⟨j, hjn, rfl, o, B8, O, HB⟩ := hrel
          obtain ⟨W4, hW4⟩ : ∃ W4 : World, W4 = wr := ⟨_, rfl⟩
          subst hW4
          have M4 := Lib.hid (M.out.below (Below.mono HB.out (Nat.le_of_eq HMM.out)))
          by_cases hltj : j < n
          · skip
            have c0 := M4.out.at_ HGI.out
            have c1 := M4.out.at2 HGI.out hltj
            have HQ0 := Lib.hid (coreQ_zero c (waysE n es) i j)
            rw [← HQ0.out] at c1
            clear HQ0
            go_wp2
            go_loopw [11, 43] (fun x t wr => ∃ q : Nat, q ≤ n ∧ t = .int .i64 q ∧ x = .bool (coreQ c (waysE n es) i j q) ∧ W4 = wr) (fun _ t _ => n - (intOf t).toNat)
            case atStart => exact ⟨0, by omega, rfl, rfl, rfl⟩
            case round =>
              clear c1
              obtain ⟨q, hqn, rfl, rfl, rfl⟩ := hrel
              by_cases hltq : q < n
              · skip
                obtain ⟨gq, hgq⟩ : ∃ gq, gs[q]? = some gq := ⟨gs[q]'(by rw [HGL.out]; exact hltq), List.getElem?_eq_getElem _⟩
                have c2 := M4.out.at2 HGI.out hltq
                have c3 := M4.out.at_ hgq
                have c4 := M4.out.at2 hgq hltj
                have HS2 := Lib.hid (coreQ_succ c (waysE n es) i j q)
                obtain ⟨z, hz⟩ : ∃ z, z = coreQ c (waysE n es) i j q := ⟨_, rfl⟩
                rw [← hz] at HS2 ⊢
                obtain ⟨y, hy⟩ : ∃ y, y = waysE n es i q := ⟨_, rfl⟩
                rw [← hy] at HS2 c2
                obtain ⟨x, hx⟩ : ∃ x, x = waysE n es q j := ⟨_, rfl⟩
                rw [← hx] at HS2 c4
                clear hz hy hx hgq
                cases z with
                | false =>
                  have HF := Lib.hid (show coreQ c (waysE n es) i j (q + 1) = false by rw [HS2.out]; rfl)
                  clear HS2
                  go_wp2
                  go_roundw
                  case rel => exact ⟨q + 1, by omega, by go_num, by rw [HF.out], trivial⟩
                  case measure => simp [intOf]; omega
                | true =>
                  cases c with
                  | false =>
                    have HF := Lib.hid (show coreQ false (waysE n es) i j (q + 1) = true by rw [HS2.out]; rfl)
                    clear HS2
                    go_wp2
                    go_roundw
                    case rel => exact ⟨q + 1, by omega, by go_num, by rw [HF.out], trivial⟩
                    case measure => simp [intOf]; omega
                  | true =>
                    cases y with
                    | false =>
                      have HF := Lib.hid (show coreQ true (waysE n es) i j (q + 1) = true by rw [HS2.out]; rfl)
                      clear HS2
                      go_wp2
                      go_roundw
                      case rel => exact ⟨q + 1, by omega, by go_num, by rw [HF.out], trivial⟩
                      case measure => simp [intOf]; omega
                    | true =>
                      have HF := Lib.hid (show coreQ true (waysE n es) i j (q + 1) = !x by rw [HS2.out]; rfl)
                      clear HS2
                      go_wp2
                      go_roundw
                      case rel => exact ⟨q + 1, by omega, by go_num, by rw [HF.out], trivial⟩
                      case measure => simp [intOf]; omega
              · skip
                have hqe : q = n := by omega
                subst hqe
                have k0 := B8.out.cell 0 _ rfl
                have k1 := B8.out.cell 1 _ rfl
                have HSC := Lib.hid (edJ_succ c q (waysE q es) i j)
                have HLN := Lib.hid (edJ_len c q (waysE q es) i j hlt hjn hn200)
                have hsz := HB.out.size
                have hm4 := B8.out.lt
                obtain ⟨z, hz⟩ : ∃ z, z = coreQ c (waysE q es) i j q := ⟨_, rfl⟩
                rw [← hz]
                rw [show coreP c q (waysE q es) i j = z from hz.symm] at HSC
                clear hz
                cases z with
                | false =>
                  have HE := Lib.hid (show edJ c q (waysE q es) i (j + 1) = edJ c q (waysE q es) i j by rw [HSC.out]; rfl)
                  clear HSC
                  go_wp2
                  go_roundw
                  case rel => exact ⟨j + 1, by omega, by go_num, _, B8, Lib.hid (by rw [HE.out]; exact O.out), HB⟩
                  case measure => simp [intOf]; omega
                | true =>
                  have HE := Lib.hid (show (edJ c q (waysE q es) i (j + 1)).map ceE = (edJ c q (waysE q es) i j).map ceE ++ [((i : Int), (j : Int))] by rw [HSC.out, if_pos rfl, List.map_append]; rfl)
                  have f1 := B8.out.fr 1
                  have HOL := Lib.hid O.out.lt
                  have HLM := Lib.hid (show ((edJ c q (waysE q es) i j).map ceE).length = (edJ c q (waysE q es) i j).length by rw [List.length_map])
                  obtain ⟨Ao, co, rfl⟩ := O.out.form
                  rw [HLM.out] at O B8 k1 HOL
                  clear HSC
                  go_wp2_with (at_builtin; refine wpList_append_one rfl _ _ 22 rfl i0 _ Tryd.underlying22 hi hz0 hz1 hz2 rfl (by decide) Flat.keeps O.out (x := ((i : Int), (j : Int))) (cs := [.int .i64 (i : Int), .int .i64 (j : Int)]) (Tx := Nowhere) ?d0 rfl rfl rfl (Sub.nowhere _) (Sub.nowhere _) not_nowhere ?d1 ?d2 ?d3 ?d4 ?_)
                  case d0 => exact ⟨rfl, by unfold inI; omega, by unfold inI; omega⟩
                  case d1 => simp [Value.oneCell']
                  case d2 => have := HLN.out; rw [HLM.out]; unfold maxLen; omega
                  case d3 => have := HLN.out; rw [HLM.out]; omega
                  try (case d4 => omega)
                  intro v5 w5 ho5 hg5 _
                  rw [← HE.out] at ho5
                  obtain ⟨A5, c5, rfl⟩ := ho5.form
                  rw [List.length_map] at ho5 ⊢
                  have HO5 := Lib.hid ho5
                  have HG5 := Lib.hid (show (∀ b, (Value.slice Ao (edJ c q (waysE q es) i j).length co).ownBlock = some b → m + 1 ≤ b) from fun b e => (HOL.out b e).1)
                  have HB5 := Lib.hid (HB.out.grown hg5 (Nat.le_of_lt hm4) (fun b e => by have := HG5.out b e; omega))
                  have B85 := Lib.hid (B8.out.but (But.of_grown hg5) (fun e => by have := HG5.out m e; omega))
                  have f15 := B85.out.fr 1
                  have k15 := B85.out.cell 1 _ rfl
                  have HON := Lib.hid (show ∀ u, OwnP 49 (w5.setCell ⟨m, 1, none⟩ u) (m + 1) Nowhere ((edJ c q (waysE q es) i (j + 1)).map ceE) (.slice A5 (edJ c q (waysE q es) i (j + 1)).length c5) from fun u =>
                    OwnL.but HO5.out (But.setCell (T := Is m) (But.refl _ _) (p := ⟨m, 1, none⟩) rfl u) (fun b e hb => by
                      have h1 := (HO5.out.lt b e).1
                      have h2 : b = m := hb
                      omega))
                  have HBN := Lib.hid (fun u => HB5.out.setCell (p := ⟨m, 1, none⟩) (Nat.le_refl m) u)
                  have HKN := Lib.hid (fun u => B85.out.set (i := 1) (by simp) u)
                  clear ho5 hg5 k0 k1 f1 O B8
                  go_wp2
                  go_roundw
                  case rel => exact ⟨j + 1, by omega, by go_num, _, Lib.hid (HKN.out _), Lib.hid (HON.out _), Lib.hid (HBN.out _)⟩
                  case measure => simp [intOf]; omega
          · skip
            have hje : j = n := by omega
            subst hje
            have OO := Lib.hid (show OwnP 49 W4 (m + 1) Nowhere ((edgU (rowP j (coreP c j (waysE j es))) (i + 1)).map ceE) o by rw [← edJ_all]; exact O.out)
            go_wp2
            go_roundw
            case rel => exact ⟨i + 1, by omega, by go_num, _, B8, OO, HB⟩
            case measure => simp [intOf]; omega
      · skip
        have hie : i = n := by omega
        subst hie
        have k0 := B8.out.cell 0 _ rfl
        have k1 := B8.out.cell 1 _ rfl
        have HBW := Lib.hid (BL2.out.trans ((HB.out.mono (Nat.le_of_lt (by omega))).mono (by omega)))
        have B4 := Lib.hid (HB42.out.but (T := Nowhere) (But.of_below (HB.out.mono (Nat.le_of_eq HMM.out))) (fun h => h))
        have f40 := B4.out.fr 0
        have f41 := B4.out.fr 1
        have k40 := B4.out.cell 0 _ rfl
        have k41 := B4.out.cell 1 _ rfl
        have hel := edgU_len (rowP i (coreP c i (waysE i es))) i (rowP_len i _) i
        have hii : i * i ≤ 200 * 200 := Nat.mul_le_mul (by omega) (by omega)
        obtain ⟨Ao, co, rfl⟩ := O.out.form
        rw [List.length_map] at O B8 k1
        have BT := Lib.hid (B4.out.two (.int .i64 (i : Int)) (.slice Ao (edgU (rowP i (coreP c i (waysE i es))) i).length co))
        have BB := Lib.hid (below_two HBW.out (show w.heap.size ≤ w.heap.size + 1 by omega) (.int .i64 (i : Int)) (.slice Ao (edgU (rowP i (coreP c i (waysE i es))) i).length co))
        have HO := Lib.hid (show ∀ x y, OwnP 49 ((W3.setCell ⟨w.heap.size + 1, 0, none⟩ x).setCell ⟨w.heap.size + 1, 1, none⟩ y) (m + 1) Nowhere ((edgU (rowP i (coreP c i (waysE i es))) i).map ceE) (.slice Ao (edgU (rowP i (coreP c i (waysE i es))) i).length co) from fun x y =>
          OwnL.but O.out ((But.setCell (T := Is (w.heap.size + 1)) (But.refl _ _) (p := ⟨w.heap.size + 1, 0, none⟩) rfl x).setCell (p := ⟨w.heap.size + 1, 1, none⟩) rfl y) (fun b e hb => by
            have h1 := (O.out.lt b e).1
            have h2 : b = w.heap.size + 1 := hb
            omega))
        have HRD := Lib.hid (show ∀ x y, RdP ((W3.setCell ⟨w.heap.size + 1, 0, none⟩ x).setCell ⟨w.heap.size + 1, 1, none⟩ y) (Plus Nowhere w.heap.size ((W3.setCell ⟨w.heap.size + 1, 0, none⟩ x).setCell ⟨w.heap.size + 1, 1, none⟩ y).heap.size) ((edgU (rowP i (coreP c i (waysE i es))) i).map ceE) (.slice Ao (edgU (rowP i (coreP c i (waysE i es))) i).length co) from fun x y =>
          (HO.out x y).toRd (bytes := 16) Flat.keeps (by rw [List.length_map]; omega) (Sub.nowhere _) (fun b h1 h2 => .inr ⟨by omega, h2⟩))
        go_wp2
        have r0 := BT.out.cell 0 _ rfl
        have r1 := BT.out.cell 1 _ rfl
        refine bodyPost_ret (v := .tuple #[.agg #[.int .i64 (i : Int), .slice Ao (edgU (rowP i (coreP c i (waysE i es))) i).length co], .int .i64 0]) (by simp [results, Tryd.f6, go_sem, r0, r1]) rfl ⟨(i : Int), .slice Ao (edgU (rowP i (coreP c i (waysE i es))) i).length co, ?_, fun _ => ⟨rfl, ?_⟩, fun h => absurd HW0.out h, BB.out⟩
        · rw [HW0.out]
        · rw [← HES.out, Int.toNat_natCast]
          exact HRD.out _ _
  · have HW := Lib.hid hw
    have f40 := HB41.out.fr 0
    have f41 := HB41.out.fr 1
    have k40 := HB41.out.cell 0 _ rfl
    have k41 := HB41.out.cell 1 _ rfl
    have BT := Lib.hid (HB41.out.two (.int .i64 0) (.slice none 0 0))
    have BB := Lib.hid (below_two BL1.out (show w.heap.size ≤ w.heap.size + 1 by omega) (.int .i64 0) (.slice none 0 0))
    go_wp2_with fail
    have r0 := BT.out.cell 0 _ rfl
    have r1 := BT.out.cell 1 _ rfl
    refine bodyPost_ret (v := .tuple #[.agg #[.int .i64 0, .slice none 0 0], .int .i64 (wrongE N ps)]) (by simp [results, Tryd.f6, go_sem, r0, r1]) rfl ⟨_, _, rfl, fun h => absurd h HW.out, fun _ => ⟨rfl, rfl⟩, BB.out⟩
end Go.Proofs.YtknaoianhjeccaaDoor
