/- The walk of the reference's DGraph. -/
import Derived.Test.YtknaoianhjeccaaDoorSg5
import Derived.Test.YtknaoianhjeccaaDoorPairRow
namespace Go.Proofs.YtknaoianhjeccaaDoor
open Go.RowKit
set_option linter.unusedVariables false
theorem infoSe : (Tryd.prog.info? 49).map (fun i => (i.zero, i.size, i.bytes)) = some (some (.agg #[.int .i64 0, .int .i64 0]), 2, 16) := by kernel_rfl
theorem infoSb : (Tryd.prog.info? 4).map (fun i => (i.zero, i.size, i.bytes)) = some (some (.bool false), 1, 1) := by kernel_rfl
theorem infoSbs : (Tryd.prog.info? 47).map (fun i => (i.zero, i.size, i.bytes)) = some (some (.slice none 0 0), 1, 24) := by kernel_rfl
theorem Blk.twoS {base : Nat} {W : World} {b : Nat} {u0 u1 : Value} (B : Blk base W b [u0, u1]) (x y : Value) : Blk base ((W.setCell ⟨b, 0, none⟩ x).setCell ⟨b, 1, none⟩ y) b [x, y] := (B.set (i := 0) (by simp) x).set (i := 1) (by simp) y
theorem below_twoS {B : Nat} {w W : World} {b : Nat} (h : Below B w W) (hb : B ≤ b) (x y : Value) : Below B w ((W.setCell ⟨b, 0, none⟩ x).setCell ⟨b, 1, none⟩ y) := (h.setCell (p := ⟨b, 0, none⟩) hb x).setCell (p := ⟨b, 1, none⟩) hb y
theorem Blk.under {base B : Nat} {w w' : World} {b : Nat} {vs : List Value} (r : Blk base w b vs) (h : Below B w w') (hb : b < B) : Blk base w' b vs :=
  ⟨r.ge, Nat.lt_of_lt_of_le r.lt h.size, fun q v hq => (h.cell (p := ⟨b, q, none⟩) hb).trans (r.cell q v hq), fun o => (h.frozen (p := ⟨b, o, none⟩) hb).trans (r.fr o)⟩
/-- what both graphs are -/
def agE (t : Tm) : List (Int × Int) := (edgU (rowP t.count t.ahead) t.count).map ceE
set_option maxHeartbeats 2000000 in
set_option maxRecDepth 100000 in
theorem dgraph_any (t : Tm) (n : Nat) (hn : t.count = n) (E : Int) (hE : E = if n ≤ 200 then 0 else 2) (w : World) (S : Blocks) (V : Value) (hS : Sub S (Upto w.heap.size)) (r : RdT w S t V) (hl : n ≤ 1048576) :
    Calls Tryd.prog 10 #[V] w fun e w' => ∃ N' x, e = .returned (.tuple #[.agg #[.int .i64 N', x], .int .i64 E]) ∧
      (n ≤ 200 → N' = (n : Int) ∧ RdP w' (Plus Nowhere w.heap.size w'.heap.size) (agE t) x) ∧ (¬ n ≤ 200 → N' = 0 ∧ x = .slice none 0 0) ∧ Below w.heap.size w w' := by
  obtain ⟨ie, hei, hez0, hez1, hez2⟩ := info_parts infoSe
  obtain ⟨i0, hi, hz0, hz1, hz2⟩ := info_parts infoSb
  obtain ⟨i1, hj, hy0, hy1, hy2⟩ := info_parts infoSbs
  obtain ⟨k, c, wq, lb, kids, v, et, rfl, h1, h2, h3, h4⟩ := id r
  obtain ⟨A1, n1, rfl, _⟩ := h4.form
  have b0 := (Blk.made w [.int .i64 k, .int .i64 c, .bool wq, .int .i64 lb, .slice A1 kids.length n1] 35 (base := 0) (Nat.zero_le _)).but (But.alloc (T := Nowhere) (But.refl _ _) (.cells #[.int .i64 0, .slice none 0 0] 24)) (fun h => h)
  have b4 := Blk.made (w.alloc (.cells #[.int .i64 k, .int .i64 c, .bool wq, .int .i64 lb, .slice A1 kids.length n1] 35)) [.int .i64 0, .slice none 0 0] 24 (base := 0) (Nat.zero_le _)
  have bl : Below w.heap.size w ((w.alloc (.cells #[.int .i64 k, .int .i64 c, .bool wq, .int .i64 lb, .slice A1 kids.length n1] 35)).alloc (.cells #[.int .i64 0, .slice none 0 0] 24)) := ((Below.refl _ _).alloc (Nat.le_refl _) _).alloc (by simp) _
  rw [show (w.alloc (.cells #[.int .i64 k, .int .i64 c, .bool wq, .int .i64 lb, .slice A1 kids.length n1] 35)).heap.size = w.heap.size + 1 by simp] at b4
  have hsz0 : w.heap.size ≤ (((w.alloc (.cells #[.int .i64 k, .int .i64 c, .bool wq, .int .i64 lb, .slice A1 kids.length n1] 35)).alloc (.cells #[.int .i64 0, .slice none 0 0] 24))).heap.size := bl.size
  have k0 := b0.cell 0 _ rfl
  have k1 := b0.cell 1 _ rfl
  have k2 := b0.cell 2 _ rfl
  have k3 := b0.cell 3 _ rfl
  have k4 := b0.cell 4 _ rfl
  have HB0 := Lib.hid b0
  have HB4 := Lib.hid b4
  have BL := Lib.hid bl
  have HS := Lib.hid hS
  have RA := Lib.hid (r.go bl hS)
  unfold tmV
  have HN := Lib.hid hn
  have HE := Lib.hid hE
  clear b0 b4 bl r h4 et h1 h2 h3 hS hE
  go_enter Tryd.func10, Tryd.ntmps10
  go_upto_region 1 with (fail)
  generalize ((w.alloc (.cells #[.int .i64 k, .int .i64 c, .bool wq, .int .i64 lb, .slice A1 kids.length n1] 35)).alloc (.cells #[.int .i64 0, .slice none 0 0] 24)) = W0 at *
  go_wp2_with fail
  refine (dls_all t _ S _ (HS.out.trans (Sub.upto BL.out.size)) RA.out (by omega)).mono ?_
  rintro e w1 ⟨x, rfl, hx, hb1⟩
  obtain ⟨A2, n2, rfl⟩ := hx.form
  rw [show t.leaves.length = n from hn] at hx ⊢
  clear hn hx
  have BL1 := Lib.hid (BL.out.trans (hb1.mono BL.out.size))
  have HB1 := Lib.hid (HB0.out.below hb1)
  have HB41 := Lib.hid (HB4.out.below hb1)
  have RA1 := Lib.hid (RA.out.go hb1 (HS.out.trans (Sub.upto BL.out.size)))
  have hsw := BL1.out.size
  have hn0 : (n : Int) ≤ 1048576 := by omega
  clear BL HB0 HB4 hb1 k0 k1 k2 k3 k4 hsz0 RA
  by_cases hw : n ≤ 200
  · have hE0 : E = 0 := by rw [HE.out, if_pos hw]
    clear HE
    subst hE0
    have hmk1 := fun w => run_make1 (P := Tryd.prog) 45 47 i1 _ Tryd.underlying45 hj hy0 hy1 rfl n (by rw [hy2]; omega) (by omega) w
    have hmk2 := fun w => run_make1 (P := Tryd.prog) 47 4 i0 _ Tryd.underlying47 hi hz0 hz1 rfl n (by rw [hz2]; omega) (by omega) w
    clear hi hz0 hz1 hz2 hj hy0 hy1 hy2
    obtain ⟨z, hz⟩ : ∃ z, w1.heap.size = z := ⟨_, rfl⟩
    go_upto_region 5 with (fail)
    clear hmk1
    have bB : Below w1.heap.size w1 (w1.alloc (.cells (Array.replicate n (.slice none 0 0)) 47)) := (Below.refl _ _).alloc (Nat.le_refl _) _
    have m0 := MatB.made (base := z) w1 n 47 (fun _ _ => false) (by omega)
    rw [hz] at m0
    have HM0 := Lib.hid m0
    have HB2 := Lib.hid (HB1.out.below bB)
    have HB42 := Lib.hid (HB41.out.below bB)
    have RA2 := Lib.hid (RA1.out.go bB (HS.out.trans (Sub.upto BL1.out.size)))
    have BL2 := Lib.hid (BL1.out.trans (bB.mono (by omega)))
    have hSz := Lib.hid (show Sub S (Upto z) from HS.out.trans (Sub.upto (by omega)))
    have hz4 := HB41.out.lt
    rw [hz] at hz4
    clear m0 bB HB1 HB41 RA1 BL1
    generalize (w1.alloc (.cells (Array.replicate n (.slice none 0 0)) 47)) = W1 at *
    have hzl := HM0.out.out.lt
    clear hz hsw
    have hbz0 : z < W1.heap.size := hzl
    have BW := Lib.hid (Below.refl z W1)
    go_wp2
    go_loopw [20] (fun t wr => ∃ (j : Nat) (gs : List Nat), j ≤ n ∧ t = .int .i64 j ∧ gs.length = j ∧ Hid (MatB z wr z n gs (fun _ _ => false)) ∧ Hid (Below z W1 wr)) (fun t _ => n - (intOf t).toNat)
    case atStart => exact ⟨0, [], by omega, rfl, rfl, HM0, BW⟩
    case round =>
      clear HM0 BW
      obtain ⟨j, gs, hjn, rfl, hgl, M, HB⟩ := hrel
      have hb := HB.out
      have hle := hb.size
      by_cases hlt : j < n
      · skip
        have hm2 := M.out.push (by rw [hgl]; exact hlt) 4 (by omega)
        have HM2 := Lib.hid (hm2.congr (rows' := fun _ _ => false) (fun i k _ _ => by unfold putR; split <;> rfl))
        have hb2 := (hb.alloc (by omega) (.cells (Array.replicate n (.bool false)) 4)).setCell (p := ⟨z, gs.length, none⟩) (Nat.le_refl _) (.slice (some ⟨wr.heap.size, 0, none⟩) n n)
        have HG := Lib.hid (show (gs ++ [wr.heap.size]).length = j + 1 by simp [hgl])
        have hcr := M.out.out.cell j (.slice none 0 0) (by
          rw [List.getElem?_append_right (by simp; rw [hgl]; exact Nat.le_refl _), List.length_map, hgl, Nat.sub_self, List.getElem?_replicate, if_pos (by omega)])
        have hfr := M.out.out.fr j
        have hlt1 := M.out.out.lt
        rw [hgl, World.setCell_alloc_past _ _ _ _ hlt1] at HM2 hb2
        have HBB := Lib.hid hb2
        clear hm2 M HB hb hgl hb2
        go_wp2
        go_roundw
        case rel => exact ⟨j + 1, gs ++ [wr.heap.size], by omega, by go_num, HG.out, HM2, HBB⟩
        case measure => simp [intOf]; omega
      · skip
        have hjn' : j = n := by omega
        subst hjn'
        have HGL := Lib.hid hgl
        clear hgl hmk2 hlt hjn
        have HB3 := Lib.hid (HB2.out.under hb (by omega))
        have HB43 := Lib.hid (HB42.out.under hb (by omega))
        have RA3 := Lib.hid (RA2.out.go hb hSz.out)
        have BL3 := Lib.hid (BL2.out.trans (hb.mono (by omega)))
        have c0 := HB3.out.cell 0 _ rfl
        have c1 := HB3.out.cell 1 _ rfl
        have c2 := HB3.out.cell 2 _ rfl
        have c3 := HB3.out.cell 3 _ rfl
        have c4 := HB3.out.cell 4 _ rfl
        clear HB hb hle HB2 HB42 RA2 BL2
        go_wp2_with fail
        refine (dmks_all t 0 z wr z j gs _ S _ M.out HGL.out hw (by rw [HN.out]; omega) RA3.out hSz.out).mono ?_
        rintro e w2 ⟨rfl, hM, k2⟩
        have hbz : Below z wr w2 := k2.below (by have := M.out.out.lt; omega) (fun k hk => by
          obtain ⟨i, hi⟩ := List.getElem?_of_mem (show k ∈ gs from hk)
          exact (M.out.row i k hi).1.ge)
        have HB4 := Lib.hid (HB43.out.under hbz (by omega))
        have BL4 := Lib.hid (BL3.out.trans (hbz.mono (by omega)))
        have hM2 := hM.congr (rows' := t.ahead) (fun i k hi hk => dmk_all t i k (by rw [HN.out, ← HGL.out]; exact hi) (by rw [HN.out]; exact hk))
        have b8 := Blk.made w2 [.int .i64 (j : Int), .slice none 0 0] 24 (base := 0) (Nat.zero_le _)
        have b9 : Below w2.heap.size w2 (w2.alloc (.cells #[.int .i64 (j : Int), .slice none 0 0] 24)) := (Below.refl _ _).alloc (Nat.le_refl _) _
        have hz3 : w2.heap.size < ((w2.alloc (.cells #[.int .i64 (j : Int), .slice none 0 0] 24))).heap.size := by simp
        have MM := Lib.hid hM2
        have B8 := Lib.hid b8
        have BE := Lib.hid b9
        have hw2 := BL4.out.size
        have h4lt := HB4.out.lt
        obtain ⟨m, hm⟩ : ∃ m, w2.heap.size = m := ⟨_, rfl⟩
        clear hM hM2 hbz k2 c0 c1 c2 c3 c4 M HB3 HB43 BL3 RA3 b8 b9
        go_upto_region 12 with (fail)
        rw [hm] at h4lt B8 BE hz3 hw2
        generalize (w2.alloc (.cells #[.int .i64 (j : Int), .slice none 0 0] 24)) = W2 at *
        have OO := Lib.hid (show OwnP 49 W2 (m + 1) Nowhere ((edgU (rowP j t.ahead) 0).map ceE) (.slice none 0 0) from OwnL.nil _ _ _)
        have HMM := Lib.hid hm
        clear hm
        go_wp2
        go_loopw [36] (fun u wr => ∃ i : Nat, i ≤ j ∧ u = .int .i64 i ∧ ∃ o, Hid (Blk 0 wr m [.int .i64 (j : Int), o]) ∧ Hid (OwnP 49 wr (m + 1) Nowhere ((edgU (rowP j t.ahead) i).map ceE) o) ∧ Hid (Below m w2 wr)) (fun u _ => j - (intOf u).toNat)
        case atStart => exact ⟨0, by omega, rfl, _, B8, OO, BE⟩
        case round =>
          clear OO BE B8
          obtain ⟨i, hin, rfl, o, B8, O, HB⟩ := hrel
          obtain ⟨W3, hW3⟩ : ∃ W3 : World, W3 = wr := ⟨_, rfl⟩
          subst hW3
          by_cases hlt : i < j
          · skip
            obtain ⟨gi, hgi⟩ : ∃ gi, gs[i]? = some gi := ⟨gs[i]'(by rw [HGL.out]; exact hlt), List.getElem?_eq_getElem _⟩
            have HGI := Lib.hid hgi
            have OO := Lib.hid (show OwnP 49 W3 (m + 1) Nowhere ((agJ j t.ahead i 0).map ceE) o by rw [agJ_zero]; exact O.out)
            clear hgi
            go_wp2
            go_loopw [41] (fun u wr => ∃ q : Nat, q ≤ j ∧ u = .int .i64 q ∧ ∃ o, Hid (Blk 0 wr m [.int .i64 (j : Int), o]) ∧ Hid (OwnP 49 wr (m + 1) Nowhere ((agJ j t.ahead i q).map ceE) o) ∧ Hid (Below m w2 wr)) (fun u _ => j - (intOf u).toNat)
            case atStart => exact ⟨0, by omega, rfl, _, B8, OO, HB⟩
            case round =>
              clear OO HB B8 O
              obtain ⟨q, hqn, rfl, o, B8, O, HB⟩ := hrel
              obtain ⟨W4, hW4⟩ : ∃ W4 : World, W4 = wr := ⟨_, rfl⟩
              subst hW4
              have M4 := Lib.hid (MM.out.below (Below.mono HB.out (Nat.le_of_eq HMM.out)))
              by_cases hltj : q < j
              · skip
                have c0 := M4.out.at_ HGI.out
                have c1 := M4.out.at2 HGI.out hltj
                have k0 := B8.out.cell 0 _ rfl
                have k1 := B8.out.cell 1 _ rfl
                have HSC := Lib.hid (agJ_succ j t.ahead i q)
                have HLN := Lib.hid (agJ_len j t.ahead i q hlt hqn hw)
                have hsz := HB.out.size
                have hm4 := B8.out.lt
                obtain ⟨x, hx⟩ : ∃ x, x = t.ahead i q := ⟨_, rfl⟩
                rw [← hx] at HSC c1
                clear hx
                cases x with
                | false =>
                  have HE := Lib.hid (show agJ j t.ahead i (q + 1) = agJ j t.ahead i q by rw [HSC.out]; rfl)
                  clear HSC
                  go_wp2
                  go_roundw
                  case rel => exact ⟨q + 1, by omega, by go_num, _, B8, Lib.hid (by rw [HE.out]; exact O.out), HB⟩
                  case measure => simp [intOf]; omega
                | true =>
                  have HE := Lib.hid (show (agJ j t.ahead i (q + 1)).map ceE = (agJ j t.ahead i q).map ceE ++ [((i : Int), (q : Int))] by rw [HSC.out, if_pos rfl, List.map_append]; rfl)
                  have f1 := B8.out.fr 1
                  have HOL := Lib.hid O.out.lt
                  have HLM := Lib.hid (show ((agJ j t.ahead i q).map ceE).length = (agJ j t.ahead i q).length by rw [List.length_map])
                  obtain ⟨Ao, co, rfl⟩ := O.out.form
                  rw [HLM.out] at O B8 k1 HOL
                  clear HSC
                  go_wp2_with (at_builtin; refine wpList_append_one rfl _ _ 22 rfl ie _ Tryd.underlying22 hei hez0 hez1 hez2 rfl (by decide) Flat.keeps O.out (x := ((i : Int), (q : Int))) (cs := [.int .i64 (i : Int), .int .i64 (q : Int)]) (Tx := Nowhere) ?d0 rfl rfl rfl (Sub.nowhere _) (Sub.nowhere _) not_nowhere ?d1 ?d2 ?d3 ?d4 ?_)
                  case d0 => exact ⟨rfl, by unfold inI; omega, by unfold inI; omega⟩
                  case d1 => simp [Value.oneCell']
                  case d2 => have := HLN.out; rw [HLM.out]; unfold maxLen; omega
                  case d3 => have := HLN.out; rw [HLM.out]; omega
                  try (case d4 => omega)
                  intro v5 w5 ho5 hg5 _
                  rw [← HE.out] at ho5
                  obtain ⟨A5, c5, rfl⟩ := ho5.form
                  rw [List.length_map] at ho5 ⊢
                  have HO5 := Lib.hid ho5
                  have HG5 := Lib.hid (show (∀ b, (Value.slice Ao (agJ j t.ahead i q).length co).ownBlock = some b → m + 1 ≤ b) from fun b e => (HOL.out b e).1)
                  have HB5 := Lib.hid (HB.out.grown hg5 (Nat.le_of_lt hm4) (fun b e => by have := HG5.out b e; omega))
                  have B85 := Lib.hid (B8.out.but (But.of_grown hg5) (fun e => by have := HG5.out m e; omega))
                  have f15 := B85.out.fr 1
                  have k15 := B85.out.cell 1 _ rfl
                  have HON := Lib.hid (show ∀ u, OwnP 49 (w5.setCell ⟨m, 1, none⟩ u) (m + 1) Nowhere ((agJ j t.ahead i (q + 1)).map ceE) (.slice A5 (agJ j t.ahead i (q + 1)).length c5) from fun u =>
                    OwnL.but HO5.out (But.setCell (T := Is m) (But.refl _ _) (p := ⟨m, 1, none⟩) rfl u) (fun b e hb => by
                      have h1 := (HO5.out.lt b e).1
                      have h2 : b = m := hb
                      omega))
                  have HBN := Lib.hid (fun u => HB5.out.setCell (p := ⟨m, 1, none⟩) (Nat.le_refl m) u)
                  have HKN := Lib.hid (fun u => B85.out.set (i := 1) (by simp) u)
                  clear ho5 hg5 k0 k1 f1 O B8
                  go_wp2
                  go_roundw
                  case rel => exact ⟨q + 1, by omega, by go_num, _, Lib.hid (HKN.out _), Lib.hid (HON.out _), Lib.hid (HBN.out _)⟩
                  case measure => simp [intOf]; omega
              · skip
                have hje : q = j := by omega
                subst hje
                have OO := Lib.hid (show OwnP 49 W4 (m + 1) Nowhere ((edgU (rowP q t.ahead) (i + 1)).map ceE) o by rw [← agJ_all]; exact O.out)
                go_wp2
                go_roundw
                case rel => exact ⟨i + 1, by omega, by go_num, _, B8, OO, HB⟩
                case measure => simp [intOf]; omega
          · skip
            have hie : i = j := by omega
            subst hie
            have k0 := B8.out.cell 0 _ rfl
            have k1 := B8.out.cell 1 _ rfl
            have HBW := Lib.hid (BL4.out.trans ((HB.out.mono (Nat.le_of_lt (by omega))).mono (by omega)))
            have B4 := Lib.hid (HB4.out.but (T := Nowhere) (But.of_below (HB.out.mono (Nat.le_of_eq HMM.out))) (fun h => h))
            have f40 := B4.out.fr 0
            have f41 := B4.out.fr 1
            have k40 := B4.out.cell 0 _ rfl
            have k41 := B4.out.cell 1 _ rfl
            have hel := edgU_len (rowP i t.ahead) i (rowP_len i _) i
            have hii : i * i ≤ 200 * 200 := Nat.mul_le_mul (by omega) (by omega)
            obtain ⟨Ao, co, rfl⟩ := O.out.form
            rw [List.length_map] at O B8 k1
            have BT := Lib.hid (B4.out.twoS (.int .i64 (i : Int)) (.slice Ao (edgU (rowP i t.ahead) i).length co))
            have BB := Lib.hid (below_twoS HBW.out (show w.heap.size ≤ w.heap.size + 1 by omega) (.int .i64 (i : Int)) (.slice Ao (edgU (rowP i t.ahead) i).length co))
            have HO := Lib.hid (show ∀ x y, OwnP 49 ((W3.setCell ⟨w.heap.size + 1, 0, none⟩ x).setCell ⟨w.heap.size + 1, 1, none⟩ y) (m + 1) Nowhere ((edgU (rowP i t.ahead) i).map ceE) (.slice Ao (edgU (rowP i t.ahead) i).length co) from fun x y =>
              OwnL.but O.out ((But.setCell (T := Is (w.heap.size + 1)) (But.refl _ _) (p := ⟨w.heap.size + 1, 0, none⟩) rfl x).setCell (p := ⟨w.heap.size + 1, 1, none⟩) rfl y) (fun b e hb => by
                have h1 := (O.out.lt b e).1
                have h2 : b = w.heap.size + 1 := hb
                omega))
            have HRD := Lib.hid (show ∀ x y, RdP ((W3.setCell ⟨w.heap.size + 1, 0, none⟩ x).setCell ⟨w.heap.size + 1, 1, none⟩ y) (Plus Nowhere w.heap.size ((W3.setCell ⟨w.heap.size + 1, 0, none⟩ x).setCell ⟨w.heap.size + 1, 1, none⟩ y).heap.size) ((edgU (rowP i t.ahead) i).map ceE) (.slice Ao (edgU (rowP i t.ahead) i).length co) from fun x y =>
              (HO.out x y).toRd (bytes := 16) Flat.keeps (by rw [List.length_map]; omega) (Sub.nowhere _) (fun b h1 h2 => .inr ⟨by omega, h2⟩))
            go_wp2
            have r0 := BT.out.cell 0 _ rfl
            have r1 := BT.out.cell 1 _ rfl
            refine bodyPost_ret (v := .tuple #[.agg #[.int .i64 (i : Int), .slice Ao (edgU (rowP i t.ahead) i).length co], .int .i64 0]) (by simp [results, Tryd.f10, go_sem, r0, r1]) rfl ⟨(i : Int), .slice Ao (edgU (rowP i t.ahead) i).length co, rfl, fun _ => ⟨rfl, ?_⟩, fun h => absurd hw h, BB.out⟩
            unfold agE
            rw [HN.out]
            exact HRD.out _ _
  · have hE0 : E = 2 := by rw [HE.out, if_neg hw]
    clear HE
    subst hE0
    have hw2 : (200 : Int) < (n : Int) := by omega
    have f40 := HB41.out.fr 0
    have f41 := HB41.out.fr 1
    have k40 := HB41.out.cell 0 _ rfl
    have k41 := HB41.out.cell 1 _ rfl
    have BT := Lib.hid (HB41.out.twoS (.int .i64 0) (.slice none 0 0))
    have BB := Lib.hid (below_twoS BL1.out (show w.heap.size ≤ w.heap.size + 1 by omega) (.int .i64 0) (.slice none 0 0))
    go_wp2_with fail
    have r0 := BT.out.cell 0 _ rfl
    have r1 := BT.out.cell 1 _ rfl
    refine bodyPost_ret (v := .tuple #[.agg #[.int .i64 0, .slice none 0 0], .int .i64 2]) (by simp [results, Tryd.f10, go_sem, r0, r1]) rfl ⟨_, _, rfl, fun h => absurd h hw, fun _ => ⟨rfl, rfl⟩, BB.out⟩
end Go.Proofs.YtknaoianhjeccaaDoor
