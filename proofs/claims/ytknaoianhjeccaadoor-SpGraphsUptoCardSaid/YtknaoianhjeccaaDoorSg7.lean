/- The walk of sp.Graph. -/
import Derived.Test.YtknaoianhjeccaaDoorSg6
import Derived.Test.YtknaoianhjeccaaDoorMk3
namespace Go.Proofs.YtknaoianhjeccaaDoor
open Go.RowKit
set_option linter.unusedVariables false
theorem infoSp2 : (Tryd.prog.info? 60).map (fun i => (i.zero, i.size, i.bytes)) = some (some (.agg #[.int .i64 0, .int .i64 0]), 2, 16) := by kernel_rfl
/-- the second place of leaf k -/
def Tm.pS (t : Tm) (k : Nat) : Nat := ((t.pos 0)[k]?).getD 0
theorem Tm.pS_get (t : Tm) {k : Nat} (hk : k < t.count) : (t.pos 0)[k]? = some (t.pS k) := by
  unfold Tm.pS
  have : k < (t.pos 0).length := by rw [Tm.pos_len]; exact hk
  rw [List.getElem?_eq_getElem this]; rfl
theorem Fr.atS {w : World} {l : List (Int × Int)} {A : Option Addr} {n cap : Nat} (h : Fr encP okPr 2 16 w l (.slice A n cap)) {q : Nat} {x : Int × Int} (hq : l[q]? = some x) :
    ∃ b off, A = some ⟨b, off, none⟩ ∧ b < w.heap.size ∧ w.cell? ⟨b, off + q * 2, none⟩ = some (.int .i64 x.1) ∧ w.cell? ⟨b, off + q * 2 + 1, none⟩ = some (.int .i64 x.2) := by
  obtain ⟨T, hT, r⟩ := h
  have hl := (List.getElem?_eq_some_iff.1 hq).1
  have he := (List.getElem?_eq_some_iff.1 hq).2
  obtain ⟨b, off, h1, h2, _, h4, h5⟩ := RdP.at1 r hl
  rw [he] at h4 h5
  exact ⟨b, off, h1, hT _ h2, h4, h5⟩
theorem marks_at (t : Tm) {q : Nat} (h : q < t.count) : t.marks[q]? = some ((q : Int), (t.pS q : Int)) := by
  have := zipP_get 0 _ _ _ (Tm.pS_get t h)
  rw [Tm.marks, this]; simp
set_option maxHeartbeats 2000000 in
set_option maxRecDepth 100000 in
theorem graph_any (t : Tm) (n : Nat) (hn : t.count = n) (E : Int) (hE : E = if n ≤ 200 then 0 else 2) (w : World) (S : Blocks) (V : Value) (hS : Sub S (Upto w.heap.size)) (r : RdT w S t V) (hl : n ≤ 1048576) :
    Calls Tryd.prog 9 #[V] w fun e w' => ∃ N' x, e = .returned (.tuple #[.agg #[.int .i64 N', x], .int .i64 E]) ∧
      (n ≤ 200 → N' = (n : Int) ∧ RdP w' (Plus Nowhere w.heap.size w'.heap.size) (agE t) x) ∧ (¬ n ≤ 200 → N' = 0 ∧ x = .slice none 0 0) ∧ Below w.heap.size w w' := by
  obtain ⟨ie, hei, hez0, hez1, hez2⟩ := info_parts infoSe
  obtain ⟨k, c, wq, lb, kids, v, et, rfl, h1, h2, h3, h4⟩ := id r
  obtain ⟨A1, n1, rfl, _⟩ := h4.form
  have b0 := (Blk.made w [.int .i64 k, .int .i64 c, .bool wq, .int .i64 lb, .slice A1 kids.length n1] 35 (base := 0) (Nat.zero_le _)).but (But.alloc (T := Nowhere) (But.refl _ _) (.cells #[.int .i64 0, .slice none 0 0] 24)) (fun h => h)
  have b4 := Blk.made (w.alloc (.cells #[.int .i64 k, .int .i64 c, .bool wq, .int .i64 lb, .slice A1 kids.length n1] 35)) [.int .i64 0, .slice none 0 0] 24 (base := 0) (Nat.zero_le _)
  have bl : Below w.heap.size w ((w.alloc (.cells #[.int .i64 k, .int .i64 c, .bool wq, .int .i64 lb, .slice A1 kids.length n1] 35)).alloc (.cells #[.int .i64 0, .slice none 0 0] 24)) := ((Below.refl _ _).alloc (Nat.le_refl _) _).alloc (by simp) _
  rw [show (w.alloc (.cells #[.int .i64 k, .int .i64 c, .bool wq, .int .i64 lb, .slice A1 kids.length n1] 35)).heap.size = w.heap.size + 1 by simp] at b4
  have hsz0 : w.heap.size ≤ (((w.alloc (.cells #[.int .i64 k, .int .i64 c, .bool wq, .int .i64 lb, .slice A1 kids.length n1] 35)).alloc (.cells #[.int .i64 0, .slice none 0 0] 24))).heap.size := bl.size
  have k0 := b0.cell 0 _ rfl
  have k1 := b0.cell 1 _ rfl
  have k2 := b0.cell 2 _ rfl
  have k3 := b0.cell 3 _ rfl
  have k4 := b0.cell 4 _ rfl
  have HB0 := Lib.hid b0
  have HB4 := Lib.hid b4
  have BL := Lib.hid bl
  have HS := Lib.hid hS
  have RA := Lib.hid (r.go bl hS)
  unfold tmV
  have HN := Lib.hid hn
  have HE := Lib.hid hE
  clear b0 b4 bl r h4 et h1 h2 h3 hS hE
  go_enter Tryd.func9, Tryd.ntmps9
  go_upto_region 1 with (fail)
  generalize ((w.alloc (.cells #[.int .i64 k, .int .i64 c, .bool wq, .int .i64 lb, .slice A1 kids.length n1] 35)).alloc (.cells #[.int .i64 0, .slice none 0 0] 24)) = W0 at *
  go_wp2_with fail
  refine (marks_any t _ S _ (HS.out.trans (Sub.upto BL.out.size)) RA.out (by omega)).mono ?_
  rintro e w1 ⟨x, rfl, hx, hb1⟩
  obtain ⟨A2, n2, rfl, hxl, hxc, -⟩ := hx.form
  rw [show t.marks.length = n from (Tm.marks_len t).trans hn] at hx hxl ⊢
  have BL1 := Lib.hid (BL.out.trans (hb1.mono BL.out.size))
  have HB1 := Lib.hid (HB0.out.below hb1)
  have HB41 := Lib.hid (HB4.out.below hb1)
  have hsw := BL1.out.size
  have hn0 : (n : Int) ≤ 1048576 := by omega
  have HX := Lib.hid (fun q (hq : q < n) => hx.atS (marks_at t (by omega : q < t.count)) : ∀ q, q < n → _)
  clear BL HB0 HB4 hb1 k0 k1 k2 k3 k4 hsz0 RA hn hx
  by_cases hw : n ≤ 200
  · have hE0 : E = 0 := by rw [HE.out, if_pos hw]
    clear HE
    subst hE0
    obtain ⟨m, hm⟩ : ∃ m, w1.heap.size = m := ⟨_, rfl⟩
    have b8 := Blk.made w1 [.int .i64 (n : Int), .slice none 0 0] 24 (base := 0) (Nat.zero_le _)
    have b9 : Below w1.heap.size w1 (w1.alloc (.cells #[.int .i64 (n : Int), .slice none 0 0] 24)) := (Below.refl _ _).alloc (Nat.le_refl _) _
    have hz3 : w1.heap.size < ((w1.alloc (.cells #[.int .i64 (n : Int), .slice none 0 0] 24))).heap.size := by simp
    have B8 := Lib.hid b8
    have BE := Lib.hid b9
    have h4lt := HB41.out.lt
    clear b8 b9
    go_upto_region 5 with (fail)
    rw [hm] at h4lt B8 BE hz3
    generalize (w1.alloc (.cells #[.int .i64 (n : Int), .slice none 0 0] 24)) = W2 at *
    have OO := Lib.hid (show OwnP 49 W2 (m + 1) Nowhere ((edgU (rowP n t.ahead) 0).map ceE) (.slice none 0 0) from OwnL.nil _ _ _)
    have HMM := Lib.hid hm
    clear hm
    go_wp2
    go_loopw [21] (fun u wr => ∃ i : Nat, i ≤ n ∧ u = .int .i64 i ∧ ∃ o, Hid (Blk 0 wr m [.int .i64 (n : Int), o]) ∧ Hid (OwnP 49 wr (m + 1) Nowhere ((edgU (rowP n t.ahead) i).map ceE) o) ∧ Hid (Below m w1 wr)) (fun u _ => n - (intOf u).toNat)
    case atStart => exact ⟨0, by omega, rfl, _, B8, OO, BE⟩
    case round =>
      clear OO BE B8
      obtain ⟨i, hin, rfl, o, B8, O, HB⟩ := hrel
      obtain ⟨W3, hW3⟩ : ∃ W3 : World, W3 = wr := ⟨_, rfl⟩
      subst hW3
      by_cases hlt : i < n
      · skip
        obtain ⟨bx, off, rfl, hbx, x0, x1⟩ := HX.out i hlt
        have y0 := (HB.out.cell (p := ⟨bx, off + i * 2, none⟩) (by have := HMM.out; dsimp only; omega)).trans x0
        have y1 := (HB.out.cell (p := ⟨bx, off + i * 2 + 1, none⟩) (by have := HMM.out; dsimp only; omega)).trans x1
        clear x0 x1
        by_cases hcp : n2 = i + 1
        · subst hcp
          have HA := Lib.hid (show agJ n t.ahead i (i + 1) = edgU (rowP n t.ahead) i from agJ_low n _ i (i + 1) (fun k hk => Tm.ahead_le t (by have := HN.out; omega) (by omega)))
          have OO := Lib.hid (show OwnP 49 W3 (m + 1) Nowhere ((agJ n t.ahead i (i + 1 + 0)).map ceE) o by rw [Nat.add_zero, HA.out]; exact O.out)
          have ba := Blk.made W3 [.int .i64 (i : Int), .int .i64 (t.pS i : Int)] 60 (base := 0) (Nat.zero_le _)
          have bb : Below W3.heap.size W3 (W3.alloc (.cells #[.int .i64 (i : Int), .int .i64 (t.pS i : Int)] 60)) := (Below.refl _ _).alloc (Nat.le_refl _) _
          have BA := Lib.hid ba
          have OO2 := Lib.hid (OO.out.keep Flat.keeps bb)
          have BX8 := Lib.hid (B8.out.below bb)
          have HB2 := Lib.hid (HB.out.trans (bb.mono (by have := B8.out.lt; omega)))
          have HOW := Lib.hid (show ∀ k, o.ownBlock = some k → k ≠ W3.heap.size from fun k e => by have := (O.out.lt k e).2; omega)
          go_upto_region 9 with (fail)
          have hmy : m < W3.heap.size := B8.out.lt
          obtain ⟨y, hy⟩ : ∃ y, W3.heap.size = y := ⟨_, rfl⟩
          rw [hy] at BA HOW hmy ⊢
          clear ba bb OO O B8 HB HA
          generalize W3.alloc (.cells #[.int .i64 (i : Int), .int .i64 (t.pS i : Int)] 60) = W9 at *
          clear hy y0 y1
          go_loopw [31] (fun u wr => ∃ q : Nat, q ≤ n - (i + 1) ∧ u = .int .i64 q ∧ ∃ o, Hid (Blk 0 wr m [.int .i64 (n : Int), o]) ∧ Hid (OwnP 49 wr (m + 1) Nowhere ((agJ n t.ahead i (i + 1 + q)).map ceE) o) ∧ Hid (Below m w1 wr) ∧ Hid (Blk 0 wr y [.int .i64 (i : Int), .int .i64 (t.pS i : Int)]) ∧ Hid (∀ k, o.ownBlock = some k → k ≠ y)) (fun u _ => n - (i + 1) - (intOf u).toNat)
          case atStart => exact ⟨0, by omega, rfl, _, BX8, OO2, HB2, BA, HOW⟩
          case round =>
            clear OO2 HB2 BX8 BA HOW
            obtain ⟨q, hqn, rfl, o, B8, O, HB, BA, HOW⟩ := hrel
            obtain ⟨W4, hW4⟩ : ∃ W4 : World, W4 = wr := ⟨_, rfl⟩
            subst hW4
            by_cases hltj : q < n - (i + 1)
            · exfalso; omega
            · have hje : q = n - (i + 1) := by omega
              subst hje
              have OO := Lib.hid (show OwnP 49 W4 (m + 1) Nowhere ((edgU (rowP n t.ahead) (i + 1)).map ceE) o by
                rw [← agJ_all]
                have h := O.out
                rwa [show i + 1 + (n - (i + 1)) = n by omega] at h)
              go_wp2
              go_roundw
              case rel => exact ⟨i + 1, by omega, by go_num, _, B8, OO, HB⟩
              case measure => simp [intOf]; omega
        · skip
          have HA := Lib.hid (show agJ n t.ahead i (i + 1) = edgU (rowP n t.ahead) i from agJ_low n _ i (i + 1) (fun k hk => Tm.ahead_le t (by have := HN.out; omega) (by omega)))
          have OO := Lib.hid (show OwnP 49 W3 (m + 1) Nowhere ((agJ n t.ahead i (i + 1 + 0)).map ceE) o by rw [Nat.add_zero, HA.out]; exact O.out)
          have ba := Blk.made W3 [.int .i64 (i : Int), .int .i64 (t.pS i : Int)] 60 (base := 0) (Nat.zero_le _)
          have bb : Below W3.heap.size W3 (W3.alloc (.cells #[.int .i64 (i : Int), .int .i64 (t.pS i : Int)] 60)) := (Below.refl _ _).alloc (Nat.le_refl _) _
          have BA := Lib.hid ba
          have OO2 := Lib.hid (OO.out.keep Flat.keeps bb)
          have BX8 := Lib.hid (B8.out.below bb)
          have HB2 := Lib.hid (HB.out.trans (bb.mono (by have := B8.out.lt; omega)))
          have HOW := Lib.hid (show ∀ k, o.ownBlock = some k → k ≠ W3.heap.size from fun k e => by have := (O.out.lt k e).2; omega)
          go_upto_region 9 with (fail)
          have hmy : m < W3.heap.size := B8.out.lt
          obtain ⟨y, hy⟩ : ∃ y, W3.heap.size = y := ⟨_, rfl⟩
          rw [hy] at BA HOW hmy ⊢
          clear ba bb OO O B8 HB HA
          generalize W3.alloc (.cells #[.int .i64 (i : Int), .int .i64 (t.pS i : Int)] 60) = W9 at *
          clear hy y0 y1
          go_loopw [31] (fun u wr => ∃ q : Nat, q ≤ n - (i + 1) ∧ u = .int .i64 q ∧ ∃ o, Hid (Blk 0 wr m [.int .i64 (n : Int), o]) ∧ Hid (OwnP 49 wr (m + 1) Nowhere ((agJ n t.ahead i (i + 1 + q)).map ceE) o) ∧ Hid (Below m w1 wr) ∧ Hid (Blk 0 wr y [.int .i64 (i : Int), .int .i64 (t.pS i : Int)]) ∧ Hid (∀ k, o.ownBlock = some k → k ≠ y)) (fun u _ => n - (i + 1) - (intOf u).toNat)
          case atStart => exact ⟨0, by omega, rfl, _, BX8, OO2, HB2, BA, HOW⟩
          case round =>
            clear OO2 HB2 BX8 BA HOW
            obtain ⟨q, hqn, rfl, o, B8, O, HB, BA, HOW⟩ := hrel
            obtain ⟨W4, hW4⟩ : ∃ W4 : World, W4 = wr := ⟨_, rfl⟩
            subst hW4
            by_cases hltj : q < n - (i + 1)
            · obtain ⟨bx', off', e, hbx', x0, x1⟩ := HX.out (i + 1 + q) (by omega)
              injection e with e
              injection e with e1 e2
              subst e1 e2
              have y0 := (HB.out.cell (p := ⟨bx, off + (i + 1 + q) * 2, none⟩) (by have := HMM.out; dsimp only; omega)).trans x0
              have y1 := (HB.out.cell (p := ⟨bx, off + (i + 1 + q) * 2 + 1, none⟩) (by have := HMM.out; dsimp only; omega)).trans x1
              rw [show off + (i + 1 + q) * 2 = off + (i + 1) * 2 + q * 2 by omega] at y0 y1
              have hqI : (q : Int) < ((n - (i + 1) : Nat) : Int) := by omega
              have ei : ((i + 1 + q : Nat) : Int) = (i : Int) + 1 + (q : Int) := by omega
              rw [ei] at y0
              clear x0 x1 hbx'
              have bb : Below W4.heap.size W4 (W4.alloc (.cells #[.int .i64 ((i : Int) + 1 + (q : Int)), .int .i64 (t.pS (i + 1 + q) : Int)] 60)) := (Below.refl _ _).alloc (Nat.le_refl _) _
              have bn := Lib.hid (Blk.made W4 [.int .i64 ((i : Int) + 1 + (q : Int)), .int .i64 (t.pS (i + 1 + q) : Int)] 60 (base := 0) (Nat.zero_le _))
              have O2 := Lib.hid (O.out.keep Flat.keeps bb)
              have B82 := Lib.hid (B8.out.below bb)
              have BA2 := Lib.hid (BA.out.below bb)
              have HB2 := Lib.hid (HB.out.trans (bb.mono (by have := B8.out.lt; omega)))
              have HSC := Lib.hid (agJ_succ n t.ahead i (i + 1 + q))
              have HLN := Lib.hid (agJ_len n t.ahead i (i + 1 + q) hlt (by omega) hw)
              have HAH := Lib.hid (Tm.ahead_lt t (Tm.pS_get t (show i < t.count by have := HN.out; omega)) (Tm.pS_get t (show i + 1 + q < t.count by have := HN.out; omega)) (by omega))
              rw [HAH.out] at HSC
              go_upto_region 11 with (fail)
              have hm4 := B82.out.lt
              clear y0 y1 bb O B8 BA HB
              generalize (W4.alloc (.cells #[.int .i64 ((i : Int) + 1 + (q : Int)), .int .i64 (t.pS (i + 1 + q) : Int)] 60)) = W6 at *
              have n0 := bn.out.cell 1 _ rfl
              have a0 := BA2.out.cell 1 _ rfl
              have k0 := B82.out.cell 0 _ rfl
              have k1 := B82.out.cell 1 _ rfl
              by_cases hpp : t.pS i < t.pS (i + 1 + q)
              · have HE := Lib.hid (show (agJ n t.ahead i (i + 1 + q + 1)).map ceE = (agJ n t.ahead i (i + 1 + q)).map ceE ++ [((i : Int), (i : Int) + 1 + (q : Int))] by rw [HSC.out, if_pos (by simpa using hpp), List.map_append, ← ei]; rfl)
                have f1 := B82.out.fr 1
                have HOL := Lib.hid O2.out.lt
                have HLM := Lib.hid (show ((agJ n t.ahead i (i + 1 + q)).map ceE).length = (agJ n t.ahead i (i + 1 + q)).length by rw [List.length_map])
                obtain ⟨Ao, co, rfl⟩ := O2.out.form
                rw [HLM.out] at O2 B82 k1 HOL HOW
                clear HSC HAH ei
                go_wp2_with (at_builtin; refine wpList_append_one rfl _ _ 22 rfl ie _ Tryd.underlying22 hei hez0 hez1 hez2 rfl (by decide) Flat.keeps O2.out (x := ((i : Int), (i : Int) + 1 + (q : Int))) (cs := [.int .i64 (i : Int), .int .i64 ((i : Int) + 1 + (q : Int))]) (Tx := Nowhere) ?d0 rfl rfl rfl (Sub.nowhere _) (Sub.nowhere _) not_nowhere ?d1 ?d2 ?d3 ?d4 ?_)
                case d0 => exact ⟨rfl, by unfold inI; omega, by unfold inI; omega⟩
                case d1 => simp [Value.oneCell']
                case d2 => have := HLN.out; (try rw [HLM.out]); unfold maxLen; omega
                case d3 => have := HLN.out; (try rw [HLM.out]); omega
                try (case d4 => omega)
                intro v5 w5 ho5 hg5 hd5
                rw [← HE.out] at ho5
                obtain ⟨A5, c5, rfl⟩ := ho5.form
                rw [List.length_map] at ho5 hd5 ⊢
                have HO5 := Lib.hid ho5
                have HG5 := Lib.hid (show (∀ b, (Value.slice Ao (agJ n t.ahead i (i + 1 + q)).length co).ownBlock = some b → m + 1 ≤ b) from fun b e => (HOL.out b e).1)
                have HB5 := Lib.hid (HB2.out.grown hg5 (Nat.le_of_lt hm4) (fun b e => by have := HG5.out b e; omega))
                have B85 := Lib.hid (B82.out.but (But.of_grown hg5) (fun e => by have := HG5.out m e; omega))
                have BA5 := Lib.hid (BA2.out.but (But.of_grown hg5) (fun e => HOW.out y e rfl))
                have hya := BA2.out.lt
                have HOW5 := Lib.hid (show ∀ k, (Value.slice A5 (agJ n t.ahead i (i + 1 + q + 1)).length c5).ownBlock = some k → k ≠ y from fun k e => by
                  rcases hd5 with h | h
                  · rw [h] at e; exact HOW.out k e
                  · rw [h] at e
                    injection e with e
                    omega)
                have f15 := B85.out.fr 1
                have k15 := B85.out.cell 1 _ rfl
                have HON := Lib.hid (show ∀ u, OwnP 49 (w5.setCell ⟨m, 1, none⟩ u) (m + 1) Nowhere ((agJ n t.ahead i (i + 1 + q + 1)).map ceE) (.slice A5 (agJ n t.ahead i (i + 1 + q + 1)).length c5) from fun u =>
                  OwnL.but HO5.out (But.setCell (T := Is m) (But.refl _ _) (p := ⟨m, 1, none⟩) rfl u) (fun b e hb => by
                    have h1 := (HO5.out.lt b e).1
                    have h2 : b = m := hb
                    omega))
                have HBN := Lib.hid (fun u => HB5.out.setCell (p := ⟨m, 1, none⟩) (Nat.le_refl m) u)
                have HKN := Lib.hid (fun u => B85.out.set (i := 1) (by simp) u)
                have HAN := Lib.hid (fun u => BA5.out.other (p := ⟨m, 1, none⟩) (by show m ≠ y; omega) u)
                clear ho5 hg5 hd5 k0 k1 f1 O2 B82 n0 a0
                go_wp2
                go_roundw
                case rel => exact ⟨q + 1, by omega, by go_num, _, Lib.hid (HKN.out _), Lib.hid (HON.out _), Lib.hid (HBN.out _), Lib.hid (HAN.out _), HOW5⟩
                case measure => simp [intOf]; omega
              · have HE := Lib.hid (show agJ n t.ahead i (i + 1 + q + 1) = agJ n t.ahead i (i + 1 + q) by rw [HSC.out, if_neg (by simpa using hpp)])
                have O3 := Lib.hid (show OwnP 49 W6 (m + 1) Nowhere ((agJ n t.ahead i (i + 1 + (q + 1))).map ceE) o by
                  have h := O2.out
                  rw [← HE.out] at h
                  exact h)
                clear HSC HAH
                go_wp2
                go_roundw
                case rel => exact ⟨q + 1, by omega, by go_num, _, B82, O3, HB2, BA2, HOW⟩
                case measure => simp [intOf]; omega
            · have hje : q = n - (i + 1) := by omega
              subst hje
              have OO := Lib.hid (show OwnP 49 W4 (m + 1) Nowhere ((edgU (rowP n t.ahead) (i + 1)).map ceE) o by
                rw [← agJ_all]
                have h := O.out
                rwa [show i + 1 + (n - (i + 1)) = n by omega] at h)
              go_wp2
              go_roundw
              case rel => exact ⟨i + 1, by omega, by go_num, _, B8, OO, HB⟩
              case measure => simp [intOf]; omega
      · skip
        have hie : i = n := by omega
        subst hie
        have k0 := B8.out.cell 0 _ rfl
        have k1 := B8.out.cell 1 _ rfl
        have hmw := HMM.out
        have HBW := Lib.hid (BL1.out.trans ((HB.out.mono (Nat.le_of_lt (by omega))).mono (by omega)))
        have B4 := Lib.hid (HB41.out.but (T := Nowhere) (But.of_below (HB.out.mono (Nat.le_of_eq HMM.out))) (fun h => h))
        have f40 := B4.out.fr 0
        have f41 := B4.out.fr 1
        have k40 := B4.out.cell 0 _ rfl
        have k41 := B4.out.cell 1 _ rfl
        have hel := edgU_len (rowP i t.ahead) i (rowP_len i _) i
        have hii : i * i ≤ 200 * 200 := Nat.mul_le_mul (by omega) (by omega)
        obtain ⟨Ao, co, rfl⟩ := O.out.form
        rw [List.length_map] at O B8 k1
        have BT := Lib.hid (B4.out.twoS (.int .i64 (i : Int)) (.slice Ao (edgU (rowP i t.ahead) i).length co))
        have BB := Lib.hid (below_twoS HBW.out (show w.heap.size ≤ w.heap.size + 1 by omega) (.int .i64 (i : Int)) (.slice Ao (edgU (rowP i t.ahead) i).length co))
        have HO := Lib.hid (show ∀ x y, OwnP 49 ((W3.setCell ⟨w.heap.size + 1, 0, none⟩ x).setCell ⟨w.heap.size + 1, 1, none⟩ y) (m + 1) Nowhere ((edgU (rowP i t.ahead) i).map ceE) (.slice Ao (edgU (rowP i t.ahead) i).length co) from fun x y =>
          OwnL.but O.out ((But.setCell (T := Is (w.heap.size + 1)) (But.refl _ _) (p := ⟨w.heap.size + 1, 0, none⟩) rfl x).setCell (p := ⟨w.heap.size + 1, 1, none⟩) rfl y) (fun b e hb => by
            have h1 := (O.out.lt b e).1
            have h2 : b = w.heap.size + 1 := hb
            omega))
        have HRD := Lib.hid (show ∀ x y, RdP ((W3.setCell ⟨w.heap.size + 1, 0, none⟩ x).setCell ⟨w.heap.size + 1, 1, none⟩ y) (Plus Nowhere w.heap.size ((W3.setCell ⟨w.heap.size + 1, 0, none⟩ x).setCell ⟨w.heap.size + 1, 1, none⟩ y).heap.size) ((edgU (rowP i t.ahead) i).map ceE) (.slice Ao (edgU (rowP i t.ahead) i).length co) from fun x y =>
          (HO.out x y).toRd (bytes := 16) Flat.keeps (by rw [List.length_map]; omega) (Sub.nowhere _) (fun b h1 h2 => .inr ⟨by omega, h2⟩))
        clear hmw
        go_wp2
        have r0 := BT.out.cell 0 _ rfl
        have r1 := BT.out.cell 1 _ rfl
        refine bodyPost_ret (v := .tuple #[.agg #[.int .i64 (i : Int), .slice Ao (edgU (rowP i t.ahead) i).length co], .int .i64 0]) (by simp [results, Tryd.f9, go_sem, r0, r1]) rfl ⟨(i : Int), .slice Ao (edgU (rowP i t.ahead) i).length co, rfl, fun _ => ⟨rfl, ?_⟩, fun h => absurd hw h, BB.out⟩
        unfold agE
        rw [HN.out]
        exact HRD.out _ _
  · have hE0 : E = 2 := by rw [HE.out, if_neg hw]
    clear HE
    subst hE0
    have hw2 : (200 : Int) < (n : Int) := by omega
    have f40 := HB41.out.fr 0
    have f41 := HB41.out.fr 1
    have k40 := HB41.out.cell 0 _ rfl
    have k41 := HB41.out.cell 1 _ rfl
    have BT := Lib.hid (HB41.out.twoS (.int .i64 0) (.slice none 0 0))
    have BB := Lib.hid (below_twoS BL1.out (show w.heap.size ≤ w.heap.size + 1 by omega) (.int .i64 0) (.slice none 0 0))
    go_wp2_with fail
    have r0 := BT.out.cell 0 _ rfl
    have r1 := BT.out.cell 1 _ rfl
    refine bodyPost_ret (v := .tuple #[.agg #[.int .i64 0, .slice none 0 0], .int .i64 2]) (by simp [results, Tryd.f9, go_sem, r0, r1]) rfl ⟨_, _, rfl, fun h => absurd h hw, fun _ => ⟨rfl, rfl⟩, BB.out⟩
end Go.Proofs.YtknaoianhjeccaaDoor
