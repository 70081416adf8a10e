/- The walk of the yard's lay, where there are two. -/
import Derived.Test.YtbpooepbnnbipaaSy7
namespace Go.Proofs.Ytbpooepbnnbipaa
open Go.RowKit
set_option linter.unusedVariables false
set_option maxHeartbeats 4000000 in
set_option maxRecDepth 100000 in
theorem lay_two (x : Tm) (par : Bool) (a b : Tm) (hx : x.two = some (par, a, b)) (iha : LayC a) (ihb : LayC b) : LayC x := by
  intro base w y v P lv c2 c3 c4 S V up onR h hS r hn hlv
  have IHA := Lib.hid iha
  have IHB := Lib.hid ihb
  clear iha ihb
  obtain ⟨kk, c, wr, lb, kids, vk, rfl, rfl, hk, hc, hlb, hkids⟩ := r
  obtain ⟨hkk, r', hr'⟩ := Tm.two_kind hx
  simp only [Tm.kind, Tm.kids] at hkk hr'
  subst hr'
  have HKK := Lib.hid hkk
  clear hkk
  have HP := Lib.hid (layP_two hx P.length up onR lv)
  have HX2 := Lib.hid hx
  have HCT := Lib.hid (Tm.count_two hx)
  rw [Tm.count_two hx] at hlv
  rw [nodesT_two hx] at hn
  simp only [List.length_cons, List.length_append, List.length_map] at hn
  obtain ⟨A, cap, rfl, hcl, hcm, _⟩ := hkids.form
  obtain ⟨kb, off, k0, d0, wr0, lb0, v0, rfl, hsb, q0, q1, q2, q3, q4, ra⟩ := RdTms.kid hkids (q := 0) (by simp)
  obtain ⟨kb', off', k1, d1, wr1, lb1, v1, hA, hsb', s0, s1, s2, s3, s4, rb⟩ := RdTms.kid hkids (q := 1) (by simp)
  injection hA with hA
  injection hA with e1 e2
  subst e1 e2
  simp only [List.getElem_cons_zero, List.getElem_cons_succ] at ra rb
  rw [Nat.zero_mul, Nat.add_zero] at q0 q1 q2 q3 q4
  rw [Nat.one_mul] at s0 s1 s2 s3 s4
  obtain ⟨A1, m1, n1, rfl⟩ := ra.slice
  obtain ⟨A2, m2, n2', rfl⟩ := rb.slice
  have RA := Lib.hid ra
  have RB := Lib.hid rb
  have HS := Lib.hid hS
  have hkb : kb < base := hS _ hsb
  have hn1 : P.length + 1 ≤ 1099511627776 := by omega
  clear ra rb hS
  obtain ⟨Av, cv, hv⟩ := h.own.form
  subst hv
  have bel : Below w.heap.size w (w.alloc (.cells [.int .i64 kk, .int .i64 c, .bool wr, .int .i64 lb, .slice (some ⟨kb, off, none⟩) (a :: b :: r').length cap].toArray 26)) := (Below.refl _ _).alloc (Nat.le_refl _) _
  have FH := Lib.hid (h.below bel)
  have BW := Lib.hid (show But (LyT y (.slice Av P.length cv)) w (w.alloc (.cells [.int .i64 kk, .int .i64 c, .bool wr, .int .i64 lb, .slice (some ⟨kb, off, none⟩) (a :: b :: r').length cap].toArray 26)) from But.of_below bel)
  have BX := Blk.made w [.int .i64 kk, .int .i64 c, .bool wr, .int .i64 lb, .slice (some ⟨kb, off, none⟩) (a :: b :: r').length cap] 26 (base := 0) (Nat.zero_le _)
  have HSZ := Lib.hid (show w.heap.size ≤ ((w.alloc (.cells [.int .i64 kk, .int .i64 c, .bool wr, .int .i64 lb, .slice (some ⟨kb, off, none⟩) (a :: b :: r').length cap].toArray 26))).heap.size from bel.size)
  have hyw := h.hd.lt
  have HXN := Lib.hid (fun b (e : (Value.slice Av P.length cv).ownBlock = some b) => (h.own.lt b e).2)
  unfold maxLen at hcm
  unfold tmV
  have hn2 : (2 : Int) ≤ ((a :: b :: r').length : Int) := by simp; omega
  generalize (a :: b :: r').length = n' at *
  have hbase := h.hd.ge
  have HOG := Lib.hid (fun b (e : (Value.slice Av P.length cv).ownBlock = some b) => (h.own.lt b e).1)
  clear h bel hkids hk hlb
  obtain ⟨i0, hi, hz0, hz1, hz2⟩ := info_parts infoPt
  go_enter Try.func15, Try.ntmps15
  go_upto_region 1 with (fail)
  obtain ⟨X, hX⟩ : ∃ X, X = w.heap.size := ⟨_, rfl⟩
  change Code.wp _ _ _ _ (w.alloc (.cells [.int .i64 kk, .int .i64 c, .bool wr, .int .i64 lb, .slice (some ⟨kb, off, none⟩) n' cap].toArray 26))
  rw [← hX] at BX ⊢
  have HX := Lib.hid hX
  clear hX
  generalize (w.alloc (.cells [.int .i64 kk, .int .i64 c, .bool wr, .int .i64 lb, .slice (some ⟨kb, off, none⟩) n' cap].toArray 26)) = W at *
  have d0 := FH.out.hd.cell 0 _ rfl
  have f0 := FH.out.hd.fr 0
  have hyW := FH.out.hd.lt
  have ny := FH.out.ne
  go_wp2_with (at_builtin; refine wpList_append_one rfl _ _ 53 rfl i0 _ Try.underlying53 hi hz0 hz1 hz2 rfl (by decide) Flat.keeps FH.out.own (x := ((⟨0, -1, 0, 0, up, onR⟩ : PtP), false)) (cs := [.int .i64 0, .int .i64 (-1), .int .i64 0, .int .i64 0, .int .i64 up, .bool onR, .bool false]) (Tx := Nowhere) ?d0 rfl rfl rfl (Sub.nowhere _) (Sub.nowhere _) not_nowhere ?d1 ?d2 ?d3 ?d4 ?_)
  case d0 => exact ⟨rfl, trivial⟩
  case d1 => simp [Value.oneCell']
  case d2 => unfold maxLen; omega
  case d3 => omega
  try (case d4 => exact Nat.le_trans FH.out.hd.ge (Nat.le_of_lt hyW))
  intro v2 w2 ho2 hg2 hd2
  obtain ⟨g, k2, hv2, _⟩ := ho2.rowAt (by simp)
  generalize hl2 : (P ++ [((⟨0, -1, 0, 0, up, onR⟩ : PtP), false)]).length = n2 at hv2
  have HL2 : Hid (n2 = P.length + 1) := Lib.hid (by rw [← hl2]; simp)
  clear hl2
  subst hv2
  have e0 := grown_cell hg2 d0 ny
  have f2 := grown_frozen hg2 f0 hyW ny
  have HG := Lib.hid (FH.out.grown (Below.refl _ _) hg2 ho2 (hd2.imp id (fun e => ⟨_, e, Nat.le_succ _⟩)))
  clear d0 f0 hyW ny ho2 hg2 hd2 hi hz0 hz1 hz2
  go_upto_region 3 with (fail)
  generalize w2.setCell ⟨y, 0, none⟩ (.slice (some ⟨g, 0, none⟩) n2 k2) = W3 at *
  clear e0 f2
  go_upto_region 4 with (fail)
  have be4 : Below W3.heap.size W3 (W3.alloc (.cells [.int .i64 0, .int .i64 (-1), .int .i64 0, .int .i64 0, .int .i64 up, .bool onR, .bool false].toArray 100)) := (Below.refl _ _).alloc (Nat.le_refl _) _
  have BP := Blk.made W3 [.int .i64 0, .int .i64 (-1), .int .i64 0, .int .i64 0, .int .i64 up, .bool onR, .bool false] 100 (base := W3.heap.size) (Nat.le_refl _)
  obtain ⟨hL3, hN3, hB3⟩ := HG.out
  have HL4 := Lib.hid (hL3.below be4)
  have hBw : But (LyT y (.slice Av P.length cv)) w W3 := BW.out.trans hB3
  have HB4 := Lib.hid (hBw.trans (But.of_below be4))
  have HN4 : Hid (LyN (.slice Av P.length cv) (.slice (some ⟨g, 0, none⟩) n2 k2) w.heap.size) := Lib.hid (fun g h => (hN3 g h).imp id (fun h => Nat.le_trans HSZ.out h))
  have hxy : ¬ LyT y (.slice Av P.length cv) X := fun h => by
    rcases h with e | e
    · have := HX.out; omega
    · have := HXN.out X e; have := HX.out; omega
  have BX4 := (BX.but hB3 hxy).below be4
  have hbw4 : w.heap.size ≤ W3.heap.size := hBw.size
  have hpX : X < W3.heap.size := (BX.but hB3 hxy).lt
  have hyp : y ≠ W3.heap.size := fun e => by have := hL3.hd.lt; omega
  have hgp : g ≠ W3.heap.size := fun e => by have := (hL3.row (by simp)).lt; omega
  have hgX : g ≠ X := fun e => by
    rcases hN3 g rfl with e2 | e2
    · have := HXN.out g e2; have := HX.out; omega
    · have := BX.lt; omega
  have HGO : Hid (LyT y (.slice Av P.length cv) g ∨ w.heap.size ≤ g) := Lib.hid ((HN4.out g rfl).imp .inr id)
  change Code.wp _ _ _ _ (W3.alloc (.cells [.int .i64 0, .int .i64 (-1), .int .i64 0, .int .i64 0, .int .i64 up, .bool onR, .bool false].toArray 100))
  obtain ⟨bp, hbp⟩ : ∃ bp, bp = W3.heap.size := ⟨_, rfl⟩
  rw [← hbp] at BP hpX hyp hgp hbw4 ⊢
  clear be4 BX HG hL3 hN3 hB3 hBw hxy hbp FH BW
  generalize (W3.alloc (.cells [.int .i64 0, .int .i64 (-1), .int .i64 0, .int .i64 0, .int .i64 up, .bool onR, .bool false].toArray 100)) = W4 at *
  have x0 := BX4.cell 0 _ rfl
  have x2 : W4.cell? ⟨X, 4, none⟩ = some (.slice (some ⟨kb, off, none⟩) n' cap) := BX4.cell 4 _ rfl
  have hkbw : kb < w.heap.size := by omega
  have nkl : ∀ v : Value, (∀ g, v.ownBlock = some g → base ≤ g) → ¬ LyT y v kb := fun v hv h => by
    rcases h with e | e
    · omega
    · have := hv kb e; omega
  have HNK := Lib.hid nkl
  clear nkl
  rcases par with _ | _
  · have hkk : kk = 2 := HKK.out
    subst hkk
    have b0 := BP.cell 0 _ rfl
    have fb0 := BP.fr 0
    go_upto_region 9 with (fail)
    have hbb : But (Is bp) W4 (W4.setCell ⟨bp, 0, none⟩ (.int .i64 2)) := (But.refl (Is bp) W4).setCell (p := ⟨bp, 0, none⟩) rfl (.int .i64 2)
    have hL5 := HL4.out.but hbb (fun b hb e => by
      have e : b = bp := e
      subst e
      rcases hb with e2 | e2
      · exact hyp e2.symm
      · injection e2 with e2; exact hgp e2)
    have hB5 := HB4.out.setNew (p := ⟨bp, 0, none⟩) (.inr hbw4) (.int .i64 2)
    have BP5 := BP.set (i := 0) (by simp) (.int .i64 2)
    have BX5 := BX4.other (p := ⟨bp, 0, none⟩) (fun e => by have e : bp = X := e; omega) (.int .i64 2)
    generalize W4.setCell ⟨bp, 0, none⟩ (.int .i64 2) = W5 at *
    obtain ⟨P1, hP1⟩ : ∃ P1, P1 = P ++ [((⟨0, -1, 0, 0, up, onR⟩ : PtP), false)] := ⟨_, rfl⟩
    rw [← hP1] at hL5
    have HP1 := Lib.hid hP1
    have HLN1 : Hid (P1.length = n2) := Lib.hid (by rw [hP1, HL2.out]; simp)
    have HL5 := Lib.hid hL5
    have HB5 := Lib.hid hB5
    have HOGW := Lib.hid (show ¬ LyT y (.slice Av P.length cv) kb from HNK.out _ HOG.out)
    have HSN : Hid (∀ v : Value, (∀ g, v.ownBlock = some g → base ≤ g) → ∀ b, S b → ¬ LyT y v b) := Lib.hid (fun v hv b hb h => by
      have hlt : b < base := HS.out b hb
      rcases h with e | e
      · omega
      · have := hv b e; omega)
    have HSU : Hid (Sub S (Upto w.heap.size)) := Lib.hid (fun b hb => by have hlt : b < base := HS.out b hb; show b < w.heap.size; omega)
    have RA5 := Lib.hid (RA.out.but hB5 HSU.out (HSN.out _ HOG.out))
    have xk := BX5.cell 4 _ rfl
    have a0 := hB5.cell HOGW.out q0; have a1 := hB5.cell HOGW.out q1; have a2 := hB5.cell HOGW.out q2; have a3 := hB5.cell HOGW.out q3; have a4 := hB5.cell HOGW.out q4
    have b2 := BP5.cell 2 _ rfl
    have fb2 := BP5.fr 2
    have hnn : (0 : Int) < (n' : Int) := by omega
    clear hbb hL5 hB5 hP1 x0 x2 b0 fb0 HL4 HB4 BP BX4
    go_wp2_with fail
    refine (IHA.out base W5 y _ P1 lv c2 c3 c4 S _ (P.length : Int) false HL5.out HS.out RA5.out (by rw [HLN1.out, HL2.out]; omega) (by omega)).mono ?_
    rintro e w6 ⟨he, v3, hL6, hN6, hB6⟩
    rw [HLN1.out] at he hL6
    subst he
    have hne3 : 0 < (P1 ++ (layP a n2 (P.length : Int) false lv).map (·, false)).length := by rw [List.length_append, HLN1.out, HL2.out]; omega
    obtain ⟨g3, k3, hv3, _⟩ := hL6.own.rowAt hne3
    generalize hl3 : (P1 ++ (layP a n2 (P.length : Int) false lv).map (·, false)).length = n3 at hv3
    have HL3 : Hid (n3 = n2 + (nodesT a).length) := Lib.hid (by rw [← hl3, List.length_append, List.length_map, layP_len, HLN1.out])
    have hnt : ¬ LyT y (.slice (some ⟨g, 0, none⟩) n2 k2) bp := fun h => by
      rcases h with e | e
      · exact hyp e.symm
      · injection e with e; exact hgp e
    have hntX : ¬ LyT y (.slice (some ⟨g, 0, none⟩) n2 k2) X := fun h => by
      rcases h with e | e
      · have := HX.out; omega
      · injection e with e; exact hgX e
    have BP6 := BP5.but hB6 hnt
    have hbp5 := BP5.lt
    have hX5 := BX5.lt
    have BX6 := BX5.but hB6 hntX
    have c6 := BP6.cell 2 _ rfl
    have fc6 := BP6.fr 2
    clear xk a0 a1 a2 a3 a4 b2 fb2 hl3 hne3 BP5 BX5
    subst hv3
    have HL6 := Lib.hid hL6
    have HN6 := Lib.hid hN6
    have HB6 := Lib.hid hB6
    clear hL6 hN6 hB6
    go_upto_region 10 with (fail)
    have hg3 : g3 ≠ bp ∧ g3 ≠ X := by
      rcases HN6.out g3 rfl with e | e
      · injection e with e; exact ⟨fun h => hgp (e.trans h), fun h => hgX (e.trans h)⟩
      · exact ⟨by omega, by omega⟩
    have hz65 : W5.heap.size ≤ w6.heap.size := HB6.out.size
    have hbb : But (Is bp) w6 (w6.setCell ⟨bp, 2, none⟩ (.int .i64 (n2 : Int))) := (But.refl (Is bp) w6).setCell (p := ⟨bp, 2, none⟩) rfl (.int .i64 (n2 : Int))
    have hL7 := HL6.out.but hbb (fun b hb e => by
      have e : b = bp := e
      subst e
      rcases hb with e2 | e2
      · exact hyp e2.symm
      · injection e2 with e2; exact hg3.1 e2)
    have hw05 : w.heap.size ≤ W5.heap.size := HB5.out.size
    have hN5 : LyN (.slice Av P.length cv) (.slice (some ⟨g, 0, none⟩) n2 k2) w.heap.size := HN4.out
    have hB7 := (HB5.out.ly HB6.out HN4.out).setNew (p := ⟨bp, 2, none⟩) (.inr hbw4) (.int .i64 (n2 : Int))
    have hN7 : LyN (.slice Av P.length cv) (.slice (some ⟨g3, 0, none⟩) n3 k3) w.heap.size := HN4.out.trans HN6.out hw05
    have BP7 := BP6.set (i := 2) (by simp) (.int .i64 (n2 : Int))
    have BX7 := BX6.other (p := ⟨bp, 2, none⟩) (fun e => by have e : bp = X := e; omega) (.int .i64 (n2 : Int))
    generalize w6.setCell ⟨bp, 2, none⟩ (.int .i64 (n2 : Int)) = W7 at *
    obtain ⟨P2, hP2⟩ : ∃ P2, P2 = P1 ++ (layP a n2 (P.length : Int) false lv).map (·, false) := ⟨_, rfl⟩
    rw [← hP2] at hL7
    have HP2 := Lib.hid hP2
    have HLN2 : Hid (P2.length = n3) := Lib.hid (by rw [hP2, List.length_append, List.length_map, layP_len, HLN1.out, HL3.out])
    have HL7 := Lib.hid hL7
    have HB7 := Lib.hid hB7
    have HN7 := Lib.hid hN7
    have RB7 := Lib.hid (RB.out.but hB7 HSU.out (HSN.out _ HOG.out))
    have xk := BX7.cell 4 _ rfl
    have a0 := hB7.cell HOGW.out s0; have a1 := hB7.cell HOGW.out s1; have a2 := hB7.cell HOGW.out s2; have a3 := hB7.cell HOGW.out s3; have a4 := hB7.cell HOGW.out s4
    have b3 := BP7.cell 3 _ rfl
    have fb3 := BP7.fr 3
    have hnn1 : (1 : Int) < (n' : Int) := by omega
    have hbp7 := BP7.lt
    have hX7 := BX7.lt
    clear hbb hL7 hB7 hN7 hN5 hP2 c6 fc6 HL6 HB6 HN6 BP6 BX6 hnt hntX HB5 HN4 HL5
    go_wp2_with fail
    refine (IHB.out base W7 y _ P2 (lv + a.count) c2 c3 c4 S _ (P.length : Int) true HL7.out HS.out RB7.out (by rw [HLN2.out, HL3.out, HL2.out]; omega) (by omega)).mono ?_
    rintro e w8 ⟨he, v5, hL8, hN8, hB8⟩
    rw [HLN2.out] at he hL8
    subst he
    have hne5 : 0 < (P2 ++ (layP b n3 (P.length : Int) true (lv + a.count)).map (·, false)).length := by rw [List.length_append, HLN2.out, HL3.out, HL2.out]; omega
    obtain ⟨g5, k5, hv5, _⟩ := hL8.own.rowAt hne5
    generalize hl5 : (P2 ++ (layP b n3 (P.length : Int) true (lv + a.count)).map (·, false)).length = n5 at hv5
    have HL5' : Hid (P.length < n5) := Lib.hid (by rw [← hl5, List.length_append, HLN2.out, HL3.out, HL2.out]; omega)
    have hnt : ¬ LyT y (.slice (some ⟨g3, 0, none⟩) n3 k3) bp := fun h => by
      rcases h with e | e
      · exact hyp e.symm
      · injection e with e; exact hg3.1 e
    have BP8 := BP7.but hB8 hnt
    have c8 := BP8.cell 3 _ rfl
    have fc8 := BP8.fr 3
    subst hv5
    have HL8 := Lib.hid hL8
    have HN8 := Lib.hid hN8
    have HB8 := Lib.hid hB8
    clear xk a0 a1 a2 a3 a4 b3 fb3 hl5 hne5 BP7 hL8 hN8 hB8
    go_wp2_with fail
    have hg5 : g5 ≠ bp := by
      rcases HN8.out g5 rfl with e | e
      · injection e with e; exact fun h => hg3.1 (e.trans h)
      · omega
    have hbb : But (Is bp) w8 (w8.setCell ⟨bp, 3, none⟩ (.int .i64 (n3 : Int))) := (But.refl (Is bp) w8).setCell (p := ⟨bp, 3, none⟩) rfl (.int .i64 (n3 : Int))
    have hL9 := HL8.out.but hbb (fun b hb e => by
      have e : b = bp := e
      subst e
      rcases hb with e2 | e2
      · exact hyp e2.symm
      · injection e2 with e2; exact hg5 e2)
    have HB9 := Lib.hid ((HB7.out.ly HB8.out HN7.out).setNew (p := ⟨bp, 3, none⟩) (.inr hbw4) (.int .i64 (n3 : Int)))
    have HN9 := Lib.hid (HN7.out.trans HN8.out HB7.out.size)
    have BP9 := BP8.set (i := 3) (by simp) (.int .i64 (n3 : Int))
    generalize w8.setCell ⟨bp, 3, none⟩ (.int .i64 (n3 : Int)) = W9 at *
    obtain ⟨P3, hP3⟩ : ∃ P3, P3 = P2 ++ (layP b n3 (P.length : Int) true (lv + a.count)).map (·, false) := ⟨_, rfl⟩
    rw [← hP3] at hL9
    have HP3 := Lib.hid hP3
    have HL9 := Lib.hid hL9
    have hPl : P3[P.length]? = some ((⟨0, -1, 0, 0, up, onR⟩ : PtP), false) := by rw [hP3, HP2.out, HP1.out]; exact get_mid _ _ _ _
    have hPq : P.length < P3.length := (List.getElem?_eq_some_iff.1 hPl).1
    have HGO9 := Lib.hid (show LyT y (.slice Av P.length cv) g5 ∨ w.heap.size ≤ g5 from (HN9.out g5 rfl).imp .inr id)
    have HPP : Hid ((layP (.mk 2 c wr lb (a :: b :: r')) P.length up onR lv).map (·, false) = ((⟨2, -1, (n2 : Int), (n3 : Int), up, onR⟩ : PtP), false) :: ((layP a n2 (P.length : Int) false lv).map (·, false) ++ (layP b n3 (P.length : Int) true (lv + a.count)).map (·, false))) := Lib.hid (by
      have e1 : P.length + 1 = n2 := HL2.out.symm
      rw [HP.out]
      unfold onePart
      rw [HX2.out]
      simp only [e1, ← HL3.out, List.map_cons, List.map_append, Bool.false_eq_true, if_false])
    clear hbb hL9 hP3 c8 fc8 BP8 HL8 HB8 HN8
    have RA5 := HL9.out.row (by omega)
    have y0 := HL9.out.hd.cell 0 _ rfl
    have z0 : World.cell? _ ⟨g5, P.length * 7, none⟩ = _ := RA5.cell _ _ hPl 0 _ rfl
    have z1 := RA5.cell _ _ hPl 1 _ rfl; have z2 := RA5.cell _ _ hPl 2 _ rfl; have z3 := RA5.cell _ _ hPl 3 _ rfl; have z4 := RA5.cell _ _ hPl 4 _ rfl; have z5 := RA5.cell _ _ hPl 5 _ rfl; have z6 := RA5.cell _ _ hPl 6 _ rfl
    have fz := RA5.fr (P.length * 7)
    have fz1 := RA5.fr (P.length * 7 + 1); have fz2 := RA5.fr (P.length * 7 + 2); have fz3 := RA5.fr (P.length * 7 + 3); have fz4 := RA5.fr (P.length * 7 + 4); have fz5 := RA5.fr (P.length * 7 + 5); have fz6 := RA5.fr (P.length * 7 + 6)
    have b0 := BP9.cell 0 _ rfl; have b1 := BP9.cell 1 _ rfl; have b2 := BP9.cell 2 _ rfl; have b3 := BP9.cell 3 _ rfl; have b4 := BP9.cell 4 _ rfl; have b5 := BP9.cell 5 _ rfl; have b6 := BP9.cell 6 _ rfl
    have HFIN := Lib.hid (HL9.out.set7 (q := P.length) hPq ((⟨2, -1, (n2 : Int), (n3 : Int), up, onR⟩ : PtP), false))
    have HFB := Lib.hid (HB9.out.set7 (HGO9.out) P.length ((⟨2, -1, (n2 : Int), (n3 : Int), up, onR⟩ : PtP), false))
    have hPn : P.length < n5 := HL5'.out
    clear RA5 hPl BP9
    go_wp2_with fail
    refine wp_region_pre 6 (S := (fun wx => wx.cell? ⟨y, 0, none⟩ = some (.slice (some ⟨g5, 0, none⟩) n5 k5) ∧ wx.cell? ⟨bp, 0, none⟩ = some (.int .i64 2) ∧ wx.cell? ⟨bp, 1, none⟩ = some (.int .i64 (-1)) ∧ wx.cell? ⟨bp, 2, none⟩ = some (.int .i64 (n2 : Int)) ∧ wx.cell? ⟨bp, 3, none⟩ = some (.int .i64 (n3 : Int)) ∧ wx.cell? ⟨bp, 4, none⟩ = some (.int .i64 up) ∧ wx.cell? ⟨bp, 5, none⟩ = some (.bool onR) ∧ wx.cell? ⟨bp, 6, none⟩ = some (.bool false))) (by kernel_rfl) (by kernel_rfl) ⟨y0, b0, b1, b2, b3, b4, b5, b6⟩ (fun hHeld => ?_)
    simp only [List.take_succ_cons, List.take_zero]
    refine wpAnyH_take_at (i := 0) (v := ?_) (some 84) rfl rfl (by kernel_rfl) (by kernel_rfl) (by kernel_rfl) (fun _ _ _ h => h) (Or.inl ⟨by rfl, ?_⟩) (by assumption) ?_
    rotate_left
    · (intro w hSw; (try dsimp only at hSw); go_simp; (try with_reducible rfl))
    (try simp only [Act.put, List.setIfInBounds_toArray, List.set_cons_zero, List.set_cons_succ])
    refine wpAnyH_take_at (i := 1) (v := ?_) (some 85) rfl rfl (by kernel_rfl) (by kernel_rfl) (by kernel_rfl) (fun _ _ _ h => h) (Or.inl ⟨by rfl, ?_⟩) (by assumption) ?_
    rotate_left
    · (intro w hSw; (try dsimp only at hSw); go_simp; (try with_reducible rfl))
    (try simp only [Act.put, List.setIfInBounds_toArray, List.set_cons_zero, List.set_cons_succ])
    refine wpAnyH_take_at (i := 2) (v := ?_) (some 86) rfl rfl (by kernel_rfl) (by kernel_rfl) (by kernel_rfl) (fun _ _ _ h => h) (Or.inl ⟨by rfl, ?_⟩) (by assumption) ?_
    rotate_left
    · (intro w hSw; (try dsimp only at hSw); go_simp; (try with_reducible rfl))
    (try simp only [Act.put, List.setIfInBounds_toArray, List.set_cons_zero, List.set_cons_succ])
    refine wpAnyH_take_at (i := 3) (v := ?_) (some 87) rfl rfl (by kernel_rfl) (by kernel_rfl) (by kernel_rfl) (fun _ _ _ h => h) (Or.inl ⟨by rfl, ?_⟩) (by assumption) ?_
    rotate_left
    · (intro w hSw; (try dsimp only at hSw); go_simp; (try with_reducible rfl))
    (try simp only [Act.put, List.setIfInBounds_toArray, List.set_cons_zero, List.set_cons_succ])
    refine wpAnyH_take_at (i := 4) (v := ?_) (some 88) rfl rfl (by kernel_rfl) (by kernel_rfl) (by kernel_rfl) (fun _ _ _ h => h) (Or.inl ⟨by rfl, ?_⟩) (by assumption) ?_
    rotate_left
    · (intro w hSw; (try dsimp only at hSw); go_simp; (try with_reducible rfl))
    (try simp only [Act.put, List.setIfInBounds_toArray, List.set_cons_zero, List.set_cons_succ])
    refine wpAnyH_take_at (i := 5) (v := ?_) (some 89) rfl rfl (by kernel_rfl) (by kernel_rfl) (by kernel_rfl) (fun _ _ _ h => h) (Or.inl ⟨by rfl, ?_⟩) (by assumption) ?_
    rotate_left
    · (intro w hSw; (try dsimp only at hSw); go_simp; (try with_reducible rfl))
    (try simp only [Act.put, List.setIfInBounds_toArray, List.set_cons_zero, List.set_cons_succ])
    refine wpAnyH_done (by kernel_rfl) ?_ _
    unfold QPre
    simp only [List.drop_succ_cons, List.drop_zero]
    clear hHeld y0 b0 b1 b2 b3 b4 b5 b6
    go_wp2
    go_ret
    refine ⟨rfl, _, ?_, HN9.out, ?_⟩
    · rw [HPP.out, HCT.out, ← Nat.add_assoc]
      have hf := HFIN.out.below ((Below.refl _ _).drew)
      rw [HP3.out, HP2.out, HP1.out, set_mid] at hf
      unfold seven at hf
      exact hf
    · have hb := HFB.out.drew
      unfold seven at hb
      exact hb
  · have hkk : kk = 3 := HKK.out
    subst hkk
    have b0 := BP.cell 0 _ rfl
    have fb0 := BP.fr 0
    go_upto_region 9 with (fail)
    have hbb : But (Is bp) W4 (W4.setCell ⟨bp, 0, none⟩ (.int .i64 3)) := (But.refl (Is bp) W4).setCell (p := ⟨bp, 0, none⟩) rfl (.int .i64 3)
    have hL5 := HL4.out.but hbb (fun b hb e => by
      have e : b = bp := e
      subst e
      rcases hb with e2 | e2
      · exact hyp e2.symm
      · injection e2 with e2; exact hgp e2)
    have hB5 := HB4.out.setNew (p := ⟨bp, 0, none⟩) (.inr hbw4) (.int .i64 3)
    have BP5 := BP.set (i := 0) (by simp) (.int .i64 3)
    have BX5 := BX4.other (p := ⟨bp, 0, none⟩) (fun e => by have e : bp = X := e; omega) (.int .i64 3)
    generalize W4.setCell ⟨bp, 0, none⟩ (.int .i64 3) = W5 at *
    obtain ⟨P1, hP1⟩ : ∃ P1, P1 = P ++ [((⟨0, -1, 0, 0, up, onR⟩ : PtP), false)] := ⟨_, rfl⟩
    rw [← hP1] at hL5
    have HP1 := Lib.hid hP1
    have HLN1 : Hid (P1.length = n2) := Lib.hid (by rw [hP1, HL2.out]; simp)
    have HL5 := Lib.hid hL5
    have HB5 := Lib.hid hB5
    have HOGW := Lib.hid (show ¬ LyT y (.slice Av P.length cv) kb from HNK.out _ HOG.out)
    have HSN : Hid (∀ v : Value, (∀ g, v.ownBlock = some g → base ≤ g) → ∀ b, S b → ¬ LyT y v b) := Lib.hid (fun v hv b hb h => by
      have hlt : b < base := HS.out b hb
      rcases h with e | e
      · omega
      · have := hv b e; omega)
    have HSU : Hid (Sub S (Upto w.heap.size)) := Lib.hid (fun b hb => by have hlt : b < base := HS.out b hb; show b < w.heap.size; omega)
    have RA5 := Lib.hid (RA.out.but hB5 HSU.out (HSN.out _ HOG.out))
    have xk := BX5.cell 4 _ rfl
    have a0 := hB5.cell HOGW.out q0; have a1 := hB5.cell HOGW.out q1; have a2 := hB5.cell HOGW.out q2; have a3 := hB5.cell HOGW.out q3; have a4 := hB5.cell HOGW.out q4
    have b2 := BP5.cell 2 _ rfl
    have fb2 := BP5.fr 2
    have hnn : (0 : Int) < (n' : Int) := by omega
    clear hbb hL5 hB5 hP1 x0 x2 b0 fb0 HL4 HB4 BP BX4
    go_wp2_with fail
    refine (IHA.out base W5 y _ P1 lv c2 c3 c4 S _ (P.length : Int) false HL5.out HS.out RA5.out (by rw [HLN1.out, HL2.out]; omega) (by omega)).mono ?_
    rintro e w6 ⟨he, v3, hL6, hN6, hB6⟩
    rw [HLN1.out] at he hL6
    subst he
    have hne3 : 0 < (P1 ++ (layP a n2 (P.length : Int) false lv).map (·, false)).length := by rw [List.length_append, HLN1.out, HL2.out]; omega
    obtain ⟨g3, k3, hv3, _⟩ := hL6.own.rowAt hne3
    generalize hl3 : (P1 ++ (layP a n2 (P.length : Int) false lv).map (·, false)).length = n3 at hv3
    have HL3 : Hid (n3 = n2 + (nodesT a).length) := Lib.hid (by rw [← hl3, List.length_append, List.length_map, layP_len, HLN1.out])
    have hnt : ¬ LyT y (.slice (some ⟨g, 0, none⟩) n2 k2) bp := fun h => by
      rcases h with e | e
      · exact hyp e.symm
      · injection e with e; exact hgp e
    have hntX : ¬ LyT y (.slice (some ⟨g, 0, none⟩) n2 k2) X := fun h => by
      rcases h with e | e
      · have := HX.out; omega
      · injection e with e; exact hgX e
    have BP6 := BP5.but hB6 hnt
    have hbp5 := BP5.lt
    have hX5 := BX5.lt
    have BX6 := BX5.but hB6 hntX
    have c6 := BP6.cell 2 _ rfl
    have fc6 := BP6.fr 2
    clear xk a0 a1 a2 a3 a4 b2 fb2 hl3 hne3 BP5 BX5
    subst hv3
    have HL6 := Lib.hid hL6
    have HN6 := Lib.hid hN6
    have HB6 := Lib.hid hB6
    clear hL6 hN6 hB6
    go_upto_region 10 with (fail)
    have hg3 : g3 ≠ bp ∧ g3 ≠ X := by
      rcases HN6.out g3 rfl with e | e
      · injection e with e; exact ⟨fun h => hgp (e.trans h), fun h => hgX (e.trans h)⟩
      · exact ⟨by omega, by omega⟩
    have hz65 : W5.heap.size ≤ w6.heap.size := HB6.out.size
    have hbb : But (Is bp) w6 (w6.setCell ⟨bp, 2, none⟩ (.int .i64 (n2 : Int))) := (But.refl (Is bp) w6).setCell (p := ⟨bp, 2, none⟩) rfl (.int .i64 (n2 : Int))
    have hL7 := HL6.out.but hbb (fun b hb e => by
      have e : b = bp := e
      subst e
      rcases hb with e2 | e2
      · exact hyp e2.symm
      · injection e2 with e2; exact hg3.1 e2)
    have hw05 : w.heap.size ≤ W5.heap.size := HB5.out.size
    have hN5 : LyN (.slice Av P.length cv) (.slice (some ⟨g, 0, none⟩) n2 k2) w.heap.size := HN4.out
    have hB7 := (HB5.out.ly HB6.out HN4.out).setNew (p := ⟨bp, 2, none⟩) (.inr hbw4) (.int .i64 (n2 : Int))
    have hN7 : LyN (.slice Av P.length cv) (.slice (some ⟨g3, 0, none⟩) n3 k3) w.heap.size := HN4.out.trans HN6.out hw05
    have BP7 := BP6.set (i := 2) (by simp) (.int .i64 (n2 : Int))
    have BX7 := BX6.other (p := ⟨bp, 2, none⟩) (fun e => by have e : bp = X := e; omega) (.int .i64 (n2 : Int))
    generalize w6.setCell ⟨bp, 2, none⟩ (.int .i64 (n2 : Int)) = W7 at *
    obtain ⟨P2, hP2⟩ : ∃ P2, P2 = P1 ++ (layP a n2 (P.length : Int) false lv).map (·, false) := ⟨_, rfl⟩
    rw [← hP2] at hL7
    have HP2 := Lib.hid hP2
    have HLN2 : Hid (P2.length = n3) := Lib.hid (by rw [hP2, List.length_append, List.length_map, layP_len, HLN1.out, HL3.out])
    have HL7 := Lib.hid hL7
    have HB7 := Lib.hid hB7
    have HN7 := Lib.hid hN7
    have RB7 := Lib.hid (RB.out.but hB7 HSU.out (HSN.out _ HOG.out))
    have xk := BX7.cell 4 _ rfl
    have a0 := hB7.cell HOGW.out s0; have a1 := hB7.cell HOGW.out s1; have a2 := hB7.cell HOGW.out s2; have a3 := hB7.cell HOGW.out s3; have a4 := hB7.cell HOGW.out s4
    have b3 := BP7.cell 3 _ rfl
    have fb3 := BP7.fr 3
    have hnn1 : (1 : Int) < (n' : Int) := by omega
    have hbp7 := BP7.lt
    have hX7 := BX7.lt
    clear hbb hL7 hB7 hN7 hN5 hP2 c6 fc6 HL6 HB6 HN6 BP6 BX6 hnt hntX HB5 HN4 HL5
    go_wp2_with fail
    refine (IHB.out base W7 y _ P2 (lv + a.count) c2 c3 c4 S _ (P.length : Int) true HL7.out HS.out RB7.out (by rw [HLN2.out, HL3.out, HL2.out]; omega) (by omega)).mono ?_
    rintro e w8 ⟨he, v5, hL8, hN8, hB8⟩
    rw [HLN2.out] at he hL8
    subst he
    have hne5 : 0 < (P2 ++ (layP b n3 (P.length : Int) true (lv + a.count)).map (·, false)).length := by rw [List.length_append, HLN2.out, HL3.out, HL2.out]; omega
    obtain ⟨g5, k5, hv5, _⟩ := hL8.own.rowAt hne5
    generalize hl5 : (P2 ++ (layP b n3 (P.length : Int) true (lv + a.count)).map (·, false)).length = n5 at hv5
    have HL5' : Hid (P.length < n5) := Lib.hid (by rw [← hl5, List.length_append, HLN2.out, HL3.out, HL2.out]; omega)
    have hnt : ¬ LyT y (.slice (some ⟨g3, 0, none⟩) n3 k3) bp := fun h => by
      rcases h with e | e
      · exact hyp e.symm
      · injection e with e; exact hg3.1 e
    have BP8 := BP7.but hB8 hnt
    have c8 := BP8.cell 3 _ rfl
    have fc8 := BP8.fr 3
    subst hv5
    have HL8 := Lib.hid hL8
    have HN8 := Lib.hid hN8
    have HB8 := Lib.hid hB8
    clear xk a0 a1 a2 a3 a4 b3 fb3 hl5 hne5 BP7 hL8 hN8 hB8
    go_wp2_with fail
    have hg5 : g5 ≠ bp := by
      rcases HN8.out g5 rfl with e | e
      · injection e with e; exact fun h => hg3.1 (e.trans h)
      · omega
    have hbb : But (Is bp) w8 (w8.setCell ⟨bp, 3, none⟩ (.int .i64 (n3 : Int))) := (But.refl (Is bp) w8).setCell (p := ⟨bp, 3, none⟩) rfl (.int .i64 (n3 : Int))
    have hL9 := HL8.out.but hbb (fun b hb e => by
      have e : b = bp := e
      subst e
      rcases hb with e2 | e2
      · exact hyp e2.symm
      · injection e2 with e2; exact hg5 e2)
    have HB9 := Lib.hid ((HB7.out.ly HB8.out HN7.out).setNew (p := ⟨bp, 3, none⟩) (.inr hbw4) (.int .i64 (n3 : Int)))
    have HN9 := Lib.hid (HN7.out.trans HN8.out HB7.out.size)
    have BP9 := BP8.set (i := 3) (by simp) (.int .i64 (n3 : Int))
    generalize w8.setCell ⟨bp, 3, none⟩ (.int .i64 (n3 : Int)) = W9 at *
    obtain ⟨P3, hP3⟩ : ∃ P3, P3 = P2 ++ (layP b n3 (P.length : Int) true (lv + a.count)).map (·, false) := ⟨_, rfl⟩
    rw [← hP3] at hL9
    have HP3 := Lib.hid hP3
    have HL9 := Lib.hid hL9
    have hPl : P3[P.length]? = some ((⟨0, -1, 0, 0, up, onR⟩ : PtP), false) := by rw [hP3, HP2.out, HP1.out]; exact get_mid _ _ _ _
    have hPq : P.length < P3.length := (List.getElem?_eq_some_iff.1 hPl).1
    have HGO9 := Lib.hid (show LyT y (.slice Av P.length cv) g5 ∨ w.heap.size ≤ g5 from (HN9.out g5 rfl).imp .inr id)
    have HPP : Hid ((layP (.mk 3 c wr lb (a :: b :: r')) P.length up onR lv).map (·, false) = ((⟨3, -1, (n2 : Int), (n3 : Int), up, onR⟩ : PtP), false) :: ((layP a n2 (P.length : Int) false lv).map (·, false) ++ (layP b n3 (P.length : Int) true (lv + a.count)).map (·, false))) := Lib.hid (by
      have e1 : P.length + 1 = n2 := HL2.out.symm
      rw [HP.out]
      unfold onePart
      rw [HX2.out]
      simp only [e1, ← HL3.out, List.map_cons, List.map_append, if_true])
    clear hbb hL9 hP3 c8 fc8 BP8 HL8 HB8 HN8
    have RA5 := HL9.out.row (by omega)
    have y0 := HL9.out.hd.cell 0 _ rfl
    have z0 : World.cell? _ ⟨g5, P.length * 7, none⟩ = _ := RA5.cell _ _ hPl 0 _ rfl
    have z1 := RA5.cell _ _ hPl 1 _ rfl; have z2 := RA5.cell _ _ hPl 2 _ rfl; have z3 := RA5.cell _ _ hPl 3 _ rfl; have z4 := RA5.cell _ _ hPl 4 _ rfl; have z5 := RA5.cell _ _ hPl 5 _ rfl; have z6 := RA5.cell _ _ hPl 6 _ rfl
    have fz := RA5.fr (P.length * 7)
    have fz1 := RA5.fr (P.length * 7 + 1); have fz2 := RA5.fr (P.length * 7 + 2); have fz3 := RA5.fr (P.length * 7 + 3); have fz4 := RA5.fr (P.length * 7 + 4); have fz5 := RA5.fr (P.length * 7 + 5); have fz6 := RA5.fr (P.length * 7 + 6)
    have b0 := BP9.cell 0 _ rfl; have b1 := BP9.cell 1 _ rfl; have b2 := BP9.cell 2 _ rfl; have b3 := BP9.cell 3 _ rfl; have b4 := BP9.cell 4 _ rfl; have b5 := BP9.cell 5 _ rfl; have b6 := BP9.cell 6 _ rfl
    have HFIN := Lib.hid (HL9.out.set7 (q := P.length) hPq ((⟨3, -1, (n2 : Int), (n3 : Int), up, onR⟩ : PtP), false))
    have HFB := Lib.hid (HB9.out.set7 (HGO9.out) P.length ((⟨3, -1, (n2 : Int), (n3 : Int), up, onR⟩ : PtP), false))
    have hPn : P.length < n5 := HL5'.out
    clear RA5 hPl BP9
    go_wp2_with fail
    refine wp_region_pre 6 (S := (fun wx => wx.cell? ⟨y, 0, none⟩ = some (.slice (some ⟨g5, 0, none⟩) n5 k5) ∧ wx.cell? ⟨bp, 0, none⟩ = some (.int .i64 3) ∧ wx.cell? ⟨bp, 1, none⟩ = some (.int .i64 (-1)) ∧ wx.cell? ⟨bp, 2, none⟩ = some (.int .i64 (n2 : Int)) ∧ wx.cell? ⟨bp, 3, none⟩ = some (.int .i64 (n3 : Int)) ∧ wx.cell? ⟨bp, 4, none⟩ = some (.int .i64 up) ∧ wx.cell? ⟨bp, 5, none⟩ = some (.bool onR) ∧ wx.cell? ⟨bp, 6, none⟩ = some (.bool false))) (by kernel_rfl) (by kernel_rfl) ⟨y0, b0, b1, b2, b3, b4, b5, b6⟩ (fun hHeld => ?_)
    simp only [List.take_succ_cons, List.take_zero]
    refine wpAnyH_take_at (i := 0) (v := ?_) (some 84) rfl rfl (by kernel_rfl) (by kernel_rfl) (by kernel_rfl) (fun _ _ _ h => h) (Or.inl ⟨by rfl, ?_⟩) (by assumption) ?_
    rotate_left
    · (intro w hSw; (try dsimp only at hSw); go_simp; (try with_reducible rfl))
    (try simp only [Act.put, List.setIfInBounds_toArray, List.set_cons_zero, List.set_cons_succ])
    refine wpAnyH_take_at (i := 1) (v := ?_) (some 85) rfl rfl (by kernel_rfl) (by kernel_rfl) (by kernel_rfl) (fun _ _ _ h => h) (Or.inl ⟨by rfl, ?_⟩) (by assumption) ?_
    rotate_left
    · (intro w hSw; (try dsimp only at hSw); go_simp; (try with_reducible rfl))
    (try simp only [Act.put, List.setIfInBounds_toArray, List.set_cons_zero, List.set_cons_succ])
    refine wpAnyH_take_at (i := 2) (v := ?_) (some 86) rfl rfl (by kernel_rfl) (by kernel_rfl) (by kernel_rfl) (fun _ _ _ h => h) (Or.inl ⟨by rfl, ?_⟩) (by assumption) ?_
    rotate_left
    · (intro w hSw; (try dsimp only at hSw); go_simp; (try with_reducible rfl))
    (try simp only [Act.put, List.setIfInBounds_toArray, List.set_cons_zero, List.set_cons_succ])
    refine wpAnyH_take_at (i := 3) (v := ?_) (some 87) rfl rfl (by kernel_rfl) (by kernel_rfl) (by kernel_rfl) (fun _ _ _ h => h) (Or.inl ⟨by rfl, ?_⟩) (by assumption) ?_
    rotate_left
    · (intro w hSw; (try dsimp only at hSw); go_simp; (try with_reducible rfl))
    (try simp only [Act.put, List.setIfInBounds_toArray, List.set_cons_zero, List.set_cons_succ])
    refine wpAnyH_take_at (i := 4) (v := ?_) (some 88) rfl rfl (by kernel_rfl) (by kernel_rfl) (by kernel_rfl) (fun _ _ _ h => h) (Or.inl ⟨by rfl, ?_⟩) (by assumption) ?_
    rotate_left
    · (intro w hSw; (try dsimp only at hSw); go_simp; (try with_reducible rfl))
    (try simp only [Act.put, List.setIfInBounds_toArray, List.set_cons_zero, List.set_cons_succ])
    refine wpAnyH_take_at (i := 5) (v := ?_) (some 89) rfl rfl (by kernel_rfl) (by kernel_rfl) (by kernel_rfl) (fun _ _ _ h => h) (Or.inl ⟨by rfl, ?_⟩) (by assumption) ?_
    rotate_left
    · (intro w hSw; (try dsimp only at hSw); go_simp; (try with_reducible rfl))
    (try simp only [Act.put, List.setIfInBounds_toArray, List.set_cons_zero, List.set_cons_succ])
    refine wpAnyH_done (by kernel_rfl) ?_ _
    unfold QPre
    simp only [List.drop_succ_cons, List.drop_zero]
    clear hHeld y0 b0 b1 b2 b3 b4 b5 b6
    go_wp2
    go_ret
    refine ⟨rfl, _, ?_, HN9.out, ?_⟩
    · rw [HPP.out, HCT.out, ← Nat.add_assoc]
      have hf := HFIN.out.below ((Below.refl _ _).drew)
      rw [HP3.out, HP2.out, HP1.out, set_mid] at hf
      unfold seven at hf
      exact hf
    · have hb := HFB.out.drew
      unfold seven at hb
      exact hb
theorem lay_any (x : Tm) : LayC x := by
  induction x using Tm.ind with
  | one x h => exact lay_none x h
  | two x par a b h ha hb => exact lay_two x par a b h ha hb
end Go.Proofs.Ytbpooepbnnbipaa
