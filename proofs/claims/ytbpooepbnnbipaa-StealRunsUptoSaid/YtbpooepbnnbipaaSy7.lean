/- The walk of the yard's lay. -/
import Derived.Test.YtbpooepbnnbipaaSy6
import Derived.Test.YtbpooepbnnbipaaAppStep
import Derived.Test.YtbpooepbnnbipaaRegPre
import Derived.BigQuiet
import Derived.BigRegion
namespace Go.Proofs.Ytbpooepbnnbipaa
open Go.RowKit
set_option linter.unusedVariables false
/-- what a call of lay owes -/
def LayC (x : Tm) : Prop := ∀ (base : Nat) (w : World) (y : Nat) (v : Value) (P : List (PtP × Bool)) (lv : Nat) (c2 c3 c4 : Value) (S : Blocks) (V : Value) (up : Int) (onR : Bool), Ly base w y v P lv c2 c3 c4 → Sub S (Upto base) → RdT w S x V → P.length + (nodesT x).length ≤ 1099511627776 → lv + x.count ≤ 1099511627776 →
  Calls Try.prog 15 #[.pointer (some ⟨y, 0, none⟩), V, .int .i64 up, .bool onR] w fun e w' => e = .returned (.int .i64 (P.length : Int)) ∧ ∃ v', Ly base w' y v' (P ++ (layP x P.length up onR lv).map (·, false)) (lv + x.count) c2 c3 c4 ∧ LyN v v' w.heap.size ∧ But (LyT y v) w w'
set_option maxHeartbeats 2000000 in
set_option maxRecDepth 100000 in
theorem lay_none (x : Tm) (hx : x.two = none) : LayC x := by
  intro base w y v P lv c2 c3 c4 S V up onR h hS r hn hlv
  obtain ⟨kk, c, wr, lb, kids, vk, rfl, rfl, hk, hc, hlb, hkids⟩ := r
  have HP := Lib.hid (layP_none hx P.length up onR lv)
  have HCT := Lib.hid (Tm.count_none hx)
  have HX2 := Lib.hid hx
  have HTN := Lib.hid (show (kk ≠ 2 ∧ kk ≠ 3) ∨ kids.length < 2 from Tm.two_none hx)
  rw [nodesT_none hx] at hn
  obtain ⟨A, cap, rfl, hcl, hcm, _⟩ := hkids.form
  obtain ⟨Av, cv, hv⟩ := h.own.form
  subst hv
  have bel : Below w.heap.size w (w.alloc (.cells [.int .i64 kk, .int .i64 c, .bool wr, .int .i64 lb, .slice A kids.length cap].toArray 26)) := (Below.refl _ _).alloc (Nat.le_refl _) _
  have FH := Lib.hid (h.below bel)
  have BW := Lib.hid (show But (LyT y (.slice Av P.length cv)) w (w.alloc (.cells [.int .i64 kk, .int .i64 c, .bool wr, .int .i64 lb, .slice A kids.length cap].toArray 26)) from But.of_below bel)
  have BX := Blk.made w [.int .i64 kk, .int .i64 c, .bool wr, .int .i64 lb, .slice A kids.length cap] 26 (base := 0) (Nat.zero_le _)
  have HSZ := Lib.hid (show w.heap.size ≤ ((w.alloc (.cells [.int .i64 kk, .int .i64 c, .bool wr, .int .i64 lb, .slice A kids.length cap].toArray 26))).heap.size from bel.size)
  have hyw := h.hd.lt
  have HXN := Lib.hid (fun b (e : (Value.slice Av P.length cv).ownBlock = some b) => (h.own.lt b e).2)
  unfold maxLen at hcm
  unfold tmV
  generalize kids.length = n' at *
  have hn1 : P.length + 1 ≤ 1099511627776 := by simpa using hn
  clear h bel hkids hk hlb hx hn
  obtain ⟨i0, hi, hz0, hz1, hz2⟩ := info_parts infoPt
  go_enter Try.func15, Try.ntmps15
  go_upto_region 1 with (fail)
  obtain ⟨X, hX⟩ : ∃ X, X = w.heap.size := ⟨_, rfl⟩
  change Code.wp _ _ _ _ (w.alloc (.cells [.int .i64 kk, .int .i64 c, .bool wr, .int .i64 lb, .slice A n' cap].toArray 26))
  rw [← hX] at BX ⊢
  have HX := Lib.hid hX
  clear hX
  generalize (w.alloc (.cells [.int .i64 kk, .int .i64 c, .bool wr, .int .i64 lb, .slice A n' cap].toArray 26)) = W at *
  have d0 := FH.out.hd.cell 0 _ rfl
  have f0 := FH.out.hd.fr 0
  have hyW := FH.out.hd.lt
  have ny := FH.out.ne
  go_wp2_with (at_builtin; refine wpList_append_one rfl _ _ 53 rfl i0 _ Try.underlying53 hi hz0 hz1 hz2 rfl (by decide) Flat.keeps FH.out.own (x := ((⟨0, -1, 0, 0, up, onR⟩ : PtP), false)) (cs := [.int .i64 0, .int .i64 (-1), .int .i64 0, .int .i64 0, .int .i64 up, .bool onR, .bool false]) (Tx := Nowhere) ?d0 rfl rfl rfl (Sub.nowhere _) (Sub.nowhere _) not_nowhere ?d1 ?d2 ?d3 ?d4 ?_)
  case d0 => exact ⟨rfl, trivial⟩
  case d1 => intro u hu; simp at hu; rcases hu with rfl | rfl | rfl | rfl | rfl | rfl | rfl <;> simp [Value.oneCell']
  case d2 => unfold maxLen; omega
  case d3 => omega
  try (case d4 => exact Nat.le_trans FH.out.hd.ge (Nat.le_of_lt hyW))
  intro v2 w2 ho2 hg2 hd2
  obtain ⟨g, k2, hv2, _⟩ := ho2.rowAt (by simp)
  generalize hl2 : (P ++ [((⟨0, -1, 0, 0, up, onR⟩ : PtP), false)]).length = n2 at hv2
  have HL2 : Hid (n2 = P.length + 1) := Lib.hid (by rw [← hl2]; simp)
  clear hl2
  subst hv2
  have e0 := grown_cell hg2 d0 ny
  have f2 := grown_frozen hg2 f0 hyW ny
  have HG := Lib.hid (FH.out.grown (Below.refl _ _) hg2 ho2 (hd2.imp id (fun e => ⟨_, e, Nat.le_succ _⟩)))
  clear d0 f0 hyW ny ho2 hg2 hd2 hi hz0 hz1 hz2
  go_upto_region 3 with (fail)
  generalize w2.setCell ⟨y, 0, none⟩ (.slice (some ⟨g, 0, none⟩) n2 k2) = W3 at *
  clear e0 f2
  go_upto_region 4 with (fail)
  have be4 : Below W3.heap.size W3 (W3.alloc (.cells [.int .i64 0, .int .i64 (-1), .int .i64 0, .int .i64 0, .int .i64 up, .bool onR, .bool false].toArray 100)) := (Below.refl _ _).alloc (Nat.le_refl _) _
  have BP := Blk.made W3 [.int .i64 0, .int .i64 (-1), .int .i64 0, .int .i64 0, .int .i64 up, .bool onR, .bool false] 100 (base := W3.heap.size) (Nat.le_refl _)
  obtain ⟨hL3, hN3, hB3⟩ := HG.out
  have HL4 := Lib.hid (hL3.below be4)
  have hBw : But (LyT y (.slice Av P.length cv)) w W3 := BW.out.trans hB3
  have HB4 := Lib.hid (hBw.trans (But.of_below be4))
  have HN4 : Hid (LyN (.slice Av P.length cv) (.slice (some ⟨g, 0, none⟩) n2 k2) w.heap.size) := Lib.hid (fun g h => (hN3 g h).imp id (fun h => Nat.le_trans HSZ.out h))
  have hxy : ¬ LyT y (.slice Av P.length cv) X := fun h => by
    rcases h with e | e
    · have := HX.out; omega
    · have := HXN.out X e; have := HX.out; omega
  have BX4 := (BX.but hB3 hxy).below be4
  have hbw4 : w.heap.size ≤ W3.heap.size := hBw.size
  have hpX : X < W3.heap.size := (BX.but hB3 hxy).lt
  have hyp : y ≠ W3.heap.size := fun e => by have := hL3.hd.lt; omega
  have hgp : g ≠ W3.heap.size := fun e => by have := (hL3.row (by simp)).lt; omega
  have HGO : Hid (LyT y (.slice Av P.length cv) g ∨ w.heap.size ≤ g) := Lib.hid ((HN4.out g rfl).imp .inr id)
  change Code.wp _ _ _ _ (W3.alloc (.cells [.int .i64 0, .int .i64 (-1), .int .i64 0, .int .i64 0, .int .i64 up, .bool onR, .bool false].toArray 100))
  obtain ⟨bp, hbp⟩ : ∃ bp, bp = W3.heap.size := ⟨_, rfl⟩
  rw [← hbp] at BP hpX hyp hgp hbw4 ⊢
  clear be4 BX HG hL3 hN3 hB3 hBw hxy hbp FH BW
  generalize (W3.alloc (.cells [.int .i64 0, .int .i64 (-1), .int .i64 0, .int .i64 0, .int .i64 up, .bool onR, .bool false].toArray 100)) = W4 at *
  have x0 := BX4.cell 0 _ rfl
  have x4 := BX4.cell 4 _ rfl
  by_cases h1 : kk = 1
  · subst h1
    have HPP : Hid ((layP (.mk 1 c wr lb kids) P.length up onR lv).map (·, false) = [((⟨1, (lv : Int), 0, 0, up, onR⟩ : PtP), false)]) := Lib.hid (by rw [HP.out]; unfold onePart; rw [HX2.out]; simp [Tm.kind])
    have HC : Hid ((Tm.mk 1 c wr lb kids).count = 1) := Lib.hid (by rw [HCT.out]; simp [Tm.kind])
    have y1 := HL4.out.hd.cell 1 _ rfl
    have fy1 := HL4.out.hd.fr 1
    have b0 := BP.cell 0 _ rfl
    have fb0 := BP.fr 0
    have b1 := BP.cell 1 _ rfl
    have fb1 := BP.fr 1
    go_wp2_with fail
    refine wp_region_pre 8 (S := (fun wx => wx.cell? ⟨X, 0, none⟩ = some (.int .i64 1) ∧ wx.cell? ⟨y, 1, none⟩ = some (.int .i64 (lv : Int)))) (by kernel_rfl) (by kernel_rfl) ⟨x0, y1⟩ (fun hHeld => ?_)
    simp only [List.take_succ_cons, List.take_zero]
    refine wpAnyH_take_at (i := 0) (v := ?_) (some 35) rfl rfl (by kernel_rfl) (by kernel_rfl) (by kernel_rfl) (fun _ _ _ h => h) (Or.inl ⟨by rfl, ?_⟩) (by assumption) ?_
    rotate_left
    · (intro w hSw; (try dsimp only at hSw); go_simp; (try with_reducible rfl))
    (try simp only [Act.put, List.setIfInBounds_toArray, List.set_cons_zero, List.set_cons_succ])
    refine wpAnyH_take_at (i := 1) (v := ?_) (some 36) rfl rfl (by kernel_rfl) (by kernel_rfl) (by kernel_rfl) (fun _ _ _ h => h) (Or.inl ⟨by rfl, ?_⟩) (by assumption) ?_
    rotate_left
    · (intro w hSw; (try dsimp only at hSw); go_simp; (try with_reducible rfl))
    (try simp only [Act.put, List.setIfInBounds_toArray, List.set_cons_zero, List.set_cons_succ])
    refine wpAnyH_take_at (i := 2) (v := ?_) (some 37) rfl rfl (by kernel_rfl) (by kernel_rfl) (by kernel_rfl) (fun _ _ _ h => h) (Or.inl ⟨by rfl, ?_⟩) (by assumption) ?_
    rotate_left
    · (intro w hSw; (try dsimp only at hSw); go_simp; (try with_reducible rfl))
    (try simp only [Act.put, List.setIfInBounds_toArray, List.set_cons_zero, List.set_cons_succ])
    refine wpAnyH_take_at (i := 3) (v := ?_) (some 38) rfl rfl (by kernel_rfl) (by kernel_rfl) (by kernel_rfl) (fun _ _ _ h => h) (Or.inl ⟨by rfl, ?_⟩) (by assumption) ?_
    rotate_left
    · (intro w hSw; (try dsimp only at hSw); go_simp; (try with_reducible rfl))
    (try simp only [Act.put, List.setIfInBounds_toArray, List.set_cons_zero, List.set_cons_succ])
    refine wpAnyH_take_at (i := 4) (v := ?_) (some 39) rfl rfl (by kernel_rfl) (by kernel_rfl) (by kernel_rfl) (fun _ _ _ h => h) (Or.inl ⟨by rfl, ?_⟩) (by assumption) ?_
    rotate_left
    · (intro w hSw; (try dsimp only at hSw); go_simp; (try with_reducible rfl))
    (try simp only [Act.put, List.setIfInBounds_toArray, List.set_cons_zero, List.set_cons_succ])
    refine wpAnyH_take_at (i := 5) (v := ?_) (some 40) rfl rfl (by kernel_rfl) (by kernel_rfl) (by kernel_rfl) (fun _ _ _ h => h) (Or.inl ⟨by rfl, ?_⟩) (by assumption) ?_
    rotate_left
    · (intro w hSw; (try dsimp only at hSw); go_simp; (try with_reducible rfl))
    (try simp only [Act.put, List.setIfInBounds_toArray, List.set_cons_zero, List.set_cons_succ])
    refine wpAnyH_take_at (i := 6) (v := ?_) (some 41) rfl rfl (by kernel_rfl) (by kernel_rfl) (by kernel_rfl) (fun _ _ _ h => h) (Or.inl ⟨by rfl, ?_⟩) (by assumption) ?_
    rotate_left
    · (intro w hSw; (try dsimp only at hSw); go_simp; (try with_reducible rfl))
    (try simp only [Act.put, List.setIfInBounds_toArray, List.set_cons_zero, List.set_cons_succ])
    refine wpAnyH_ready (rs := [7]) (by kernel_rfl) (by simp) ?_
    refine AllReadyH.cons rfl (fun K hK => ?_) AllReadyH.nil
    go_simp
    skip
    refine hK.out _ _ ?_ (fun hHeld => ?_)
    · exact ⟨(World.cell?_setCell_other _ _ _ _ (fun h => by injection h with h; omega)).trans x0, (World.cell?_setCell_other _ _ _ _ (fun h => by injection h with h; exact hyp h.symm)).trans y1⟩
    clear hK K
    (try simp only [Act.put, List.setIfInBounds_toArray, List.set_cons_zero, List.set_cons_succ])
    refine wpAnyH_done (by kernel_rfl) ?_ _
    unfold QPre
    simp only [List.drop_succ_cons, List.drop_zero]
    clear hHeld
    go_wp2_with fail
    have hbb : But (Is bp) W4 ((W4.setCell ⟨bp, 0, none⟩ (.int .i64 1)).setCell ⟨bp, 1, none⟩ (.int .i64 (lv : Int))) := ((But.refl (Is bp) W4).setCell (p := ⟨bp, 0, none⟩) rfl (.int .i64 1)).setCell (p := ⟨bp, 1, none⟩) rfl (.int .i64 (lv : Int))
    have hL : Ly base ((W4.setCell ⟨bp, 0, none⟩ (.int .i64 1)).setCell ⟨bp, 1, none⟩ (.int .i64 (lv : Int))) y (.slice (some ⟨g, 0, none⟩) n2 k2) (P ++ [((⟨0, -1, 0, 0, up, onR⟩ : PtP), false)]) lv c2 c3 c4 := HL4.out.but hbb (fun b hb e => by
      have e : b = bp := e
      subst e
      rcases hb with e2 | e2
      · exact hyp e2.symm
      · injection e2 with e2; exact hgp e2)
    have HL5 := Lib.hid (hL.leaf.below (Below.refl _ _).drew)
    have HB5 := Lib.hid ((((HB4.out.setNew (p := ⟨bp, 0, none⟩) (.inr hbw4) (.int .i64 1)).setNew (p := ⟨bp, 1, none⟩) (.inr hbw4) (.int .i64 (lv : Int))).setCell (p := ⟨y, 1, none⟩) (.inl rfl) (.int .i64 ((lv : Int) + 1))).drew)
    have BP5 : Blk bp (((((W4.setCell ⟨bp, 0, none⟩ (.int .i64 1)).setCell ⟨bp, 1, none⟩ (.int .i64 (lv : Int)))).setCell ⟨y, 1, none⟩ (.int .i64 ((lv : Int) + 1))).drew) bp [.int .i64 1, .int .i64 (lv : Int), .int .i64 0, .int .i64 0, .int .i64 up, .bool onR, .bool false] := (((BP.set (i := 0) (by simp) (.int .i64 1)).set (i := 1) (by simp) (.int .i64 (lv : Int))).other (p := ⟨y, 1, none⟩) hyp _).drew
    generalize ((((W4.setCell ⟨bp, 0, none⟩ (.int .i64 1)).setCell ⟨bp, 1, none⟩ (.int .i64 (lv : Int)))).setCell ⟨y, 1, none⟩ (.int .i64 ((lv : Int) + 1))).drew = W5 at *
    clear hbb hL BP HL4 HB4 b0 fb0 b1 fb1 y1 fy1 x0 x4
    have RA5 := HL5.out.row (by simp)
    have y0 := HL5.out.hd.cell 0 _ rfl
    have hPl : (P ++ [((⟨0, -1, 0, 0, up, onR⟩ : PtP), false)])[P.length]? = some ((⟨0, -1, 0, 0, up, onR⟩ : PtP), false) := by simp
    have z0 : World.cell? _ ⟨g, P.length * 7, none⟩ = _ := RA5.cell _ _ hPl 0 _ rfl
    have z1 := RA5.cell _ _ hPl 1 _ rfl; have z2 := RA5.cell _ _ hPl 2 _ rfl; have z3 := RA5.cell _ _ hPl 3 _ rfl; have z4 := RA5.cell _ _ hPl 4 _ rfl; have z5 := RA5.cell _ _ hPl 5 _ rfl; have z6 := RA5.cell _ _ hPl 6 _ rfl
    have fz := RA5.fr (P.length * 7)
    have fz1 := RA5.fr (P.length * 7 + 1); have fz2 := RA5.fr (P.length * 7 + 2); have fz3 := RA5.fr (P.length * 7 + 3); have fz4 := RA5.fr (P.length * 7 + 4); have fz5 := RA5.fr (P.length * 7 + 5); have fz6 := RA5.fr (P.length * 7 + 6)
    have b0 := BP5.cell 0 _ rfl; have b1 := BP5.cell 1 _ rfl; have b2 := BP5.cell 2 _ rfl; have b3 := BP5.cell 3 _ rfl; have b4 := BP5.cell 4 _ rfl; have b5 := BP5.cell 5 _ rfl; have b6 := BP5.cell 6 _ rfl
    have HFIN := Lib.hid (HL5.out.set7 (q := P.length) (by simp) ((⟨1, (lv : Int), 0, 0, up, onR⟩ : PtP), false))
    have HFB := Lib.hid (HB5.out.set7 (HGO.out) P.length ((⟨1, (lv : Int), 0, 0, up, onR⟩ : PtP), false))
    have hPn : P.length < n2 := by rw [HL2.out]; exact Nat.lt_succ_self _
    clear RA5 hPl BP5
    refine wp_region_pre 6 (S := (fun wx => wx.cell? ⟨y, 0, none⟩ = some (.slice (some ⟨g, 0, none⟩) n2 k2) ∧ wx.cell? ⟨bp, 0, none⟩ = some (.int .i64 1) ∧ wx.cell? ⟨bp, 1, none⟩ = some (.int .i64 (lv : Int)) ∧ wx.cell? ⟨bp, 2, none⟩ = some (.int .i64 0) ∧ wx.cell? ⟨bp, 3, none⟩ = some (.int .i64 0) ∧ wx.cell? ⟨bp, 4, none⟩ = some (.int .i64 up) ∧ wx.cell? ⟨bp, 5, none⟩ = some (.bool onR) ∧ wx.cell? ⟨bp, 6, none⟩ = some (.bool false))) (by kernel_rfl) (by kernel_rfl) ⟨y0, b0, b1, b2, b3, b4, b5, b6⟩ (fun hHeld => ?_)
    simp only [List.take_succ_cons, List.take_zero]
    refine wpAnyH_take_at (i := 0) (v := ?_) (some 84) rfl rfl (by kernel_rfl) (by kernel_rfl) (by kernel_rfl) (fun _ _ _ h => h) (Or.inl ⟨by rfl, ?_⟩) (by assumption) ?_
    rotate_left
    · (intro w hSw; (try dsimp only at hSw); go_simp; (try with_reducible rfl))
    (try simp only [Act.put, List.setIfInBounds_toArray, List.set_cons_zero, List.set_cons_succ])
    refine wpAnyH_take_at (i := 1) (v := ?_) (some 85) rfl rfl (by kernel_rfl) (by kernel_rfl) (by kernel_rfl) (fun _ _ _ h => h) (Or.inl ⟨by rfl, ?_⟩) (by assumption) ?_
    rotate_left
    · (intro w hSw; (try dsimp only at hSw); go_simp; (try with_reducible rfl))
    (try simp only [Act.put, List.setIfInBounds_toArray, List.set_cons_zero, List.set_cons_succ])
    refine wpAnyH_take_at (i := 2) (v := ?_) (some 86) rfl rfl (by kernel_rfl) (by kernel_rfl) (by kernel_rfl) (fun _ _ _ h => h) (Or.inl ⟨by rfl, ?_⟩) (by assumption) ?_
    rotate_left
    · (intro w hSw; (try dsimp only at hSw); go_simp; (try with_reducible rfl))
    (try simp only [Act.put, List.setIfInBounds_toArray, List.set_cons_zero, List.set_cons_succ])
    refine wpAnyH_take_at (i := 3) (v := ?_) (some 87) rfl rfl (by kernel_rfl) (by kernel_rfl) (by kernel_rfl) (fun _ _ _ h => h) (Or.inl ⟨by rfl, ?_⟩) (by assumption) ?_
    rotate_left
    · (intro w hSw; (try dsimp only at hSw); go_simp; (try with_reducible rfl))
    (try simp only [Act.put, List.setIfInBounds_toArray, List.set_cons_zero, List.set_cons_succ])
    refine wpAnyH_take_at (i := 4) (v := ?_) (some 88) rfl rfl (by kernel_rfl) (by kernel_rfl) (by kernel_rfl) (fun _ _ _ h => h) (Or.inl ⟨by rfl, ?_⟩) (by assumption) ?_
    rotate_left
    · (intro w hSw; (try dsimp only at hSw); go_simp; (try with_reducible rfl))
    (try simp only [Act.put, List.setIfInBounds_toArray, List.set_cons_zero, List.set_cons_succ])
    refine wpAnyH_take_at (i := 5) (v := ?_) (some 89) rfl rfl (by kernel_rfl) (by kernel_rfl) (by kernel_rfl) (fun _ _ _ h => h) (Or.inl ⟨by rfl, ?_⟩) (by assumption) ?_
    rotate_left
    · (intro w hSw; (try dsimp only at hSw); go_simp; (try with_reducible rfl))
    (try simp only [Act.put, List.setIfInBounds_toArray, List.set_cons_zero, List.set_cons_succ])
    refine wpAnyH_done (by kernel_rfl) ?_ _
    unfold QPre
    simp only [List.drop_succ_cons, List.drop_zero]
    clear hHeld y0 b0 b1 b2 b3 b4 b5 b6
    go_wp2
    go_ret
    refine ⟨rfl, _, ?_, HN4.out, ?_⟩
    · rw [HPP.out, HC.out]
      have hf := HFIN.out.below ((Below.refl _ _).drew)
      rw [set_last] at hf
      unfold seven at hf
      exact hf
    · have hb := HFB.out.drew
      unfold seven at hb
      exact hb
  · have h1b : (kk == 1) = false := by simpa using h1
    have HK1 := Lib.hid h1
    have HPP : Hid ((layP (.mk kk c wr lb kids) P.length up onR lv).map (·, false) = [((⟨0, -1, 0, 0, up, onR⟩ : PtP), false)]) := Lib.hid (by rw [HP.out]; unfold onePart; rw [HX2.out]; simp [Tm.kind, HK1.out])
    have HC : Hid ((Tm.mk kk c wr lb kids).count = 0) := Lib.hid (by rw [HCT.out]; simp [Tm.kind, HK1.out])
    have HL5 := Lib.hid HL4.out
    have HB5 := Lib.hid HB4.out
    have BP5 := BP
    clear HL4 HB4 BP h1
    rcases HTN.out with ⟨h2, h3⟩ | h2
    · have h2b : (kk == 2) = false := by simpa using h2
      have h3b : (kk == 3) = false := by simpa using h3
      clear h2 h3
      go_wp2_with fail
      have RA5 := HL5.out.row (by simp)
      have y0 := HL5.out.hd.cell 0 _ rfl
      have hPl : (P ++ [((⟨0, -1, 0, 0, up, onR⟩ : PtP), false)])[P.length]? = some ((⟨0, -1, 0, 0, up, onR⟩ : PtP), false) := by simp
      have z0 : World.cell? _ ⟨g, P.length * 7, none⟩ = _ := RA5.cell _ _ hPl 0 _ rfl
      have z1 := RA5.cell _ _ hPl 1 _ rfl; have z2 := RA5.cell _ _ hPl 2 _ rfl; have z3 := RA5.cell _ _ hPl 3 _ rfl; have z4 := RA5.cell _ _ hPl 4 _ rfl; have z5 := RA5.cell _ _ hPl 5 _ rfl; have z6 := RA5.cell _ _ hPl 6 _ rfl
      have fz := RA5.fr (P.length * 7)
      have fz1 := RA5.fr (P.length * 7 + 1); have fz2 := RA5.fr (P.length * 7 + 2); have fz3 := RA5.fr (P.length * 7 + 3); have fz4 := RA5.fr (P.length * 7 + 4); have fz5 := RA5.fr (P.length * 7 + 5); have fz6 := RA5.fr (P.length * 7 + 6)
      have b0 := BP5.cell 0 _ rfl; have b1 := BP5.cell 1 _ rfl; have b2 := BP5.cell 2 _ rfl; have b3 := BP5.cell 3 _ rfl; have b4 := BP5.cell 4 _ rfl; have b5 := BP5.cell 5 _ rfl; have b6 := BP5.cell 6 _ rfl
      have HFIN := Lib.hid (HL5.out.set7 (q := P.length) (by simp) ((⟨0, (-1), 0, 0, up, onR⟩ : PtP), false))
      have HFB := Lib.hid (HB5.out.set7 (HGO.out) P.length ((⟨0, (-1), 0, 0, up, onR⟩ : PtP), false))
      have hPn : P.length < n2 := by rw [HL2.out]; exact Nat.lt_succ_self _
      clear RA5 hPl BP5
      refine wp_region_pre 6 (S := (fun wx => wx.cell? ⟨y, 0, none⟩ = some (.slice (some ⟨g, 0, none⟩) n2 k2) ∧ wx.cell? ⟨bp, 0, none⟩ = some (.int .i64 0) ∧ wx.cell? ⟨bp, 1, none⟩ = some (.int .i64 (-1)) ∧ wx.cell? ⟨bp, 2, none⟩ = some (.int .i64 0) ∧ wx.cell? ⟨bp, 3, none⟩ = some (.int .i64 0) ∧ wx.cell? ⟨bp, 4, none⟩ = some (.int .i64 up) ∧ wx.cell? ⟨bp, 5, none⟩ = some (.bool onR) ∧ wx.cell? ⟨bp, 6, none⟩ = some (.bool false))) (by kernel_rfl) (by kernel_rfl) ⟨y0, b0, b1, b2, b3, b4, b5, b6⟩ (fun hHeld => ?_)
      simp only [List.take_succ_cons, List.take_zero]
      refine wpAnyH_take_at (i := 0) (v := ?_) (some 84) rfl rfl (by kernel_rfl) (by kernel_rfl) (by kernel_rfl) (fun _ _ _ h => h) (Or.inl ⟨by rfl, ?_⟩) (by assumption) ?_
      rotate_left
      · (intro w hSw; (try dsimp only at hSw); go_simp; (try with_reducible rfl))
      (try simp only [Act.put, List.setIfInBounds_toArray, List.set_cons_zero, List.set_cons_succ])
      refine wpAnyH_take_at (i := 1) (v := ?_) (some 85) rfl rfl (by kernel_rfl) (by kernel_rfl) (by kernel_rfl) (fun _ _ _ h => h) (Or.inl ⟨by rfl, ?_⟩) (by assumption) ?_
      rotate_left
      · (intro w hSw; (try dsimp only at hSw); go_simp; (try with_reducible rfl))
      (try simp only [Act.put, List.setIfInBounds_toArray, List.set_cons_zero, List.set_cons_succ])
      refine wpAnyH_take_at (i := 2) (v := ?_) (some 86) rfl rfl (by kernel_rfl) (by kernel_rfl) (by kernel_rfl) (fun _ _ _ h => h) (Or.inl ⟨by rfl, ?_⟩) (by assumption) ?_
      rotate_left
      · (intro w hSw; (try dsimp only at hSw); go_simp; (try with_reducible rfl))
      (try simp only [Act.put, List.setIfInBounds_toArray, List.set_cons_zero, List.set_cons_succ])
      refine wpAnyH_take_at (i := 3) (v := ?_) (some 87) rfl rfl (by kernel_rfl) (by kernel_rfl) (by kernel_rfl) (fun _ _ _ h => h) (Or.inl ⟨by rfl, ?_⟩) (by assumption) ?_
      rotate_left
      · (intro w hSw; (try dsimp only at hSw); go_simp; (try with_reducible rfl))
      (try simp only [Act.put, List.setIfInBounds_toArray, List.set_cons_zero, List.set_cons_succ])
      refine wpAnyH_take_at (i := 4) (v := ?_) (some 88) rfl rfl (by kernel_rfl) (by kernel_rfl) (by kernel_rfl) (fun _ _ _ h => h) (Or.inl ⟨by rfl, ?_⟩) (by assumption) ?_
      rotate_left
      · (intro w hSw; (try dsimp only at hSw); go_simp; (try with_reducible rfl))
      (try simp only [Act.put, List.setIfInBounds_toArray, List.set_cons_zero, List.set_cons_succ])
      refine wpAnyH_take_at (i := 5) (v := ?_) (some 89) rfl rfl (by kernel_rfl) (by kernel_rfl) (by kernel_rfl) (fun _ _ _ h => h) (Or.inl ⟨by rfl, ?_⟩) (by assumption) ?_
      rotate_left
      · (intro w hSw; (try dsimp only at hSw); go_simp; (try with_reducible rfl))
      (try simp only [Act.put, List.setIfInBounds_toArray, List.set_cons_zero, List.set_cons_succ])
      refine wpAnyH_done (by kernel_rfl) ?_ _
      unfold QPre
      simp only [List.drop_succ_cons, List.drop_zero]
      clear hHeld y0 b0 b1 b2 b3 b4 b5 b6
      go_wp2
      go_ret
      refine ⟨rfl, _, ?_, HN4.out, ?_⟩
      · rw [HPP.out, HC.out]
        have hf := HFIN.out.below ((Below.refl _ _).drew)
        rw [set_last] at hf
        unfold seven at hf
        exact hf
      · have hb := HFB.out.drew
        unfold seven at hb
        exact hb
    · have h2i : (n' : Int) < 2 := by omega
      by_cases e2 : kk = 2
      · subst e2
        go_wp2_with fail
        have RA5 := HL5.out.row (by simp)
        have y0 := HL5.out.hd.cell 0 _ rfl
        have hPl : (P ++ [((⟨0, -1, 0, 0, up, onR⟩ : PtP), false)])[P.length]? = some ((⟨0, -1, 0, 0, up, onR⟩ : PtP), false) := by simp
        have z0 : World.cell? _ ⟨g, P.length * 7, none⟩ = _ := RA5.cell _ _ hPl 0 _ rfl
        have z1 := RA5.cell _ _ hPl 1 _ rfl; have z2 := RA5.cell _ _ hPl 2 _ rfl; have z3 := RA5.cell _ _ hPl 3 _ rfl; have z4 := RA5.cell _ _ hPl 4 _ rfl; have z5 := RA5.cell _ _ hPl 5 _ rfl; have z6 := RA5.cell _ _ hPl 6 _ rfl
        have fz := RA5.fr (P.length * 7)
        have fz1 := RA5.fr (P.length * 7 + 1); have fz2 := RA5.fr (P.length * 7 + 2); have fz3 := RA5.fr (P.length * 7 + 3); have fz4 := RA5.fr (P.length * 7 + 4); have fz5 := RA5.fr (P.length * 7 + 5); have fz6 := RA5.fr (P.length * 7 + 6)
        have b0 := BP5.cell 0 _ rfl; have b1 := BP5.cell 1 _ rfl; have b2 := BP5.cell 2 _ rfl; have b3 := BP5.cell 3 _ rfl; have b4 := BP5.cell 4 _ rfl; have b5 := BP5.cell 5 _ rfl; have b6 := BP5.cell 6 _ rfl
        have HFIN := Lib.hid (HL5.out.set7 (q := P.length) (by simp) ((⟨0, (-1), 0, 0, up, onR⟩ : PtP), false))
        have HFB := Lib.hid (HB5.out.set7 (HGO.out) P.length ((⟨0, (-1), 0, 0, up, onR⟩ : PtP), false))
        have hPn : P.length < n2 := by rw [HL2.out]; exact Nat.lt_succ_self _
        clear RA5 hPl BP5
        refine wp_region_pre 6 (S := (fun wx => wx.cell? ⟨y, 0, none⟩ = some (.slice (some ⟨g, 0, none⟩) n2 k2) ∧ wx.cell? ⟨bp, 0, none⟩ = some (.int .i64 0) ∧ wx.cell? ⟨bp, 1, none⟩ = some (.int .i64 (-1)) ∧ wx.cell? ⟨bp, 2, none⟩ = some (.int .i64 0) ∧ wx.cell? ⟨bp, 3, none⟩ = some (.int .i64 0) ∧ wx.cell? ⟨bp, 4, none⟩ = some (.int .i64 up) ∧ wx.cell? ⟨bp, 5, none⟩ = some (.bool onR) ∧ wx.cell? ⟨bp, 6, none⟩ = some (.bool false))) (by kernel_rfl) (by kernel_rfl) ⟨y0, b0, b1, b2, b3, b4, b5, b6⟩ (fun hHeld => ?_)
        simp only [List.take_succ_cons, List.take_zero]
        refine wpAnyH_take_at (i := 0) (v := ?_) (some 84) rfl rfl (by kernel_rfl) (by kernel_rfl) (by kernel_rfl) (fun _ _ _ h => h) (Or.inl ⟨by rfl, ?_⟩) (by assumption) ?_
        rotate_left
        · (intro w hSw; (try dsimp only at hSw); go_simp; (try with_reducible rfl))
        (try simp only [Act.put, List.setIfInBounds_toArray, List.set_cons_zero, List.set_cons_succ])
        refine wpAnyH_take_at (i := 1) (v := ?_) (some 85) rfl rfl (by kernel_rfl) (by kernel_rfl) (by kernel_rfl) (fun _ _ _ h => h) (Or.inl ⟨by rfl, ?_⟩) (by assumption) ?_
        rotate_left
        · (intro w hSw; (try dsimp only at hSw); go_simp; (try with_reducible rfl))
        (try simp only [Act.put, List.setIfInBounds_toArray, List.set_cons_zero, List.set_cons_succ])
        refine wpAnyH_take_at (i := 2) (v := ?_) (some 86) rfl rfl (by kernel_rfl) (by kernel_rfl) (by kernel_rfl) (fun _ _ _ h => h) (Or.inl ⟨by rfl, ?_⟩) (by assumption) ?_
        rotate_left
        · (intro w hSw; (try dsimp only at hSw); go_simp; (try with_reducible rfl))
        (try simp only [Act.put, List.setIfInBounds_toArray, List.set_cons_zero, List.set_cons_succ])
        refine wpAnyH_take_at (i := 3) (v := ?_) (some 87) rfl rfl (by kernel_rfl) (by kernel_rfl) (by kernel_rfl) (fun _ _ _ h => h) (Or.inl ⟨by rfl, ?_⟩) (by assumption) ?_
        rotate_left
        · (intro w hSw; (try dsimp only at hSw); go_simp; (try with_reducible rfl))
        (try simp only [Act.put, List.setIfInBounds_toArray, List.set_cons_zero, List.set_cons_succ])
        refine wpAnyH_take_at (i := 4) (v := ?_) (some 88) rfl rfl (by kernel_rfl) (by kernel_rfl) (by kernel_rfl) (fun _ _ _ h => h) (Or.inl ⟨by rfl, ?_⟩) (by assumption) ?_
        rotate_left
        · (intro w hSw; (try dsimp only at hSw); go_simp; (try with_reducible rfl))
        (try simp only [Act.put, List.setIfInBounds_toArray, List.set_cons_zero, List.set_cons_succ])
        refine wpAnyH_take_at (i := 5) (v := ?_) (some 89) rfl rfl (by kernel_rfl) (by kernel_rfl) (by kernel_rfl) (fun _ _ _ h => h) (Or.inl ⟨by rfl, ?_⟩) (by assumption) ?_
        rotate_left
        · (intro w hSw; (try dsimp only at hSw); go_simp; (try with_reducible rfl))
        (try simp only [Act.put, List.setIfInBounds_toArray, List.set_cons_zero, List.set_cons_succ])
        refine wpAnyH_done (by kernel_rfl) ?_ _
        unfold QPre
        simp only [List.drop_succ_cons, List.drop_zero]
        clear hHeld y0 b0 b1 b2 b3 b4 b5 b6
        go_wp2
        go_ret
        refine ⟨rfl, _, ?_, HN4.out, ?_⟩
        · rw [HPP.out, HC.out]
          have hf := HFIN.out.below ((Below.refl _ _).drew)
          rw [set_last] at hf
          unfold seven at hf
          exact hf
        · have hb := HFB.out.drew
          unfold seven at hb
          exact hb
      · have h2b : (kk == 2) = false := by simpa using e2
        by_cases e3 : kk = 3
        · subst e3
          go_wp2_with fail
          have RA5 := HL5.out.row (by simp)
          have y0 := HL5.out.hd.cell 0 _ rfl
          have hPl : (P ++ [((⟨0, -1, 0, 0, up, onR⟩ : PtP), false)])[P.length]? = some ((⟨0, -1, 0, 0, up, onR⟩ : PtP), false) := by simp
          have z0 : World.cell? _ ⟨g, P.length * 7, none⟩ = _ := RA5.cell _ _ hPl 0 _ rfl
          have z1 := RA5.cell _ _ hPl 1 _ rfl; have z2 := RA5.cell _ _ hPl 2 _ rfl; have z3 := RA5.cell _ _ hPl 3 _ rfl; have z4 := RA5.cell _ _ hPl 4 _ rfl; have z5 := RA5.cell _ _ hPl 5 _ rfl; have z6 := RA5.cell _ _ hPl 6 _ rfl
          have fz := RA5.fr (P.length * 7)
          have fz1 := RA5.fr (P.length * 7 + 1); have fz2 := RA5.fr (P.length * 7 + 2); have fz3 := RA5.fr (P.length * 7 + 3); have fz4 := RA5.fr (P.length * 7 + 4); have fz5 := RA5.fr (P.length * 7 + 5); have fz6 := RA5.fr (P.length * 7 + 6)
          have b0 := BP5.cell 0 _ rfl; have b1 := BP5.cell 1 _ rfl; have b2 := BP5.cell 2 _ rfl; have b3 := BP5.cell 3 _ rfl; have b4 := BP5.cell 4 _ rfl; have b5 := BP5.cell 5 _ rfl; have b6 := BP5.cell 6 _ rfl
          have HFIN := Lib.hid (HL5.out.set7 (q := P.length) (by simp) ((⟨0, (-1), 0, 0, up, onR⟩ : PtP), false))
          have HFB := Lib.hid (HB5.out.set7 (HGO.out) P.length ((⟨0, (-1), 0, 0, up, onR⟩ : PtP), false))
          have hPn : P.length < n2 := by rw [HL2.out]; exact Nat.lt_succ_self _
          clear RA5 hPl BP5
          refine wp_region_pre 6 (S := (fun wx => wx.cell? ⟨y, 0, none⟩ = some (.slice (some ⟨g, 0, none⟩) n2 k2) ∧ wx.cell? ⟨bp, 0, none⟩ = some (.int .i64 0) ∧ wx.cell? ⟨bp, 1, none⟩ = some (.int .i64 (-1)) ∧ wx.cell? ⟨bp, 2, none⟩ = some (.int .i64 0) ∧ wx.cell? ⟨bp, 3, none⟩ = some (.int .i64 0) ∧ wx.cell? ⟨bp, 4, none⟩ = some (.int .i64 up) ∧ wx.cell? ⟨bp, 5, none⟩ = some (.bool onR) ∧ wx.cell? ⟨bp, 6, none⟩ = some (.bool false))) (by kernel_rfl) (by kernel_rfl) ⟨y0, b0, b1, b2, b3, b4, b5, b6⟩ (fun hHeld => ?_)
          simp only [List.take_succ_cons, List.take_zero]
          refine wpAnyH_take_at (i := 0) (v := ?_) (some 84) rfl rfl (by kernel_rfl) (by kernel_rfl) (by kernel_rfl) (fun _ _ _ h => h) (Or.inl ⟨by rfl, ?_⟩) (by assumption) ?_
          rotate_left
          · (intro w hSw; (try dsimp only at hSw); go_simp; (try with_reducible rfl))
          (try simp only [Act.put, List.setIfInBounds_toArray, List.set_cons_zero, List.set_cons_succ])
          refine wpAnyH_take_at (i := 1) (v := ?_) (some 85) rfl rfl (by kernel_rfl) (by kernel_rfl) (by kernel_rfl) (fun _ _ _ h => h) (Or.inl ⟨by rfl, ?_⟩) (by assumption) ?_
          rotate_left
          · (intro w hSw; (try dsimp only at hSw); go_simp; (try with_reducible rfl))
          (try simp only [Act.put, List.setIfInBounds_toArray, List.set_cons_zero, List.set_cons_succ])
          refine wpAnyH_take_at (i := 2) (v := ?_) (some 86) rfl rfl (by kernel_rfl) (by kernel_rfl) (by kernel_rfl) (fun _ _ _ h => h) (Or.inl ⟨by rfl, ?_⟩) (by assumption) ?_
          rotate_left
          · (intro w hSw; (try dsimp only at hSw); go_simp; (try with_reducible rfl))
          (try simp only [Act.put, List.setIfInBounds_toArray, List.set_cons_zero, List.set_cons_succ])
          refine wpAnyH_take_at (i := 3) (v := ?_) (some 87) rfl rfl (by kernel_rfl) (by kernel_rfl) (by kernel_rfl) (fun _ _ _ h => h) (Or.inl ⟨by rfl, ?_⟩) (by assumption) ?_
          rotate_left
          · (intro w hSw; (try dsimp only at hSw); go_simp; (try with_reducible rfl))
          (try simp only [Act.put, List.setIfInBounds_toArray, List.set_cons_zero, List.set_cons_succ])
          refine wpAnyH_take_at (i := 4) (v := ?_) (some 88) rfl rfl (by kernel_rfl) (by kernel_rfl) (by kernel_rfl) (fun _ _ _ h => h) (Or.inl ⟨by rfl, ?_⟩) (by assumption) ?_
          rotate_left
          · (intro w hSw; (try dsimp only at hSw); go_simp; (try with_reducible rfl))
          (try simp only [Act.put, List.setIfInBounds_toArray, List.set_cons_zero, List.set_cons_succ])
          refine wpAnyH_take_at (i := 5) (v := ?_) (some 89) rfl rfl (by kernel_rfl) (by kernel_rfl) (by kernel_rfl) (fun _ _ _ h => h) (Or.inl ⟨by rfl, ?_⟩) (by assumption) ?_
          rotate_left
          · (intro w hSw; (try dsimp only at hSw); go_simp; (try with_reducible rfl))
          (try simp only [Act.put, List.setIfInBounds_toArray, List.set_cons_zero, List.set_cons_succ])
          refine wpAnyH_done (by kernel_rfl) ?_ _
          unfold QPre
          simp only [List.drop_succ_cons, List.drop_zero]
          clear hHeld y0 b0 b1 b2 b3 b4 b5 b6
          go_wp2
          go_ret
          refine ⟨rfl, _, ?_, HN4.out, ?_⟩
          · rw [HPP.out, HC.out]
            have hf := HFIN.out.below ((Below.refl _ _).drew)
            rw [set_last] at hf
            unfold seven at hf
            exact hf
          · have hb := HFB.out.drew
            unfold seven at hb
            exact hb
        · have h3b : (kk == 3) = false := by simpa using e3
          clear e2 e3
          go_wp2_with fail
          have RA5 := HL5.out.row (by simp)
          have y0 := HL5.out.hd.cell 0 _ rfl
          have hPl : (P ++ [((⟨0, -1, 0, 0, up, onR⟩ : PtP), false)])[P.length]? = some ((⟨0, -1, 0, 0, up, onR⟩ : PtP), false) := by simp
          have z0 : World.cell? _ ⟨g, P.length * 7, none⟩ = _ := RA5.cell _ _ hPl 0 _ rfl
          have z1 := RA5.cell _ _ hPl 1 _ rfl; have z2 := RA5.cell _ _ hPl 2 _ rfl; have z3 := RA5.cell _ _ hPl 3 _ rfl; have z4 := RA5.cell _ _ hPl 4 _ rfl; have z5 := RA5.cell _ _ hPl 5 _ rfl; have z6 := RA5.cell _ _ hPl 6 _ rfl
          have fz := RA5.fr (P.length * 7)
          have fz1 := RA5.fr (P.length * 7 + 1); have fz2 := RA5.fr (P.length * 7 + 2); have fz3 := RA5.fr (P.length * 7 + 3); have fz4 := RA5.fr (P.length * 7 + 4); have fz5 := RA5.fr (P.length * 7 + 5); have fz6 := RA5.fr (P.length * 7 + 6)
          have b0 := BP5.cell 0 _ rfl; have b1 := BP5.cell 1 _ rfl; have b2 := BP5.cell 2 _ rfl; have b3 := BP5.cell 3 _ rfl; have b4 := BP5.cell 4 _ rfl; have b5 := BP5.cell 5 _ rfl; have b6 := BP5.cell 6 _ rfl
          have HFIN := Lib.hid (HL5.out.set7 (q := P.length) (by simp) ((⟨0, (-1), 0, 0, up, onR⟩ : PtP), false))
          have HFB := Lib.hid (HB5.out.set7 (HGO.out) P.length ((⟨0, (-1), 0, 0, up, onR⟩ : PtP), false))
          have hPn : P.length < n2 := by rw [HL2.out]; exact Nat.lt_succ_self _
          clear RA5 hPl BP5
          refine wp_region_pre 6 (S := (fun wx => wx.cell? ⟨y, 0, none⟩ = some (.slice (some ⟨g, 0, none⟩) n2 k2) ∧ wx.cell? ⟨bp, 0, none⟩ = some (.int .i64 0) ∧ wx.cell? ⟨bp, 1, none⟩ = some (.int .i64 (-1)) ∧ wx.cell? ⟨bp, 2, none⟩ = some (.int .i64 0) ∧ wx.cell? ⟨bp, 3, none⟩ = some (.int .i64 0) ∧ wx.cell? ⟨bp, 4, none⟩ = some (.int .i64 up) ∧ wx.cell? ⟨bp, 5, none⟩ = some (.bool onR) ∧ wx.cell? ⟨bp, 6, none⟩ = some (.bool false))) (by kernel_rfl) (by kernel_rfl) ⟨y0, b0, b1, b2, b3, b4, b5, b6⟩ (fun hHeld => ?_)
          simp only [List.take_succ_cons, List.take_zero]
          refine wpAnyH_take_at (i := 0) (v := ?_) (some 84) rfl rfl (by kernel_rfl) (by kernel_rfl) (by kernel_rfl) (fun _ _ _ h => h) (Or.inl ⟨by rfl, ?_⟩) (by assumption) ?_
          rotate_left
          · (intro w hSw; (try dsimp only at hSw); go_simp; (try with_reducible rfl))
          (try simp only [Act.put, List.setIfInBounds_toArray, List.set_cons_zero, List.set_cons_succ])
          refine wpAnyH_take_at (i := 1) (v := ?_) (some 85) rfl rfl (by kernel_rfl) (by kernel_rfl) (by kernel_rfl) (fun _ _ _ h => h) (Or.inl ⟨by rfl, ?_⟩) (by assumption) ?_
          rotate_left
          · (intro w hSw; (try dsimp only at hSw); go_simp; (try with_reducible rfl))
          (try simp only [Act.put, List.setIfInBounds_toArray, List.set_cons_zero, List.set_cons_succ])
          refine wpAnyH_take_at (i := 2) (v := ?_) (some 86) rfl rfl (by kernel_rfl) (by kernel_rfl) (by kernel_rfl) (fun _ _ _ h => h) (Or.inl ⟨by rfl, ?_⟩) (by assumption) ?_
          rotate_left
          · (intro w hSw; (try dsimp only at hSw); go_simp; (try with_reducible rfl))
          (try simp only [Act.put, List.setIfInBounds_toArray, List.set_cons_zero, List.set_cons_succ])
          refine wpAnyH_take_at (i := 3) (v := ?_) (some 87) rfl rfl (by kernel_rfl) (by kernel_rfl) (by kernel_rfl) (fun _ _ _ h => h) (Or.inl ⟨by rfl, ?_⟩) (by assumption) ?_
          rotate_left
          · (intro w hSw; (try dsimp only at hSw); go_simp; (try with_reducible rfl))
          (try simp only [Act.put, List.setIfInBounds_toArray, List.set_cons_zero, List.set_cons_succ])
          refine wpAnyH_take_at (i := 4) (v := ?_) (some 88) rfl rfl (by kernel_rfl) (by kernel_rfl) (by kernel_rfl) (fun _ _ _ h => h) (Or.inl ⟨by rfl, ?_⟩) (by assumption) ?_
          rotate_left
          · (intro w hSw; (try dsimp only at hSw); go_simp; (try with_reducible rfl))
          (try simp only [Act.put, List.setIfInBounds_toArray, List.set_cons_zero, List.set_cons_succ])
          refine wpAnyH_take_at (i := 5) (v := ?_) (some 89) rfl rfl (by kernel_rfl) (by kernel_rfl) (by kernel_rfl) (fun _ _ _ h => h) (Or.inl ⟨by rfl, ?_⟩) (by assumption) ?_
          rotate_left
          · (intro w hSw; (try dsimp only at hSw); go_simp; (try with_reducible rfl))
          (try simp only [Act.put, List.setIfInBounds_toArray, List.set_cons_zero, List.set_cons_succ])
          refine wpAnyH_done (by kernel_rfl) ?_ _
          unfold QPre
          simp only [List.drop_succ_cons, List.drop_zero]
          clear hHeld y0 b0 b1 b2 b3 b4 b5 b6
          go_wp2
          go_ret
          refine ⟨rfl, _, ?_, HN4.out, ?_⟩
          · rw [HPP.out, HC.out]
            have hf := HFIN.out.below ((Below.refl _ _).drew)
            rw [set_last] at hf
            unfold seven at hf
            exact hf
          · have hb := HFB.out.drew
            unfold seven at hb
            exact hb
end Go.Proofs.Ytbpooepbnnbipaa
