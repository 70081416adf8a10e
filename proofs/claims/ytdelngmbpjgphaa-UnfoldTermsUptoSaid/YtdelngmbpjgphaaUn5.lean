/- The walk of the reference's nterm at what is waited for; nterm at all marks. -/
import Derived.Test.YtdelngmbpjgphaaUn4
namespace Go.Proofs.Ytdelngmbpjgphaa
open Go.RowKit
set_option linter.unusedVariables false
set_option maxHeartbeats 4000000 in
theorem nt_fin (l1 r : List Mk) (ihl : PNt l1) (ihr : PNt r) : PNt (.fin l1 :: r) := by
  intro rest w S X v hX hend hS hr
  rw [flatL_cons, flat_fin, List.cons_append, List.cons_append, List.append_assoc, List.append_assoc, List.singleton_append] at hr
  rw [weave_cons, weave_fin]
  obtain ⟨A, cap, rfl, h1, h2, _⟩ := hr.form
  obtain ⟨e1, e2, e3, _, b, off, rfl, hb, c0, c1, c2, c3, HD⟩ := nt_at hr
  have hb : b < w.heap.size := hS _ hb
  simp only at c0
  have bel1 : Below w.heap.size w ((w.alloc (.cells #[.int .i64 0, .int .i64 0, .bool false, .int .i64 0, .slice none 0 0] 26)).alloc (.cells #[.int .i64 0, .int .i64 0, .bool false, .int .i64 0, .slice none 0 0] 26)) := ((Below.refl _ _).alloc (Nat.le_refl _) _).alloc (by simp) _
  have HIL := Lib.hid ihl
  have HIR := Lib.hid ihr
  have hcap2 : 1 < cap := by simp at h1; omega
  have hD0 := HD (cap - 1) rfl
  rw [if_neg (by omega)] at hD0
  have HDD := Lib.hid hD0
  have HS := Lib.hid hS
  have HEN := Lib.hid hend
  have HX := Lib.hid hX
  have B1 := Lib.hid ((Blk.made w [.int .i64 0, .int .i64 0, .bool false, .int .i64 0, .slice none 0 0] 26 (base := 0) (Nat.zero_le _)).below (w' := ((w.alloc (.cells #[.int .i64 0, .int .i64 0, .bool false, .int .i64 0, .slice none 0 0] 26)).alloc (.cells #[.int .i64 0, .int .i64 0, .bool false, .int .i64 0, .slice none 0 0] 26))) ((Below.refl _ _).alloc (Nat.le_refl _) _))
  have B2 := Blk.made (w.alloc (.cells #[.int .i64 0, .int .i64 0, .bool false, .int .i64 0, .slice none 0 0] 26)) [.int .i64 0, .int .i64 0, .bool false, .int .i64 0, .slice none 0 0] 26 (base := 0) (Nat.zero_le _)
  rw [World.size_alloc] at B2
  have B2 := Lib.hid B2
  have BE := Lib.hid bel1
  clear HD hD0 hr bel1 e1 h1 ihl ihr hS hend hX c1 c2 c3
  unfold maxLen at h2
  rw [List.length_cons] at *
  generalize hL : (flatL l1 ++ ⟨4, acc0⟩ :: (flatL r ++ rest)).length = L at *
  have HL := Lib.hid hL
  have hn0 : (((L + 1 : Nat) : Int) == 0) = false := by simp; omega
  have hn2 : (0 : Int) < (L : Int) + 1 := by omega
  have hn4 : (1 : Int) ≤ (L : Int) + 1 := by omega
  have hn5 : (L : Int) + 1 ≤ (cap : Int) := by omega
  have hc0 : (cap : Int) ≤ 9223372036854775807 := by omega
  clear hL
  go_enter Try.func29, Try.ntmps29
  go_upto_region 4 with (fail)
  generalize ((w.alloc (.cells #[.int .i64 0, .int .i64 0, .bool false, .int .i64 0, .slice none 0 0] 26)).alloc (.cells #[.int .i64 0, .int .i64 0, .bool false, .int .i64 0, .slice none 0 0] 26)) = W0 at *
  obtain ⟨z, hz⟩ : ∃ z, z = w.heap.size := ⟨_, rfl⟩
  rw [← hz] at B1 B2
  rw [← hz]
  have hzz := Nat.le_of_eq hz
  have hzy := Nat.le_of_eq hz.symm
  clear hz
  have hcp1 : (1 : Int) < (cap : Int) := by omega
  go_quiet (fail)
  have BE1 := Lib.hid (BE.out.trans ((below_drewN (Below.refl _ _) nq).mono BE.out.size))
  have B11 := Lib.hid (B1.out.below (w' := W0.drewN nq) (below_drewN (Below.refl _ _) nq))
  have B21 := Lib.hid (B2.out.below (w' := W0.drewN nq) (below_drewN (Below.refl _ _) nq))
  generalize W0.drewN nq = W1 at *
  have d0 := (BE1.out.cell (p := ⟨b, off, none⟩) hb).trans c0
  clear c0 BE B1 B2
  go_wp2_with fail
  refine (HIL.out (⟨4, acc0⟩ :: (flatL r ++ rest)) W1 S (fun k => X k ∨ k = z ∨ k = z + 1) _ (fun k hk => by have := BE1.out.size; have := B11.out.lt; have := B21.out.lt; rcases hk with hk | hk | hk; have := HX.out k hk; omega; omega; omega) rfl (HS.out.trans (Sub.upto BE1.out.size)) (HDD.out.go Flat.keeps BE1.out HS.out (Sub.refl S))).mono ?_
  rintro e w2 ⟨⟨Vf, Au, nu, cu, rfl, hV1, hU⟩, hb1⟩
  obtain ⟨kA, ca1, wr1, lb1, A1, nA, cap1, rfl⟩ := hV1.form
  have HV1 := Lib.hid hV1
  have BEa := Lib.hid (BE1.out.trans (hb1.mono BE1.out.size))
  have B1a := Lib.hid (B11.out.below hb1)
  have B2a := Lib.hid (B21.out.below hb1)
  obtain ⟨f1, f2, f3, _, b2, off2, rfl, hb2, _, _, _, _, HD2⟩ := nt_at hU
  have hbz : b2 < w.heap.size := HS.out _ hb2
  have hD2 := HD2 (cu - 1) rfl
  unfold maxLen at f3
  rw [f1]
  obtain ⟨M, hM⟩ : ∃ M, M = (flatL r ++ rest).length := ⟨_, rfl⟩
  rw [← hM] at hD2 f1 ⊢
  have hm0 : (1 : Int) ≤ (M : Int) + 1 := by omega
  have hm1 : (M : Int) + 1 ≤ (cu : Int) := by omega
  have hm2 : (cu : Int) ≤ 9223372036854775807 := by omega
  have HM := Lib.hid hM
  clear hM f1 HD2 hU hV1 hb1 d0 B11 B21 BE1
  unfold tmV
  have k0 := B2a.out.cell 0 _ rfl; have k1 := B2a.out.cell 1 _ rfl; have k2 := B2a.out.cell 2 _ rfl; have k3 := B2a.out.cell 3 _ rfl; have k4 := B2a.out.cell 4 _ rfl
  have kf := B2a.out.fr
  by_cases hcu : cu = 1
  · have hM0 : M = 0 := by omega
    rw [if_pos hcu] at hD2
    have HDS := Lib.hid hD2
    subst hcu
    subst hM0
    clear hD2
    go_upto_region 11 with (fail)
    have B22 := Lib.hid (show Blk 0 ((((((w2.setCell ⟨z + 1, 0, none⟩ (.int .i64 kA)).setCell ⟨z + 1, 1, none⟩ (.int .i64 ca1)).setCell ⟨z + 1, 2, none⟩ (.bool wr1)).setCell ⟨z + 1, 3, none⟩ (.int .i64 lb1)).setCell ⟨z + 1, 4, none⟩ (.slice A1 nA cap1))) (z + 1) [.int .i64 kA, .int .i64 ca1, .bool wr1, .int .i64 lb1, .slice A1 nA cap1] from (((((B2a.out.set (i := 0) (by simp) (.int .i64 kA)).set (i := 1) (by simp) (.int .i64 ca1)).set (i := 2) (by simp) (.bool wr1)).set (i := 3) (by simp) (.int .i64 lb1)).set (i := 4) (by simp) (.slice A1 nA cap1)))
    have B12 := Lib.hid (show Blk 0 ((((((w2.setCell ⟨z + 1, 0, none⟩ (.int .i64 kA)).setCell ⟨z + 1, 1, none⟩ (.int .i64 ca1)).setCell ⟨z + 1, 2, none⟩ (.bool wr1)).setCell ⟨z + 1, 3, none⟩ (.int .i64 lb1)).setCell ⟨z + 1, 4, none⟩ (.slice A1 nA cap1))) z [.int .i64 0, .int .i64 0, .bool false, .int .i64 0, .slice none 0 0] from B1a.out.but (T := Is (z + 1)) ((((((But.refl (Is (z + 1)) w2).setCell (p := ⟨z + 1, 0, none⟩) rfl (.int .i64 kA)).setCell (p := ⟨z + 1, 1, none⟩) rfl (.int .i64 ca1)).setCell (p := ⟨z + 1, 2, none⟩) rfl (.bool wr1)).setCell (p := ⟨z + 1, 3, none⟩) rfl (.int .i64 lb1)).setCell (p := ⟨z + 1, 4, none⟩) rfl (.slice A1 nA cap1)) (fun e => by have e : z = z + 1 := e; omega))
    have BE2 := Lib.hid (show Below w.heap.size w ((((((w2.setCell ⟨z + 1, 0, none⟩ (.int .i64 kA)).setCell ⟨z + 1, 1, none⟩ (.int .i64 ca1)).setCell ⟨z + 1, 2, none⟩ (.bool wr1)).setCell ⟨z + 1, 3, none⟩ (.int .i64 lb1)).setCell ⟨z + 1, 4, none⟩ (.slice A1 nA cap1))) from (((((BEa.out.setCell (p := ⟨z + 1, 0, none⟩) (by simp; omega) (.int .i64 kA)).setCell (p := ⟨z + 1, 1, none⟩) (by simp; omega) (.int .i64 ca1)).setCell (p := ⟨z + 1, 2, none⟩) (by simp; omega) (.bool wr1)).setCell (p := ⟨z + 1, 3, none⟩) (by simp; omega) (.int .i64 lb1)).setCell (p := ⟨z + 1, 4, none⟩) (by simp; omega) (.slice A1 nA cap1)))
    have HT := Lib.hid (show FrT (fun k => X k ∨ k = z) ((((((w2.setCell ⟨z + 1, 0, none⟩ (.int .i64 kA)).setCell ⟨z + 1, 1, none⟩ (.int .i64 ca1)).setCell ⟨z + 1, 2, none⟩ (.bool wr1)).setCell ⟨z + 1, 3, none⟩ (.int .i64 lb1)).setCell ⟨z + 1, 4, none⟩ (.slice A1 nA cap1))) (weave l1 zeroT) (tmV kA ca1 wr1 lb1 (.slice A1 nA cap1)) from (HV1.out.but ((((((((But.refl (Is (z + 1)) w2).setCell (p := ⟨z + 1, 0, none⟩) rfl (.int .i64 kA)).setCell (p := ⟨z + 1, 1, none⟩) rfl (.int .i64 ca1)).setCell (p := ⟨z + 1, 2, none⟩) rfl (.bool wr1)).setCell (p := ⟨z + 1, 3, none⟩) rfl (.int .i64 lb1)).setCell (p := ⟨z + 1, 4, none⟩) rfl (.slice A1 nA cap1))).sub (fun k hk => .inr (.inr hk)))).fewer (fun k hk => hk.elim .inl (fun e => .inr (.inl e))))
    have HDR := Lib.hid (show RdNs ((((((w2.setCell ⟨z + 1, 0, none⟩ (.int .i64 kA)).setCell ⟨z + 1, 1, none⟩ (.int .i64 ca1)).setCell ⟨z + 1, 2, none⟩ (.bool wr1)).setCell ⟨z + 1, 3, none⟩ (.int .i64 lb1)).setCell ⟨z + 1, 4, none⟩ (.slice A1 nA cap1))) S (flatL r ++ rest) (.slice (some ⟨b2, off2, none⟩) 0 0) from HDS.out.keep Flat.keeps (Sub.refl S) ((((((((But.refl (Is (z + 1)) w2).setCell (p := ⟨z + 1, 0, none⟩) rfl (.int .i64 kA)).setCell (p := ⟨z + 1, 1, none⟩) rfl (.int .i64 ca1)).setCell (p := ⟨z + 1, 2, none⟩) rfl (.bool wr1)).setCell (p := ⟨z + 1, 3, none⟩) rfl (.int .i64 lb1)).setCell (p := ⟨z + 1, 4, none⟩) rfl (.slice A1 nA cap1))).same (HS.out.trans (Sub.upto BEa.out.size)) (fun k hk e => by have e : k = z + 1 := e; have := HS.out k hk; simp only [Upto] at this; omega)))
    generalize ((((((w2.setCell ⟨z + 1, 0, none⟩ (.int .i64 kA)).setCell ⟨z + 1, 1, none⟩ (.int .i64 ca1)).setCell ⟨z + 1, 2, none⟩ (.bool wr1)).setCell ⟨z + 1, 3, none⟩ (.int .i64 lb1)).setCell ⟨z + 1, 4, none⟩ (.slice A1 nA cap1))) = W2 at *
    clear k0 k1 k2 k3 k4 kf BEa B1a B2a
    go_wp2_with fail
    refine (HIR.out rest W2 S (fun k => X k ∨ k = z) _ (fun k hk => by have := BE2.out.size; have := B12.out.lt; rcases hk with hk | hk; have := HX.out k hk; omega; omega) HEN.out (HS.out.trans (Sub.upto BE2.out.size)) HDR.out).mono ?_
    rintro e w3 ⟨⟨V, A3, n3, c3', rfl, hV, hR⟩, hb3⟩
    obtain ⟨k', c', wr', lb', A', n', cap', rfl⟩ := hV.form
    have HV := Lib.hid hV
    have HR := Lib.hid hR
    have BE3 := Lib.hid (BE2.out.trans (hb3.mono BE2.out.size))
    have B13 := Lib.hid (B12.out.below hb3)
    have B23 := Lib.hid (B22.out.below hb3)
    have HT3 := Lib.hid (HT.out.below hb3)
    have hz3 : z + 1 < w3.heap.size := B23.out.lt
    have hz4 : z < w3.heap.size := B13.out.lt
    have hz5 : z < w3.heap.size + 1 := by omega
    clear hV hR hb3 HT B12 B22 BE2
    unfold tmV
    have k0 := B13.out.cell 0 _ rfl; have k1 := B13.out.cell 1 _ rfl; have k2 := B13.out.cell 2 _ rfl; have k3 := B13.out.cell 3 _ rfl; have k4 := B13.out.cell 4 _ rfl
    have j0 := B23.out.cell 0 _ rfl; have j1 := B23.out.cell 1 _ rfl; have j2 := B23.out.cell 2 _ rfl; have j3 := B23.out.cell 3 _ rfl; have j4 := B23.out.cell 4 _ rfl
    have kf := B13.out.fr
    go_wp2
    have zs : (((((((w3.setCell ⟨z, 0, none⟩ (.int .i64 2)).setCell ⟨z, 1, none⟩ (.int .i64 0)).setCell ⟨z, 2, none⟩ (.bool false)).setCell ⟨z, 3, none⟩ (.int .i64 0)).setCell ⟨z, 4, none⟩ (.slice (some ⟨w3.heap.size + 1, 0, none⟩) 2 2)).alloc (.cells #[.int .i64 k', .int .i64 c', .bool wr', .int .i64 lb', .slice A' n' cap'] 26))).heap.size = w3.heap.size + 1 := by simp
    have hbu : But (Is z) w3 ((((((w3.setCell ⟨z, 0, none⟩ (.int .i64 2)).setCell ⟨z, 1, none⟩ (.int .i64 0)).setCell ⟨z, 2, none⟩ (.bool false)).setCell ⟨z, 3, none⟩ (.int .i64 0)).setCell ⟨z, 4, none⟩ (.slice (some ⟨w3.heap.size + 1, 0, none⟩) 2 2))) := ((((((But.refl (Is z) w3).setCell (p := ⟨z, 0, none⟩) rfl (.int .i64 2)).setCell (p := ⟨z, 1, none⟩) rfl (.int .i64 0)).setCell (p := ⟨z, 2, none⟩) rfl (.bool false)).setCell (p := ⟨z, 3, none⟩) rfl (.int .i64 0)).setCell (p := ⟨z, 4, none⟩) rfl (.slice (some ⟨w3.heap.size + 1, 0, none⟩) 2 2))
    have hbf : But (Is z) w3 ((((((((w3.setCell ⟨z, 0, none⟩ (.int .i64 2)).setCell ⟨z, 1, none⟩ (.int .i64 0)).setCell ⟨z, 2, none⟩ (.bool false)).setCell ⟨z, 3, none⟩ (.int .i64 0)).setCell ⟨z, 4, none⟩ (.slice (some ⟨w3.heap.size + 1, 0, none⟩) 2 2)).alloc (.cells #[.int .i64 k', .int .i64 c', .bool wr', .int .i64 lb', .slice A' n' cap'] 26)).alloc (.cells #[.int .i64 kA, .int .i64 ca1, .bool wr1, .int .i64 lb1, .slice A1 nA cap1, .int .i64 k', .int .i64 c', .bool wr', .int .i64 lb', .slice A' n' cap'] 26))) := (hbu.alloc _).alloc _
    have D3 := Lib.hid (((((((((B13.out.set (i := 0) (by simp) (.int .i64 2)).set (i := 1) (by simp) (.int .i64 0)).set (i := 2) (by simp) (.bool false)).set (i := 3) (by simp) (.int .i64 0)).set (i := 4) (by simp) (.slice (some ⟨w3.heap.size + 1, 0, none⟩) 2 2))).below (w' := ((((((w3.setCell ⟨z, 0, none⟩ (.int .i64 2)).setCell ⟨z, 1, none⟩ (.int .i64 0)).setCell ⟨z, 2, none⟩ (.bool false)).setCell ⟨z, 3, none⟩ (.int .i64 0)).setCell ⟨z, 4, none⟩ (.slice (some ⟨w3.heap.size + 1, 0, none⟩) 2 2)).alloc (.cells #[.int .i64 k', .int .i64 c', .bool wr', .int .i64 lb', .slice A' n' cap'] 26))) ((Below.refl _ _).alloc (Nat.le_refl _) _)).below (w' := (((((((w3.setCell ⟨z, 0, none⟩ (.int .i64 2)).setCell ⟨z, 1, none⟩ (.int .i64 0)).setCell ⟨z, 2, none⟩ (.bool false)).setCell ⟨z, 3, none⟩ (.int .i64 0)).setCell ⟨z, 4, none⟩ (.slice (some ⟨w3.heap.size + 1, 0, none⟩) 2 2)).alloc (.cells #[.int .i64 k', .int .i64 c', .bool wr', .int .i64 lb', .slice A' n' cap'] 26)).alloc (.cells #[.int .i64 kA, .int .i64 ca1, .bool wr1, .int .i64 lb1, .slice A1 nA cap1, .int .i64 k', .int .i64 c', .bool wr', .int .i64 lb', .slice A' n' cap'] 26))) ((Below.refl _ _).alloc (Nat.le_refl _) _)))
    have D4 := Blk.made (((((((w3.setCell ⟨z, 0, none⟩ (.int .i64 2)).setCell ⟨z, 1, none⟩ (.int .i64 0)).setCell ⟨z, 2, none⟩ (.bool false)).setCell ⟨z, 3, none⟩ (.int .i64 0)).setCell ⟨z, 4, none⟩ (.slice (some ⟨w3.heap.size + 1, 0, none⟩) 2 2)).alloc (.cells #[.int .i64 k', .int .i64 c', .bool wr', .int .i64 lb', .slice A' n' cap'] 26))) [.int .i64 kA, .int .i64 ca1, .bool wr1, .int .i64 lb1, .slice A1 nA cap1, .int .i64 k', .int .i64 c', .bool wr', .int .i64 lb', .slice A' n' cap'] 26 (base := 0) (Nat.zero_le _)
    rw [zs] at D4
    have HV4 := HV.out.but (w' := (((((((w3.setCell ⟨z, 0, none⟩ (.int .i64 2)).setCell ⟨z, 1, none⟩ (.int .i64 0)).setCell ⟨z, 2, none⟩ (.bool false)).setCell ⟨z, 3, none⟩ (.int .i64 0)).setCell ⟨z, 4, none⟩ (.slice (some ⟨w3.heap.size + 1, 0, none⟩) 2 2)).alloc (.cells #[.int .i64 k', .int .i64 c', .bool wr', .int .i64 lb', .slice A' n' cap'] 26)).alloc (.cells #[.int .i64 kA, .int .i64 ca1, .bool wr1, .int .i64 lb1, .slice A1 nA cap1, .int .i64 k', .int .i64 c', .bool wr', .int .i64 lb', .slice A' n' cap'] 26))) (hbf.sub (fun k hk => .inr hk))
    have HT4 := HT3.out.but (w' := (((((((w3.setCell ⟨z, 0, none⟩ (.int .i64 2)).setCell ⟨z, 1, none⟩ (.int .i64 0)).setCell ⟨z, 2, none⟩ (.bool false)).setCell ⟨z, 3, none⟩ (.int .i64 0)).setCell ⟨z, 4, none⟩ (.slice (some ⟨w3.heap.size + 1, 0, none⟩) 2 2)).alloc (.cells #[.int .i64 k', .int .i64 c', .bool wr', .int .i64 lb', .slice A' n' cap'] 26)).alloc (.cells #[.int .i64 kA, .int .i64 ca1, .bool wr1, .int .i64 lb1, .slice A1 nA cap1, .int .i64 k', .int .i64 c', .bool wr', .int .i64 lb', .slice A' n' cap'] 26))) (hbf.sub (fun k hk => .inr hk))
    have HR4 := HR.out.keep (w' := (((((((w3.setCell ⟨z, 0, none⟩ (.int .i64 2)).setCell ⟨z, 1, none⟩ (.int .i64 0)).setCell ⟨z, 2, none⟩ (.bool false)).setCell ⟨z, 3, none⟩ (.int .i64 0)).setCell ⟨z, 4, none⟩ (.slice (some ⟨w3.heap.size + 1, 0, none⟩) 2 2)).alloc (.cells #[.int .i64 k', .int .i64 c', .bool wr', .int .i64 lb', .slice A' n' cap'] 26)).alloc (.cells #[.int .i64 kA, .int .i64 ca1, .bool wr1, .int .i64 lb1, .slice A1 nA cap1, .int .i64 k', .int .i64 c', .bool wr', .int .i64 lb', .slice A' n' cap'] 26))) Flat.keeps (Sub.refl S) (hbf.same (HS.out.trans (Sub.upto BE3.out.size)) (fun k hk e => by have e : k = z := e; have := HS.out k hk; simp only [Upto] at this; omega))
    have BE4 := BE3.out.trans (hbf.below BE3.out.size (fun k e => by have e : k = z := e; omega))
    have hng : ¬ (X (w3.heap.size + 1) ∨ w3.heap.size + 1 = z) := fun e => by
      rcases e with e | e
      · have := HX.out _ e; have := BE3.out.size; omega
      · omega
    clear zs hbu hbf
    generalize ((((((((w3.setCell ⟨z, 0, none⟩ (.int .i64 2)).setCell ⟨z, 1, none⟩ (.int .i64 0)).setCell ⟨z, 2, none⟩ (.bool false)).setCell ⟨z, 3, none⟩ (.int .i64 0)).setCell ⟨z, 4, none⟩ (.slice (some ⟨w3.heap.size + 1, 0, none⟩) 2 2)).alloc (.cells #[.int .i64 k', .int .i64 c', .bool wr', .int .i64 lb', .slice A' n' cap'] 26)).alloc (.cells #[.int .i64 kA, .int .i64 ca1, .bool wr1, .int .i64 lb1, .slice A1 nA cap1, .int .i64 k', .int .i64 c', .bool wr', .int .i64 lb', .slice A' n' cap'] 26))) = WF at *
    clear k0 k1 k2 k3 k4 kf
    have r0 := D3.out.cell 0 _ rfl; have r1 := D3.out.cell 1 _ rfl; have r2 := D3.out.cell 2 _ rfl; have r3 := D3.out.cell 3 _ rfl; have r4 := D3.out.cell 4 _ rfl
    refine bodyPost_ret (v := .tuple #[tmV 2 0 false 0 (.slice (some ⟨w3.heap.size + 1, 0, none⟩) 2 2), .slice A3 n3 c3']) (by simp [results, Try.f29, go_sem, r0, r1, r2, r3, r4]) rfl ⟨⟨_, _, _, _, rfl, (FrT.two ⟨by decide, by decide⟩ HT4 HV4 hng D4.lt rfl rfl D4.cell).fewer (fun k hk => .inl hk), HR4⟩, BE4⟩
  · have hcu1 : (1 : Int) < (cu : Int) := by omega
    rw [if_neg hcu] at hD2
    have HDS := Lib.hid hD2
    clear hD2
    go_upto_region 11 with (fail)
    have B22 := Lib.hid (show Blk 0 ((((((w2.setCell ⟨z + 1, 0, none⟩ (.int .i64 kA)).setCell ⟨z + 1, 1, none⟩ (.int .i64 ca1)).setCell ⟨z + 1, 2, none⟩ (.bool wr1)).setCell ⟨z + 1, 3, none⟩ (.int .i64 lb1)).setCell ⟨z + 1, 4, none⟩ (.slice A1 nA cap1))) (z + 1) [.int .i64 kA, .int .i64 ca1, .bool wr1, .int .i64 lb1, .slice A1 nA cap1] from (((((B2a.out.set (i := 0) (by simp) (.int .i64 kA)).set (i := 1) (by simp) (.int .i64 ca1)).set (i := 2) (by simp) (.bool wr1)).set (i := 3) (by simp) (.int .i64 lb1)).set (i := 4) (by simp) (.slice A1 nA cap1)))
    have B12 := Lib.hid (show Blk 0 ((((((w2.setCell ⟨z + 1, 0, none⟩ (.int .i64 kA)).setCell ⟨z + 1, 1, none⟩ (.int .i64 ca1)).setCell ⟨z + 1, 2, none⟩ (.bool wr1)).setCell ⟨z + 1, 3, none⟩ (.int .i64 lb1)).setCell ⟨z + 1, 4, none⟩ (.slice A1 nA cap1))) z [.int .i64 0, .int .i64 0, .bool false, .int .i64 0, .slice none 0 0] from B1a.out.but (T := Is (z + 1)) ((((((But.refl (Is (z + 1)) w2).setCell (p := ⟨z + 1, 0, none⟩) rfl (.int .i64 kA)).setCell (p := ⟨z + 1, 1, none⟩) rfl (.int .i64 ca1)).setCell (p := ⟨z + 1, 2, none⟩) rfl (.bool wr1)).setCell (p := ⟨z + 1, 3, none⟩) rfl (.int .i64 lb1)).setCell (p := ⟨z + 1, 4, none⟩) rfl (.slice A1 nA cap1)) (fun e => by have e : z = z + 1 := e; omega))
    have BE2 := Lib.hid (show Below w.heap.size w ((((((w2.setCell ⟨z + 1, 0, none⟩ (.int .i64 kA)).setCell ⟨z + 1, 1, none⟩ (.int .i64 ca1)).setCell ⟨z + 1, 2, none⟩ (.bool wr1)).setCell ⟨z + 1, 3, none⟩ (.int .i64 lb1)).setCell ⟨z + 1, 4, none⟩ (.slice A1 nA cap1))) from (((((BEa.out.setCell (p := ⟨z + 1, 0, none⟩) (by simp; omega) (.int .i64 kA)).setCell (p := ⟨z + 1, 1, none⟩) (by simp; omega) (.int .i64 ca1)).setCell (p := ⟨z + 1, 2, none⟩) (by simp; omega) (.bool wr1)).setCell (p := ⟨z + 1, 3, none⟩) (by simp; omega) (.int .i64 lb1)).setCell (p := ⟨z + 1, 4, none⟩) (by simp; omega) (.slice A1 nA cap1)))
    have HT := Lib.hid (show FrT (fun k => X k ∨ k = z) ((((((w2.setCell ⟨z + 1, 0, none⟩ (.int .i64 kA)).setCell ⟨z + 1, 1, none⟩ (.int .i64 ca1)).setCell ⟨z + 1, 2, none⟩ (.bool wr1)).setCell ⟨z + 1, 3, none⟩ (.int .i64 lb1)).setCell ⟨z + 1, 4, none⟩ (.slice A1 nA cap1))) (weave l1 zeroT) (tmV kA ca1 wr1 lb1 (.slice A1 nA cap1)) from (HV1.out.but ((((((((But.refl (Is (z + 1)) w2).setCell (p := ⟨z + 1, 0, none⟩) rfl (.int .i64 kA)).setCell (p := ⟨z + 1, 1, none⟩) rfl (.int .i64 ca1)).setCell (p := ⟨z + 1, 2, none⟩) rfl (.bool wr1)).setCell (p := ⟨z + 1, 3, none⟩) rfl (.int .i64 lb1)).setCell (p := ⟨z + 1, 4, none⟩) rfl (.slice A1 nA cap1))).sub (fun k hk => .inr (.inr hk)))).fewer (fun k hk => hk.elim .inl (fun e => .inr (.inl e))))
    have HDR := Lib.hid (show RdNs ((((((w2.setCell ⟨z + 1, 0, none⟩ (.int .i64 kA)).setCell ⟨z + 1, 1, none⟩ (.int .i64 ca1)).setCell ⟨z + 1, 2, none⟩ (.bool wr1)).setCell ⟨z + 1, 3, none⟩ (.int .i64 lb1)).setCell ⟨z + 1, 4, none⟩ (.slice A1 nA cap1))) S (flatL r ++ rest) (.slice (some ⟨b2, off2 + 4, none⟩) M (cu - 1)) from HDS.out.keep Flat.keeps (Sub.refl S) ((((((((But.refl (Is (z + 1)) w2).setCell (p := ⟨z + 1, 0, none⟩) rfl (.int .i64 kA)).setCell (p := ⟨z + 1, 1, none⟩) rfl (.int .i64 ca1)).setCell (p := ⟨z + 1, 2, none⟩) rfl (.bool wr1)).setCell (p := ⟨z + 1, 3, none⟩) rfl (.int .i64 lb1)).setCell (p := ⟨z + 1, 4, none⟩) rfl (.slice A1 nA cap1))).same (HS.out.trans (Sub.upto BEa.out.size)) (fun k hk e => by have e : k = z + 1 := e; have := HS.out k hk; simp only [Upto] at this; omega)))
    generalize ((((((w2.setCell ⟨z + 1, 0, none⟩ (.int .i64 kA)).setCell ⟨z + 1, 1, none⟩ (.int .i64 ca1)).setCell ⟨z + 1, 2, none⟩ (.bool wr1)).setCell ⟨z + 1, 3, none⟩ (.int .i64 lb1)).setCell ⟨z + 1, 4, none⟩ (.slice A1 nA cap1))) = W2 at *
    clear k0 k1 k2 k3 k4 kf BEa B1a B2a
    go_wp2_with fail
    refine (HIR.out rest W2 S (fun k => X k ∨ k = z) _ (fun k hk => by have := BE2.out.size; have := B12.out.lt; rcases hk with hk | hk; have := HX.out k hk; omega; omega) HEN.out (HS.out.trans (Sub.upto BE2.out.size)) HDR.out).mono ?_
    rintro e w3 ⟨⟨V, A3, n3, c3', rfl, hV, hR⟩, hb3⟩
    obtain ⟨k', c', wr', lb', A', n', cap', rfl⟩ := hV.form
    have HV := Lib.hid hV
    have HR := Lib.hid hR
    have BE3 := Lib.hid (BE2.out.trans (hb3.mono BE2.out.size))
    have B13 := Lib.hid (B12.out.below hb3)
    have B23 := Lib.hid (B22.out.below hb3)
    have HT3 := Lib.hid (HT.out.below hb3)
    have hz3 : z + 1 < w3.heap.size := B23.out.lt
    have hz4 : z < w3.heap.size := B13.out.lt
    have hz5 : z < w3.heap.size + 1 := by omega
    clear hV hR hb3 HT B12 B22 BE2
    unfold tmV
    have k0 := B13.out.cell 0 _ rfl; have k1 := B13.out.cell 1 _ rfl; have k2 := B13.out.cell 2 _ rfl; have k3 := B13.out.cell 3 _ rfl; have k4 := B13.out.cell 4 _ rfl
    have j0 := B23.out.cell 0 _ rfl; have j1 := B23.out.cell 1 _ rfl; have j2 := B23.out.cell 2 _ rfl; have j3 := B23.out.cell 3 _ rfl; have j4 := B23.out.cell 4 _ rfl
    have kf := B13.out.fr
    go_wp2
    have zs : (((((((w3.setCell ⟨z, 0, none⟩ (.int .i64 2)).setCell ⟨z, 1, none⟩ (.int .i64 0)).setCell ⟨z, 2, none⟩ (.bool false)).setCell ⟨z, 3, none⟩ (.int .i64 0)).setCell ⟨z, 4, none⟩ (.slice (some ⟨w3.heap.size + 1, 0, none⟩) 2 2)).alloc (.cells #[.int .i64 k', .int .i64 c', .bool wr', .int .i64 lb', .slice A' n' cap'] 26))).heap.size = w3.heap.size + 1 := by simp
    have hbu : But (Is z) w3 ((((((w3.setCell ⟨z, 0, none⟩ (.int .i64 2)).setCell ⟨z, 1, none⟩ (.int .i64 0)).setCell ⟨z, 2, none⟩ (.bool false)).setCell ⟨z, 3, none⟩ (.int .i64 0)).setCell ⟨z, 4, none⟩ (.slice (some ⟨w3.heap.size + 1, 0, none⟩) 2 2))) := ((((((But.refl (Is z) w3).setCell (p := ⟨z, 0, none⟩) rfl (.int .i64 2)).setCell (p := ⟨z, 1, none⟩) rfl (.int .i64 0)).setCell (p := ⟨z, 2, none⟩) rfl (.bool false)).setCell (p := ⟨z, 3, none⟩) rfl (.int .i64 0)).setCell (p := ⟨z, 4, none⟩) rfl (.slice (some ⟨w3.heap.size + 1, 0, none⟩) 2 2))
    have hbf : But (Is z) w3 ((((((((w3.setCell ⟨z, 0, none⟩ (.int .i64 2)).setCell ⟨z, 1, none⟩ (.int .i64 0)).setCell ⟨z, 2, none⟩ (.bool false)).setCell ⟨z, 3, none⟩ (.int .i64 0)).setCell ⟨z, 4, none⟩ (.slice (some ⟨w3.heap.size + 1, 0, none⟩) 2 2)).alloc (.cells #[.int .i64 k', .int .i64 c', .bool wr', .int .i64 lb', .slice A' n' cap'] 26)).alloc (.cells #[.int .i64 kA, .int .i64 ca1, .bool wr1, .int .i64 lb1, .slice A1 nA cap1, .int .i64 k', .int .i64 c', .bool wr', .int .i64 lb', .slice A' n' cap'] 26))) := (hbu.alloc _).alloc _
    have D3 := Lib.hid (((((((((B13.out.set (i := 0) (by simp) (.int .i64 2)).set (i := 1) (by simp) (.int .i64 0)).set (i := 2) (by simp) (.bool false)).set (i := 3) (by simp) (.int .i64 0)).set (i := 4) (by simp) (.slice (some ⟨w3.heap.size + 1, 0, none⟩) 2 2))).below (w' := ((((((w3.setCell ⟨z, 0, none⟩ (.int .i64 2)).setCell ⟨z, 1, none⟩ (.int .i64 0)).setCell ⟨z, 2, none⟩ (.bool false)).setCell ⟨z, 3, none⟩ (.int .i64 0)).setCell ⟨z, 4, none⟩ (.slice (some ⟨w3.heap.size + 1, 0, none⟩) 2 2)).alloc (.cells #[.int .i64 k', .int .i64 c', .bool wr', .int .i64 lb', .slice A' n' cap'] 26))) ((Below.refl _ _).alloc (Nat.le_refl _) _)).below (w' := (((((((w3.setCell ⟨z, 0, none⟩ (.int .i64 2)).setCell ⟨z, 1, none⟩ (.int .i64 0)).setCell ⟨z, 2, none⟩ (.bool false)).setCell ⟨z, 3, none⟩ (.int .i64 0)).setCell ⟨z, 4, none⟩ (.slice (some ⟨w3.heap.size + 1, 0, none⟩) 2 2)).alloc (.cells #[.int .i64 k', .int .i64 c', .bool wr', .int .i64 lb', .slice A' n' cap'] 26)).alloc (.cells #[.int .i64 kA, .int .i64 ca1, .bool wr1, .int .i64 lb1, .slice A1 nA cap1, .int .i64 k', .int .i64 c', .bool wr', .int .i64 lb', .slice A' n' cap'] 26))) ((Below.refl _ _).alloc (Nat.le_refl _) _)))
    have D4 := Blk.made (((((((w3.setCell ⟨z, 0, none⟩ (.int .i64 2)).setCell ⟨z, 1, none⟩ (.int .i64 0)).setCell ⟨z, 2, none⟩ (.bool false)).setCell ⟨z, 3, none⟩ (.int .i64 0)).setCell ⟨z, 4, none⟩ (.slice (some ⟨w3.heap.size + 1, 0, none⟩) 2 2)).alloc (.cells #[.int .i64 k', .int .i64 c', .bool wr', .int .i64 lb', .slice A' n' cap'] 26))) [.int .i64 kA, .int .i64 ca1, .bool wr1, .int .i64 lb1, .slice A1 nA cap1, .int .i64 k', .int .i64 c', .bool wr', .int .i64 lb', .slice A' n' cap'] 26 (base := 0) (Nat.zero_le _)
    rw [zs] at D4
    have HV4 := HV.out.but (w' := (((((((w3.setCell ⟨z, 0, none⟩ (.int .i64 2)).setCell ⟨z, 1, none⟩ (.int .i64 0)).setCell ⟨z, 2, none⟩ (.bool false)).setCell ⟨z, 3, none⟩ (.int .i64 0)).setCell ⟨z, 4, none⟩ (.slice (some ⟨w3.heap.size + 1, 0, none⟩) 2 2)).alloc (.cells #[.int .i64 k', .int .i64 c', .bool wr', .int .i64 lb', .slice A' n' cap'] 26)).alloc (.cells #[.int .i64 kA, .int .i64 ca1, .bool wr1, .int .i64 lb1, .slice A1 nA cap1, .int .i64 k', .int .i64 c', .bool wr', .int .i64 lb', .slice A' n' cap'] 26))) (hbf.sub (fun k hk => .inr hk))
    have HT4 := HT3.out.but (w' := (((((((w3.setCell ⟨z, 0, none⟩ (.int .i64 2)).setCell ⟨z, 1, none⟩ (.int .i64 0)).setCell ⟨z, 2, none⟩ (.bool false)).setCell ⟨z, 3, none⟩ (.int .i64 0)).setCell ⟨z, 4, none⟩ (.slice (some ⟨w3.heap.size + 1, 0, none⟩) 2 2)).alloc (.cells #[.int .i64 k', .int .i64 c', .bool wr', .int .i64 lb', .slice A' n' cap'] 26)).alloc (.cells #[.int .i64 kA, .int .i64 ca1, .bool wr1, .int .i64 lb1, .slice A1 nA cap1, .int .i64 k', .int .i64 c', .bool wr', .int .i64 lb', .slice A' n' cap'] 26))) (hbf.sub (fun k hk => .inr hk))
    have HR4 := HR.out.keep (w' := (((((((w3.setCell ⟨z, 0, none⟩ (.int .i64 2)).setCell ⟨z, 1, none⟩ (.int .i64 0)).setCell ⟨z, 2, none⟩ (.bool false)).setCell ⟨z, 3, none⟩ (.int .i64 0)).setCell ⟨z, 4, none⟩ (.slice (some ⟨w3.heap.size + 1, 0, none⟩) 2 2)).alloc (.cells #[.int .i64 k', .int .i64 c', .bool wr', .int .i64 lb', .slice A' n' cap'] 26)).alloc (.cells #[.int .i64 kA, .int .i64 ca1, .bool wr1, .int .i64 lb1, .slice A1 nA cap1, .int .i64 k', .int .i64 c', .bool wr', .int .i64 lb', .slice A' n' cap'] 26))) Flat.keeps (Sub.refl S) (hbf.same (HS.out.trans (Sub.upto BE3.out.size)) (fun k hk e => by have e : k = z := e; have := HS.out k hk; simp only [Upto] at this; omega))
    have BE4 := BE3.out.trans (hbf.below BE3.out.size (fun k e => by have e : k = z := e; omega))
    have hng : ¬ (X (w3.heap.size + 1) ∨ w3.heap.size + 1 = z) := fun e => by
      rcases e with e | e
      · have := HX.out _ e; have := BE3.out.size; omega
      · omega
    clear zs hbu hbf
    generalize ((((((((w3.setCell ⟨z, 0, none⟩ (.int .i64 2)).setCell ⟨z, 1, none⟩ (.int .i64 0)).setCell ⟨z, 2, none⟩ (.bool false)).setCell ⟨z, 3, none⟩ (.int .i64 0)).setCell ⟨z, 4, none⟩ (.slice (some ⟨w3.heap.size + 1, 0, none⟩) 2 2)).alloc (.cells #[.int .i64 k', .int .i64 c', .bool wr', .int .i64 lb', .slice A' n' cap'] 26)).alloc (.cells #[.int .i64 kA, .int .i64 ca1, .bool wr1, .int .i64 lb1, .slice A1 nA cap1, .int .i64 k', .int .i64 c', .bool wr', .int .i64 lb', .slice A' n' cap'] 26))) = WF at *
    clear k0 k1 k2 k3 k4 kf
    have r0 := D3.out.cell 0 _ rfl; have r1 := D3.out.cell 1 _ rfl; have r2 := D3.out.cell 2 _ rfl; have r3 := D3.out.cell 3 _ rfl; have r4 := D3.out.cell 4 _ rfl
    refine bodyPost_ret (v := .tuple #[tmV 2 0 false 0 (.slice (some ⟨w3.heap.size + 1, 0, none⟩) 2 2), .slice A3 n3 c3']) (by simp [results, Try.f29, go_sem, r0, r1, r2, r3, r4]) rfl ⟨⟨_, _, _, _, rfl, (FrT.two ⟨by decide, by decide⟩ HT4 HV4 hng D4.lt rfl rfl D4.cell).fewer (fun k hk => .inl hk), HR4⟩, BE4⟩
theorem nt_all' (N : Nat) : ∀ ms : List Mk, SizeOf.sizeOf ms ≤ N → PNt ms := by
  induction N with
  | zero => intro ms h; cases ms with
    | nil => exact nt_nil
    | cons m r => simp at h
  | succ N ih =>
    intro ms h
    cases ms with
    | nil => exact nt_nil
    | cons m r =>
      simp at h
      cases m with
      | acc a => exact nt_acc a r (ih r (by omega))
      | par l => simp at h; exact nt_par l r (ih l (by omega)) (ih r (by omega))
      | fin l => simp at h; exact nt_fin l r (ih l (by omega)) (ih r (by omega))
theorem nt_all (ms : List Mk) : PNt ms := nt_all' _ ms (Nat.le_refl _)
end Go.Proofs.Ytdelngmbpjgphaa
