/- The walks of find, First and Cells. -/
import Derived.Test.YtfldajplclahfaaBg6
import Derived.Test.YtfldajplclahfaaGVecSpec
import Derived.Test.YtfldajplclahfaaRowZ
namespace Go.Proofs.Ytfldajplclahfaa
open Go.RowKit
set_option linter.unusedVariables false
theorem infoBo : (Try.prog.info? 4).map (fun i => (i.zero, i.size, i.bytes)) = some (some (.bool false), 1, 1) := by kernel_rfl
theorem Forest.rebase {base base' n : Nat} {w : World} {b gu gs : Nat} {up sz : List Nat} (f : Forest base n w b gu gs up sz) (h : base' ≤ base) : Forest base' n w b gu gs up sz :=
  { f with
    b1 := Nat.le_trans h f.b1
    u1 := Nat.le_trans h f.u1
    s1 := Nat.le_trans h f.s1 }
theorem find_key {base n : Nat} {w1 w : World} {b gu gs gb gm : Nat} (hf : Forest base n w b gu gs (List.range n) (List.replicate n 1)) (hb : Blk base w gb (List.replicate n (.bool false))) (hm : OwnO Try.prog w 3 gm 0 (fun _ => none)) (hB : Below base w1 w) (hn : n ≤ 1048576)
    (hgm : base ≤ gm) (h1 : gb ≠ b ∧ gb ≠ gu ∧ gb ≠ gs) (h2 : gm ≠ b ∧ gm ≠ gu ∧ gm ≠ gs ∧ gm ≠ gb) :
    ∃ F : Fd, Value.pointer (some ⟨w.heap.size, 0, none⟩) = .pointer (some ⟨F.d, 0, none⟩) ∧ Hid (FinAt base n (w.alloc (.cells #[.pointer (some ⟨b, 0, none⟩), .slice (some ⟨gb, 0, none⟩) n n, .map (some gm), .int .i64 0, .slice none 0 0, .int .i64 (-1)] 50)) F (.slice none 0 0) 0 0 id (List.replicate n false) s0) ∧
      Hid (Below base w1 (w.alloc (.cells #[.pointer (some ⟨b, 0, none⟩), .slice (some ⟨gb, 0, none⟩) n n, .map (some gm), .int .i64 0, .slice none 0 0, .int .i64 (-1)] 50))) := by
  have hbw : base ≤ w.heap.size := by have := hf.b1; have := hf.b2; omega
  have bel : Below w.heap.size w (w.alloc (.cells #[.pointer (some ⟨b, 0, none⟩), .slice (some ⟨gb, 0, none⟩) n n, .map (some gm), .int .i64 0, .slice none 0 0, .int .i64 (-1)] 50)) := (Below.refl _ _).alloc (Nat.le_refl _) _
  have e1 := hf.b2
  have e2 := hf.u2
  have e3 := hf.s2
  have e4 := hb.lt
  have e5 := hm.lt
  have e6 := hf.bu
  have e7 := hf.bs
  have e8 := hf.us
  refine ⟨⟨w.heap.size, b, gu, gs, gb, gm⟩, rfl, Lib.hid ?_, Lib.hid (hB.trans (bel.mono hbw))⟩
  exact { forest := ⟨_, _, _, hf.below bel, Good.start n⟩
          lb := by simp
          row := by have := hb.below bel; simpa using this
          map := ⟨0, Nat.le_refl _, by have := hm.below bel; exact this⟩
          gmb := hgm
          found := OwnL.nil _ _ _
          blk := Blk.made w [.pointer (some ⟨b, 0, none⟩), .slice (some ⟨gb, 0, none⟩) n n, .map (some gm), .int .i64 0, .slice none 0 0, .int .i64 (-1)] 50 hbw
          ne := by
            simp only [Fd.row, List.nodup_cons, List.mem_cons, List.not_mem_nil, or_false, not_or, List.nodup_nil, and_true, not_false_eq_true]
            omega
          nv := fun g hg => by cases hg
          kn := Nat.zero_le _
          nb := hn
          fl := Nat.le_refl _
          ff := .inl rfl
          ent := fun c x hx => by cases hx }
theorem preV0 (n : Nat) : PreV n 0 id (List.replicate n false) (fun _ => true) :=
  ⟨fun m h => by omega, fun m h => by omega, fun m _ h => ⟨rfl, by unfold bdB; rw [List.getD_eq_getElem?_getD, List.getElem?_replicate, if_pos (show id m < n from h)]; rfl⟩⟩
set_option maxHeartbeats 2000000 in
set_option maxRecDepth 100000 in
theorem find_any (t : Tm) (w : World) (S : Blocks) (V : Value) (hS : Sub S (Upto w.heap.size)) (r : RdT w S t V) (hl : t.count ≤ 1048576) :
    Calls Try.prog 23 #[V] w fun e w' => ∃ (d : Nat) (vf : Value), e = .returned (.pointer (some ⟨d, 0, none⟩)) ∧ w'.cell? ⟨d, 4, none⟩ = some vf ∧ w'.cell? ⟨d, 5, none⟩ = some (.int .i64 (stS t t.count).first) ∧
      RdI w' (Plus Nowhere w.heap.size w'.heap.size) (sortZ (stS t t.count).found) vf ∧ Below w.heap.size w w' := by
  obtain ⟨i0, hi, hz0, hz1, hz2⟩ := info_parts infoBo
  obtain ⟨k, c, wb, lb, kids, v, et, rfl, h1, h2, h3, h4⟩ := id r
  obtain ⟨A1, n1, rfl, _⟩ := h4.form
  have bel : Below w.heap.size w (w.alloc (.cells #[.int .i64 k, .int .i64 c, .bool wb, .int .i64 lb, .slice A1 kids.length n1] 26)) := (Below.refl _ _).alloc (Nat.le_refl _) _
  have BEL := Lib.hid bel
  have RA := Lib.hid (r.go bel hS)
  have HS := Lib.hid hS
  have BX := Lib.hid (Blk.made w [.int .i64 k, .int .i64 c, .bool wb, .int .i64 lb, .slice A1 kids.length n1] 26 (base := 0) (Nat.zero_le _))
  unfold tmV
  clear h4 bel r et h1 h2 h3 hS
  go_enter Try.func23, Try.ntmps23
  go_upto_region 1 with (fail)
  obtain ⟨X, hX⟩ : ∃ X, X = w.heap.size := ⟨_, rfl⟩
  have HX := Lib.hid hX
  rw [← hX] at BX ⊢
  clear hX
  generalize (w.alloc (.cells #[.int .i64 k, .int .i64 c, .bool wb, .int .i64 lb, .slice A1 kids.length n1] 26)) = W at *
  have x0 := BX.out.cell 0 _ rfl; have x1 := BX.out.cell 1 _ rfl; have x2 := BX.out.cell 2 _ rfl; have x3 := BX.out.cell 3 _ rfl; have x4 := BX.out.cell 4 _ rfl
  go_wp2_with fail
  refine (leaves_any t W S _ (HS.out.trans (Sub.upto BEL.out.size)) RA.out hl).mono ?_
  rintro e w1 ⟨x, rfl, hx, hb⟩
  have hcl : t.leaves.length = t.count := rfl
  obtain ⟨A, cap, rfl, -⟩ := hx.form
  rw [hcl]
  have B1 := Lib.hid (BEL.out.trans (hb.mono BEL.out.size))
  have R1 := Lib.hid (RA.out.go hb (HS.out.trans (Sub.upto BEL.out.size)))
  have BX1 := Lib.hid (BX.out.below hb)
  clear hx hb x0 x1 x2 x3 x4 BEL RA BX hcl
  obtain ⟨n, hn0⟩ : ∃ n, n = t.count := ⟨_, rfl⟩
  have HN := Lib.hid hn0
  rw [← hn0] at hl ⊢
  clear hn0
  have hn := hl
  have hmm := @run_makeMap Try.prog
  have hmk := fun w => run_make1 (P := Try.prog) 47 4 i0 _ Try.underlying47 hi hz0 hz1 rfl n (by rw [hz2]; omega) (by omega) w
  obtain ⟨base, hbase⟩ : ∃ b, b = w1.heap.size := ⟨_, rfl⟩
  have HBS := Lib.hid hbase
  have hb1 := Nat.le_of_eq hbase
  clear hbase
  go_upto_region 2 with (fail)
  go_cut [4] (fun x4 wx => ∃ F : Fd, x4 = .pointer (some ⟨F.d, 0, none⟩) ∧ Hid (FinAt base n wx F (.slice none 0 0) 0 0 id (List.replicate n false) s0) ∧ Hid (Below base w1 wx))
  case first =>
    skip
    refine wp_region_pre 5 (S := (fun _ => True)) (by kernel_rfl) (by kernel_rfl) trivial (fun hHeld => ?_)
    simp only [List.take_succ_cons, List.take_zero]
    have BB : Below base w1 w1.drew := by rw [HBS.out]; exact (Below.refl _ _).drew
    have hz0' : base ≤ w1.drew.heap.size := hb1
    clear hb1
    generalize w1.drew = w0 at *
    refine wpAnyH_take_at (i := 0) (v := ?_) (some 8) rfl rfl (by kernel_rfl) (by kernel_rfl) (by kernel_rfl) (fun _ _ _ h => h) (Or.inl ⟨by rfl, ?_⟩) (by assumption) ?_
    rotate_left
    · (intro w hSw; (try dsimp only at hSw); go_simp; (try with_reducible rfl))
    (try simp only [Act.put, List.setIfInBounds_toArray, List.set_cons_zero, List.set_cons_succ])
    refine wpAnyH_take_at (i := 2) (v := ?_) (some 10) rfl rfl (by kernel_rfl) (by kernel_rfl) (by kernel_rfl) (fun _ _ _ h => h) (Or.inl ⟨by rfl, ?_⟩) (by assumption) ?_
    rotate_left
    · (intro w hSw; (try dsimp only at hSw); go_simp; (try with_reducible rfl))
    (try simp only [Act.put, List.setIfInBounds_toArray, List.set_cons_zero, List.set_cons_succ])
    refine wpAnyH_ready (rs := [1, 3, 4]) (by kernel_rfl) (by simp) ?_
    refine AllReadyH.cons rfl (fun K hK => ?_) (AllReadyH.cons rfl (fun K hK => ?_) (AllReadyH.cons rfl (fun K hK => ?_) AllReadyH.nil))
    · skip
      go_simp
      refine (new_any n hn w0).mono ?_
      rintro e wN ⟨b, gu, gs, rfl, hf, hb⟩
      have zN := hb.size
      have iN : w0.heap.size ≤ b ∧ w0.heap.size ≤ gu ∧ w0.heap.size ≤ gs ∧ b < wN.heap.size ∧ gu < wN.heap.size ∧ gs < wN.heap.size := ⟨hf.b1, hf.u1, hf.s1, hf.b2, hf.u2, hf.s2⟩
      have HF := Lib.hid (hf.rebase (base' := base) (by omega))
      have bN := hb
      clear hf hb
      have BB : Below base w1 wN := BB.trans (bN.mono (by omega))
      clear bN
      refine hK.out _ _ ?_ (fun hHeld => ?_)
      · trivial
      clear hK K
      (try simp only [Act.put, List.setIfInBounds_toArray, List.set_cons_zero, List.set_cons_succ])
      refine wpAnyH_ready (rs := [3, 4]) (by kernel_rfl) (by simp) ?_
      refine AllReadyH.cons rfl (fun K hK => ?_) (AllReadyH.cons rfl (fun K hK => ?_) AllReadyH.nil)
      · skip
        go_simp
        have HB := Lib.hid (Blk.madeN wN n (.bool false) 4 (base := base) (by omega))
        have bB : Below wN.heap.size wN (wN.alloc (.cells (Array.replicate n (.bool false)) 4)) := (Below.refl _ _).alloc (Nat.le_refl _) _
        have zBz : (wN.alloc (.cells (Array.replicate n (.bool false)) 4)).heap.size = wN.heap.size + 1 := by simp
        have zB1 := Nat.le_of_eq zBz
        have zB2 := Nat.le_of_eq zBz.symm
        clear zBz
        generalize wN.alloc (.cells (Array.replicate n (.bool false)) 4) = wB at *
        obtain ⟨gb, hgb⟩ : ∃ g, g = wN.heap.size := ⟨_, rfl⟩
        rw [← hgb] at HB ⊢
        have gB1 := Nat.le_of_eq hgb
        have gB2 := Nat.le_of_eq hgb.symm
        clear hgb
        replace HF := Lib.hid (HF.out.below bB)
        have BB : Below base w1 wB := BB.trans (bB.mono (by omega))
        clear bB
        refine hK.out _ _ ?_ (fun hHeld => ?_)
        · trivial
        clear hK K
        (try simp only [Act.put, List.setIfInBounds_toArray, List.set_cons_zero, List.set_cons_succ])
        refine wpAnyH_ready (rs := [4]) (by kernel_rfl) (by simp) ?_
        refine AllReadyH.cons rfl (fun K hK => ?_) AllReadyH.nil
        · skip
          go_simp
          have HM := Lib.hid (OwnO.made (P := Try.prog) (k := 3) wB)
          have bM : Below wB.heap.size wB (wB.alloc (.map #[] 0)) := (Below.refl _ _).alloc (Nat.le_refl _) _
          have zMz : (wB.alloc (.map #[] 0)).heap.size = wB.heap.size + 1 := by simp
          have zM1 := Nat.le_of_eq zMz
          have zM2 := Nat.le_of_eq zMz.symm
          clear zMz
          generalize wB.alloc (.map #[] 0) = wM at *
          obtain ⟨gm, hgm⟩ : ∃ g, g = wB.heap.size := ⟨_, rfl⟩
          rw [← hgm] at HM ⊢
          have gM1 := Nat.le_of_eq hgm
          have gM2 := Nat.le_of_eq hgm.symm
          clear hgm
          replace HF := Lib.hid (HF.out.below bM)
          replace HB := Lib.hid (HB.out.below bM)
          have BB : Below base w1 wM := BB.trans (bM.mono (by omega))
          clear bM
          refine hK.out _ _ ?_ (fun hHeld => ?_)
          · trivial
          clear hK K
          (try simp only [Act.put, List.setIfInBounds_toArray, List.set_cons_zero, List.set_cons_succ])
          refine wpAnyH_done (by kernel_rfl) ?_ _
          unfold QPre
          simp only [List.drop_succ_cons, List.drop_zero]
          go_wp2
          go_meet
          exact find_key HF.out HB.out HM.out BB hn (by omega) (by omega) (by omega)
      · skip
        go_simp
        have HM := Lib.hid (OwnO.made (P := Try.prog) (k := 3) wN)
        have bM : Below wN.heap.size wN (wN.alloc (.map #[] 0)) := (Below.refl _ _).alloc (Nat.le_refl _) _
        have zMz : (wN.alloc (.map #[] 0)).heap.size = wN.heap.size + 1 := by simp
        have zM1 := Nat.le_of_eq zMz
        have zM2 := Nat.le_of_eq zMz.symm
        clear zMz
        generalize wN.alloc (.map #[] 0) = wM at *
        obtain ⟨gm, hgm⟩ : ∃ g, g = wN.heap.size := ⟨_, rfl⟩
        rw [← hgm] at HM ⊢
        have gM1 := Nat.le_of_eq hgm
        have gM2 := Nat.le_of_eq hgm.symm
        clear hgm
        replace HF := Lib.hid (HF.out.below bM)
        have BB : Below base w1 wM := BB.trans (bM.mono (by omega))
        clear bM
        refine hK.out _ _ ?_ (fun hHeld => ?_)
        · trivial
        clear hK K
        (try simp only [Act.put, List.setIfInBounds_toArray, List.set_cons_zero, List.set_cons_succ])
        refine wpAnyH_ready (rs := [3]) (by kernel_rfl) (by simp) ?_
        refine AllReadyH.cons rfl (fun K hK => ?_) AllReadyH.nil
        · skip
          go_simp
          have HB := Lib.hid (Blk.madeN wM n (.bool false) 4 (base := base) (by omega))
          have bB : Below wM.heap.size wM (wM.alloc (.cells (Array.replicate n (.bool false)) 4)) := (Below.refl _ _).alloc (Nat.le_refl _) _
          have zBz : (wM.alloc (.cells (Array.replicate n (.bool false)) 4)).heap.size = wM.heap.size + 1 := by simp
          have zB1 := Nat.le_of_eq zBz
          have zB2 := Nat.le_of_eq zBz.symm
          clear zBz
          generalize wM.alloc (.cells (Array.replicate n (.bool false)) 4) = wB at *
          obtain ⟨gb, hgb⟩ : ∃ g, g = wM.heap.size := ⟨_, rfl⟩
          rw [← hgb] at HB ⊢
          have gB1 := Nat.le_of_eq hgb
          have gB2 := Nat.le_of_eq hgb.symm
          clear hgb
          replace HF := Lib.hid (HF.out.below bB)
          replace HM := Lib.hid (HM.out.below bB)
          have BB : Below base w1 wB := BB.trans (bB.mono (by omega))
          clear bB
          refine hK.out _ _ ?_ (fun hHeld => ?_)
          · trivial
          clear hK K
          (try simp only [Act.put, List.setIfInBounds_toArray, List.set_cons_zero, List.set_cons_succ])
          refine wpAnyH_done (by kernel_rfl) ?_ _
          unfold QPre
          simp only [List.drop_succ_cons, List.drop_zero]
          go_wp2
          go_meet
          exact find_key HF.out HB.out HM.out BB hn (by omega) (by omega) (by omega)
    · skip
      go_simp
      have HB := Lib.hid (Blk.madeN w0 n (.bool false) 4 (base := base) (by omega))
      have bB : Below w0.heap.size w0 (w0.alloc (.cells (Array.replicate n (.bool false)) 4)) := (Below.refl _ _).alloc (Nat.le_refl _) _
      have zBz : (w0.alloc (.cells (Array.replicate n (.bool false)) 4)).heap.size = w0.heap.size + 1 := by simp
      have zB1 := Nat.le_of_eq zBz
      have zB2 := Nat.le_of_eq zBz.symm
      clear zBz
      generalize w0.alloc (.cells (Array.replicate n (.bool false)) 4) = wB at *
      obtain ⟨gb, hgb⟩ : ∃ g, g = w0.heap.size := ⟨_, rfl⟩
      rw [← hgb] at HB ⊢
      have gB1 := Nat.le_of_eq hgb
      have gB2 := Nat.le_of_eq hgb.symm
      clear hgb
      have BB : Below base w1 wB := BB.trans (bB.mono (by omega))
      clear bB
      refine hK.out _ _ ?_ (fun hHeld => ?_)
      · trivial
      clear hK K
      (try simp only [Act.put, List.setIfInBounds_toArray, List.set_cons_zero, List.set_cons_succ])
      refine wpAnyH_ready (rs := [1, 4]) (by kernel_rfl) (by simp) ?_
      refine AllReadyH.cons rfl (fun K hK => ?_) (AllReadyH.cons rfl (fun K hK => ?_) AllReadyH.nil)
      · skip
        go_simp
        refine (new_any n hn wB).mono ?_
        rintro e wN ⟨b, gu, gs, rfl, hf, hb⟩
        have zN := hb.size
        have iN : wB.heap.size ≤ b ∧ wB.heap.size ≤ gu ∧ wB.heap.size ≤ gs ∧ b < wN.heap.size ∧ gu < wN.heap.size ∧ gs < wN.heap.size := ⟨hf.b1, hf.u1, hf.s1, hf.b2, hf.u2, hf.s2⟩
        have HF := Lib.hid (hf.rebase (base' := base) (by omega))
        have bN := hb
        clear hf hb
        replace HB := Lib.hid (HB.out.below bN)
        have BB : Below base w1 wN := BB.trans (bN.mono (by omega))
        clear bN
        refine hK.out _ _ ?_ (fun hHeld => ?_)
        · trivial
        clear hK K
        (try simp only [Act.put, List.setIfInBounds_toArray, List.set_cons_zero, List.set_cons_succ])
        refine wpAnyH_ready (rs := [4]) (by kernel_rfl) (by simp) ?_
        refine AllReadyH.cons rfl (fun K hK => ?_) AllReadyH.nil
        · skip
          go_simp
          have HM := Lib.hid (OwnO.made (P := Try.prog) (k := 3) wN)
          have bM : Below wN.heap.size wN (wN.alloc (.map #[] 0)) := (Below.refl _ _).alloc (Nat.le_refl _) _
          have zMz : (wN.alloc (.map #[] 0)).heap.size = wN.heap.size + 1 := by simp
          have zM1 := Nat.le_of_eq zMz
          have zM2 := Nat.le_of_eq zMz.symm
          clear zMz
          generalize wN.alloc (.map #[] 0) = wM at *
          obtain ⟨gm, hgm⟩ : ∃ g, g = wN.heap.size := ⟨_, rfl⟩
          rw [← hgm] at HM ⊢
          have gM1 := Nat.le_of_eq hgm
          have gM2 := Nat.le_of_eq hgm.symm
          clear hgm
          replace HB := Lib.hid (HB.out.below bM)
          replace HF := Lib.hid (HF.out.below bM)
          have BB : Below base w1 wM := BB.trans (bM.mono (by omega))
          clear bM
          refine hK.out _ _ ?_ (fun hHeld => ?_)
          · trivial
          clear hK K
          (try simp only [Act.put, List.setIfInBounds_toArray, List.set_cons_zero, List.set_cons_succ])
          refine wpAnyH_done (by kernel_rfl) ?_ _
          unfold QPre
          simp only [List.drop_succ_cons, List.drop_zero]
          go_wp2
          go_meet
          exact find_key HF.out HB.out HM.out BB hn (by omega) (by omega) (by omega)
      · skip
        go_simp
        have HM := Lib.hid (OwnO.made (P := Try.prog) (k := 3) wB)
        have bM : Below wB.heap.size wB (wB.alloc (.map #[] 0)) := (Below.refl _ _).alloc (Nat.le_refl _) _
        have zMz : (wB.alloc (.map #[] 0)).heap.size = wB.heap.size + 1 := by simp
        have zM1 := Nat.le_of_eq zMz
        have zM2 := Nat.le_of_eq zMz.symm
        clear zMz
        generalize wB.alloc (.map #[] 0) = wM at *
        obtain ⟨gm, hgm⟩ : ∃ g, g = wB.heap.size := ⟨_, rfl⟩
        rw [← hgm] at HM ⊢
        have gM1 := Nat.le_of_eq hgm
        have gM2 := Nat.le_of_eq hgm.symm
        clear hgm
        replace HB := Lib.hid (HB.out.below bM)
        have BB : Below base w1 wM := BB.trans (bM.mono (by omega))
        clear bM
        refine hK.out _ _ ?_ (fun hHeld => ?_)
        · trivial
        clear hK K
        (try simp only [Act.put, List.setIfInBounds_toArray, List.set_cons_zero, List.set_cons_succ])
        refine wpAnyH_ready (rs := [1]) (by kernel_rfl) (by simp) ?_
        refine AllReadyH.cons rfl (fun K hK => ?_) AllReadyH.nil
        · skip
          go_simp
          refine (new_any n hn wM).mono ?_
          rintro e wN ⟨b, gu, gs, rfl, hf, hb⟩
          have zN := hb.size
          have iN : wM.heap.size ≤ b ∧ wM.heap.size ≤ gu ∧ wM.heap.size ≤ gs ∧ b < wN.heap.size ∧ gu < wN.heap.size ∧ gs < wN.heap.size := ⟨hf.b1, hf.u1, hf.s1, hf.b2, hf.u2, hf.s2⟩
          have HF := Lib.hid (hf.rebase (base' := base) (by omega))
          have bN := hb
          clear hf hb
          replace HB := Lib.hid (HB.out.below bN)
          replace HM := Lib.hid (HM.out.below bN)
          have BB : Below base w1 wN := BB.trans (bN.mono (by omega))
          clear bN
          refine hK.out _ _ ?_ (fun hHeld => ?_)
          · trivial
          clear hK K
          (try simp only [Act.put, List.setIfInBounds_toArray, List.set_cons_zero, List.set_cons_succ])
          refine wpAnyH_done (by kernel_rfl) ?_ _
          unfold QPre
          simp only [List.drop_succ_cons, List.drop_zero]
          go_wp2
          go_meet
          exact find_key HF.out HB.out HM.out BB hn (by omega) (by omega) (by omega)
    · skip
      go_simp
      have HM := Lib.hid (OwnO.made (P := Try.prog) (k := 3) w0)
      have bM : Below w0.heap.size w0 (w0.alloc (.map #[] 0)) := (Below.refl _ _).alloc (Nat.le_refl _) _
      have zMz : (w0.alloc (.map #[] 0)).heap.size = w0.heap.size + 1 := by simp
      have zM1 := Nat.le_of_eq zMz
      have zM2 := Nat.le_of_eq zMz.symm
      clear zMz
      generalize w0.alloc (.map #[] 0) = wM at *
      obtain ⟨gm, hgm⟩ : ∃ g, g = w0.heap.size := ⟨_, rfl⟩
      rw [← hgm] at HM ⊢
      have gM1 := Nat.le_of_eq hgm
      have gM2 := Nat.le_of_eq hgm.symm
      clear hgm
      have BB : Below base w1 wM := BB.trans (bM.mono (by omega))
      clear bM
      refine hK.out _ _ ?_ (fun hHeld => ?_)
      · trivial
      clear hK K
      (try simp only [Act.put, List.setIfInBounds_toArray, List.set_cons_zero, List.set_cons_succ])
      refine wpAnyH_ready (rs := [1, 3]) (by kernel_rfl) (by simp) ?_
      refine AllReadyH.cons rfl (fun K hK => ?_) (AllReadyH.cons rfl (fun K hK => ?_) AllReadyH.nil)
      · skip
        go_simp
        refine (new_any n hn wM).mono ?_
        rintro e wN ⟨b, gu, gs, rfl, hf, hb⟩
        have zN := hb.size
        have iN : wM.heap.size ≤ b ∧ wM.heap.size ≤ gu ∧ wM.heap.size ≤ gs ∧ b < wN.heap.size ∧ gu < wN.heap.size ∧ gs < wN.heap.size := ⟨hf.b1, hf.u1, hf.s1, hf.b2, hf.u2, hf.s2⟩
        have HF := Lib.hid (hf.rebase (base' := base) (by omega))
        have bN := hb
        clear hf hb
        replace HM := Lib.hid (HM.out.below bN)
        have BB : Below base w1 wN := BB.trans (bN.mono (by omega))
        clear bN
        refine hK.out _ _ ?_ (fun hHeld => ?_)
        · trivial
        clear hK K
        (try simp only [Act.put, List.setIfInBounds_toArray, List.set_cons_zero, List.set_cons_succ])
        refine wpAnyH_ready (rs := [3]) (by kernel_rfl) (by simp) ?_
        refine AllReadyH.cons rfl (fun K hK => ?_) AllReadyH.nil
        · skip
          go_simp
          have HB := Lib.hid (Blk.madeN wN n (.bool false) 4 (base := base) (by omega))
          have bB : Below wN.heap.size wN (wN.alloc (.cells (Array.replicate n (.bool false)) 4)) := (Below.refl _ _).alloc (Nat.le_refl _) _
          have zBz : (wN.alloc (.cells (Array.replicate n (.bool false)) 4)).heap.size = wN.heap.size + 1 := by simp
          have zB1 := Nat.le_of_eq zBz
          have zB2 := Nat.le_of_eq zBz.symm
          clear zBz
          generalize wN.alloc (.cells (Array.replicate n (.bool false)) 4) = wB at *
          obtain ⟨gb, hgb⟩ : ∃ g, g = wN.heap.size := ⟨_, rfl⟩
          rw [← hgb] at HB ⊢
          have gB1 := Nat.le_of_eq hgb
          have gB2 := Nat.le_of_eq hgb.symm
          clear hgb
          replace HM := Lib.hid (HM.out.below bB)
          replace HF := Lib.hid (HF.out.below bB)
          have BB : Below base w1 wB := BB.trans (bB.mono (by omega))
          clear bB
          refine hK.out _ _ ?_ (fun hHeld => ?_)
          · trivial
          clear hK K
          (try simp only [Act.put, List.setIfInBounds_toArray, List.set_cons_zero, List.set_cons_succ])
          refine wpAnyH_done (by kernel_rfl) ?_ _
          unfold QPre
          simp only [List.drop_succ_cons, List.drop_zero]
          go_wp2
          go_meet
          exact find_key HF.out HB.out HM.out BB hn (by omega) (by omega) (by omega)
      · skip
        go_simp
        have HB := Lib.hid (Blk.madeN wM n (.bool false) 4 (base := base) (by omega))
        have bB : Below wM.heap.size wM (wM.alloc (.cells (Array.replicate n (.bool false)) 4)) := (Below.refl _ _).alloc (Nat.le_refl _) _
        have zBz : (wM.alloc (.cells (Array.replicate n (.bool false)) 4)).heap.size = wM.heap.size + 1 := by simp
        have zB1 := Nat.le_of_eq zBz
        have zB2 := Nat.le_of_eq zBz.symm
        clear zBz
        generalize wM.alloc (.cells (Array.replicate n (.bool false)) 4) = wB at *
        obtain ⟨gb, hgb⟩ : ∃ g, g = wM.heap.size := ⟨_, rfl⟩
        rw [← hgb] at HB ⊢
        have gB1 := Nat.le_of_eq hgb
        have gB2 := Nat.le_of_eq hgb.symm
        clear hgb
        replace HM := Lib.hid (HM.out.below bB)
        have BB : Below base w1 wB := BB.trans (bB.mono (by omega))
        clear bB
        refine hK.out _ _ ?_ (fun hHeld => ?_)
        · trivial
        clear hK K
        (try simp only [Act.put, List.setIfInBounds_toArray, List.set_cons_zero, List.set_cons_succ])
        refine wpAnyH_ready (rs := [1]) (by kernel_rfl) (by simp) ?_
        refine AllReadyH.cons rfl (fun K hK => ?_) AllReadyH.nil
        · skip
          go_simp
          refine (new_any n hn wB).mono ?_
          rintro e wN ⟨b, gu, gs, rfl, hf, hb⟩
          have zN := hb.size
          have iN : wB.heap.size ≤ b ∧ wB.heap.size ≤ gu ∧ wB.heap.size ≤ gs ∧ b < wN.heap.size ∧ gu < wN.heap.size ∧ gs < wN.heap.size := ⟨hf.b1, hf.u1, hf.s1, hf.b2, hf.u2, hf.s2⟩
          have HF := Lib.hid (hf.rebase (base' := base) (by omega))
          have bN := hb
          clear hf hb
          replace HM := Lib.hid (HM.out.below bN)
          replace HB := Lib.hid (HB.out.below bN)
          have BB : Below base w1 wN := BB.trans (bN.mono (by omega))
          clear bN
          refine hK.out _ _ ?_ (fun hHeld => ?_)
          · trivial
          clear hK K
          (try simp only [Act.put, List.setIfInBounds_toArray, List.set_cons_zero, List.set_cons_succ])
          refine wpAnyH_done (by kernel_rfl) ?_ _
          unfold QPre
          simp only [List.drop_succ_cons, List.drop_zero]
          go_wp2
          go_meet
          exact find_key HF.out HB.out HM.out BB hn (by omega) (by omega) (by omega)
  case rest =>
    clear hmk hmm
    obtain ⟨F, rfl, FF, BF⟩ := hcut
    have HSB := Lib.hid (show Sub S (Upto base) by rw [HBS.out]; exact HS.out.trans (Sub.upto B1.out.size))
    have RC := Lib.hid (R1.out.go BF.out HSB.out)
    have hXb : X < base := by rw [HBS.out]; exact BX1.out.lt
    have BX2 := Lib.hid (show Blk 0 wc X [.int .i64 k, .int .i64 c, .bool wb, .int .i64 lb, .slice A1 kids.length n1] from
      (BX1.out.below (by rw [HBS.out] at BF; exact BF.out)))
    have x0 := BX2.out.cell 0 _ rfl; have x1 := BX2.out.cell 1 _ rfl; have x2 := BX2.out.cell 2 _ rfl; have x3 := BX2.out.cell 3 _ rfl; have x4 := BX2.out.cell 4 _ rfl
    clear R1 BX1
    go_wp2_with fail
    refine (vtells_all t base n wc F (.slice none 0 0) 0 id (List.replicate n false) s0 (fun _ => true) S _ FF.out (preV0 n) (by rw [HN.out]; omega) RC.out HSB.out).mono ?_
    rintro e w2 ⟨x, vf, rt, bd, rfl, f2, p2, b2, n2⟩
    have HFG := Lib.hid FF.out.ftge
    have B2 := Lib.hid (show Below base wc w2 from b2.below (by have := (FF.out.lt _ F.mem.1); omega) (fun g hg => (HFG.out g hg).1))
    rw [vis_st, Nat.zero_add] at f2
    have F2 := Lib.hid f2
    have BA := Lib.hid (show Below w.heap.size w w2 by
      have h1 := BF.out.trans B2.out
      exact B1.out.trans (h1.mono (by rw [HBS.out]; exact B1.out.size)))
    have hbw : w.heap.size ≤ base := by rw [HBS.out]; exact B1.out.size
    have d4 := F2.out.blk.cell 4 _ rfl
    have d5 := F2.out.blk.cell 5 _ rfl
    have hfl := Lib.hid F2.out.fl
    have FO := Lib.hid F2.out.found
    have hdb := F2.out.blk.ge
    have HNV := Lib.hid (show vf.ownBlock ≠ some F.d from fun e => F2.out.nv _ e F.mem.1)
    clear f2 p2 b2 n2 RC BX2 x0 x1 x2 x3 x4 FF BF HFG B2
    obtain ⟨L, hL⟩ : ∃ L, L = (stS t t.count).found := ⟨_, rfl⟩
    obtain ⟨fs, hfs⟩ : ∃ L, L = (stS t t.count).first := ⟨_, rfl⟩
    have HL := Lib.hid hL
    have HFS := Lib.hid hfs
    rw [← hL] at FO hfl
    rw [← hfs] at d5
    clear hL hfs F2
    have hll : L.length ≤ 1048576 := by have h1 := hfl.out; have h2 := HN.out; omega
    rcases Nat.eq_zero_or_pos L.length with h0 | h0
    · have hLn : L = [] := List.length_eq_zero_iff.1 h0
      have hrd : RdI w2 (Plus Nowhere w.heap.size w2.heap.size) L vf := FO.out.toRd (bytes := 8) Flat.keeps (by omega) (Sub.nowhere _) (fun b h1 h2 => .inr ⟨by omega, h2⟩)
      obtain ⟨A9, c9, rfl, -, hcm, -⟩ := hrd.form
      clear hrd
      rw [h0] at d4
      go_wp2_with fail
      refine (sort_none A9 c9 w2).mono ?_
      rintro e w3 ⟨⟨y, rfl⟩, rfl⟩
      go_wp2
      go_ret
      refine ⟨F.d, _, rfl, d4, by rw [← HFS.out]; exact d5, ?_, BA.out⟩
      rw [← HL.out, hLn, show sortZ [] = [] from by simp [sortZ]]
      exact RdL.nil hcm
    · obtain ⟨g, c9, rfl, hbg, hlc, hcm, hrz, hok⟩ := rowZ_of FO.out h0
      have HRZ := Lib.hid hrz
      have hgd : g ≠ F.d := fun e => HNV.out (by rw [e]; rfl)
      clear hrz
      go_wp2_with fail
      refine (sort_any L g c9 w2 HRZ.out (by omega)).mono ?_
      rintro e w3 ⟨⟨y, rfl⟩, hr3, hb3⟩
      have e4 := hb3.cell (p := ⟨F.d, 4, none⟩) (fun e => hgd e.symm) d4
      have e5 := hb3.cell (p := ⟨F.d, 5, none⟩) (fun e => hgd e.symm) d5
      have HR3 := Lib.hid hr3
      have HB3 := Lib.hid hb3
      clear hr3 hb3 d4 d5
      go_wp2
      go_ret
      refine ⟨F.d, _, rfl, e4, by rw [← HFS.out]; exact e5, ?_, BA.out.trans (HB3.out.below (B := w.heap.size) BA.out.size (fun q hq => by have h : q = g := hq; omega))⟩
      rw [← HL.out]
      have hsl : (sortZ L).length = L.length := sortZ_len L
      have h := HR3.out.rd (c := c9) (by rw [hsl]; exact hlc) hcm (fun x hx => hok x ((sortZ_mem L x).1 hx)) (by rw [hsl]; omega)
      rw [hsl] at h
      have hglt := HR3.out.lt
      exact h.keep Flat.keeps (fun q hq => by have h : q = g := hq; exact .inr ⟨by omega, by omega⟩) (Same.refl _ _)
--(w.alloc (.cells #[.int .i64 k, .int .i64 c, .bool wb, .int .i64 lb, .slice A1 kids.length n1] 26)) = (w.alloc (.cells #[.int .i64 k, .int .i64 c, .bool wb, .int .i64 lb, .slice A1 kids.length n1] 26))
set_option maxHeartbeats 1000000 in
theorem first_any (t : Tm) (w : World) (S : Blocks) (V : Value) (hS : Sub S (Upto w.heap.size)) (r : RdT w S t V) (hl : t.count ≤ 1048576) :
    Calls Try.prog 8 #[V] w fun e w' => e = .returned (.int .i64 (stS t t.count).first) ∧ Below w.heap.size w w' := by
  obtain ⟨k, c, wb, lb, kids, v, et, rfl, h1, h2, h3, h4⟩ := id r
  obtain ⟨A1, n1, rfl, _⟩ := h4.form
  have bel : Below w.heap.size w (w.alloc (.cells #[.int .i64 k, .int .i64 c, .bool wb, .int .i64 lb, .slice A1 kids.length n1] 26)) := (Below.refl _ _).alloc (Nat.le_refl _) _
  have BEL := Lib.hid bel
  have RA := Lib.hid (r.go bel hS)
  have HS := Lib.hid (hS.trans (Sub.upto bel.size))
  have BX := Lib.hid (Blk.made w [.int .i64 k, .int .i64 c, .bool wb, .int .i64 lb, .slice A1 kids.length n1] 26 (base := 0) (Nat.zero_le _))
  unfold tmV
  clear h4 bel r et h1 h2 h3 hS
  go_enter Try.func8, Try.ntmps8
  go_upto_region 1 with (fail)
  generalize (w.alloc (.cells #[.int .i64 k, .int .i64 c, .bool wb, .int .i64 lb, .slice A1 kids.length n1] 26)) = W at *
  have x0 := BX.out.cell 0 _ rfl; have x1 := BX.out.cell 1 _ rfl; have x2 := BX.out.cell 2 _ rfl; have x3 := BX.out.cell 3 _ rfl; have x4 := BX.out.cell 4 _ rfl
  go_wp2_with fail
  refine (find_any t W S _ HS.out RA.out hl).mono ?_
  rintro e w1 ⟨d, vf, rfl, d4, d5, -, hb⟩
  have HB := Lib.hid (BEL.out.trans (hb.mono BEL.out.size))
  clear hb x0 x1 x2 x3 x4 BX RA
  go_wp2
  go_ret
  exact ⟨rfl, HB.out⟩
set_option maxHeartbeats 1000000 in
theorem bcells_any (t : Tm) (w : World) (S : Blocks) (V : Value) (hS : Sub S (Upto w.heap.size)) (r : RdT w S t V) (hl : t.count ≤ 1048576) :
    Calls Try.prog 10 #[V] w fun e w' => ∃ x, e = .returned x ∧ RdI w' (Plus Nowhere w.heap.size w'.heap.size) (sortZ (stS t t.count).found) x ∧ Below w.heap.size w w' := by
  obtain ⟨k, c, wb, lb, kids, v, et, rfl, h1, h2, h3, h4⟩ := id r
  obtain ⟨A1, n1, rfl, _⟩ := h4.form
  have bel : Below w.heap.size w (w.alloc (.cells #[.int .i64 k, .int .i64 c, .bool wb, .int .i64 lb, .slice A1 kids.length n1] 26)) := (Below.refl _ _).alloc (Nat.le_refl _) _
  have BEL := Lib.hid bel
  have RA := Lib.hid (r.go bel hS)
  have HS := Lib.hid (hS.trans (Sub.upto bel.size))
  have BX := Lib.hid (Blk.made w [.int .i64 k, .int .i64 c, .bool wb, .int .i64 lb, .slice A1 kids.length n1] 26 (base := 0) (Nat.zero_le _))
  unfold tmV
  clear h4 bel r et h1 h2 h3 hS
  go_enter Try.func10, Try.ntmps10
  go_upto_region 1 with (fail)
  generalize (w.alloc (.cells #[.int .i64 k, .int .i64 c, .bool wb, .int .i64 lb, .slice A1 kids.length n1] 26)) = W at *
  have x0 := BX.out.cell 0 _ rfl; have x1 := BX.out.cell 1 _ rfl; have x2 := BX.out.cell 2 _ rfl; have x3 := BX.out.cell 3 _ rfl; have x4 := BX.out.cell 4 _ rfl
  go_wp2_with fail
  refine (find_any t W S _ HS.out RA.out hl).mono ?_
  rintro e w1 ⟨d, vf, rfl, d4, d5, hr, hb⟩
  have HB := Lib.hid (BEL.out.trans (hb.mono BEL.out.size))
  have HR := Lib.hid (show RdI w1 (Plus Nowhere w.heap.size w1.heap.size) (sortZ (stS t t.count).found) vf from hr.keep Flat.keeps (fun q hq => hq.elim (fun h => h.elim) (fun h => .inr ⟨by have := BEL.out.size; omega, h.2⟩)) (Same.refl _ _))
  obtain ⟨A9, c9, rfl, -⟩ := hr.form
  clear hb hr x0 x1 x2 x3 x4 BX RA
  go_wp2
  go_ret
  exact ⟨_, rfl, HR.out, HB.out⟩
end Go.Proofs.Ytfldajplclahfaa
