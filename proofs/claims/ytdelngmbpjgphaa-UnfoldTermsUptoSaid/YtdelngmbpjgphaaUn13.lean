/- The walk of the builder's block, at a list with a first one. -/
import Derived.Test.YtdelngmbpjgphaaUn11
import Derived.Deep.CutBlock
namespace Go.Proofs.Ytdelngmbpjgphaa
open Go.RowKit
set_option linter.unusedVariables false
theorem Blk.al' {base : Nat} {w : World} {b : Nat} {vs : List Value} (h : Blk base w b vs) (o : Obj) : Blk base (w.alloc o) b vs := h.below ((Below.refl _ _).alloc (Nat.le_refl _) o)
theorem Kept.setB {W w w2 : World} {y : Nat} (h : Kept W w) (hy : W.heap.size ≤ y) (hb : But (Is y) w w2) : Kept W w2 := ⟨h.below.trans (hb.below h.below.size (fun k e => by have e : k = y := e; omega))⟩
set_option maxHeartbeats 16000000 in
set_option maxRecDepth 100000 in
theorem pbu_cons (F : Nat) (k : Int) (s : ByteArray) (a b : Ex) (body els rest : List St) (hrest : PBu F rest) (hbody : PBu F body) (hels : PBu F els) (hlp : PLu F s a b body els) : PBu F (.mk k s a b body els :: rest) := by
  intro base w d m env lab S v ve tv kk hat hbd hS r hfx hel hth hlab hwl res hres
  obtain ⟨A, cap, rfl, hl, hcm, hby⟩ := r.form
  obtain ⟨Ae, ce, rfl, hce1, hce2⟩ := hfx.form
  have hth0 := hth
  obtain ⟨KK, caps, rfl, -⟩ := hth
  unfold maxLen at hcm
  obtain ⟨b0, off, cs, rfl, hb, hcl, hcell, hrd⟩ := r.at_ (q := 0) (by simp)
  simp only [List.getElem_cons_zero] at hrd
  have hdw := HtAt.lt hat.1
  have hbw : base ≤ w.heap.size := by omega
  have hsu : Sub S (Upto w.heap.size) := hS.trans (Sub.upto hbw)
  have hb : b0 < w.heap.size := hsu _ hb
  have hrs := hrd
  obtain ⟨k1, n1, s1, A1, m1, p1, k2, n2, s2, A2, m2, p2, A3, p3, A4, p4, rfl, hk, hs, ra, rb, rv, rv'⟩ := hrd.cells
  have hln : (St.mk k s a b body els :: rest).length = rest.length + 1 := rfl
  rw [hln] at hl r ⊢
  rw [labelsL] at hlab
  rw [St.wts, St.wt] at hwl
  have hlab1 : labelsL [St.mk k s a b body els] = labelsS (.mk k s a b body els) := by simp [labelsL]
  have hx0 : St.wts rest ≤ 1048576 := by omega
  have hx3 : St.wts body ≤ 1048576 := by omega
  have hx4 : St.wts els ≤ 1048576 := by omega
  have hw1 : St.wts [St.mk k s a b body els] ≤ 1048576 := by
    have h2 : St.wts [St.mk k s a b body els] = St.wt (.mk k s a b body els) := by simp [St.wts]
    rw [St.wt] at h2
    omega
  have bel : Below w.heap.size w ((((w.alloc (.cells #[.pointer (some ⟨d, 0, none⟩)] 79)).alloc (.cells #[.slice (some ⟨b0, off, none⟩) (rest.length + 1) cap] 36)).alloc (.cells #[.func (.func KK) #[] caps] 107)).alloc (.cells #[.int .i64 0, .int .i64 0, .bool false, .int .i64 0, .slice none 0 0] 26)) := ((((Below.refl _ _).alloc (Nat.le_refl _) _).alloc (by simp) _).alloc (by simp; omega) _).alloc (by simp; omega) _
  have BB := Lib.hid (show Blk base ((((w.alloc (.cells #[.pointer (some ⟨d, 0, none⟩)] 79)).alloc (.cells #[.slice (some ⟨b0, off, none⟩) (rest.length + 1) cap] 36)).alloc (.cells #[.func (.func KK) #[] caps] 107)).alloc (.cells #[.int .i64 0, .int .i64 0, .bool false, .int .i64 0, .slice none 0 0] 26)) w.heap.size [.pointer (some ⟨d, 0, none⟩)] from (((Blk.made w [.pointer (some ⟨d, 0, none⟩)] 79 hbw).al' _).al' _).al' _)
  have BL := Lib.hid (show Blk base ((((w.alloc (.cells #[.pointer (some ⟨d, 0, none⟩)] 79)).alloc (.cells #[.slice (some ⟨b0, off, none⟩) (rest.length + 1) cap] 36)).alloc (.cells #[.func (.func KK) #[] caps] 107)).alloc (.cells #[.int .i64 0, .int .i64 0, .bool false, .int .i64 0, .slice none 0 0] 26)) (w.heap.size + 1) [.slice (some ⟨b0, off, none⟩) (rest.length + 1) cap] from by
    have h := ((Blk.made (w.alloc (.cells #[.pointer (some ⟨d, 0, none⟩)] 79)) [.slice (some ⟨b0, off, none⟩) (rest.length + 1) cap] 36 (base := base) (by simp; omega)).al' (.cells #[.func (.func KK) #[] caps] 107)).al' (.cells #[.int .i64 0, .int .i64 0, .bool false, .int .i64 0, .slice none 0 0] 26)
    rw [show ((w.alloc (.cells #[.pointer (some ⟨d, 0, none⟩)] 79))).heap.size = w.heap.size + 1 from by simp] at h; exact h)
  have BT := Lib.hid (show Blk base ((((w.alloc (.cells #[.pointer (some ⟨d, 0, none⟩)] 79)).alloc (.cells #[.slice (some ⟨b0, off, none⟩) (rest.length + 1) cap] 36)).alloc (.cells #[.func (.func KK) #[] caps] 107)).alloc (.cells #[.int .i64 0, .int .i64 0, .bool false, .int .i64 0, .slice none 0 0] 26)) (w.heap.size + 2) [.func (.func KK) #[] caps] from by
    have h := (Blk.made (((w.alloc (.cells #[.pointer (some ⟨d, 0, none⟩)] 79))).alloc (.cells #[.slice (some ⟨b0, off, none⟩) (rest.length + 1) cap] 36)) [.func (.func KK) #[] caps] 107 (base := base) (by simp; omega)).al' (.cells #[.int .i64 0, .int .i64 0, .bool false, .int .i64 0, .slice none 0 0] 26)
    rw [show ((((w.alloc (.cells #[.pointer (some ⟨d, 0, none⟩)] 79))).alloc (.cells #[.slice (some ⟨b0, off, none⟩) (rest.length + 1) cap] 36))).heap.size = w.heap.size + 2 from by simp] at h; exact h)
  have BG := Lib.hid (show Blk base ((((w.alloc (.cells #[.pointer (some ⟨d, 0, none⟩)] 79)).alloc (.cells #[.slice (some ⟨b0, off, none⟩) (rest.length + 1) cap] 36)).alloc (.cells #[.func (.func KK) #[] caps] 107)).alloc (.cells #[.int .i64 0, .int .i64 0, .bool false, .int .i64 0, .slice none 0 0] 26)) (w.heap.size + 3) [.int .i64 0, .int .i64 0, .bool false, .int .i64 0, .slice none 0 0] from by
    have h := Blk.made (((((w.alloc (.cells #[.pointer (some ⟨d, 0, none⟩)] 79))).alloc (.cells #[.slice (some ⟨b0, off, none⟩) (rest.length + 1) cap] 36))).alloc (.cells #[.func (.func KK) #[] caps] 107)) [.int .i64 0, .int .i64 0, .bool false, .int .i64 0, .slice none 0 0] 26 (base := base) (by simp; omega)
    rw [show ((((((w.alloc (.cells #[.pointer (some ⟨d, 0, none⟩)] 79))).alloc (.cells #[.slice (some ⟨b0, off, none⟩) (rest.length + 1) cap] 36))).alloc (.cells #[.func (.func KK) #[] caps] 107))).heap.size = w.heap.size + 3 from by simp] at h; exact h)
  have R0 := Lib.hid (r.go RdSt.keeps bel hsu (Sub.refl _))
  have RST := Lib.hid (RdSt.keeps _ _ _ _ _ _ (Sub.refl _) (same_of_below bel hsu) hrs)
  have RA := Lib.hid ((RdEx.toE ra).go bel hsu)
  have RB := Lib.hid ((RdEx.toE rb).go bel hsu)
  have R1 := Lib.hid (rv.go RdSt.keeps bel hsu (Sub.refl _))
  have R2 := Lib.hid (rv'.go RdSt.keeps bel hsu (Sub.refl _))
  have HFX := Lib.hid (hfx.below bel)
  have HTH := Lib.hid (hth0.below bel (Nat.le_refl _))
  have HAT := Lib.hid (hat.below bel)
  have HBEL := Lib.hid bel
  have HS := Lib.hid hS
  have HRES := Lib.hid hres
  have HRE := Lib.hid hrest
  have HBO := Lib.hid hbody
  have HEL := Lib.hid hels
  have HLP := Lib.hid hlp
  have hce := fun (j : Nat) (v : Value) h => (bel.cell (show (⟨b0, off + (0 * 12 + j), none⟩ : Addr).block < w.heap.size from hb)).trans (hcell j v h)
  have hbW : b0 < (((((w.alloc (.cells #[.pointer (some ⟨d, 0, none⟩)] 79)).alloc (.cells #[.slice (some ⟨b0, off, none⟩) (rest.length + 1) cap] 36)).alloc (.cells #[.func (.func KK) #[] caps] 107)).alloc (.cells #[.int .i64 0, .int .i64 0, .bool false, .int .i64 0, .slice none 0 0] 26))).heap.size := Nat.lt_of_lt_of_le hb bel.size
  have en : (((rest.length + 1 : Nat) : Int) == 0) = false := by simp; omega
  have en2 : ((rest.length : Int) + 1 == 0) = false := by simp; omega
  have hn1 : (1 : Int) ≤ (rest.length : Int) + 1 := by omega
  have hn2 : (1 : Int) ≤ (cap : Int) := by omega
  have hlz : w.heap.size + 4 = (((((w.alloc (.cells #[.pointer (some ⟨d, 0, none⟩)] 79)).alloc (.cells #[.slice (some ⟨b0, off, none⟩) (rest.length + 1) cap] 36)).alloc (.cells #[.func (.func KK) #[] caps] 107)).alloc (.cells #[.int .i64 0, .int .i64 0, .bool false, .int .i64 0, .slice none 0 0] 26))).heap.size := by simp
  have HBD := Lib.hid hbd
  clear hat hbd hfx hth0 hrest hbody hels hlp hres r hrd hrs ra rb rv rv' bel hcell hcl hsu hb
  go_enter Try.func26, Try.ntmps26
  go_upto_region 3 with (fail)
  generalize ((((w.alloc (.cells #[.pointer (some ⟨d, 0, none⟩)] 79)).alloc (.cells #[.slice (some ⟨b0, off, none⟩) (rest.length + 1) cap] 36)).alloc (.cells #[.func (.func KK) #[] caps] 107)).alloc (.cells #[.int .i64 0, .int .i64 0, .bool false, .int .i64 0, .slice none 0 0] 26)) = W at *
  have e0 : W.cell? ⟨b0, off, none⟩ = some _ := hce 0 _ rfl
  have e1 : W.cell? ⟨b0, off + 1, none⟩ = some _ := hce 1 _ rfl; have e2 : W.cell? ⟨b0, off + 2, none⟩ = some _ := hce 2 _ rfl; have e3 : W.cell? ⟨b0, off + 3, none⟩ = some _ := hce 3 _ rfl; have e4 : W.cell? ⟨b0, off + 4, none⟩ = some _ := hce 4 _ rfl; have e5 : W.cell? ⟨b0, off + 5, none⟩ = some _ := hce 5 _ rfl; have e6 : W.cell? ⟨b0, off + 6, none⟩ = some _ := hce 6 _ rfl; have e7 : W.cell? ⟨b0, off + 7, none⟩ = some _ := hce 7 _ rfl; have e8 : W.cell? ⟨b0, off + 8, none⟩ = some _ := hce 8 _ rfl; have e9 : W.cell? ⟨b0, off + 9, none⟩ = some _ := hce 9 _ rfl; have e10 : W.cell? ⟨b0, off + 10, none⟩ = some _ := hce 10 _ rfl; have e11 : W.cell? ⟨b0, off + 11, none⟩ = some _ := hce 11 _ rfl
  obtain ⟨g, hg⟩ : ∃ g, g = w.heap.size := ⟨_, rfl⟩
  rw [← hg] at BB BL BT BG
  rw [← hg]
  have HG0 := Lib.hid (show w.heap.size ≤ g from Nat.le_of_eq hg.symm)
  have hzW : W.heap.size = g + 4 := by rw [hg]; exact hlz.symm
  have hgW : g + 1 + 1 + 1 < W.heap.size := by omega
  have hgd : ¬ Is d (g + 1 + 1 + 1) := fun e => by have e : g + 1 + 1 + 1 = d := e; omega
  have hgw : w.heap.size ≤ g + 1 + 1 + 1 := by omega
  have HBWW := Lib.hid (show base ≤ W.heap.size by omega)
  have HLW := Lib.hid (show labelsL [St.mk k s a b body els] = labelsS (.mk k s a b body els) from hlab1)
  have HLB := Lib.hid (show ∀ wc, Stay W wc → Calls Try.prog 38 #[.slice (some ⟨b0, off, none⟩) 1 cap] wc fun e w' => e = .returned (vI (labelsL [St.mk k s a b body els] : Int)) ∧ Below wc.heap.size wc w' from fun wc h =>
    (labs_all _ [St.mk k s a b body els] (Nat.le_refl _)).1 wc S _ (HS.out.trans (Sub.upto (Nat.le_trans HBWW.out h.size))) (RdL.take (m := 1) (R0.out.keep RdSt.keeps (Sub.refl _) (Same.sub h.same (HS.out.trans (Sub.upto HBWW.out)))) (by simp)) hw1)
  have HKB : ∀ {z : Nat} {w2 : World} {u : Value}, Kept W w2 → W.heap.size ≤ z → Below W.heap.size W (w2.setCell ⟨z, 0, none⟩ u) := fun hk hz => hk.below.setCell (p := ⟨_, 0, none⟩) hz _
  have HEND := Lib.hid (show ∀ (y z : Nat) (w2 : World), Blk base w2 y [.int .i64 k, .string s, .int .i64 k1, .int .i64 n1, .string s1, .slice A1 m1 p1, .int .i64 k2, .int .i64 n2, .string s2, .slice A2 m2 p2, .slice A3 body.length p3, .slice A4 els.length p4] → Blk base w2 z [.int .i64 0] → W.heap.size ≤ y → W.heap.size ≤ z → ¬ Is y z → Kept W w2 → ∃ y' z', Value.pointer (some ⟨y, 0, none⟩) = .pointer (some ⟨y', 0, none⟩) ∧ Value.pointer (some ⟨z, 0, none⟩) = .pointer (some ⟨z', 0, none⟩) ∧ Hid (SUb base d F S g y' z' [.int .i64 k, .string s, .int .i64 k1, .int .i64 n1, .string s1, .slice A1 m1 p1, .int .i64 k2, .int .i64 n2, .string s2, .slice A2 m2 p2, .slice A3 body.length p3, .slice A4 els.length p4] (.mk k s a b body els) a b (exV k1 n1 s1 (.slice A1 m1 p1)) (exV k2 n2 s2 (.slice A2 m2 p2)) body els (.slice A3 body.length p3) (.slice A4 els.length p4) rest (some ⟨b0, off, none⟩) cap env (.slice Ae env.length ce) (lab + labelsL [St.mk k s a b body els]) (.func (.func KK) #[] caps) kk m.st w (w2.setCell ⟨z, 0, none⟩ (.int .i64 ((lab : Int) + (labelsL [St.mk k s a b body els] : Int))))) ∧ Hid (BdAt (w2.setCell ⟨z, 0, none⟩ (.int .i64 ((lab : Int) + (labelsL [St.mk k s a b body els] : Int)))) d F m) from
    fun y z w2 hy hz hyw hzw hyz hk => ⟨y, z, rfl, rfl, Lib.hid (by
      rw [show Value.int .i64 ((lab : Int) + (labelsL [St.mk k s a b body els] : Int)) = vI ((lab + labelsL [St.mk k s a b body els] : Nat) : Int) from by rw [Int.natCast_add]]
      have hb0 := hk.below
      have bz : But (Is z) w2 (w2.setCell ⟨z, 0, none⟩ (vI ((lab + labelsL [St.mk k s a b body els] : Nat) : Int))) := (But.refl _ _).setCell (p := ⟨z, 0, none⟩) (show Is z z from rfl) _
      have hb : Below W.heap.size W (w2.setCell ⟨z, 0, none⟩ (vI ((lab + labelsL [St.mk k s a b body els] : Nat) : Int))) := hb0.setCell (p := ⟨z, 0, none⟩) hzw _
      have hzz := hb0.size
      have hsW := HS.out.trans (Sub.upto HBWW.out)
      have hy2 := hy.but bz (fun e => hyz (by have e : y = z := e; exact e.symm))
      have hz2 := hz.set (i := 0) (by simp) (vI ((lab + labelsL [St.mk k s a b body els] : Nat) : Int))
      have hww := HBEL.out.size
      exact ⟨⟨hy2, RA.out.go hb hsW, RB.out.go hb hsW, R1.out.go RdSt.keeps hb hsW (Sub.refl _), R2.out.go RdSt.keeps hb hsW (Sub.refl _)⟩, BB.out.below hb, BL.out.below hb, BT.out.below hb, BG.out.below hb, hz2, R0.out.go RdSt.keeps hb hsW (Sub.refl _), HFX.out.below hb, HTH.out.below hb (Nat.le_refl _),
        But.of_below (HBEL.out.trans (hb.mono hww)), hdw, HBD.out, HG0.out, by omega, by omega, HS.out, hel, by omega, hx0⟩), Lib.hid (HAT.out.below (HKB hk hzw))⟩)
  have kl : W.cell? ⟨g + 1, 0, none⟩ = _ := BL.out.cell 0 _ rfl
  have hb8 : lab + labelsS (.mk k s a b body els) + labelsL rest ≤ 1048576 := by omega
  have hg1 : g + 1 < W.heap.size := by omega
  have hwl1 := i64_2 (show lab + labelsL [St.mk k s a b body els] ≤ 1048577 by omega)
  have hwl2 := w64_2 (show lab + labelsL [St.mk k s a b body els] ≤ 1048577 by omega)
  clear hln hlab1 hzW hlz hg
  clear HKB
  go_cut [11, 12] (fun x11 x12 wx => ∃ y z, x11 = .pointer (some ⟨y, 0, none⟩) ∧ x12 = .pointer (some ⟨z, 0, none⟩) ∧ Hid (SUb base d F S g y z [.int .i64 k, .string s, .int .i64 k1, .int .i64 n1, .string s1, .slice A1 m1 p1, .int .i64 k2, .int .i64 n2, .string s2, .slice A2 m2 p2, .slice A3 body.length p3, .slice A4 els.length p4] (.mk k s a b body els) a b (exV k1 n1 s1 (.slice A1 m1 p1)) (exV k2 n2 s2 (.slice A2 m2 p2)) body els (.slice A3 body.length p3) (.slice A4 els.length p4) rest (some ⟨b0, off, none⟩) cap env (.slice Ae env.length ce) (lab + labelsL [St.mk k s a b body els]) (.func (.func KK) #[] caps) kk m.st w wx) ∧ Hid (BdAt wx d F m))
  case first =>
    skip
    refine wp_region_pre 11 (S := (fun w' => Stay W w')) (by kernel_rfl) (by kernel_rfl) (Stay.mk (Kept.start _)) (fun hHeld => ?_)
    simp only [List.take_succ_cons, List.take_zero]
    have hst : Stay W W.drew := hHeld
    refine wpAnyH_take_at (i := 0) (v := ?_) (some 24) rfl rfl (by kernel_rfl) (by kernel_rfl) (by kernel_rfl) (fun _ _ _ h => h) (Or.inl ⟨by rfl, ?_⟩) (by assumption) ?_
    rotate_left
    · (intro w hSw; (try dsimp only at hSw); go_simp; (try with_reducible rfl))
    (try simp only [Act.put, List.setIfInBounds_toArray, List.set_cons_zero, List.set_cons_succ])
    refine wpAnyH_take_at (i := 1) (v := ?_) (some 25) rfl rfl (by kernel_rfl) (by kernel_rfl) (by kernel_rfl) (fun _ _ _ h => h) (Or.inl ⟨by rfl, ?_⟩) (by assumption) ?_
    rotate_left
    · (intro w hSw; (try dsimp only at hSw); go_simp; (try with_reducible rfl))
    (try simp only [Act.put, List.setIfInBounds_toArray, List.set_cons_zero, List.set_cons_succ])
    refine wpAnyH_take_at (i := 2) (v := ?_) (some 26) rfl rfl (by kernel_rfl) (by kernel_rfl) (by kernel_rfl) (fun _ _ _ h => h) (Or.inl ⟨by rfl, ?_⟩) (by assumption) ?_
    rotate_left
    · (intro w hSw; (try dsimp only at hSw); go_simp; (try with_reducible rfl))
    (try simp only [Act.put, List.setIfInBounds_toArray, List.set_cons_zero, List.set_cons_succ])
    refine wpAnyH_take_at (i := 3) (v := ?_) (some 27) rfl rfl (by kernel_rfl) (by kernel_rfl) (by kernel_rfl) (fun _ _ _ h => h) (Or.inl ⟨by rfl, ?_⟩) (by assumption) ?_
    rotate_left
    · (intro w hSw; (try dsimp only at hSw); go_simp; (try with_reducible rfl))
    (try simp only [Act.put, List.setIfInBounds_toArray, List.set_cons_zero, List.set_cons_succ])
    refine wpAnyH_take_at (i := 4) (v := ?_) (some 28) rfl rfl (by kernel_rfl) (by kernel_rfl) (by kernel_rfl) (fun _ _ _ h => h) (Or.inl ⟨by rfl, ?_⟩) (by assumption) ?_
    rotate_left
    · (intro w hSw; (try dsimp only at hSw); go_simp; (try with_reducible rfl))
    (try simp only [Act.put, List.setIfInBounds_toArray, List.set_cons_zero, List.set_cons_succ])
    refine wpAnyH_take_at (i := 5) (v := ?_) (some 29) rfl rfl (by kernel_rfl) (by kernel_rfl) (by kernel_rfl) (fun _ _ _ h => h) (Or.inl ⟨by rfl, ?_⟩) (by assumption) ?_
    rotate_left
    · (intro w hSw; (try dsimp only at hSw); go_simp; (try with_reducible rfl))
    (try simp only [Act.put, List.setIfInBounds_toArray, List.set_cons_zero, List.set_cons_succ])
    refine wpAnyH_ready (rs := [6, 8, 9]) (by kernel_rfl) (by simp) ?_
    refine AllReadyH.cons rfl (fun K hK => ?_) (AllReadyH.cons rfl (fun K hK => ?_) (AllReadyH.cons rfl (fun K hK => ?_) AllReadyH.nil))
    · skip
      go_simp
      refine (HLB.out _ hst).mono ?_
      rintro e wl ⟨rfl, hb⟩
      have hst2 := Stay.step hb hst
      refine hK.out _ _ ?_ (fun hHeld => ?_)
      · exact hst2
      clear hK K
      (try simp only [Act.put, List.setIfInBounds_toArray, List.set_cons_zero, List.set_cons_succ])
      clear hst hb
      have hst := hst2
      clear hst2
      refine wpAnyH_take_at (i := 7) (v := ?_) (some 31) rfl rfl (by kernel_rfl) (by kernel_rfl) (by kernel_rfl) (fun _ _ _ h => h) (Or.inl ⟨by rfl, ?_⟩) (by assumption) ?_
      rotate_left
      · (intro w hSw; (try dsimp only at hSw); go_simp; (try with_reducible rfl))
      (try simp only [Act.put, List.setIfInBounds_toArray, List.set_cons_zero, List.set_cons_succ])
      refine wpAnyH_ready (rs := [8, 9]) (by kernel_rfl) (by simp) ?_
      refine AllReadyH.cons rfl (fun K hK => ?_) (AllReadyH.cons rfl (fun K hK => ?_) AllReadyH.nil)
      · skip
        go_simp
        have hsz : W.heap.size ≤ wl.heap.size := by first | exact Stay.size hst | (have h := Stay.size hst; rw [show (wl).heap.size = wl.heap.size from by first | rfl | simp] at h; exact h)
        have HY := Lib.hid (show Blk base (wl.alloc (.cells #[.int .i64 0, .string .empty, .int .i64 0, .int .i64 0, .string .empty, .slice none 0 0, .int .i64 0, .int .i64 0, .string .empty, .slice none 0 0, .slice none 0 0, .slice none 0 0] 112)) (wl.heap.size) [.int .i64 0, .string .empty, .int .i64 0, .int .i64 0, .string .empty, .slice none 0 0, .int .i64 0, .int .i64 0, .string .empty, .slice none 0 0, .slice none 0 0, .slice none 0 0] from by have h := Blk.made (wl) [.int .i64 0, .string .empty, .int .i64 0, .int .i64 0, .string .empty, .slice none 0 0, .int .i64 0, .int .i64 0, .string .empty, .slice none 0 0, .slice none 0 0, .slice none 0 0] 112 (base := base) (Nat.le_trans HBWW.out (Stay.size hst)); rw [show (wl).heap.size = wl.heap.size from by first | rfl | simp] at h; exact h)
        have HYW := Lib.hid hsz
        have hst2 := Stay.mk (Kept.alloc (Kept.here hst) (.cells #[.int .i64 0, .string .empty, .int .i64 0, .int .i64 0, .string .empty, .slice none 0 0, .int .i64 0, .int .i64 0, .string .empty, .slice none 0 0, .slice none 0 0, .slice none 0 0] 112))
        refine hK.out _ _ ?_ (fun hHeld => ?_)
        · exact hst2
        clear hK K
        (try simp only [Act.put, List.setIfInBounds_toArray, List.set_cons_zero, List.set_cons_succ])
        clear hst hsz
        have hst := hst2
        clear hst2
        refine wpAnyH_ready (rs := [9]) (by kernel_rfl) (by simp) ?_
        refine AllReadyH.cons rfl (fun K hK => ?_) AllReadyH.nil
        · skip
          go_simp
          have hsz : W.heap.size ≤ wl.heap.size + 1 := by first | exact Stay.size hst | (have h := Stay.size hst; rw [show ((wl.alloc (.cells #[.int .i64 0, .string .empty, .int .i64 0, .int .i64 0, .string .empty, .slice none 0 0, .int .i64 0, .int .i64 0, .string .empty, .slice none 0 0, .slice none 0 0, .slice none 0 0] 112))).heap.size = wl.heap.size + 1 from by first | rfl | simp] at h; exact h)
          have HZ := Lib.hid (show Blk base ((wl.alloc (.cells #[.int .i64 0, .string .empty, .int .i64 0, .int .i64 0, .string .empty, .slice none 0 0, .int .i64 0, .int .i64 0, .string .empty, .slice none 0 0, .slice none 0 0, .slice none 0 0] 112)).alloc (.cells #[.int .i64 0] 3)) (wl.heap.size + 1) [.int .i64 0] from by have h := Blk.made ((wl.alloc (.cells #[.int .i64 0, .string .empty, .int .i64 0, .int .i64 0, .string .empty, .slice none 0 0, .int .i64 0, .int .i64 0, .string .empty, .slice none 0 0, .slice none 0 0, .slice none 0 0] 112))) [.int .i64 0] 3 (base := base) (Nat.le_trans HBWW.out (Stay.size hst)); rw [show ((wl.alloc (.cells #[.int .i64 0, .string .empty, .int .i64 0, .int .i64 0, .string .empty, .slice none 0 0, .int .i64 0, .int .i64 0, .string .empty, .slice none 0 0, .slice none 0 0, .slice none 0 0] 112))).heap.size = wl.heap.size + 1 from by first | rfl | simp] at h; exact h)
          have HZW := Lib.hid hsz
          have hst2 := Stay.mk (Kept.alloc (Kept.here hst) (.cells #[.int .i64 0] 3))
          have HYZ := Lib.hid (show ¬ Is (wl.heap.size) (wl.heap.size + 1) from fun e => by have e : wl.heap.size + 1 = wl.heap.size := e; have h := HY.out.lt; rw [show ((wl.alloc (.cells #[.int .i64 0, .string .empty, .int .i64 0, .int .i64 0, .string .empty, .slice none 0 0, .int .i64 0, .int .i64 0, .string .empty, .slice none 0 0, .slice none 0 0, .slice none 0 0] 112))).heap.size = wl.heap.size + 1 from by first | rfl | simp] at h; omega)
          have HY2 := Lib.hid (HY.out.al' (.cells #[.int .i64 0] 3))
          clear HY
          have HY := HY2
          clear HY2
          refine hK.out _ _ ?_ (fun hHeld => ?_)
          · exact hst2
          clear hK K
          (try simp only [Act.put, List.setIfInBounds_toArray, List.set_cons_zero, List.set_cons_succ])
          clear hst hsz
          have hst := hst2
          clear hst2
          refine wpAnyH_ready (rs := [10]) (by kernel_rfl) (by simp) ?_
          refine AllReadyH.cons rfl (fun K hK => ?_) AllReadyH.nil
          rw [if_pos (by rfl)]
          obtain ⟨hr1, hr2, hr3⟩ := storeAt_blk (P := Try.prog) (ty := 112) (cs := [.int .i64 k, .string s, .int .i64 k1, .int .i64 n1, .string s1, .slice A1 m1 p1, .int .i64 k2, .int .i64 n2, .string s2, .slice A2 m2 p2, .slice A3 body.length p3, .slice A4 els.length p4]) HY.out rfl (by kernel_rfl) (by simp [Value.oneCell'])
          have HKS := Lib.hid (Kept.setB (W := W) (Kept.here hst) HYW.out hr3)
          refine wp_store_run 112 (.tmp 11) (.tmp 26) rfl _ _ rfl rfl hr1 ?_
          refine hK.out _ _ ?_ (fun hHeld => ?_)
          · exact Stay.mk HKS.out
          clear hK K
          (try simp only [Act.put, List.setIfInBounds_toArray])
          have HZ2 := Lib.hid (HZ.out.but hr3 HYZ.out)
          have HY2 := Lib.hid hr2
          clear hr1 hr2 hr3 hst HY HZ
          refine wpAnyH_done (by kernel_rfl) ?_ _
          unfold QPre
          simp only [List.drop_succ_cons, List.drop_zero]
          have cz := HZ2.out.cell 0 _ rfl
          have fz := HZ2.out.fr 0
          go_wp2
          go_meet
          exact HEND.out _ _ _ HY2.out HZ2.out HYW.out HZW.out HYZ.out HKS.out
      · skip
        go_simp
        have hsz : W.heap.size ≤ wl.heap.size := by first | exact Stay.size hst | (have h := Stay.size hst; rw [show (wl).heap.size = wl.heap.size from by first | rfl | simp] at h; exact h)
        have HZ := Lib.hid (show Blk base (wl.alloc (.cells #[.int .i64 0] 3)) (wl.heap.size) [.int .i64 0] from by have h := Blk.made (wl) [.int .i64 0] 3 (base := base) (Nat.le_trans HBWW.out (Stay.size hst)); rw [show (wl).heap.size = wl.heap.size from by first | rfl | simp] at h; exact h)
        have HZW := Lib.hid hsz
        have hst2 := Stay.mk (Kept.alloc (Kept.here hst) (.cells #[.int .i64 0] 3))
        refine hK.out _ _ ?_ (fun hHeld => ?_)
        · exact hst2
        clear hK K
        (try simp only [Act.put, List.setIfInBounds_toArray, List.set_cons_zero, List.set_cons_succ])
        clear hst hsz
        have hst := hst2
        clear hst2
        refine wpAnyH_ready (rs := [8]) (by kernel_rfl) (by simp) ?_
        refine AllReadyH.cons rfl (fun K hK => ?_) AllReadyH.nil
        · skip
          go_simp
          have hsz : W.heap.size ≤ wl.heap.size + 1 := by first | exact Stay.size hst | (have h := Stay.size hst; rw [show ((wl.alloc (.cells #[.int .i64 0] 3))).heap.size = wl.heap.size + 1 from by first | rfl | simp] at h; exact h)
          have HY := Lib.hid (show Blk base ((wl.alloc (.cells #[.int .i64 0] 3)).alloc (.cells #[.int .i64 0, .string .empty, .int .i64 0, .int .i64 0, .string .empty, .slice none 0 0, .int .i64 0, .int .i64 0, .string .empty, .slice none 0 0, .slice none 0 0, .slice none 0 0] 112)) (wl.heap.size + 1) [.int .i64 0, .string .empty, .int .i64 0, .int .i64 0, .string .empty, .slice none 0 0, .int .i64 0, .int .i64 0, .string .empty, .slice none 0 0, .slice none 0 0, .slice none 0 0] from by have h := Blk.made ((wl.alloc (.cells #[.int .i64 0] 3))) [.int .i64 0, .string .empty, .int .i64 0, .int .i64 0, .string .empty, .slice none 0 0, .int .i64 0, .int .i64 0, .string .empty, .slice none 0 0, .slice none 0 0, .slice none 0 0] 112 (base := base) (Nat.le_trans HBWW.out (Stay.size hst)); rw [show ((wl.alloc (.cells #[.int .i64 0] 3))).heap.size = wl.heap.size + 1 from by first | rfl | simp] at h; exact h)
          have HYW := Lib.hid hsz
          have hst2 := Stay.mk (Kept.alloc (Kept.here hst) (.cells #[.int .i64 0, .string .empty, .int .i64 0, .int .i64 0, .string .empty, .slice none 0 0, .int .i64 0, .int .i64 0, .string .empty, .slice none 0 0, .slice none 0 0, .slice none 0 0] 112))
          have HYZ := Lib.hid (show ¬ Is (wl.heap.size + 1) (wl.heap.size) from fun e => by have e : wl.heap.size = wl.heap.size + 1 := e; have h := HZ.out.lt; rw [show ((wl.alloc (.cells #[.int .i64 0] 3))).heap.size = wl.heap.size + 1 from by first | rfl | simp] at h; omega)
          have HZ2 := Lib.hid (HZ.out.al' (.cells #[.int .i64 0, .string .empty, .int .i64 0, .int .i64 0, .string .empty, .slice none 0 0, .int .i64 0, .int .i64 0, .string .empty, .slice none 0 0, .slice none 0 0, .slice none 0 0] 112))
          clear HZ
          have HZ := HZ2
          clear HZ2
          refine hK.out _ _ ?_ (fun hHeld => ?_)
          · exact hst2
          clear hK K
          (try simp only [Act.put, List.setIfInBounds_toArray, List.set_cons_zero, List.set_cons_succ])
          clear hst hsz
          have hst := hst2
          clear hst2
          refine wpAnyH_ready (rs := [10]) (by kernel_rfl) (by simp) ?_
          refine AllReadyH.cons rfl (fun K hK => ?_) AllReadyH.nil
          rw [if_pos (by rfl)]
          obtain ⟨hr1, hr2, hr3⟩ := storeAt_blk (P := Try.prog) (ty := 112) (cs := [.int .i64 k, .string s, .int .i64 k1, .int .i64 n1, .string s1, .slice A1 m1 p1, .int .i64 k2, .int .i64 n2, .string s2, .slice A2 m2 p2, .slice A3 body.length p3, .slice A4 els.length p4]) HY.out rfl (by kernel_rfl) (by simp [Value.oneCell'])
          have HKS := Lib.hid (Kept.setB (W := W) (Kept.here hst) HYW.out hr3)
          refine wp_store_run 112 (.tmp 11) (.tmp 26) rfl _ _ rfl rfl hr1 ?_
          refine hK.out _ _ ?_ (fun hHeld => ?_)
          · exact Stay.mk HKS.out
          clear hK K
          (try simp only [Act.put, List.setIfInBounds_toArray])
          have HZ2 := Lib.hid (HZ.out.but hr3 HYZ.out)
          have HY2 := Lib.hid hr2
          clear hr1 hr2 hr3 hst HY HZ
          refine wpAnyH_done (by kernel_rfl) ?_ _
          unfold QPre
          simp only [List.drop_succ_cons, List.drop_zero]
          have cz := HZ2.out.cell 0 _ rfl
          have fz := HZ2.out.fr 0
          go_wp2
          go_meet
          exact HEND.out _ _ _ HY2.out HZ2.out HYW.out HZW.out HYZ.out HKS.out
    · skip
      go_simp
      have hsz : W.heap.size ≤ W.heap.size := by first | exact Stay.size hst | (have h := Stay.size hst; rw [show (W.drew).heap.size = W.heap.size from by first | rfl | simp] at h; exact h)
      have HY := Lib.hid (show Blk base (W.drew.alloc (.cells #[.int .i64 0, .string .empty, .int .i64 0, .int .i64 0, .string .empty, .slice none 0 0, .int .i64 0, .int .i64 0, .string .empty, .slice none 0 0, .slice none 0 0, .slice none 0 0] 112)) (W.heap.size) [.int .i64 0, .string .empty, .int .i64 0, .int .i64 0, .string .empty, .slice none 0 0, .int .i64 0, .int .i64 0, .string .empty, .slice none 0 0, .slice none 0 0, .slice none 0 0] from by have h := Blk.made (W.drew) [.int .i64 0, .string .empty, .int .i64 0, .int .i64 0, .string .empty, .slice none 0 0, .int .i64 0, .int .i64 0, .string .empty, .slice none 0 0, .slice none 0 0, .slice none 0 0] 112 (base := base) (Nat.le_trans HBWW.out (Stay.size hst)); rw [show (W.drew).heap.size = W.heap.size from by first | rfl | simp] at h; exact h)
      have HYW := Lib.hid hsz
      have hst2 := Stay.mk (Kept.alloc (Kept.here hst) (.cells #[.int .i64 0, .string .empty, .int .i64 0, .int .i64 0, .string .empty, .slice none 0 0, .int .i64 0, .int .i64 0, .string .empty, .slice none 0 0, .slice none 0 0, .slice none 0 0] 112))
      refine hK.out _ _ ?_ (fun hHeld => ?_)
      · exact hst2
      clear hK K
      (try simp only [Act.put, List.setIfInBounds_toArray, List.set_cons_zero, List.set_cons_succ])
      clear hst hsz
      have hst := hst2
      clear hst2
      refine wpAnyH_ready (rs := [6, 9]) (by kernel_rfl) (by simp) ?_
      refine AllReadyH.cons rfl (fun K hK => ?_) (AllReadyH.cons rfl (fun K hK => ?_) AllReadyH.nil)
      · skip
        go_simp
        refine (HLB.out _ hst).mono ?_
        rintro e wl ⟨rfl, hb⟩
        have hst2 := Stay.step hb hst
        have HY2 := Lib.hid (HY.out.below hb)
        clear HY
        have HY := HY2
        clear HY2
        refine hK.out _ _ ?_ (fun hHeld => ?_)
        · exact hst2
        clear hK K
        (try simp only [Act.put, List.setIfInBounds_toArray, List.set_cons_zero, List.set_cons_succ])
        clear hst hb
        have hst := hst2
        clear hst2
        refine wpAnyH_take_at (i := 7) (v := ?_) (some 31) rfl rfl (by kernel_rfl) (by kernel_rfl) (by kernel_rfl) (fun _ _ _ h => h) (Or.inl ⟨by rfl, ?_⟩) (by assumption) ?_
        rotate_left
        · (intro w hSw; (try dsimp only at hSw); go_simp; (try with_reducible rfl))
        (try simp only [Act.put, List.setIfInBounds_toArray, List.set_cons_zero, List.set_cons_succ])
        refine wpAnyH_ready (rs := [9]) (by kernel_rfl) (by simp) ?_
        refine AllReadyH.cons rfl (fun K hK => ?_) AllReadyH.nil
        · skip
          go_simp
          have hsz : W.heap.size ≤ wl.heap.size := by first | exact Stay.size hst | (have h := Stay.size hst; rw [show (wl).heap.size = wl.heap.size from by first | rfl | simp] at h; exact h)
          have HZ := Lib.hid (show Blk base (wl.alloc (.cells #[.int .i64 0] 3)) (wl.heap.size) [.int .i64 0] from by have h := Blk.made (wl) [.int .i64 0] 3 (base := base) (Nat.le_trans HBWW.out (Stay.size hst)); rw [show (wl).heap.size = wl.heap.size from by first | rfl | simp] at h; exact h)
          have HZW := Lib.hid hsz
          have hst2 := Stay.mk (Kept.alloc (Kept.here hst) (.cells #[.int .i64 0] 3))
          have HYZ := Lib.hid (show ¬ Is (W.heap.size) (wl.heap.size) from fun e => by have e : wl.heap.size = W.heap.size := e; have h := HY.out.lt; rw [show (wl).heap.size = wl.heap.size from by first | rfl | simp] at h; omega)
          have HY2 := Lib.hid (HY.out.al' (.cells #[.int .i64 0] 3))
          clear HY
          have HY := HY2
          clear HY2
          refine hK.out _ _ ?_ (fun hHeld => ?_)
          · exact hst2
          clear hK K
          (try simp only [Act.put, List.setIfInBounds_toArray, List.set_cons_zero, List.set_cons_succ])
          clear hst hsz
          have hst := hst2
          clear hst2
          refine wpAnyH_ready (rs := [10]) (by kernel_rfl) (by simp) ?_
          refine AllReadyH.cons rfl (fun K hK => ?_) AllReadyH.nil
          rw [if_pos (by rfl)]
          obtain ⟨hr1, hr2, hr3⟩ := storeAt_blk (P := Try.prog) (ty := 112) (cs := [.int .i64 k, .string s, .int .i64 k1, .int .i64 n1, .string s1, .slice A1 m1 p1, .int .i64 k2, .int .i64 n2, .string s2, .slice A2 m2 p2, .slice A3 body.length p3, .slice A4 els.length p4]) HY.out rfl (by kernel_rfl) (by simp [Value.oneCell'])
          have HKS := Lib.hid (Kept.setB (W := W) (Kept.here hst) HYW.out hr3)
          refine wp_store_run 112 (.tmp 11) (.tmp 26) rfl _ _ rfl rfl hr1 ?_
          refine hK.out _ _ ?_ (fun hHeld => ?_)
          · exact Stay.mk HKS.out
          clear hK K
          (try simp only [Act.put, List.setIfInBounds_toArray])
          have HZ2 := Lib.hid (HZ.out.but hr3 HYZ.out)
          have HY2 := Lib.hid hr2
          clear hr1 hr2 hr3 hst HY HZ
          refine wpAnyH_done (by kernel_rfl) ?_ _
          unfold QPre
          simp only [List.drop_succ_cons, List.drop_zero]
          have cz := HZ2.out.cell 0 _ rfl
          have fz := HZ2.out.fr 0
          go_wp2
          go_meet
          exact HEND.out _ _ _ HY2.out HZ2.out HYW.out HZW.out HYZ.out HKS.out
      · skip
        go_simp
        have hsz : W.heap.size ≤ W.heap.size + 1 := by first | exact Stay.size hst | (have h := Stay.size hst; rw [show ((W.drew.alloc (.cells #[.int .i64 0, .string .empty, .int .i64 0, .int .i64 0, .string .empty, .slice none 0 0, .int .i64 0, .int .i64 0, .string .empty, .slice none 0 0, .slice none 0 0, .slice none 0 0] 112))).heap.size = W.heap.size + 1 from by first | rfl | simp] at h; exact h)
        have HZ := Lib.hid (show Blk base ((W.drew.alloc (.cells #[.int .i64 0, .string .empty, .int .i64 0, .int .i64 0, .string .empty, .slice none 0 0, .int .i64 0, .int .i64 0, .string .empty, .slice none 0 0, .slice none 0 0, .slice none 0 0] 112)).alloc (.cells #[.int .i64 0] 3)) (W.heap.size + 1) [.int .i64 0] from by have h := Blk.made ((W.drew.alloc (.cells #[.int .i64 0, .string .empty, .int .i64 0, .int .i64 0, .string .empty, .slice none 0 0, .int .i64 0, .int .i64 0, .string .empty, .slice none 0 0, .slice none 0 0, .slice none 0 0] 112))) [.int .i64 0] 3 (base := base) (Nat.le_trans HBWW.out (Stay.size hst)); rw [show ((W.drew.alloc (.cells #[.int .i64 0, .string .empty, .int .i64 0, .int .i64 0, .string .empty, .slice none 0 0, .int .i64 0, .int .i64 0, .string .empty, .slice none 0 0, .slice none 0 0, .slice none 0 0] 112))).heap.size = W.heap.size + 1 from by first | rfl | simp] at h; exact h)
        have HZW := Lib.hid hsz
        have hst2 := Stay.mk (Kept.alloc (Kept.here hst) (.cells #[.int .i64 0] 3))
        have HYZ := Lib.hid (show ¬ Is (W.heap.size) (W.heap.size + 1) from fun e => by have e : W.heap.size + 1 = W.heap.size := e; have h := HY.out.lt; rw [show ((W.drew.alloc (.cells #[.int .i64 0, .string .empty, .int .i64 0, .int .i64 0, .string .empty, .slice none 0 0, .int .i64 0, .int .i64 0, .string .empty, .slice none 0 0, .slice none 0 0, .slice none 0 0] 112))).heap.size = W.heap.size + 1 from by first | rfl | simp] at h; omega)
        have HY2 := Lib.hid (HY.out.al' (.cells #[.int .i64 0] 3))
        clear HY
        have HY := HY2
        clear HY2
        refine hK.out _ _ ?_ (fun hHeld => ?_)
        · exact hst2
        clear hK K
        (try simp only [Act.put, List.setIfInBounds_toArray, List.set_cons_zero, List.set_cons_succ])
        clear hst hsz
        have hst := hst2
        clear hst2
        refine wpAnyH_ready (rs := [6]) (by kernel_rfl) (by simp) ?_
        refine AllReadyH.cons rfl (fun K hK => ?_) AllReadyH.nil
        · skip
          go_simp
          refine (HLB.out _ hst).mono ?_
          rintro e wl ⟨rfl, hb⟩
          have hst2 := Stay.step hb hst
          have HY2 := Lib.hid (HY.out.below hb)
          clear HY
          have HY := HY2
          clear HY2
          have HZ2 := Lib.hid (HZ.out.below hb)
          clear HZ
          have HZ := HZ2
          clear HZ2
          refine hK.out _ _ ?_ (fun hHeld => ?_)
          · exact hst2
          clear hK K
          (try simp only [Act.put, List.setIfInBounds_toArray, List.set_cons_zero, List.set_cons_succ])
          clear hst hb
          have hst := hst2
          clear hst2
          refine wpAnyH_take_at (i := 7) (v := ?_) (some 31) rfl rfl (by kernel_rfl) (by kernel_rfl) (by kernel_rfl) (fun _ _ _ h => h) (Or.inl ⟨by rfl, ?_⟩) (by assumption) ?_
          rotate_left
          · (intro w hSw; (try dsimp only at hSw); go_simp; (try with_reducible rfl))
          (try simp only [Act.put, List.setIfInBounds_toArray, List.set_cons_zero, List.set_cons_succ])
          refine wpAnyH_ready (rs := [10]) (by kernel_rfl) (by simp) ?_
          refine AllReadyH.cons rfl (fun K hK => ?_) AllReadyH.nil
          rw [if_pos (by rfl)]
          obtain ⟨hr1, hr2, hr3⟩ := storeAt_blk (P := Try.prog) (ty := 112) (cs := [.int .i64 k, .string s, .int .i64 k1, .int .i64 n1, .string s1, .slice A1 m1 p1, .int .i64 k2, .int .i64 n2, .string s2, .slice A2 m2 p2, .slice A3 body.length p3, .slice A4 els.length p4]) HY.out rfl (by kernel_rfl) (by simp [Value.oneCell'])
          have HKS := Lib.hid (Kept.setB (W := W) (Kept.here hst) HYW.out hr3)
          refine wp_store_run 112 (.tmp 11) (.tmp 26) rfl _ _ rfl rfl hr1 ?_
          refine hK.out _ _ ?_ (fun hHeld => ?_)
          · exact Stay.mk HKS.out
          clear hK K
          (try simp only [Act.put, List.setIfInBounds_toArray])
          have HZ2 := Lib.hid (HZ.out.but hr3 HYZ.out)
          have HY2 := Lib.hid hr2
          clear hr1 hr2 hr3 hst HY HZ
          refine wpAnyH_done (by kernel_rfl) ?_ _
          unfold QPre
          simp only [List.drop_succ_cons, List.drop_zero]
          have cz := HZ2.out.cell 0 _ rfl
          have fz := HZ2.out.fr 0
          go_wp2
          go_meet
          exact HEND.out _ _ _ HY2.out HZ2.out HYW.out HZW.out HYZ.out HKS.out
    · skip
      go_simp
      have hsz : W.heap.size ≤ W.heap.size := by first | exact Stay.size hst | (have h := Stay.size hst; rw [show (W.drew).heap.size = W.heap.size from by first | rfl | simp] at h; exact h)
      have HZ := Lib.hid (show Blk base (W.drew.alloc (.cells #[.int .i64 0] 3)) (W.heap.size) [.int .i64 0] from by have h := Blk.made (W.drew) [.int .i64 0] 3 (base := base) (Nat.le_trans HBWW.out (Stay.size hst)); rw [show (W.drew).heap.size = W.heap.size from by first | rfl | simp] at h; exact h)
      have HZW := Lib.hid hsz
      have hst2 := Stay.mk (Kept.alloc (Kept.here hst) (.cells #[.int .i64 0] 3))
      refine hK.out _ _ ?_ (fun hHeld => ?_)
      · exact hst2
      clear hK K
      (try simp only [Act.put, List.setIfInBounds_toArray, List.set_cons_zero, List.set_cons_succ])
      clear hst hsz
      have hst := hst2
      clear hst2
      refine wpAnyH_ready (rs := [6, 8]) (by kernel_rfl) (by simp) ?_
      refine AllReadyH.cons rfl (fun K hK => ?_) (AllReadyH.cons rfl (fun K hK => ?_) AllReadyH.nil)
      · skip
        go_simp
        refine (HLB.out _ hst).mono ?_
        rintro e wl ⟨rfl, hb⟩
        have hst2 := Stay.step hb hst
        have HZ2 := Lib.hid (HZ.out.below hb)
        clear HZ
        have HZ := HZ2
        clear HZ2
        refine hK.out _ _ ?_ (fun hHeld => ?_)
        · exact hst2
        clear hK K
        (try simp only [Act.put, List.setIfInBounds_toArray, List.set_cons_zero, List.set_cons_succ])
        clear hst hb
        have hst := hst2
        clear hst2
        refine wpAnyH_take_at (i := 7) (v := ?_) (some 31) rfl rfl (by kernel_rfl) (by kernel_rfl) (by kernel_rfl) (fun _ _ _ h => h) (Or.inl ⟨by rfl, ?_⟩) (by assumption) ?_
        rotate_left
        · (intro w hSw; (try dsimp only at hSw); go_simp; (try with_reducible rfl))
        (try simp only [Act.put, List.setIfInBounds_toArray, List.set_cons_zero, List.set_cons_succ])
        refine wpAnyH_ready (rs := [8]) (by kernel_rfl) (by simp) ?_
        refine AllReadyH.cons rfl (fun K hK => ?_) AllReadyH.nil
        · skip
          go_simp
          have hsz : W.heap.size ≤ wl.heap.size := by first | exact Stay.size hst | (have h := Stay.size hst; rw [show (wl).heap.size = wl.heap.size from by first | rfl | simp] at h; exact h)
          have HY := Lib.hid (show Blk base (wl.alloc (.cells #[.int .i64 0, .string .empty, .int .i64 0, .int .i64 0, .string .empty, .slice none 0 0, .int .i64 0, .int .i64 0, .string .empty, .slice none 0 0, .slice none 0 0, .slice none 0 0] 112)) (wl.heap.size) [.int .i64 0, .string .empty, .int .i64 0, .int .i64 0, .string .empty, .slice none 0 0, .int .i64 0, .int .i64 0, .string .empty, .slice none 0 0, .slice none 0 0, .slice none 0 0] from by have h := Blk.made (wl) [.int .i64 0, .string .empty, .int .i64 0, .int .i64 0, .string .empty, .slice none 0 0, .int .i64 0, .int .i64 0, .string .empty, .slice none 0 0, .slice none 0 0, .slice none 0 0] 112 (base := base) (Nat.le_trans HBWW.out (Stay.size hst)); rw [show (wl).heap.size = wl.heap.size from by first | rfl | simp] at h; exact h)
          have HYW := Lib.hid hsz
          have hst2 := Stay.mk (Kept.alloc (Kept.here hst) (.cells #[.int .i64 0, .string .empty, .int .i64 0, .int .i64 0, .string .empty, .slice none 0 0, .int .i64 0, .int .i64 0, .string .empty, .slice none 0 0, .slice none 0 0, .slice none 0 0] 112))
          have HYZ := Lib.hid (show ¬ Is (wl.heap.size) (W.heap.size) from fun e => by have e : W.heap.size = wl.heap.size := e; have h := HZ.out.lt; rw [show (wl).heap.size = wl.heap.size from by first | rfl | simp] at h; omega)
          have HZ2 := Lib.hid (HZ.out.al' (.cells #[.int .i64 0, .string .empty, .int .i64 0, .int .i64 0, .string .empty, .slice none 0 0, .int .i64 0, .int .i64 0, .string .empty, .slice none 0 0, .slice none 0 0, .slice none 0 0] 112))
          clear HZ
          have HZ := HZ2
          clear HZ2
          refine hK.out _ _ ?_ (fun hHeld => ?_)
          · exact hst2
          clear hK K
          (try simp only [Act.put, List.setIfInBounds_toArray, List.set_cons_zero, List.set_cons_succ])
          clear hst hsz
          have hst := hst2
          clear hst2
          refine wpAnyH_ready (rs := [10]) (by kernel_rfl) (by simp) ?_
          refine AllReadyH.cons rfl (fun K hK => ?_) AllReadyH.nil
          rw [if_pos (by rfl)]
          obtain ⟨hr1, hr2, hr3⟩ := storeAt_blk (P := Try.prog) (ty := 112) (cs := [.int .i64 k, .string s, .int .i64 k1, .int .i64 n1, .string s1, .slice A1 m1 p1, .int .i64 k2, .int .i64 n2, .string s2, .slice A2 m2 p2, .slice A3 body.length p3, .slice A4 els.length p4]) HY.out rfl (by kernel_rfl) (by simp [Value.oneCell'])
          have HKS := Lib.hid (Kept.setB (W := W) (Kept.here hst) HYW.out hr3)
          refine wp_store_run 112 (.tmp 11) (.tmp 26) rfl _ _ rfl rfl hr1 ?_
          refine hK.out _ _ ?_ (fun hHeld => ?_)
          · exact Stay.mk HKS.out
          clear hK K
          (try simp only [Act.put, List.setIfInBounds_toArray])
          have HZ2 := Lib.hid (HZ.out.but hr3 HYZ.out)
          have HY2 := Lib.hid hr2
          clear hr1 hr2 hr3 hst HY HZ
          refine wpAnyH_done (by kernel_rfl) ?_ _
          unfold QPre
          simp only [List.drop_succ_cons, List.drop_zero]
          have cz := HZ2.out.cell 0 _ rfl
          have fz := HZ2.out.fr 0
          go_wp2
          go_meet
          exact HEND.out _ _ _ HY2.out HZ2.out HYW.out HZW.out HYZ.out HKS.out
      · skip
        go_simp
        have hsz : W.heap.size ≤ W.heap.size + 1 := by first | exact Stay.size hst | (have h := Stay.size hst; rw [show ((W.drew.alloc (.cells #[.int .i64 0] 3))).heap.size = W.heap.size + 1 from by first | rfl | simp] at h; exact h)
        have HY := Lib.hid (show Blk base ((W.drew.alloc (.cells #[.int .i64 0] 3)).alloc (.cells #[.int .i64 0, .string .empty, .int .i64 0, .int .i64 0, .string .empty, .slice none 0 0, .int .i64 0, .int .i64 0, .string .empty, .slice none 0 0, .slice none 0 0, .slice none 0 0] 112)) (W.heap.size + 1) [.int .i64 0, .string .empty, .int .i64 0, .int .i64 0, .string .empty, .slice none 0 0, .int .i64 0, .int .i64 0, .string .empty, .slice none 0 0, .slice none 0 0, .slice none 0 0] from by have h := Blk.made ((W.drew.alloc (.cells #[.int .i64 0] 3))) [.int .i64 0, .string .empty, .int .i64 0, .int .i64 0, .string .empty, .slice none 0 0, .int .i64 0, .int .i64 0, .string .empty, .slice none 0 0, .slice none 0 0, .slice none 0 0] 112 (base := base) (Nat.le_trans HBWW.out (Stay.size hst)); rw [show ((W.drew.alloc (.cells #[.int .i64 0] 3))).heap.size = W.heap.size + 1 from by first | rfl | simp] at h; exact h)
        have HYW := Lib.hid hsz
        have hst2 := Stay.mk (Kept.alloc (Kept.here hst) (.cells #[.int .i64 0, .string .empty, .int .i64 0, .int .i64 0, .string .empty, .slice none 0 0, .int .i64 0, .int .i64 0, .string .empty, .slice none 0 0, .slice none 0 0, .slice none 0 0] 112))
        have HYZ := Lib.hid (show ¬ Is (W.heap.size + 1) (W.heap.size) from fun e => by have e : W.heap.size = W.heap.size + 1 := e; have h := HZ.out.lt; rw [show ((W.drew.alloc (.cells #[.int .i64 0] 3))).heap.size = W.heap.size + 1 from by first | rfl | simp] at h; omega)
        have HZ2 := Lib.hid (HZ.out.al' (.cells #[.int .i64 0, .string .empty, .int .i64 0, .int .i64 0, .string .empty, .slice none 0 0, .int .i64 0, .int .i64 0, .string .empty, .slice none 0 0, .slice none 0 0, .slice none 0 0] 112))
        clear HZ
        have HZ := HZ2
        clear HZ2
        refine hK.out _ _ ?_ (fun hHeld => ?_)
        · exact hst2
        clear hK K
        (try simp only [Act.put, List.setIfInBounds_toArray, List.set_cons_zero, List.set_cons_succ])
        clear hst hsz
        have hst := hst2
        clear hst2
        refine wpAnyH_ready (rs := [6]) (by kernel_rfl) (by simp) ?_
        refine AllReadyH.cons rfl (fun K hK => ?_) AllReadyH.nil
        · skip
          go_simp
          refine (HLB.out _ hst).mono ?_
          rintro e wl ⟨rfl, hb⟩
          have hst2 := Stay.step hb hst
          have HY2 := Lib.hid (HY.out.below hb)
          clear HY
          have HY := HY2
          clear HY2
          have HZ2 := Lib.hid (HZ.out.below hb)
          clear HZ
          have HZ := HZ2
          clear HZ2
          refine hK.out _ _ ?_ (fun hHeld => ?_)
          · exact hst2
          clear hK K
          (try simp only [Act.put, List.setIfInBounds_toArray, List.set_cons_zero, List.set_cons_succ])
          clear hst hb
          have hst := hst2
          clear hst2
          refine wpAnyH_take_at (i := 7) (v := ?_) (some 31) rfl rfl (by kernel_rfl) (by kernel_rfl) (by kernel_rfl) (fun _ _ _ h => h) (Or.inl ⟨by rfl, ?_⟩) (by assumption) ?_
          rotate_left
          · (intro w hSw; (try dsimp only at hSw); go_simp; (try with_reducible rfl))
          (try simp only [Act.put, List.setIfInBounds_toArray, List.set_cons_zero, List.set_cons_succ])
          refine wpAnyH_ready (rs := [10]) (by kernel_rfl) (by simp) ?_
          refine AllReadyH.cons rfl (fun K hK => ?_) AllReadyH.nil
          rw [if_pos (by rfl)]
          obtain ⟨hr1, hr2, hr3⟩ := storeAt_blk (P := Try.prog) (ty := 112) (cs := [.int .i64 k, .string s, .int .i64 k1, .int .i64 n1, .string s1, .slice A1 m1 p1, .int .i64 k2, .int .i64 n2, .string s2, .slice A2 m2 p2, .slice A3 body.length p3, .slice A4 els.length p4]) HY.out rfl (by kernel_rfl) (by simp [Value.oneCell'])
          have HKS := Lib.hid (Kept.setB (W := W) (Kept.here hst) HYW.out hr3)
          refine wp_store_run 112 (.tmp 11) (.tmp 26) rfl _ _ rfl rfl hr1 ?_
          refine hK.out _ _ ?_ (fun hHeld => ?_)
          · exact Stay.mk HKS.out
          clear hK K
          (try simp only [Act.put, List.setIfInBounds_toArray])
          have HZ2 := Lib.hid (HZ.out.but hr3 HYZ.out)
          have HY2 := Lib.hid hr2
          clear hr1 hr2 hr3 hst HY HZ
          refine wpAnyH_done (by kernel_rfl) ?_ _
          unfold QPre
          simp only [List.drop_succ_cons, List.drop_zero]
          have cz := HZ2.out.cell 0 _ rfl
          have fz := HZ2.out.fr 0
          go_wp2
          go_meet
          exact HEND.out _ _ _ HY2.out HZ2.out HYW.out HZW.out HYZ.out HKS.out
  case rest =>
  obtain ⟨y, z, rfl, rfl, HR1, HA1⟩ := hcut
  obtain ⟨W1, hW1⟩ : ∃ W1, W1 = wc := ⟨_, rfl⟩
  subst hW1
  have c0 := HR1.out.rn.bd.cell 0 _ rfl; have c1 := HR1.out.rn.bd.cell 1 _ rfl; have c2 := HR1.out.rn.bd.cell 2 _ rfl; have c3 := HR1.out.rn.bd.cell 3 _ rfl; have c4 := HR1.out.rn.bd.cell 4 _ rfl; have c5 := HR1.out.rn.bd.cell 5 _ rfl; have c6 := HR1.out.rn.bd.cell 6 _ rfl; have c7 := HR1.out.rn.bd.cell 7 _ rfl; have c8 := HR1.out.rn.bd.cell 8 _ rfl; have c9 := HR1.out.rn.bd.cell 9 _ rfl; have c10 := HR1.out.rn.bd.cell 10 _ rfl; have c11 := HR1.out.rn.bd.cell 11 _ rfl
  have HON := Lib.hid (show stU F (.mk k s a b body els) env lab (fun env' m' => blU F rest env' (lab + labelsL [St.mk k s a b body els]) kk m') m = res from by have := HRES.out; rw [blU_cons, ← HLW.out] at this; exact this)
  have HZ1 := Lib.hid (show g + 1 + 1 + 1 < W1.heap.size from HR1.out.bg.lt)
  have HLE := Lib.hid hb8
  have HHS := Lib.hid (show s.size ≤ 140737488355328 from hs)
  have hst3 : m.st ≤ F := HAT.out.2.1
  have hF2 : F ≤ 2000 := HAT.out.2.2
  clear HEND HLB HBEL BB BL BT BG R0 RST RA RB R1 R2 HFX HTH HAT HRES HLW e0 e1 e2 e3 e4 e5 e6 e7 e8 e9 e10 e11 hce hbW hg1 kl hb8 hlab hwl1 hwl2 hw1 hl hcm hby hs
  generalize hN : labelsL [St.mk k s a b body els] = N1 at *
  go_upto_region 5 with (fail)
  by_cases hk0 : k < 1 ∨ 7 < k
  · as_aux_lemma =>
      skip
      rcases hk0 with hk1 | hk1
      · skip
        go_upto_region 6 with (fail)
        have hres2 : blU F rest env (lab + N1) kk m = res := by have := HON.out; rw [stU_other (.inl hk1)] at this; exact this
        have HBA := Lib.hid HR1.out.bg
        have HBW := Lib.hid HR1.out.but
        have hgW : g + 1 + 1 + 1 < W1.heap.size := HR1.out.bg.lt
        go_wp2_with fail
        refine (on_any Ae env.length ce _ _ _ _ W1).mono ?_
        rintro e wo ⟨rfl, rfl⟩
        have HO := Lib.hid (HR1.out.on HRE.out)
        have hbo : But (Is d) W1 (W1.alloc (.cells #[.slice Ae env.length ce] 106)) := But.of_below ((Below.refl _ _).alloc (Nat.le_refl _) _)
        have HA9 := Lib.hid (HA1.out.below ((Below.refl _ _).alloc (Nat.le_refl _) (.cells #[.slice Ae env.length ce] 106)))
        go_wp2_with fail
        refine (HO.out.run _ m (But.refl _ _) HA9.out (Nat.le_refl _) res hres2).mono ?_
        rintro e w4 ho
        cases res with
        | none =>
          obtain ⟨rfl, hb4⟩ := ho
          exact ⟨rfl, rfl, HBW.out.trans (hbo.trans hb4)⟩
        | some x =>
          obtain ⟨t, m1⟩ := x
          obtain ⟨⟨V, rfl, hf⟩, ha4, hn4, hb4⟩ := ho
          obtain ⟨k5, c5, wr5, lb5, A5, n5, cap5, rfl⟩ := hf.form
          have hb5 := hbo.trans hb4
          have HBA5 := Lib.hid (HBA.out.but hb5 hgd)
          have HF5 := Lib.hid (show FrT (Upto W1.heap.size) w4 t (tmV k5 c5 wr5 lb5 (.slice A5 n5 cap5)) from hf.fewer (Sub.upto (hbo).size))
          have HA5 := Lib.hid ha4
          have HB5 := Lib.hid (HBW.out.trans hb5)
          clear hf ha4 hb4 hb5
          (try clear c0 c1 c2 c3 c4 c5 c6 c7 c8 c9 c10 c11)
          have r0 := HBA5.out.cell 0 _ rfl; have r1 := HBA5.out.cell 1 _ rfl; have r2 := HBA5.out.cell 2 _ rfl; have r3 := HBA5.out.cell 3 _ rfl; have r4 := HBA5.out.cell 4 _ rfl
          have f0 := HBA5.out.fr 0; have f1 := HBA5.out.fr 1; have f2 := HBA5.out.fr 2; have f3 := HBA5.out.fr 3; have f4 := HBA5.out.fr 4
          go_wp2
          clear r0 r1 r2 r3 r4 f0 f1 f2 f3 f4
          have BF := set5_blk HBA5.out (.int .i64 k5) (.int .i64 c5) (.bool wr5) (.int .i64 lb5) (.slice A5 n5 cap5)
          have bg : But (Is (g + 1 + 1 + 1)) w4 (((((w4.setCell ⟨g + 1 + 1 + 1, 0, none⟩ (.int .i64 k5)).setCell ⟨g + 1 + 1 + 1, 1, none⟩ (.int .i64 c5)).setCell ⟨g + 1 + 1 + 1, 2, none⟩ (.bool wr5)).setCell ⟨g + 1 + 1 + 1, 3, none⟩ (.int .i64 lb5)).setCell ⟨g + 1 + 1 + 1, 4, none⟩ (.slice A5 n5 cap5)) := set5_but (But.refl _ _) (.inl (show Is (g + 1 + 1 + 1) (g + 1 + 1 + 1) from rfl)) _ _ _ _ _
          have bw := set5_but HB5.out (b := g + 1 + 1 + 1) (.inr hgw) (.int .i64 k5) (.int .i64 c5) (.bool wr5) (.int .i64 lb5) (.slice A5 n5 cap5)
          have hf6 := (HF5.out.but (bg.sub (fun k hk => by have e : k = g + 1 + 1 + 1 := hk; subst e; exact hgW))).fewer (Sub.upto HBW.out.size)
          have ha6 := HA5.out.but bg (fun e => hgd e.symm)
          generalize (((((w4.setCell ⟨g + 1 + 1 + 1, 0, none⟩ (.int .i64 k5)).setCell ⟨g + 1 + 1 + 1, 1, none⟩ (.int .i64 c5)).setCell ⟨g + 1 + 1 + 1, 2, none⟩ (.bool wr5)).setCell ⟨g + 1 + 1 + 1, 3, none⟩ (.int .i64 lb5)).setCell ⟨g + 1 + 1 + 1, 4, none⟩ (.slice A5 n5 cap5)) = WF at *
          refine ret_term Try.results26 rfl rfl BF ?_
          exact ⟨⟨_, rfl, hf6⟩, ha6, (by first | exact hn4 | exact Nat.le_trans (Nat.le_succ _) hn4), bw⟩
      · skip
        have hk2 : ¬ k < 1 := by omega
        go_upto_region 6 with (fail)
        have hres2 : blU F rest env (lab + N1) kk m = res := by have := HON.out; rw [stU_other (.inr hk1)] at this; exact this
        have HBA := Lib.hid HR1.out.bg
        have HBW := Lib.hid HR1.out.but
        have hgW : g + 1 + 1 + 1 < W1.heap.size := HR1.out.bg.lt
        go_wp2_with fail
        refine (on_any Ae env.length ce _ _ _ _ W1).mono ?_
        rintro e wo ⟨rfl, rfl⟩
        have HO := Lib.hid (HR1.out.on HRE.out)
        have hbo : But (Is d) W1 (W1.alloc (.cells #[.slice Ae env.length ce] 106)) := But.of_below ((Below.refl _ _).alloc (Nat.le_refl _) _)
        have HA9 := Lib.hid (HA1.out.below ((Below.refl _ _).alloc (Nat.le_refl _) (.cells #[.slice Ae env.length ce] 106)))
        go_wp2_with fail
        refine (HO.out.run _ m (But.refl _ _) HA9.out (Nat.le_refl _) res hres2).mono ?_
        rintro e w4 ho
        cases res with
        | none =>
          obtain ⟨rfl, hb4⟩ := ho
          exact ⟨rfl, rfl, HBW.out.trans (hbo.trans hb4)⟩
        | some x =>
          obtain ⟨t, m1⟩ := x
          obtain ⟨⟨V, rfl, hf⟩, ha4, hn4, hb4⟩ := ho
          obtain ⟨k5, c5, wr5, lb5, A5, n5, cap5, rfl⟩ := hf.form
          have hb5 := hbo.trans hb4
          have HBA5 := Lib.hid (HBA.out.but hb5 hgd)
          have HF5 := Lib.hid (show FrT (Upto W1.heap.size) w4 t (tmV k5 c5 wr5 lb5 (.slice A5 n5 cap5)) from hf.fewer (Sub.upto (hbo).size))
          have HA5 := Lib.hid ha4
          have HB5 := Lib.hid (HBW.out.trans hb5)
          clear hf ha4 hb4 hb5
          (try clear c0 c1 c2 c3 c4 c5 c6 c7 c8 c9 c10 c11)
          have r0 := HBA5.out.cell 0 _ rfl; have r1 := HBA5.out.cell 1 _ rfl; have r2 := HBA5.out.cell 2 _ rfl; have r3 := HBA5.out.cell 3 _ rfl; have r4 := HBA5.out.cell 4 _ rfl
          have f0 := HBA5.out.fr 0; have f1 := HBA5.out.fr 1; have f2 := HBA5.out.fr 2; have f3 := HBA5.out.fr 3; have f4 := HBA5.out.fr 4
          go_wp2
          clear r0 r1 r2 r3 r4 f0 f1 f2 f3 f4
          have BF := set5_blk HBA5.out (.int .i64 k5) (.int .i64 c5) (.bool wr5) (.int .i64 lb5) (.slice A5 n5 cap5)
          have bg : But (Is (g + 1 + 1 + 1)) w4 (((((w4.setCell ⟨g + 1 + 1 + 1, 0, none⟩ (.int .i64 k5)).setCell ⟨g + 1 + 1 + 1, 1, none⟩ (.int .i64 c5)).setCell ⟨g + 1 + 1 + 1, 2, none⟩ (.bool wr5)).setCell ⟨g + 1 + 1 + 1, 3, none⟩ (.int .i64 lb5)).setCell ⟨g + 1 + 1 + 1, 4, none⟩ (.slice A5 n5 cap5)) := set5_but (But.refl _ _) (.inl (show Is (g + 1 + 1 + 1) (g + 1 + 1 + 1) from rfl)) _ _ _ _ _
          have bw := set5_but HB5.out (b := g + 1 + 1 + 1) (.inr hgw) (.int .i64 k5) (.int .i64 c5) (.bool wr5) (.int .i64 lb5) (.slice A5 n5 cap5)
          have hf6 := (HF5.out.but (bg.sub (fun k hk => by have e : k = g + 1 + 1 + 1 := hk; subst e; exact hgW))).fewer (Sub.upto HBW.out.size)
          have ha6 := HA5.out.but bg (fun e => hgd e.symm)
          generalize (((((w4.setCell ⟨g + 1 + 1 + 1, 0, none⟩ (.int .i64 k5)).setCell ⟨g + 1 + 1 + 1, 1, none⟩ (.int .i64 c5)).setCell ⟨g + 1 + 1 + 1, 2, none⟩ (.bool wr5)).setCell ⟨g + 1 + 1 + 1, 3, none⟩ (.int .i64 lb5)).setCell ⟨g + 1 + 1 + 1, 4, none⟩ (.slice A5 n5 cap5)) = WF at *
          refine ret_term Try.results26 rfl rfl BF ?_
          exact ⟨⟨_, rfl, hf6⟩, ha6, (by first | exact hn4 | exact Nat.le_trans (Nat.le_succ _) hn4), bw⟩
  by_cases hf : m.st < F
  case neg =>
    skip
    have hrn : res = none := by have := HON.out; rw [stU_none hk0 hf] at this; exact this.symm
    have kb : W1.cell? ⟨g, 0, none⟩ = some (.pointer (some ⟨d, 0, none⟩)) := HR1.out.bb.cell 0 _ rfl
    go_upto_region 7 with (fail)
    go_wp2_with fail
    refine (ustep_no HA1.out hf).mono ?_
    rintro e w' ⟨rfl, hb⟩
    subst hrn
    exact ⟨rfl, rfl, HR1.out.but.trans hb⟩
  have kb : W1.cell? ⟨g, 0, none⟩ = some (.pointer (some ⟨d, 0, none⟩)) := HR1.out.bb.cell 0 _ rfl
  go_upto_region 7 with (fail)
  go_wp2_with fail
  refine (ustep_ok HA1.out hf).mono ?_
  rintro e w2 ⟨rfl, ha, hb⟩
  have HR2 := Lib.hid (HR1.out.but_ hb (n' := m.step.st) (by simp only [US.step]; omega))
  have HA2 := Lib.hid ha
  have hb2 := hb
  clear ha hb kb
  clear c0 c1 c2 c3 c4 c5 c6 c7 c8 c9 c10 c11
  have c0 := HR2.out.rn.bd.cell 0 _ rfl; have c1 := HR2.out.rn.bd.cell 1 _ rfl; have c2 := HR2.out.rn.bd.cell 2 _ rfl; have c3 := HR2.out.rn.bd.cell 3 _ rfl; have c4 := HR2.out.rn.bd.cell 4 _ rfl; have c5 := HR2.out.rn.bd.cell 5 _ rfl; have c6 := HR2.out.rn.bd.cell 6 _ rfl; have c7 := HR2.out.rn.bd.cell 7 _ rfl; have c8 := HR2.out.rn.bd.cell 8 _ rfl; have c9 := HR2.out.rn.bd.cell 9 _ rfl; have c10 := HR2.out.rn.bd.cell 10 _ rfl; have c11 := HR2.out.rn.bd.cell 11 _ rfl
  obtain ⟨va, hva⟩ : ∃ va, va = a.worth env := ⟨_, rfl⟩
  have HVA := Lib.hid hva
  go_wp2_with fail
  refine (eval_fx env a w2 S (Is d) _ _ HR2.out.sW HR2.out.rn.ra HR2.out.fx).mono ?_
  rintro e w3 ⟨rfl, hia, hb⟩
  rw [← hva] at hia
  rw [← hva]
  have HIA := Lib.hid hia
  have HR3 := Lib.hid (HR2.out.below hb)
  have HA3 := Lib.hid (HA2.out.below hb)
  clear hb hb2 hva hia
  clear c0 c1 c2 c3 c4 c5 c6 c7 c8 c9 c10 c11
  have c0 := HR3.out.rn.bd.cell 0 _ rfl; have c1 := HR3.out.rn.bd.cell 1 _ rfl; have c2 := HR3.out.rn.bd.cell 2 _ rfl; have c3 := HR3.out.rn.bd.cell 3 _ rfl; have c4 := HR3.out.rn.bd.cell 4 _ rfl; have c5 := HR3.out.rn.bd.cell 5 _ rfl; have c6 := HR3.out.rn.bd.cell 6 _ rfl; have c7 := HR3.out.rn.bd.cell 7 _ rfl; have c8 := HR3.out.rn.bd.cell 8 _ rfl; have c9 := HR3.out.rn.bd.cell 9 _ rfl; have c10 := HR3.out.rn.bd.cell 10 _ rfl; have c11 := HR3.out.rn.bd.cell 11 _ rfl
  have HBA := Lib.hid HR3.out.bg
  have HBW := Lib.hid HR3.out.but
  have hgW : g + 1 + 1 + 1 < w3.heap.size := HR3.out.bg.lt
  have hel3 : env.length < m.step.st := by simp only [US.step]; have := HR1.out.el; omega
  have kg : w3.cell? ⟨g, 0, none⟩ = some (.pointer (some ⟨d, 0, none⟩)) := HR3.out.bb.cell 0 _ rfl
  have hmst : m.step.st ≤ m.step.st := Nat.le_refl _
  by_cases h1 : k = 1
  · subst h1
    as_aux_lemma =>
      skip
      obtain ⟨env1, he1⟩ : ∃ env1, env1 = env ++ [(⟨s, va⟩ : Bd)] := ⟨_, rfl⟩
      have HL1 := Lib.hid (show env1.length ≤ m.step.st from by rw [he1]; simp only [List.length_append, List.length_singleton]; omega)
      have hres2 : blU F rest env1 (lab + N1) kk m.step = res := by have := HON.out; rw [stU_let hf, ← HVA.out, ← he1] at this; exact this
      go_wp2_with fail
      refine (bind_any env (by omega) s HHS.out va HIA.out w3 (Is d) _ (fun k hk => by have e : k = d := hk; have := HR3.out.dw; have := HR3.out.but.size; omega) HR3.out.fx).mono ?_
      rw [← he1]
      rintro e w4 ⟨⟨x, rfl, hfx⟩, hb⟩
      obtain ⟨Ax, cx, rfl, -⟩ := hfx.form
      have HR4 := Lib.hid ((HR3.out.below hb).env_ hfx HL1.out)
      have HA4 := Lib.hid (HA3.out.below hb)
      have hb34 := But.of_below (T := Is d) hb
      clear hfx hb he1
      go_wp2_with fail
      refine (on_any Ax env1.length cx _ _ _ _ w4).mono ?_
      rintro e wo ⟨rfl, rfl⟩
      have HO := Lib.hid (HR4.out.on HRE.out)
      have hbo : But (Is d) w4 (w4.alloc (.cells #[.slice Ax env1.length cx] 106)) := But.of_below ((Below.refl _ _).alloc (Nat.le_refl _) _)
      have HA9 := Lib.hid (HA4.out.below ((Below.refl _ _).alloc (Nat.le_refl _) (.cells #[.slice Ax env1.length cx] 106)))
      go_wp2_with fail
      refine (HO.out.run _ m.step (But.refl _ _) HA9.out (Nat.le_refl _) res hres2).mono ?_
      rintro e w4 ho
      cases res with
      | none =>
        obtain ⟨rfl, hb4⟩ := ho
        exact ⟨rfl, rfl, HBW.out.trans ((hb34.trans hbo).trans hb4)⟩
      | some x =>
        obtain ⟨t, m1⟩ := x
        obtain ⟨⟨V, rfl, hf⟩, ha4, hn4, hb4⟩ := ho
        obtain ⟨k5, c5, wr5, lb5, A5, n5, cap5, rfl⟩ := hf.form
        have hb5 := (hb34.trans hbo).trans hb4
        have HBA5 := Lib.hid (HBA.out.but hb5 hgd)
        have HF5 := Lib.hid (show FrT (Upto w3.heap.size) w4 t (tmV k5 c5 wr5 lb5 (.slice A5 n5 cap5)) from hf.fewer (Sub.upto ((hb34.trans hbo)).size))
        have HA5 := Lib.hid ha4
        have HB5 := Lib.hid (HBW.out.trans hb5)
        clear hf ha4 hb4 hb5
        (try clear c0 c1 c2 c3 c4 c5 c6 c7 c8 c9 c10 c11)
        have r0 := HBA5.out.cell 0 _ rfl; have r1 := HBA5.out.cell 1 _ rfl; have r2 := HBA5.out.cell 2 _ rfl; have r3 := HBA5.out.cell 3 _ rfl; have r4 := HBA5.out.cell 4 _ rfl
        have f0 := HBA5.out.fr 0; have f1 := HBA5.out.fr 1; have f2 := HBA5.out.fr 2; have f3 := HBA5.out.fr 3; have f4 := HBA5.out.fr 4
        go_wp2
        clear r0 r1 r2 r3 r4 f0 f1 f2 f3 f4
        have BF := set5_blk HBA5.out (.int .i64 k5) (.int .i64 c5) (.bool wr5) (.int .i64 lb5) (.slice A5 n5 cap5)
        have bg : But (Is (g + 1 + 1 + 1)) w4 (((((w4.setCell ⟨g + 1 + 1 + 1, 0, none⟩ (.int .i64 k5)).setCell ⟨g + 1 + 1 + 1, 1, none⟩ (.int .i64 c5)).setCell ⟨g + 1 + 1 + 1, 2, none⟩ (.bool wr5)).setCell ⟨g + 1 + 1 + 1, 3, none⟩ (.int .i64 lb5)).setCell ⟨g + 1 + 1 + 1, 4, none⟩ (.slice A5 n5 cap5)) := set5_but (But.refl _ _) (.inl (show Is (g + 1 + 1 + 1) (g + 1 + 1 + 1) from rfl)) _ _ _ _ _
        have bw := set5_but HB5.out (b := g + 1 + 1 + 1) (.inr hgw) (.int .i64 k5) (.int .i64 c5) (.bool wr5) (.int .i64 lb5) (.slice A5 n5 cap5)
        have hf6 := (HF5.out.but (bg.sub (fun k hk => by have e : k = g + 1 + 1 + 1 := hk; subst e; exact hgW))).fewer (Sub.upto HBW.out.size)
        have ha6 := HA5.out.but bg (fun e => hgd e.symm)
        generalize (((((w4.setCell ⟨g + 1 + 1 + 1, 0, none⟩ (.int .i64 k5)).setCell ⟨g + 1 + 1 + 1, 1, none⟩ (.int .i64 c5)).setCell ⟨g + 1 + 1 + 1, 2, none⟩ (.bool wr5)).setCell ⟨g + 1 + 1 + 1, 3, none⟩ (.int .i64 lb5)).setCell ⟨g + 1 + 1 + 1, 4, none⟩ (.slice A5 n5 cap5)) = WF at *
        refine ret_term Try.results26 rfl rfl BF ?_
        exact ⟨⟨_, rfl, hf6⟩, ha6, (by first | exact hn4 | exact Nat.le_trans (Nat.le_succ _) hn4), bw⟩
  by_cases h2 : k = 2
  · subst h2
    as_aux_lemma =>
      skip
      obtain ⟨v, hv⟩ : ∃ v, v = m.get va := ⟨_, rfl⟩
      have HINV := Lib.hid (show inI v from by rw [hv]; exact HtAt.in_ HA3.out.1 _)
      obtain ⟨env1, he1⟩ : ∃ env1, env1 = env ++ [(⟨s, v⟩ : Bd)] := ⟨_, rfl⟩
      have HL1 := Lib.hid (show env1.length ≤ m.step.st from by rw [he1]; simp only [List.length_append, List.length_singleton]; omega)
      have HLN := Lib.hid (show lab ≤ 1048576 by have := HLE.out; omega)
      have hres2 : oneK (accU va false lab) (blU F rest env1 (lab + N1) kk m.step) = res := by have := HON.out; rw [stU_load hf, ← HVA.out, ← hv, ← he1] at this; exact this
      obtain ⟨cN, hcN⟩ : ∃ cN, cN = cellN va := ⟨_, rfl⟩
      have HCN := Lib.hid hcN
      have hcN8 : cN < 8 := by rw [hcN]; exact cellN_lt va
      have hcI : (cN : Int) < 8 := by omega
      go_wp2_with fail
      refine (cell_any va w3).mono ?_
      rintro e wc ⟨rfl, rfl⟩
      rw [← hcN]
      clear hcN
      have hdc : w3.cell? ⟨d, cN, none⟩ = some (vI v) := by have h := HtAt.cell HA3.out.1 hcN8; rw [hv, HCN.out] at *; exact h
      have hdI : (d : Nat) < w3.heap.size := HtAt.lt HA3.out.1
      have HRS := HR3
      have HDD := Lib.hid (show ∀ q, Is d q → q < w3.heap.size from fun q hq => by have e : q = d := hq; omega)
      have HE1 := Lib.hid he1
      clear hv he1
      go_upto_region 14 with (fail)
      refine wp_region_pre 15 (S := (fun w' => Same3 g y y w3 w')) (by kernel_rfl) (by kernel_rfl) (Same3.drew (Same3.refl _ _ _ _)) (fun hHeld => ?_)
      simp only [List.take_succ_cons, List.take_zero]
      refine wpAnyH_take_at (i := 0) (v := ?_) (some 67) rfl rfl (by kernel_rfl) (by kernel_rfl) (by kernel_rfl) (fun _ _ _ h => h) (Or.inl ⟨by rfl, ?_⟩) (by assumption) ?_
      rotate_left
      · (intro w hSw; (try dsimp only at hSw); go_simp; (try with_reducible rfl))
      (try simp only [Act.put, List.setIfInBounds_toArray, List.set_cons_zero, List.set_cons_succ])
      refine wpAnyH_take_at (i := 1) (v := ?_) (some 68) rfl rfl (by kernel_rfl) (by kernel_rfl) (by kernel_rfl) (fun _ _ _ h => h) (Or.inl ⟨by rfl, ?_⟩) (by assumption) ?_
      rotate_left
      · (intro w hSw; (try dsimp only at hSw); go_simp; (try with_reducible rfl))
      (try simp only [Act.put, List.setIfInBounds_toArray, List.set_cons_zero, List.set_cons_succ])
      refine wpAnyH_take_at (i := 2) (v := ?_) (some 69) rfl rfl (by kernel_rfl) (by kernel_rfl) (by kernel_rfl) (fun _ _ _ h => h) (Or.inl ⟨by rfl, ?_⟩) (by assumption) ?_
      rotate_left
      · (intro w hSw; (try dsimp only at hSw); go_simp; (try with_reducible rfl))
      (try simp only [Act.put, List.setIfInBounds_toArray, List.set_cons_zero, List.set_cons_succ])
      refine wpAnyH_take_at (i := 3) (v := ?_) (some 70) rfl rfl (by kernel_rfl) (by kernel_rfl) (by kernel_rfl) (fun _ _ _ h => h) (Or.inl ⟨by rfl, ?_⟩) (by assumption) ?_
      rotate_left
      · (intro w hSw; (try dsimp only at hSw); go_simp; (try with_reducible rfl))
      (try simp only [Act.put, List.setIfInBounds_toArray, List.set_cons_zero, List.set_cons_succ])
      refine wpAnyH_take_at (i := 4) (v := ?_) (some 71) rfl rfl (by kernel_rfl) (by kernel_rfl) (by kernel_rfl) (fun _ _ _ h => h) (Or.inl ⟨by rfl, ?_⟩) (by assumption) ?_
      rotate_left
      · (intro w hSw; (try dsimp only at hSw); go_simp; (try with_reducible rfl))
      (try simp only [Act.put, List.setIfInBounds_toArray, List.set_cons_zero, List.set_cons_succ])
      refine wpAnyH_take_at (i := 5) (v := ?_) (some 72) rfl rfl (by kernel_rfl) (by kernel_rfl) (by kernel_rfl) (fun _ _ _ h => h) (Or.inl ⟨by rfl, ?_⟩) (by assumption) ?_
      rotate_left
      · (intro w hSw; (try dsimp only at hSw); go_simp; (try with_reducible rfl))
      (try simp only [Act.put, List.setIfInBounds_toArray, List.set_cons_zero, List.set_cons_succ])
      refine wpAnyH_take_at (i := 6) (v := ?_) (some 73) rfl rfl (by kernel_rfl) (by kernel_rfl) (by kernel_rfl) (fun _ _ _ h => h) (Or.inl ⟨by rfl, ?_⟩) (by assumption) ?_
      rotate_left
      · (intro w hSw; (try dsimp only at hSw); go_simp; (try with_reducible rfl))
      (try simp only [Act.put, List.setIfInBounds_toArray, List.set_cons_zero, List.set_cons_succ])
      refine wpAnyH_take_at (i := 7) (v := ?_) (some 74) rfl rfl (by kernel_rfl) (by kernel_rfl) (by kernel_rfl) (fun _ _ _ h => h) (Or.inl ⟨by rfl, ?_⟩) (by assumption) ?_
      rotate_left
      · (intro w hSw; (try dsimp only at hSw); go_simp; (try with_reducible rfl))
      (try simp only [Act.put, List.setIfInBounds_toArray, List.set_cons_zero, List.set_cons_succ])
      refine wpAnyH_take_at (i := 8) (v := ?_) (some 75) rfl rfl (by kernel_rfl) (by kernel_rfl) (by kernel_rfl) (fun _ _ _ h => h) (Or.inl ⟨by rfl, ?_⟩) (by assumption) ?_
      rotate_left
      · (intro w hSw; (try dsimp only at hSw); go_simp; (try with_reducible rfl))
      (try simp only [Act.put, List.setIfInBounds_toArray, List.set_cons_zero, List.set_cons_succ])
      refine wpAnyH_take_at (i := 9) (v := ?_) (some 76) rfl rfl (by kernel_rfl) (by kernel_rfl) (by kernel_rfl) (fun _ _ _ h => h) (Or.inl ⟨by rfl, ?_⟩) (by assumption) ?_
      rotate_left
      · (intro w hSw; (try dsimp only at hSw); go_simp; (try with_reducible rfl))
      (try simp only [Act.put, List.setIfInBounds_toArray, List.set_cons_zero, List.set_cons_succ])
      refine wpAnyH_take_at (i := 10) (v := ?_) (some 77) rfl rfl (by kernel_rfl) (by kernel_rfl) (by kernel_rfl) (fun _ _ _ h => h) (Or.inl ⟨by rfl, ?_⟩) (by assumption) ?_
      rotate_left
      · (intro w hSw; (try dsimp only at hSw); go_simp; (try with_reducible rfl))
      (try simp only [Act.put, List.setIfInBounds_toArray, List.set_cons_zero, List.set_cons_succ])
      refine wpAnyH_take_at (i := 11) (v := ?_) (some 78) rfl rfl (by kernel_rfl) (by kernel_rfl) (by kernel_rfl) (fun _ _ _ h => h) (Or.inl ⟨by rfl, ?_⟩) (by assumption) ?_
      rotate_left
      · (intro w hSw; (try dsimp only at hSw); go_simp; (try with_reducible rfl))
      (try simp only [Act.put, List.setIfInBounds_toArray, List.set_cons_zero, List.set_cons_succ])
      refine wpAnyH_ready (rs := [12]) (by kernel_rfl) (by simp) ?_
      refine AllReadyH.cons rfl (fun K hK => ?_) AllReadyH.nil
      go_simp
      skip
      refine hK.out _ _ ?_ (fun hHeld => ?_)
      · exact hHeld
      clear hK K
      (try simp only [Act.put, List.setIfInBounds_toArray, List.set_cons_zero, List.set_cons_succ])
      refine wpAnyH_ready (rs := [13]) (by kernel_rfl) (by simp) ?_
      refine AllReadyH.cons rfl (fun K hK => ?_) AllReadyH.nil
      go_simp
      refine (bind_any env (by omega) s HHS.out v HINV.out w3.drew (Is d) _ HDD.out HR3.out.fx.drew).mono ?_
      rw [← HE1.out]
      rintro e w4 ⟨⟨x, rfl, hfx⟩, hb⟩
      obtain ⟨Ax, cx, rfl, -⟩ := hfx.form
      have hb34 := (But.refl (Is d) w3).drew.trans (But.of_below (T := Is d) hb)
      have HR4 := Lib.hid ((HR3.out.but_ hb34 hmst).env_ hfx HL1.out)
      refine hK.out _ _ ?_ (fun hHeld => ?_)
      · exact HR3.out.same3 hb34
      clear hK K
      (try simp only [Act.put, List.setIfInBounds_toArray, List.set_cons_zero, List.set_cons_succ])
      have HA4 := Lib.hid (show BdAt w4 d F m.step from (HA3.out.but (T := Nowhere) (But.refl _ _).drew (fun h => h)).below hb)
      refine wpAnyH_ready (rs := [14]) (by kernel_rfl) (by simp) ?_
      refine AllReadyH.cons rfl (fun K hK => ?_) AllReadyH.nil
      go_simp
      refine (on_any Ax env1.length cx _ _ _ _ w4).mono ?_
      rintro e wo ⟨rfl, rfl⟩
      have HO := Lib.hid (HR4.out.on HRE.out)
      have hbo : But (Is d) w3 (w4.alloc (.cells #[.slice Ax env1.length cx] 106)) := hb34.trans (But.of_below ((Below.refl _ _).alloc (Nat.le_refl _) _))
      refine hK.out _ _ ?_ (fun hHeld => ?_)
      · exact HRS.out.same3 hbo
      clear hK K
      (try simp only [Act.put, List.setIfInBounds_toArray, List.set_cons_zero, List.set_cons_succ])
      have HA9 := Lib.hid (HA4.out.below ((Below.refl _ _).alloc (Nat.le_refl _) (.cells #[.slice Ax env1.length cx] 106)))
      clear hdc hb hfx
      refine wpAnyH_done (by kernel_rfl) ?_ _
      unfold QPre
      simp only [List.drop_succ_cons, List.drop_zero]
      go_wp2_with fail
      refine (one_any (cN : Int) false (lab : Int) (by unfold inI; omega) (by unfold inI; have := HLN.out; omega) HO.out (Nat.le_refl _) HA9.out _ rfl).mono ?_
      rw [show oneK ⟨(cN : Int), false, (lab : Int)⟩ (blU F rest env1 (lab + N1) kk m.step) = res from by rw [← hres2, accU, HCN.out]]
      rintro e w4 ho
      cases res with
      | none =>
        obtain ⟨rfl, hb4⟩ := ho
        exact ⟨rfl, rfl, HBW.out.trans (hbo.trans hb4)⟩
      | some x =>
        obtain ⟨t, m1⟩ := x
        obtain ⟨⟨V, rfl, hf⟩, ha4, hn4, hb4⟩ := ho
        obtain ⟨k5, c5, wr5, lb5, A5, n5, cap5, rfl⟩ := hf.form
        have hb5 := hbo.trans hb4
        have HBA5 := Lib.hid (HBA.out.but hb5 hgd)
        have HF5 := Lib.hid (show FrT (Upto w3.heap.size) w4 t (tmV k5 c5 wr5 lb5 (.slice A5 n5 cap5)) from hf.fewer (Sub.upto (hbo).size))
        have HA5 := Lib.hid ha4
        have HB5 := Lib.hid (HBW.out.trans hb5)
        clear hf ha4 hb4 hb5
        (try clear c0 c1 c2 c3 c4 c5 c6 c7 c8 c9 c10 c11)
        have r0 := HBA5.out.cell 0 _ rfl; have r1 := HBA5.out.cell 1 _ rfl; have r2 := HBA5.out.cell 2 _ rfl; have r3 := HBA5.out.cell 3 _ rfl; have r4 := HBA5.out.cell 4 _ rfl
        have f0 := HBA5.out.fr 0; have f1 := HBA5.out.fr 1; have f2 := HBA5.out.fr 2; have f3 := HBA5.out.fr 3; have f4 := HBA5.out.fr 4
        go_wp2
        clear r0 r1 r2 r3 r4 f0 f1 f2 f3 f4
        have BF := set5_blk HBA5.out (.int .i64 k5) (.int .i64 c5) (.bool wr5) (.int .i64 lb5) (.slice A5 n5 cap5)
        have bg : But (Is (g + 1 + 1 + 1)) w4 (((((w4.setCell ⟨g + 1 + 1 + 1, 0, none⟩ (.int .i64 k5)).setCell ⟨g + 1 + 1 + 1, 1, none⟩ (.int .i64 c5)).setCell ⟨g + 1 + 1 + 1, 2, none⟩ (.bool wr5)).setCell ⟨g + 1 + 1 + 1, 3, none⟩ (.int .i64 lb5)).setCell ⟨g + 1 + 1 + 1, 4, none⟩ (.slice A5 n5 cap5)) := set5_but (But.refl _ _) (.inl (show Is (g + 1 + 1 + 1) (g + 1 + 1 + 1) from rfl)) _ _ _ _ _
        have bw := set5_but HB5.out (b := g + 1 + 1 + 1) (.inr hgw) (.int .i64 k5) (.int .i64 c5) (.bool wr5) (.int .i64 lb5) (.slice A5 n5 cap5)
        have hf6 := (HF5.out.but (bg.sub (fun k hk => by have e : k = g + 1 + 1 + 1 := hk; subst e; exact hgW))).fewer (Sub.upto HBW.out.size)
        have ha6 := HA5.out.but bg (fun e => hgd e.symm)
        generalize (((((w4.setCell ⟨g + 1 + 1 + 1, 0, none⟩ (.int .i64 k5)).setCell ⟨g + 1 + 1 + 1, 1, none⟩ (.int .i64 c5)).setCell ⟨g + 1 + 1 + 1, 2, none⟩ (.bool wr5)).setCell ⟨g + 1 + 1 + 1, 3, none⟩ (.int .i64 lb5)).setCell ⟨g + 1 + 1 + 1, 4, none⟩ (.slice A5 n5 cap5)) = WF at *
        refine ret_term Try.results26 rfl rfl BF ?_
        exact ⟨⟨_, rfl, hf6⟩, ha6, (by first | exact hn4 | exact Nat.le_trans (Nat.le_succ _) hn4), bw⟩
  by_cases h3 : k = 3
  · subst h3
    as_aux_lemma =>
      skip
      obtain ⟨vb, hvb⟩ : ∃ vb, vb = b.worth env := ⟨_, rfl⟩
      have HVB := Lib.hid hvb
      have hres2 : oneK (accU va true lab) (blU F rest env (lab + N1) kk (m.step.put va vb)) = res := by have := HON.out; rw [stU_store hf, ← HVA.out, ← hvb] at this; exact this
      have HLN := Lib.hid (show lab ≤ 1048576 by have := HLE.out; omega)
      clear hvb
      obtain ⟨cN, hcN⟩ : ∃ cN, cN = cellN va := ⟨_, rfl⟩
      have HCN := Lib.hid hcN
      have hcN8 : cN < 8 := by rw [hcN]; exact cellN_lt va
      have hcI : (cN : Int) < 8 := by omega
      go_wp2_with fail
      refine (cell_any va w3).mono ?_
      rintro e wc ⟨rfl, rfl⟩
      rw [← hcN]
      clear hcN
      have HRD := Lib.hid (HR3.out.below (Below.refl _ _).drew)
      have HAD := Lib.hid (show BdAt w3.drew d F m.step from HA3.out.but (T := Nowhere) (But.refl _ _).drew (fun h => h))
      go_upto_region 17 with (fail)
      refine wp_region_pre 8 (S := (fun w' => Same3 g y y w3 w')) (by kernel_rfl) (by kernel_rfl) (Same3.drew (Same3.refl _ _ _ _)) (fun hHeld => ?_)
      simp only [List.take_succ_cons, List.take_zero]
      refine wpAnyH_take_at (i := 0) (v := ?_) (some 87) rfl rfl (by kernel_rfl) (by kernel_rfl) (by kernel_rfl) (fun _ _ _ h => h) (Or.inl ⟨by rfl, ?_⟩) (by assumption) ?_
      rotate_left
      · (intro w hSw; (try dsimp only at hSw); go_simp; (try with_reducible rfl))
      (try simp only [Act.put, List.setIfInBounds_toArray, List.set_cons_zero, List.set_cons_succ])
      refine wpAnyH_take_at (i := 1) (v := ?_) (some 88) rfl rfl (by kernel_rfl) (by kernel_rfl) (by kernel_rfl) (fun _ _ _ h => h) (Or.inl ⟨by rfl, ?_⟩) (by assumption) ?_
      rotate_left
      · (intro w hSw; (try dsimp only at hSw); go_simp; (try with_reducible rfl))
      (try simp only [Act.put, List.setIfInBounds_toArray, List.set_cons_zero, List.set_cons_succ])
      refine wpAnyH_take_at (i := 2) (v := ?_) (some 89) rfl rfl (by kernel_rfl) (by kernel_rfl) (by kernel_rfl) (fun _ _ _ h => h) (Or.inl ⟨by rfl, ?_⟩) (by assumption) ?_
      rotate_left
      · (intro w hSw; (try dsimp only at hSw); go_simp; (try with_reducible rfl))
      (try simp only [Act.put, List.setIfInBounds_toArray, List.set_cons_zero, List.set_cons_succ])
      refine wpAnyH_take_at (i := 3) (v := ?_) (some 90) rfl rfl (by kernel_rfl) (by kernel_rfl) (by kernel_rfl) (fun _ _ _ h => h) (Or.inl ⟨by rfl, ?_⟩) (by assumption) ?_
      rotate_left
      · (intro w hSw; (try dsimp only at hSw); go_simp; (try with_reducible rfl))
      (try simp only [Act.put, List.setIfInBounds_toArray, List.set_cons_zero, List.set_cons_succ])
      refine wpAnyH_take_at (i := 4) (v := ?_) (some 91) rfl rfl (by kernel_rfl) (by kernel_rfl) (by kernel_rfl) (fun _ _ _ h => h) (Or.inl ⟨by rfl, ?_⟩) (by assumption) ?_
      rotate_left
      · (intro w hSw; (try dsimp only at hSw); go_simp; (try with_reducible rfl))
      (try simp only [Act.put, List.setIfInBounds_toArray, List.set_cons_zero, List.set_cons_succ])
      refine wpAnyH_take_at (i := 6) (v := ?_) (some 93) rfl rfl (by kernel_rfl) (by kernel_rfl) (by kernel_rfl) (fun _ _ _ h => h) (Or.inl ⟨by rfl, ?_⟩) (by assumption) ?_
      rotate_left
      · (intro w hSw; (try dsimp only at hSw); go_simp; (try with_reducible rfl))
      (try simp only [Act.put, List.setIfInBounds_toArray, List.set_cons_zero, List.set_cons_succ])
      refine wpAnyH_take_at (i := 7) (v := ?_) (some 94) rfl rfl (by kernel_rfl) (by kernel_rfl) (by kernel_rfl) (fun _ _ _ h => h) (Or.inl ⟨by rfl, ?_⟩) (by assumption) ?_
      rotate_left
      · (intro w hSw; (try dsimp only at hSw); go_simp; (try with_reducible rfl))
      (try simp only [Act.put, List.setIfInBounds_toArray, List.set_cons_zero, List.set_cons_succ])
      refine wpAnyH_ready (rs := [5]) (by kernel_rfl) (by simp) ?_
      refine AllReadyH.cons rfl (fun K hK => ?_) AllReadyH.nil
      go_simp
      refine (eval_fx env b w3.drew S (Is d) _ _ HRD.out.sW HRD.out.rn.rb HRD.out.fx).mono ?_
      rintro e wv ⟨rfl, hib, hb⟩
      rw [← HVB.out] at hib
      rw [← HVB.out]
      have hb35 := (But.refl (Is d) w3).drew.trans (But.of_below (T := Is d) hb)
      refine hK.out _ _ ?_ (fun hHeld => ?_)
      · exact HR3.out.same3 hb35
      clear hK K
      (try simp only [Act.put, List.setIfInBounds_toArray, List.set_cons_zero, List.set_cons_succ])
      have HA5 := Lib.hid (HAD.out.below hb)
      have kd : wv.cell? ⟨d, cN, none⟩ = some _ := HtAt.cell HA5.out.1 hcN8
      have kf := HtAt.fr HA5.out.1 cN
      obtain ⟨q1, q2⟩ := HtAt.setHeap HA5.out.1 hcN8 vb hib
      have HA6 := Lib.hid (show BdAt (wv.setCell ⟨d, cN, none⟩ (vI vb)) d F (m.step.put va vb) from ⟨by simp only [US.put]; rw [← HCN.out]; exact q1, HA5.out.2⟩)
      have HR6 := Lib.hid (HR3.out.but_ (hb35.trans q2) hmst)
      clear q1 q2 hb
      refine wpAnyH_done (by kernel_rfl) ?_ _
      unfold QPre
      simp only [List.drop_succ_cons, List.drop_zero]
      go_upto_region 18 with (fail)
      generalize wv.setCell ⟨d, cN, none⟩ (vI vb) = w6 at *
      clear HBA HBW hgW kd kf kg
      clear c0 c1 c2 c3 c4 c5 c6 c7 c8 c9 c10 c11
      have c0 := HR6.out.rn.bd.cell 0 _ rfl; have c1 := HR6.out.rn.bd.cell 1 _ rfl; have c2 := HR6.out.rn.bd.cell 2 _ rfl; have c3 := HR6.out.rn.bd.cell 3 _ rfl; have c4 := HR6.out.rn.bd.cell 4 _ rfl; have c5 := HR6.out.rn.bd.cell 5 _ rfl; have c6 := HR6.out.rn.bd.cell 6 _ rfl; have c7 := HR6.out.rn.bd.cell 7 _ rfl; have c8 := HR6.out.rn.bd.cell 8 _ rfl; have c9 := HR6.out.rn.bd.cell 9 _ rfl; have c10 := HR6.out.rn.bd.cell 10 _ rfl; have c11 := HR6.out.rn.bd.cell 11 _ rfl
      have HBA := Lib.hid HR6.out.bg
      have HBW := Lib.hid HR6.out.but
      have hgW : g + 1 + 1 + 1 < w6.heap.size := HR6.out.bg.lt
      have kg : w6.cell? ⟨g, 0, none⟩ = some (.pointer (some ⟨d, 0, none⟩)) := HR6.out.bb.cell 0 _ rfl
      have HRS := HR6
      have HR7 := Lib.hid (HR6.out.below (Below.refl _ _).drew)
      have hd6 := (But.refl (Is d) w6).drew
      refine wp_region_pre 6 (S := (fun w' => Same3 g y y w6 w')) (by kernel_rfl) (by kernel_rfl) (Same3.drew (Same3.refl _ _ _ _)) (fun hHeld => ?_)
      simp only [List.take_succ_cons, List.take_zero]
      refine wpAnyH_take_at (i := 0) (v := ?_) (some 96) rfl rfl (by kernel_rfl) (by kernel_rfl) (by kernel_rfl) (fun _ _ _ h => h) (Or.inl ⟨by rfl, ?_⟩) (by assumption) ?_
      rotate_left
      · (intro w hSw; (try dsimp only at hSw); go_simp; (try with_reducible rfl))
      (try simp only [Act.put, List.setIfInBounds_toArray, List.set_cons_zero, List.set_cons_succ])
      refine wpAnyH_take_at (i := 1) (v := ?_) (some 97) rfl rfl (by kernel_rfl) (by kernel_rfl) (by kernel_rfl) (fun _ _ _ h => h) (Or.inl ⟨by rfl, ?_⟩) (by assumption) ?_
      rotate_left
      · (intro w hSw; (try dsimp only at hSw); go_simp; (try with_reducible rfl))
      (try simp only [Act.put, List.setIfInBounds_toArray, List.set_cons_zero, List.set_cons_succ])
      refine wpAnyH_take_at (i := 2) (v := ?_) (some 98) rfl rfl (by kernel_rfl) (by kernel_rfl) (by kernel_rfl) (fun _ _ _ h => h) (Or.inl ⟨by rfl, ?_⟩) (by assumption) ?_
      rotate_left
      · (intro w hSw; (try dsimp only at hSw); go_simp; (try with_reducible rfl))
      (try simp only [Act.put, List.setIfInBounds_toArray, List.set_cons_zero, List.set_cons_succ])
      refine wpAnyH_take_at (i := 3) (v := ?_) (some 99) rfl rfl (by kernel_rfl) (by kernel_rfl) (by kernel_rfl) (fun _ _ _ h => h) (Or.inl ⟨by rfl, ?_⟩) (by assumption) ?_
      rotate_left
      · (intro w hSw; (try dsimp only at hSw); go_simp; (try with_reducible rfl))
      (try simp only [Act.put, List.setIfInBounds_toArray, List.set_cons_zero, List.set_cons_succ])
      refine wpAnyH_take_at (i := 4) (v := ?_) (some 100) rfl rfl (by kernel_rfl) (by kernel_rfl) (by kernel_rfl) (fun _ _ _ h => h) (Or.inl ⟨by rfl, ?_⟩) (by assumption) ?_
      rotate_left
      · (intro w hSw; (try dsimp only at hSw); go_simp; (try with_reducible rfl))
      (try simp only [Act.put, List.setIfInBounds_toArray, List.set_cons_zero, List.set_cons_succ])
      refine wpAnyH_ready (rs := [5]) (by kernel_rfl) (by simp) ?_
      refine AllReadyH.cons rfl (fun K hK => ?_) AllReadyH.nil
      go_simp
      refine (on_any Ae env.length ce _ _ _ _ w6.drew).mono ?_
      rintro e wo ⟨rfl, rfl⟩
      have HO := Lib.hid (HR7.out.on HRE.out)
      have hbo : But (Is d) w6 (w6.drew.alloc (.cells #[.slice Ae env.length ce] 106)) := hd6.trans (But.of_below ((Below.refl _ _).alloc (Nat.le_refl _) _))
      refine hK.out _ _ ?_ (fun hHeld => ?_)
      · exact HRS.out.same3 hbo
      clear hK K
      (try simp only [Act.put, List.setIfInBounds_toArray, List.set_cons_zero, List.set_cons_succ])
      have HA9 := Lib.hid ((HA6.out.but (T := Nowhere) (But.refl _ _).drew (fun h => h)).below ((Below.refl _ _).alloc (Nat.le_refl _) (.cells #[.slice Ae env.length ce] 106)))
      refine wpAnyH_done (by kernel_rfl) ?_ _
      unfold QPre
      simp only [List.drop_succ_cons, List.drop_zero]
      go_wp2_with fail
      refine (one_any (m := m.step.put va vb) (cN : Int) true (lab : Int) (by unfold inI; omega) (by unfold inI; have := HLN.out; omega) HO.out (Nat.le_refl _) HA9.out _ rfl).mono ?_
      rw [show oneK ⟨(cN : Int), true, (lab : Int)⟩ (blU F rest env (lab + N1) kk (m.step.put va vb)) = res from by rw [← hres2, accU, HCN.out]]
      rintro e w4 ho
      cases res with
      | none =>
        obtain ⟨rfl, hb4⟩ := ho
        exact ⟨rfl, rfl, HBW.out.trans (hbo.trans hb4)⟩
      | some x =>
        obtain ⟨t, m1⟩ := x
        obtain ⟨⟨V, rfl, hf⟩, ha4, hn4, hb4⟩ := ho
        obtain ⟨k5, c5, wr5, lb5, A5, n5, cap5, rfl⟩ := hf.form
        have hb5 := hbo.trans hb4
        have HBA5 := Lib.hid (HBA.out.but hb5 hgd)
        have HF5 := Lib.hid (show FrT (Upto w6.heap.size) w4 t (tmV k5 c5 wr5 lb5 (.slice A5 n5 cap5)) from hf.fewer (Sub.upto (hbo).size))
        have HA5 := Lib.hid ha4
        have HB5 := Lib.hid (HBW.out.trans hb5)
        clear hf ha4 hb4 hb5
        (try clear c0 c1 c2 c3 c4 c5 c6 c7 c8 c9 c10 c11)
        have r0 := HBA5.out.cell 0 _ rfl; have r1 := HBA5.out.cell 1 _ rfl; have r2 := HBA5.out.cell 2 _ rfl; have r3 := HBA5.out.cell 3 _ rfl; have r4 := HBA5.out.cell 4 _ rfl
        have f0 := HBA5.out.fr 0; have f1 := HBA5.out.fr 1; have f2 := HBA5.out.fr 2; have f3 := HBA5.out.fr 3; have f4 := HBA5.out.fr 4
        go_wp2
        clear r0 r1 r2 r3 r4 f0 f1 f2 f3 f4
        have BF := set5_blk HBA5.out (.int .i64 k5) (.int .i64 c5) (.bool wr5) (.int .i64 lb5) (.slice A5 n5 cap5)
        have bg : But (Is (g + 1 + 1 + 1)) w4 (((((w4.setCell ⟨g + 1 + 1 + 1, 0, none⟩ (.int .i64 k5)).setCell ⟨g + 1 + 1 + 1, 1, none⟩ (.int .i64 c5)).setCell ⟨g + 1 + 1 + 1, 2, none⟩ (.bool wr5)).setCell ⟨g + 1 + 1 + 1, 3, none⟩ (.int .i64 lb5)).setCell ⟨g + 1 + 1 + 1, 4, none⟩ (.slice A5 n5 cap5)) := set5_but (But.refl _ _) (.inl (show Is (g + 1 + 1 + 1) (g + 1 + 1 + 1) from rfl)) _ _ _ _ _
        have bw := set5_but HB5.out (b := g + 1 + 1 + 1) (.inr hgw) (.int .i64 k5) (.int .i64 c5) (.bool wr5) (.int .i64 lb5) (.slice A5 n5 cap5)
        have hf6 := (HF5.out.but (bg.sub (fun k hk => by have e : k = g + 1 + 1 + 1 := hk; subst e; exact hgW))).fewer (Sub.upto HBW.out.size)
        have ha6 := HA5.out.but bg (fun e => hgd e.symm)
        generalize (((((w4.setCell ⟨g + 1 + 1 + 1, 0, none⟩ (.int .i64 k5)).setCell ⟨g + 1 + 1 + 1, 1, none⟩ (.int .i64 c5)).setCell ⟨g + 1 + 1 + 1, 2, none⟩ (.bool wr5)).setCell ⟨g + 1 + 1 + 1, 3, none⟩ (.int .i64 lb5)).setCell ⟨g + 1 + 1 + 1, 4, none⟩ (.slice A5 n5 cap5)) = WF at *
        refine ret_term Try.results26 rfl rfl BF ?_
        exact ⟨⟨_, rfl, hf6⟩, ha6, (by first | exact hn4 | exact Nat.le_trans (Nat.le_succ _) hn4), bw⟩
  by_cases h4 : k = 4
  · subst h4
    as_aux_lemma =>
      skip
      have hres2 : pairU 3 (blU F body env lab (fun m => some (zeroT, m)) m.step) (fun m' => blU F rest env (lab + N1) kk m') = res := by have := HON.out; rw [stU_par hf] at this; exact this
      have hlb : lab + labelsL body ≤ 1048576 := by have h := HLE.out; rw [labelsS] at h; simp at h; omega
      cases hx : blU F body env lab (fun m => some (zeroT, m)) m.step with
      | none =>
        rw [hx] at hres2
        have hrn : res = none := hres2.symm
        subst hrn
        go_wp2_with fail
        refine (HBO.out base w3 d m.step env lab S _ _ _ _ HA3.out HBD.out HS.out HR3.out.rn.r1 HR3.out.fx (Nat.le_of_lt hel3) (thenNothing F d _ w3) hlb hx3 none hx).mono ?_
        rintro e w4 ⟨rfl, hb4⟩
        exact ⟨rfl, rfl, HBW.out.trans hb4⟩
      | some xb =>
        obtain ⟨tb, mb⟩ := xb
        rw [hx] at hres2
        go_wp2_with fail
        refine (HBO.out base w3 d m.step env lab S _ _ _ _ HA3.out HBD.out HS.out HR3.out.rn.r1 HR3.out.fx (Nat.le_of_lt hel3) (thenNothing F d _ w3) hlb hx3 (some (tb, mb)) hx).mono ?_
        rintro e w4 ⟨⟨Vx, rfl, hf4⟩, ha4, hnb, hb4⟩
        have hnb : m.step.st ≤ mb.st := hnb
        obtain ⟨kx, cx, wx, lx, Ax, nx, px, rfl⟩ := hf4.form
        have HB4 := Lib.hid hb4
        have HA4 := Lib.hid ha4
        have HF4 := Lib.hid (show FrT (Upto w3.heap.size) w4 tb (tmV kx cx wx lx (.slice Ax nx px)) from hf4)
        clear hf4 ha4 hx c0 c1 c2 c3 c4 c5 c6 c7 c8 c9 c10 c11 kg
        go_upto_region 21 with (fail)
        have hbq : Below w4.heap.size w4 (w4.alloc (.cells #[.int .i64 kx, .int .i64 cx, .bool wx, .int .i64 lx, .slice Ax nx px] 26)) := (Below.refl _ _).alloc (Nat.le_refl _) _
        have HR5 := Lib.hid ((HR3.out.but_ HB4.out hnb).below hbq)
        have HB5 := Lib.hid (HB4.out.trans (But.of_below hbq))
        have HAQ := Lib.hid (HA4.out.below hbq)
        have HFQ := Lib.hid (HF4.out.below hbq)
        have HQ := Lib.hid (Blk.made w4 [.int .i64 kx, .int .i64 cx, .bool wx, .int .i64 lx, .slice Ax nx px] 26 (base := w.heap.size) (Nat.le_trans HBW.out.size HB4.out.size))
        clear hbq hb4
        generalize (w4.alloc (.cells #[.int .i64 kx, .int .i64 cx, .bool wx, .int .i64 lx, .slice Ax nx px] 26)) = w5 at *
        obtain ⟨q, hq⟩ : ∃ q, q = w4.heap.size := ⟨_, rfl⟩
        rw [← hq] at HQ ⊢
        have hqd : ¬ Is d q := HR5.out.nd HQ.out.ge
        clear hq
        have z0 := HQ.out.cell 0 _ rfl; have z1 := HQ.out.cell 1 _ rfl; have z2 := HQ.out.cell 2 _ rfl; have z3 := HQ.out.cell 3 _ rfl; have z4 := HQ.out.cell 4 _ rfl
        have HRS := HR5
        have HRQ := Lib.hid (HR5.out.below (Below.refl _ _).drew)
        have hd5 := (But.refl (Is d) w5).drew
        have HSQ := Lib.hid (show ∀ w', But (Is d) w5 w' → Same3 g y q w5 w' from fun w' h => Same3.of_but h HR5.out.bb.lt HR5.out.rn.bd.lt HQ.out.lt (HR5.out.nd HR5.out.g0) (HR5.out.nd HR5.out.y0) hqd)
        refine wp_region_pre 5 (S := (fun w' => Same3 g y q w5 w')) (by kernel_rfl) (by kernel_rfl) (Same3.drew (Same3.refl _ _ _ _)) (fun hHeld => ?_)
        simp only [List.take_succ_cons, List.take_zero]
        refine wpAnyH_take_at (i := 0) (v := ?_) (some 111) rfl rfl (by kernel_rfl) (by kernel_rfl) (by kernel_rfl) (fun _ _ _ h => h) (Or.inl ⟨by rfl, ?_⟩) (by assumption) ?_
        rotate_left
        · (intro w hSw; (try dsimp only at hSw); go_simp; (try with_reducible rfl))
        (try simp only [Act.put, List.setIfInBounds_toArray, List.set_cons_zero, List.set_cons_succ])
        refine wpAnyH_take_at (i := 1) (v := ?_) (some 112) rfl rfl (by kernel_rfl) (by kernel_rfl) (by kernel_rfl) (fun _ _ _ h => h) (Or.inl ⟨by rfl, ?_⟩) (by assumption) ?_
        rotate_left
        · (intro w hSw; (try dsimp only at hSw); go_simp; (try with_reducible rfl))
        (try simp only [Act.put, List.setIfInBounds_toArray, List.set_cons_zero, List.set_cons_succ])
        refine wpAnyH_take_at (i := 2) (v := ?_) (some 113) rfl rfl (by kernel_rfl) (by kernel_rfl) (by kernel_rfl) (fun _ _ _ h => h) (Or.inl ⟨by rfl, ?_⟩) (by assumption) ?_
        rotate_left
        · (intro w hSw; (try dsimp only at hSw); go_simp; (try with_reducible rfl))
        (try simp only [Act.put, List.setIfInBounds_toArray, List.set_cons_zero, List.set_cons_succ])
        refine wpAnyH_ready (rs := [3]) (by kernel_rfl) (by simp) ?_
        refine AllReadyH.cons rfl (fun K hK => ?_) AllReadyH.nil
        go_simp
        refine (on_any Ae env.length ce _ _ _ _ w5.drew).mono ?_
        rintro e wo ⟨rfl, rfl⟩
        have HO := Lib.hid (HRQ.out.on HRE.out)
        have hbo : But (Is d) w5 (w5.drew.alloc (.cells #[.slice Ae env.length ce] 106)) := hd5.trans (But.of_below ((Below.refl _ _).alloc (Nat.le_refl _) _))
        refine hK.out _ _ ?_ (fun hHeld => ?_)
        · exact HSQ.out _ hbo
        clear hK K
        (try simp only [Act.put, List.setIfInBounds_toArray, List.set_cons_zero, List.set_cons_succ])
        have HA9 := Lib.hid ((HAQ.out.but (T := Nowhere) (But.refl _ _).drew (fun h => h)).below ((Below.refl _ _).alloc (Nat.le_refl _) (.cells #[.slice Ae env.length ce] 106)))
        clear z0 z1 z2 z3 z4
        cases hy : blU F rest env (lab + N1) kk mb with
        | none =>
          have hrn : res = none := by rw [← hres2]; show ((blU F rest env (lab + N1) kk mb).map _) = none; rw [hy]; rfl
          subst hrn
          refine wpAnyH_ready (rs := [4]) (by kernel_rfl) (by simp) ?_
          refine AllReadyH.cons rfl (fun K hK => ?_) AllReadyH.nil
          go_simp
          refine (HO.out.run _ mb (But.refl _ _) HA9.out (Nat.le_refl _) none hy).mono ?_
          rintro e w6 ⟨rfl, hb6⟩
          exact ⟨rfl, rfl, (HBW.out.trans HB5.out).trans (hbo.trans hb6)⟩
        | some x2 =>
          obtain ⟨t2, m2⟩ := x2
          have hrn : res = some (twoT 3 tb t2, m2) := by rw [← hres2]; show ((blU F rest env (lab + N1) kk mb).map _) = _; rw [hy]; rfl
          subst hrn
          refine wpAnyH_ready (rs := [4]) (by kernel_rfl) (by simp) ?_
          refine AllReadyH.cons rfl (fun K hK => ?_) AllReadyH.nil
          go_simp
          refine (HO.out.run _ mb (But.refl _ _) HA9.out (Nat.le_refl _) (some (t2, m2)) hy).mono ?_
          rintro e w6 ⟨⟨V2, rfl, hf6⟩, ha6, hn6, hb6⟩
          obtain ⟨ky, cy, wy, ly, Ay, ny, py, rfl⟩ := hf6.form
          have hb56 := hbo.trans hb6
          refine hK.out _ _ ?_ (fun hHeld => ?_)
          · exact HSQ.out _ hb56
          clear hK K
          (try simp only [Act.put, List.setIfInBounds_toArray, List.set_cons_zero, List.set_cons_succ])
          have HF6 := Lib.hid (show FrT (Upto w3.heap.size) w6 t2 (tmV ky cy wy ly (.slice Ay ny py)) from hf6.fewer (Sub.upto (Nat.le_trans HB5.out.size hbo.size)))
          have HFX6 := Lib.hid (show FrT (Upto w3.heap.size) w6 tb (tmV kx cx wx lx (.slice Ax nx px)) from HFQ.out.but (hb56.sub (fun e he => by have h : e = d := he; subst h; exact Nat.lt_of_lt_of_le HR3.out.dw HR3.out.but.size)))
          have HB6 := Lib.hid hb56
          have HA6 := Lib.hid ha6
          have hn6 : mb.st ≤ m2.st := hn6
          clear hf6 ha6 hb6
          refine wpAnyH_done (by kernel_rfl) ?_ _
          unfold QPre
          simp only [List.drop_succ_cons, List.drop_zero]
          go_wp2_with fail
          refine (two_any 3 ⟨by decide, by decide⟩ tb t2 _ _ (Upto w3.heap.size) w6 (fun e he => Nat.lt_of_lt_of_le he (Nat.le_trans HB5.out.size HB6.out.size)) HFX6.out HF6.out).mono ?_
          rintro e w7 ⟨⟨V5, rfl, hf7⟩, hb7⟩
          obtain ⟨k5, c5, wr5, lb5, A5, n5, cap5, rfl⟩ := hf7.form
          have HBA5 := Lib.hid ((HBA.out.but (HB5.out.trans HB6.out) hgd).below hb7)
          have HF5 := Lib.hid hf7
          have HA5 := Lib.hid (HA6.out.below hb7)
          have HB5X := Lib.hid ((HBW.out.trans (HB5.out.trans HB6.out)).trans (But.of_below hb7))
          clear HB5
          have HB5 := HB5X
          have hn4 : m.step.st ≤ m2.st := Nat.le_trans hnb hn6
          clear hf7 hb7 HB5X
          have r0 := HBA5.out.cell 0 _ rfl; have r1 := HBA5.out.cell 1 _ rfl; have r2 := HBA5.out.cell 2 _ rfl; have r3 := HBA5.out.cell 3 _ rfl; have r4 := HBA5.out.cell 4 _ rfl
          have f0 := HBA5.out.fr 0; have f1 := HBA5.out.fr 1; have f2 := HBA5.out.fr 2; have f3 := HBA5.out.fr 3; have f4 := HBA5.out.fr 4
          go_wp2
          clear r0 r1 r2 r3 r4 f0 f1 f2 f3 f4
          have BF := set5_blk HBA5.out (.int .i64 k5) (.int .i64 c5) (.bool wr5) (.int .i64 lb5) (.slice A5 n5 cap5)
          have bg : But (Is (g + 1 + 1 + 1)) w7 (((((w7.setCell ⟨g + 1 + 1 + 1, 0, none⟩ (.int .i64 k5)).setCell ⟨g + 1 + 1 + 1, 1, none⟩ (.int .i64 c5)).setCell ⟨g + 1 + 1 + 1, 2, none⟩ (.bool wr5)).setCell ⟨g + 1 + 1 + 1, 3, none⟩ (.int .i64 lb5)).setCell ⟨g + 1 + 1 + 1, 4, none⟩ (.slice A5 n5 cap5)) := set5_but (But.refl _ _) (.inl (show Is (g + 1 + 1 + 1) (g + 1 + 1 + 1) from rfl)) _ _ _ _ _
          have bw := set5_but HB5.out (b := g + 1 + 1 + 1) (.inr hgw) (.int .i64 k5) (.int .i64 c5) (.bool wr5) (.int .i64 lb5) (.slice A5 n5 cap5)
          have hf6 := (HF5.out.but (bg.sub (fun k hk => by have e : k = g + 1 + 1 + 1 := hk; subst e; exact hgW))).fewer (Sub.upto HBW.out.size)
          have ha6 := HA5.out.but bg (fun e => hgd e.symm)
          generalize (((((w7.setCell ⟨g + 1 + 1 + 1, 0, none⟩ (.int .i64 k5)).setCell ⟨g + 1 + 1 + 1, 1, none⟩ (.int .i64 c5)).setCell ⟨g + 1 + 1 + 1, 2, none⟩ (.bool wr5)).setCell ⟨g + 1 + 1 + 1, 3, none⟩ (.int .i64 lb5)).setCell ⟨g + 1 + 1 + 1, 4, none⟩ (.slice A5 n5 cap5)) = WF at *
          refine ret_term Try.results26 rfl rfl BF ?_
          exact ⟨⟨_, rfl, hf6⟩, ha6, (by first | exact hn4 | exact Nat.le_trans (Nat.le_succ _) hn4), bw⟩
  by_cases h5 : k = 5
  · subst h5
    as_aux_lemma =>
      skip
      have hres2 : pairU 2 (blU F body env lab (fun m => some (zeroT, m)) m.step) (fun m' => blU F rest env (lab + N1) kk m') = res := by have := HON.out; rw [stU_fin hf] at this; exact this
      have hlb : lab + labelsL body ≤ 1048576 := by have h := HLE.out; rw [labelsS] at h; simp at h; omega
      cases hx : blU F body env lab (fun m => some (zeroT, m)) m.step with
      | none =>
        rw [hx] at hres2
        have hrn : res = none := hres2.symm
        subst hrn
        go_wp2_with fail
        refine (HBO.out base w3 d m.step env lab S _ _ _ _ HA3.out HBD.out HS.out HR3.out.rn.r1 HR3.out.fx (Nat.le_of_lt hel3) (thenNothing F d _ w3) hlb hx3 none hx).mono ?_
        rintro e w4 ⟨rfl, hb4⟩
        exact ⟨rfl, rfl, HBW.out.trans hb4⟩
      | some xb =>
        obtain ⟨tb, mb⟩ := xb
        rw [hx] at hres2
        go_wp2_with fail
        refine (HBO.out base w3 d m.step env lab S _ _ _ _ HA3.out HBD.out HS.out HR3.out.rn.r1 HR3.out.fx (Nat.le_of_lt hel3) (thenNothing F d _ w3) hlb hx3 (some (tb, mb)) hx).mono ?_
        rintro e w4 ⟨⟨Vx, rfl, hf4⟩, ha4, hnb, hb4⟩
        have hnb : m.step.st ≤ mb.st := hnb
        obtain ⟨kx, cx, wx, lx, Ax, nx, px, rfl⟩ := hf4.form
        have HB4 := Lib.hid hb4
        have HA4 := Lib.hid ha4
        have HF4 := Lib.hid (show FrT (Upto w3.heap.size) w4 tb (tmV kx cx wx lx (.slice Ax nx px)) from hf4)
        clear hf4 ha4 hx c0 c1 c2 c3 c4 c5 c6 c7 c8 c9 c10 c11 kg
        go_upto_region 24 with (fail)
        have hbq : Below w4.heap.size w4 (w4.alloc (.cells #[.int .i64 kx, .int .i64 cx, .bool wx, .int .i64 lx, .slice Ax nx px] 26)) := (Below.refl _ _).alloc (Nat.le_refl _) _
        have HR5 := Lib.hid ((HR3.out.but_ HB4.out hnb).below hbq)
        have HB5 := Lib.hid (HB4.out.trans (But.of_below hbq))
        have HAQ := Lib.hid (HA4.out.below hbq)
        have HFQ := Lib.hid (HF4.out.below hbq)
        have HQ := Lib.hid (Blk.made w4 [.int .i64 kx, .int .i64 cx, .bool wx, .int .i64 lx, .slice Ax nx px] 26 (base := w.heap.size) (Nat.le_trans HBW.out.size HB4.out.size))
        clear hbq hb4
        generalize (w4.alloc (.cells #[.int .i64 kx, .int .i64 cx, .bool wx, .int .i64 lx, .slice Ax nx px] 26)) = w5 at *
        obtain ⟨q, hq⟩ : ∃ q, q = w4.heap.size := ⟨_, rfl⟩
        rw [← hq] at HQ ⊢
        have hqd : ¬ Is d q := HR5.out.nd HQ.out.ge
        clear hq
        have z0 := HQ.out.cell 0 _ rfl; have z1 := HQ.out.cell 1 _ rfl; have z2 := HQ.out.cell 2 _ rfl; have z3 := HQ.out.cell 3 _ rfl; have z4 := HQ.out.cell 4 _ rfl
        have HRS := HR5
        have HRQ := Lib.hid (HR5.out.below (Below.refl _ _).drew)
        have hd5 := (But.refl (Is d) w5).drew
        have HSQ := Lib.hid (show ∀ w', But (Is d) w5 w' → Same3 g y q w5 w' from fun w' h => Same3.of_but h HR5.out.bb.lt HR5.out.rn.bd.lt HQ.out.lt (HR5.out.nd HR5.out.g0) (HR5.out.nd HR5.out.y0) hqd)
        refine wp_region_pre 5 (S := (fun w' => Same3 g y q w5 w')) (by kernel_rfl) (by kernel_rfl) (Same3.drew (Same3.refl _ _ _ _)) (fun hHeld => ?_)
        simp only [List.take_succ_cons, List.take_zero]
        refine wpAnyH_take_at (i := 0) (v := ?_) (some 125) rfl rfl (by kernel_rfl) (by kernel_rfl) (by kernel_rfl) (fun _ _ _ h => h) (Or.inl ⟨by rfl, ?_⟩) (by assumption) ?_
        rotate_left
        · (intro w hSw; (try dsimp only at hSw); go_simp; (try with_reducible rfl))
        (try simp only [Act.put, List.setIfInBounds_toArray, List.set_cons_zero, List.set_cons_succ])
        refine wpAnyH_take_at (i := 1) (v := ?_) (some 126) rfl rfl (by kernel_rfl) (by kernel_rfl) (by kernel_rfl) (fun _ _ _ h => h) (Or.inl ⟨by rfl, ?_⟩) (by assumption) ?_
        rotate_left
        · (intro w hSw; (try dsimp only at hSw); go_simp; (try with_reducible rfl))
        (try simp only [Act.put, List.setIfInBounds_toArray, List.set_cons_zero, List.set_cons_succ])
        refine wpAnyH_take_at (i := 2) (v := ?_) (some 127) rfl rfl (by kernel_rfl) (by kernel_rfl) (by kernel_rfl) (fun _ _ _ h => h) (Or.inl ⟨by rfl, ?_⟩) (by assumption) ?_
        rotate_left
        · (intro w hSw; (try dsimp only at hSw); go_simp; (try with_reducible rfl))
        (try simp only [Act.put, List.setIfInBounds_toArray, List.set_cons_zero, List.set_cons_succ])
        refine wpAnyH_ready (rs := [3]) (by kernel_rfl) (by simp) ?_
        refine AllReadyH.cons rfl (fun K hK => ?_) AllReadyH.nil
        go_simp
        refine (on_any Ae env.length ce _ _ _ _ w5.drew).mono ?_
        rintro e wo ⟨rfl, rfl⟩
        have HO := Lib.hid (HRQ.out.on HRE.out)
        have hbo : But (Is d) w5 (w5.drew.alloc (.cells #[.slice Ae env.length ce] 106)) := hd5.trans (But.of_below ((Below.refl _ _).alloc (Nat.le_refl _) _))
        refine hK.out _ _ ?_ (fun hHeld => ?_)
        · exact HSQ.out _ hbo
        clear hK K
        (try simp only [Act.put, List.setIfInBounds_toArray, List.set_cons_zero, List.set_cons_succ])
        have HA9 := Lib.hid ((HAQ.out.but (T := Nowhere) (But.refl _ _).drew (fun h => h)).below ((Below.refl _ _).alloc (Nat.le_refl _) (.cells #[.slice Ae env.length ce] 106)))
        clear z0 z1 z2 z3 z4
        cases hy : blU F rest env (lab + N1) kk mb with
        | none =>
          have hrn : res = none := by rw [← hres2]; show ((blU F rest env (lab + N1) kk mb).map _) = none; rw [hy]; rfl
          subst hrn
          refine wpAnyH_ready (rs := [4]) (by kernel_rfl) (by simp) ?_
          refine AllReadyH.cons rfl (fun K hK => ?_) AllReadyH.nil
          go_simp
          refine (HO.out.run _ mb (But.refl _ _) HA9.out (Nat.le_refl _) none hy).mono ?_
          rintro e w6 ⟨rfl, hb6⟩
          exact ⟨rfl, rfl, (HBW.out.trans HB5.out).trans (hbo.trans hb6)⟩
        | some x2 =>
          obtain ⟨t2, m2⟩ := x2
          have hrn : res = some (twoT 2 tb t2, m2) := by rw [← hres2]; show ((blU F rest env (lab + N1) kk mb).map _) = _; rw [hy]; rfl
          subst hrn
          refine wpAnyH_ready (rs := [4]) (by kernel_rfl) (by simp) ?_
          refine AllReadyH.cons rfl (fun K hK => ?_) AllReadyH.nil
          go_simp
          refine (HO.out.run _ mb (But.refl _ _) HA9.out (Nat.le_refl _) (some (t2, m2)) hy).mono ?_
          rintro e w6 ⟨⟨V2, rfl, hf6⟩, ha6, hn6, hb6⟩
          obtain ⟨ky, cy, wy, ly, Ay, ny, py, rfl⟩ := hf6.form
          have hb56 := hbo.trans hb6
          refine hK.out _ _ ?_ (fun hHeld => ?_)
          · exact HSQ.out _ hb56
          clear hK K
          (try simp only [Act.put, List.setIfInBounds_toArray, List.set_cons_zero, List.set_cons_succ])
          have HF6 := Lib.hid (show FrT (Upto w3.heap.size) w6 t2 (tmV ky cy wy ly (.slice Ay ny py)) from hf6.fewer (Sub.upto (Nat.le_trans HB5.out.size hbo.size)))
          have HFX6 := Lib.hid (show FrT (Upto w3.heap.size) w6 tb (tmV kx cx wx lx (.slice Ax nx px)) from HFQ.out.but (hb56.sub (fun e he => by have h : e = d := he; subst h; exact Nat.lt_of_lt_of_le HR3.out.dw HR3.out.but.size)))
          have HB6 := Lib.hid hb56
          have HA6 := Lib.hid ha6
          have hn6 : mb.st ≤ m2.st := hn6
          clear hf6 ha6 hb6
          refine wpAnyH_done (by kernel_rfl) ?_ _
          unfold QPre
          simp only [List.drop_succ_cons, List.drop_zero]
          go_wp2_with fail
          refine (two_any 2 ⟨by decide, by decide⟩ tb t2 _ _ (Upto w3.heap.size) w6 (fun e he => Nat.lt_of_lt_of_le he (Nat.le_trans HB5.out.size HB6.out.size)) HFX6.out HF6.out).mono ?_
          rintro e w7 ⟨⟨V5, rfl, hf7⟩, hb7⟩
          obtain ⟨k5, c5, wr5, lb5, A5, n5, cap5, rfl⟩ := hf7.form
          have HBA5 := Lib.hid ((HBA.out.but (HB5.out.trans HB6.out) hgd).below hb7)
          have HF5 := Lib.hid hf7
          have HA5 := Lib.hid (HA6.out.below hb7)
          have HB5X := Lib.hid ((HBW.out.trans (HB5.out.trans HB6.out)).trans (But.of_below hb7))
          clear HB5
          have HB5 := HB5X
          have hn4 : m.step.st ≤ m2.st := Nat.le_trans hnb hn6
          clear hf7 hb7 HB5X
          have r0 := HBA5.out.cell 0 _ rfl; have r1 := HBA5.out.cell 1 _ rfl; have r2 := HBA5.out.cell 2 _ rfl; have r3 := HBA5.out.cell 3 _ rfl; have r4 := HBA5.out.cell 4 _ rfl
          have f0 := HBA5.out.fr 0; have f1 := HBA5.out.fr 1; have f2 := HBA5.out.fr 2; have f3 := HBA5.out.fr 3; have f4 := HBA5.out.fr 4
          go_wp2
          clear r0 r1 r2 r3 r4 f0 f1 f2 f3 f4
          have BF := set5_blk HBA5.out (.int .i64 k5) (.int .i64 c5) (.bool wr5) (.int .i64 lb5) (.slice A5 n5 cap5)
          have bg : But (Is (g + 1 + 1 + 1)) w7 (((((w7.setCell ⟨g + 1 + 1 + 1, 0, none⟩ (.int .i64 k5)).setCell ⟨g + 1 + 1 + 1, 1, none⟩ (.int .i64 c5)).setCell ⟨g + 1 + 1 + 1, 2, none⟩ (.bool wr5)).setCell ⟨g + 1 + 1 + 1, 3, none⟩ (.int .i64 lb5)).setCell ⟨g + 1 + 1 + 1, 4, none⟩ (.slice A5 n5 cap5)) := set5_but (But.refl _ _) (.inl (show Is (g + 1 + 1 + 1) (g + 1 + 1 + 1) from rfl)) _ _ _ _ _
          have bw := set5_but HB5.out (b := g + 1 + 1 + 1) (.inr hgw) (.int .i64 k5) (.int .i64 c5) (.bool wr5) (.int .i64 lb5) (.slice A5 n5 cap5)
          have hf6 := (HF5.out.but (bg.sub (fun k hk => by have e : k = g + 1 + 1 + 1 := hk; subst e; exact hgW))).fewer (Sub.upto HBW.out.size)
          have ha6 := HA5.out.but bg (fun e => hgd e.symm)
          generalize (((((w7.setCell ⟨g + 1 + 1 + 1, 0, none⟩ (.int .i64 k5)).setCell ⟨g + 1 + 1 + 1, 1, none⟩ (.int .i64 c5)).setCell ⟨g + 1 + 1 + 1, 2, none⟩ (.bool wr5)).setCell ⟨g + 1 + 1 + 1, 3, none⟩ (.int .i64 lb5)).setCell ⟨g + 1 + 1 + 1, 4, none⟩ (.slice A5 n5 cap5)) = WF at *
          refine ret_term Try.results26 rfl rfl BF ?_
          exact ⟨⟨_, rfl, hf6⟩, ha6, (by first | exact hn4 | exact Nat.le_trans (Nat.le_succ _) hn4), bw⟩
  by_cases h6 : k = 6
  · subst h6
    as_aux_lemma =>
      skip
      have HLN := Lib.hid (show labelsL rest ≤ 1048576 by have := HLE.out; omega)
      have hlb : lab + labelsL body ≤ 1048576 := by have h := HLE.out; rw [labelsS] at h; simp at h; omega
      have hlb2 : lab + labelsL body + labelsL els ≤ 1048576 := by have h := HLE.out; rw [labelsS] at h; simp at h; omega
      have HRD := Lib.hid (HR3.out.below (Below.refl _ _).drew)
      have HAD := Lib.hid (show BdAt w3.drew d F m.step from HA3.out.but (T := Nowhere) (But.refl _ _).drew (fun h => h))
      have HRS := HR3
      by_cases hw : va = 0
      · have hres2 : blU F els env (lab + labelsL body) (fun m' => blU F rest env (lab + N1) kk m') m.step = res := by have := HON.out; rw [stU_else hf (by rw [← HVA.out]; exact hw)] at this; exact this
        have HNC := Lib.hid (show (lab : Int) + (labelsL body : Int) = ((lab + labelsL body : Nat) : Int) from (Int.natCast_add _ _).symm)
        subst hw
        go_upto_region 28 with (fail)
        refine wp_region_pre 12 (S := (fun w' => Same3 g y y w3 w')) (by kernel_rfl) (by kernel_rfl) (Same3.drew (Same3.refl _ _ _ _)) (fun hHeld => ?_)
        simp only [List.take_succ_cons, List.take_zero]
        have hwl1 := i64_2 (show lab + labelsL body ≤ 1048577 by omega)
        have hwl2 := w64_2 (show lab + labelsL body ≤ 1048577 by omega)
        refine wpAnyH_take_at (i := 0) (v := ?_) (some 144) rfl rfl (by kernel_rfl) (by kernel_rfl) (by kernel_rfl) (fun _ _ _ h => h) (Or.inl ⟨by rfl, ?_⟩) (by assumption) ?_
        rotate_left
        · (intro w hSw; (try dsimp only at hSw); go_simp; (try with_reducible rfl))
        (try simp only [Act.put, List.setIfInBounds_toArray, List.set_cons_zero, List.set_cons_succ])
        refine wpAnyH_take_at (i := 1) (v := ?_) (some 145) rfl rfl (by kernel_rfl) (by kernel_rfl) (by kernel_rfl) (fun _ _ _ h => h) (Or.inl ⟨by rfl, ?_⟩) (by assumption) ?_
        rotate_left
        · (intro w hSw; (try dsimp only at hSw); go_simp; (try with_reducible rfl))
        (try simp only [Act.put, List.setIfInBounds_toArray, List.set_cons_zero, List.set_cons_succ])
        refine wpAnyH_take_at (i := 2) (v := ?_) (some 146) rfl rfl (by kernel_rfl) (by kernel_rfl) (by kernel_rfl) (fun _ _ _ h => h) (Or.inl ⟨by rfl, ?_⟩) (by assumption) ?_
        rotate_left
        · (intro w hSw; (try dsimp only at hSw); go_simp; (try with_reducible rfl))
        (try simp only [Act.put, List.setIfInBounds_toArray, List.set_cons_zero, List.set_cons_succ])
        refine wpAnyH_take_at (i := 3) (v := ?_) (some 147) rfl rfl (by kernel_rfl) (by kernel_rfl) (by kernel_rfl) (fun _ _ _ h => h) (Or.inl ⟨by rfl, ?_⟩) (by assumption) ?_
        rotate_left
        · (intro w hSw; (try dsimp only at hSw); go_simp; (try with_reducible rfl))
        (try simp only [Act.put, List.setIfInBounds_toArray, List.set_cons_zero, List.set_cons_succ])
        refine wpAnyH_take_at (i := 4) (v := ?_) (some 148) rfl rfl (by kernel_rfl) (by kernel_rfl) (by kernel_rfl) (fun _ _ _ h => h) (Or.inl ⟨by rfl, ?_⟩) (by assumption) ?_
        rotate_left
        · (intro w hSw; (try dsimp only at hSw); go_simp; (try with_reducible rfl))
        (try simp only [Act.put, List.setIfInBounds_toArray, List.set_cons_zero, List.set_cons_succ])
        refine wpAnyH_take_at (i := 5) (v := ?_) (some 149) rfl rfl (by kernel_rfl) (by kernel_rfl) (by kernel_rfl) (fun _ _ _ h => h) (Or.inl ⟨by rfl, ?_⟩) (by assumption) ?_
        rotate_left
        · (intro w hSw; (try dsimp only at hSw); go_simp; (try with_reducible rfl))
        (try simp only [Act.put, List.setIfInBounds_toArray, List.set_cons_zero, List.set_cons_succ])
        refine wpAnyH_take_at (i := 6) (v := ?_) (some 150) rfl rfl (by kernel_rfl) (by kernel_rfl) (by kernel_rfl) (fun _ _ _ h => h) (Or.inl ⟨by rfl, ?_⟩) (by assumption) ?_
        rotate_left
        · (intro w hSw; (try dsimp only at hSw); go_simp; (try with_reducible rfl))
        (try simp only [Act.put, List.setIfInBounds_toArray, List.set_cons_zero, List.set_cons_succ])
        refine wpAnyH_take_at (i := 9) (v := ?_) (some 153) rfl rfl (by kernel_rfl) (by kernel_rfl) (by kernel_rfl) (fun _ _ _ h => h) (Or.inl ⟨by rfl, ?_⟩) (by assumption) ?_
        rotate_left
        · (intro w hSw; (try dsimp only at hSw); go_simp; (try with_reducible rfl))
        (try simp only [Act.put, List.setIfInBounds_toArray, List.set_cons_zero, List.set_cons_succ])
        refine wpAnyH_take_at (i := 10) (v := ?_) (some 154) rfl rfl (by kernel_rfl) (by kernel_rfl) (by kernel_rfl) (fun _ _ _ h => h) (Or.inl ⟨by rfl, ?_⟩) (by assumption) ?_
        rotate_left
        · (intro w hSw; (try dsimp only at hSw); go_simp; (try with_reducible rfl))
        (try simp only [Act.put, List.setIfInBounds_toArray, List.set_cons_zero, List.set_cons_succ])
        refine wpAnyH_ready (rs := [7]) (by kernel_rfl) (by simp) ?_
        refine AllReadyH.cons rfl (fun K hK => ?_) AllReadyH.nil
        go_simp
        refine ((labs_all _ body (Nat.le_refl _)).1 w3.drew S _ HRD.out.sW HRD.out.rn.r1 hx3).mono ?_
        rintro e wl ⟨rfl, hb⟩
        have hb35 := (But.refl (Is d) w3).drew.trans (But.of_below (T := Is d) hb)
        refine hK.out _ _ ?_ (fun hHeld => ?_)
        · exact HR3.out.same3 hb35
        clear hK K
        (try simp only [Act.put, List.setIfInBounds_toArray, List.set_cons_zero, List.set_cons_succ])
        refine wpAnyH_take_at (i := 8) (v := ?_) (some 152) rfl rfl (by kernel_rfl) (by kernel_rfl) (by kernel_rfl) (fun _ _ _ h => h) (Or.inl ⟨by rfl, ?_⟩) (by assumption) ?_
        rotate_left
        · (intro w hSw; (try dsimp only at hSw); go_simp; (try with_reducible rfl))
        (try simp only [Act.put, List.setIfInBounds_toArray, List.set_cons_zero, List.set_cons_succ])
        clear hwl1 hwl2
        have HRL := Lib.hid (HRD.out.below hb)
        have HAL := Lib.hid (HAD.out.below hb)
        refine wpAnyH_ready (rs := [11]) (by kernel_rfl) (by simp) ?_
        refine AllReadyH.cons rfl (fun K hK => ?_) AllReadyH.nil
        go_simp
        refine (on_any Ae env.length ce _ _ _ _ wl).mono ?_
        rintro e wo ⟨rfl, rfl⟩
        have HO := Lib.hid (HRL.out.on HRE.out)
        have hbo : But (Is d) w3 (wl.alloc (.cells #[.slice Ae env.length ce] 106)) := hb35.trans (But.of_below ((Below.refl _ _).alloc (Nat.le_refl _) _))
        refine hK.out _ _ ?_ (fun hHeld => ?_)
        · exact HRS.out.same3 hbo
        clear hK K
        (try simp only [Act.put, List.setIfInBounds_toArray, List.set_cons_zero, List.set_cons_succ])
        have hba : Below wl.heap.size wl (wl.alloc (.cells #[.slice Ae env.length ce] 106)) := (Below.refl _ _).alloc (Nat.le_refl _) _
        have HA9 := Lib.hid (HAL.out.below hba)
        have HR9 := Lib.hid (HRL.out.below hba)
        clear hba hb
        refine wpAnyH_done (by kernel_rfl) ?_ _
        unfold QPre
        simp only [List.drop_succ_cons, List.drop_zero]
        rw [HNC.out]
        go_wp2_with fail
        refine (HEL.out base _ d m.step env (lab + labelsL body) S _ _ _ _ HA9.out HBD.out HS.out HR9.out.rn.r2 HR9.out.fx (Nat.le_of_lt hel3) HO.out hlb2 hx4 res hres2).mono ?_
        rintro e w4 ho
        cases res with
        | none =>
          obtain ⟨rfl, hb4⟩ := ho
          exact ⟨rfl, rfl, HBW.out.trans (hbo.trans hb4)⟩
        | some x =>
          obtain ⟨t, m1⟩ := x
          obtain ⟨⟨V, rfl, hf⟩, ha4, hn4, hb4⟩ := ho
          obtain ⟨k5, c5, wr5, lb5, A5, n5, cap5, rfl⟩ := hf.form
          have hb5 := hbo.trans hb4
          have HBA5 := Lib.hid (HBA.out.but hb5 hgd)
          have HF5 := Lib.hid (show FrT (Upto w3.heap.size) w4 t (tmV k5 c5 wr5 lb5 (.slice A5 n5 cap5)) from hf.fewer (Sub.upto (hbo).size))
          have HA5 := Lib.hid ha4
          have HB5 := Lib.hid (HBW.out.trans hb5)
          clear hf ha4 hb4 hb5
          (try clear c0 c1 c2 c3 c4 c5 c6 c7 c8 c9 c10 c11)
          have r0 := HBA5.out.cell 0 _ rfl; have r1 := HBA5.out.cell 1 _ rfl; have r2 := HBA5.out.cell 2 _ rfl; have r3 := HBA5.out.cell 3 _ rfl; have r4 := HBA5.out.cell 4 _ rfl
          have f0 := HBA5.out.fr 0; have f1 := HBA5.out.fr 1; have f2 := HBA5.out.fr 2; have f3 := HBA5.out.fr 3; have f4 := HBA5.out.fr 4
          go_wp2
          clear r0 r1 r2 r3 r4 f0 f1 f2 f3 f4
          have BF := set5_blk HBA5.out (.int .i64 k5) (.int .i64 c5) (.bool wr5) (.int .i64 lb5) (.slice A5 n5 cap5)
          have bg : But (Is (g + 1 + 1 + 1)) w4 (((((w4.setCell ⟨g + 1 + 1 + 1, 0, none⟩ (.int .i64 k5)).setCell ⟨g + 1 + 1 + 1, 1, none⟩ (.int .i64 c5)).setCell ⟨g + 1 + 1 + 1, 2, none⟩ (.bool wr5)).setCell ⟨g + 1 + 1 + 1, 3, none⟩ (.int .i64 lb5)).setCell ⟨g + 1 + 1 + 1, 4, none⟩ (.slice A5 n5 cap5)) := set5_but (But.refl _ _) (.inl (show Is (g + 1 + 1 + 1) (g + 1 + 1 + 1) from rfl)) _ _ _ _ _
          have bw := set5_but HB5.out (b := g + 1 + 1 + 1) (.inr hgw) (.int .i64 k5) (.int .i64 c5) (.bool wr5) (.int .i64 lb5) (.slice A5 n5 cap5)
          have hf6 := (HF5.out.but (bg.sub (fun k hk => by have e : k = g + 1 + 1 + 1 := hk; subst e; exact hgW))).fewer (Sub.upto HBW.out.size)
          have ha6 := HA5.out.but bg (fun e => hgd e.symm)
          generalize (((((w4.setCell ⟨g + 1 + 1 + 1, 0, none⟩ (.int .i64 k5)).setCell ⟨g + 1 + 1 + 1, 1, none⟩ (.int .i64 c5)).setCell ⟨g + 1 + 1 + 1, 2, none⟩ (.bool wr5)).setCell ⟨g + 1 + 1 + 1, 3, none⟩ (.int .i64 lb5)).setCell ⟨g + 1 + 1 + 1, 4, none⟩ (.slice A5 n5 cap5)) = WF at *
          refine ret_term Try.results26 rfl rfl BF ?_
          exact ⟨⟨_, rfl, hf6⟩, ha6, (by first | exact hn4 | exact Nat.le_trans (Nat.le_succ _) hn4), bw⟩
      · have hres2 : blU F body env lab (fun m' => blU F rest env (lab + N1) kk m') m.step = res := by have := HON.out; rw [stU_then hf (by rw [← HVA.out]; exact hw)] at this; exact this
        go_upto_region 27 with (fail)
        refine wp_region_pre 8 (S := (fun w' => Same3 g y y w3 w')) (by kernel_rfl) (by kernel_rfl) (Same3.drew (Same3.refl _ _ _ _)) (fun hHeld => ?_)
        simp only [List.take_succ_cons, List.take_zero]
        refine wpAnyH_take_at (i := 0) (v := ?_) (some 135) rfl rfl (by kernel_rfl) (by kernel_rfl) (by kernel_rfl) (fun _ _ _ h => h) (Or.inl ⟨by rfl, ?_⟩) (by assumption) ?_
        rotate_left
        · (intro w hSw; (try dsimp only at hSw); go_simp; (try with_reducible rfl))
        (try simp only [Act.put, List.setIfInBounds_toArray, List.set_cons_zero, List.set_cons_succ])
        refine wpAnyH_take_at (i := 1) (v := ?_) (some 136) rfl rfl (by kernel_rfl) (by kernel_rfl) (by kernel_rfl) (fun _ _ _ h => h) (Or.inl ⟨by rfl, ?_⟩) (by assumption) ?_
        rotate_left
        · (intro w hSw; (try dsimp only at hSw); go_simp; (try with_reducible rfl))
        (try simp only [Act.put, List.setIfInBounds_toArray, List.set_cons_zero, List.set_cons_succ])
        refine wpAnyH_take_at (i := 2) (v := ?_) (some 137) rfl rfl (by kernel_rfl) (by kernel_rfl) (by kernel_rfl) (fun _ _ _ h => h) (Or.inl ⟨by rfl, ?_⟩) (by assumption) ?_
        rotate_left
        · (intro w hSw; (try dsimp only at hSw); go_simp; (try with_reducible rfl))
        (try simp only [Act.put, List.setIfInBounds_toArray, List.set_cons_zero, List.set_cons_succ])
        refine wpAnyH_take_at (i := 3) (v := ?_) (some 138) rfl rfl (by kernel_rfl) (by kernel_rfl) (by kernel_rfl) (fun _ _ _ h => h) (Or.inl ⟨by rfl, ?_⟩) (by assumption) ?_
        rotate_left
        · (intro w hSw; (try dsimp only at hSw); go_simp; (try with_reducible rfl))
        (try simp only [Act.put, List.setIfInBounds_toArray, List.set_cons_zero, List.set_cons_succ])
        refine wpAnyH_take_at (i := 4) (v := ?_) (some 139) rfl rfl (by kernel_rfl) (by kernel_rfl) (by kernel_rfl) (fun _ _ _ h => h) (Or.inl ⟨by rfl, ?_⟩) (by assumption) ?_
        rotate_left
        · (intro w hSw; (try dsimp only at hSw); go_simp; (try with_reducible rfl))
        (try simp only [Act.put, List.setIfInBounds_toArray, List.set_cons_zero, List.set_cons_succ])
        refine wpAnyH_take_at (i := 5) (v := ?_) (some 140) rfl rfl (by kernel_rfl) (by kernel_rfl) (by kernel_rfl) (fun _ _ _ h => h) (Or.inl ⟨by rfl, ?_⟩) (by assumption) ?_
        rotate_left
        · (intro w hSw; (try dsimp only at hSw); go_simp; (try with_reducible rfl))
        (try simp only [Act.put, List.setIfInBounds_toArray, List.set_cons_zero, List.set_cons_succ])
        refine wpAnyH_take_at (i := 6) (v := ?_) (some 141) rfl rfl (by kernel_rfl) (by kernel_rfl) (by kernel_rfl) (fun _ _ _ h => h) (Or.inl ⟨by rfl, ?_⟩) (by assumption) ?_
        rotate_left
        · (intro w hSw; (try dsimp only at hSw); go_simp; (try with_reducible rfl))
        (try simp only [Act.put, List.setIfInBounds_toArray, List.set_cons_zero, List.set_cons_succ])
        refine wpAnyH_ready (rs := [7]) (by kernel_rfl) (by simp) ?_
        refine AllReadyH.cons rfl (fun K hK => ?_) AllReadyH.nil
        go_simp
        refine (on_any Ae env.length ce _ _ _ _ w3.drew).mono ?_
        rintro e wo ⟨rfl, rfl⟩
        have HO := Lib.hid (HRD.out.on HRE.out)
        have hbo : But (Is d) w3 (w3.drew.alloc (.cells #[.slice Ae env.length ce] 106)) := (But.refl (Is d) w3).drew.trans (But.of_below ((Below.refl _ _).alloc (Nat.le_refl _) _))
        refine hK.out _ _ ?_ (fun hHeld => ?_)
        · exact HRS.out.same3 hbo
        clear hK K
        (try simp only [Act.put, List.setIfInBounds_toArray, List.set_cons_zero, List.set_cons_succ])
        have hba : Below w3.drew.heap.size w3.drew (w3.drew.alloc (.cells #[.slice Ae env.length ce] 106)) := (Below.refl _ _).alloc (Nat.le_refl _) _
        have HA9 := Lib.hid (HAD.out.below hba)
        have HR9 := Lib.hid (HRD.out.below hba)
        clear hba
        refine wpAnyH_done (by kernel_rfl) ?_ _
        unfold QPre
        simp only [List.drop_succ_cons, List.drop_zero]
        go_wp2_with fail
        refine (HBO.out base _ d m.step env lab S _ _ _ _ HA9.out HBD.out HS.out HR9.out.rn.r1 HR9.out.fx (Nat.le_of_lt hel3) HO.out hlb hx3 res hres2).mono ?_
        rintro e w4 ho
        cases res with
        | none =>
          obtain ⟨rfl, hb4⟩ := ho
          exact ⟨rfl, rfl, HBW.out.trans (hbo.trans hb4)⟩
        | some x =>
          obtain ⟨t, m1⟩ := x
          obtain ⟨⟨V, rfl, hf⟩, ha4, hn4, hb4⟩ := ho
          obtain ⟨k5, c5, wr5, lb5, A5, n5, cap5, rfl⟩ := hf.form
          have hb5 := hbo.trans hb4
          have HBA5 := Lib.hid (HBA.out.but hb5 hgd)
          have HF5 := Lib.hid (show FrT (Upto w3.heap.size) w4 t (tmV k5 c5 wr5 lb5 (.slice A5 n5 cap5)) from hf.fewer (Sub.upto (hbo).size))
          have HA5 := Lib.hid ha4
          have HB5 := Lib.hid (HBW.out.trans hb5)
          clear hf ha4 hb4 hb5
          (try clear c0 c1 c2 c3 c4 c5 c6 c7 c8 c9 c10 c11)
          have r0 := HBA5.out.cell 0 _ rfl; have r1 := HBA5.out.cell 1 _ rfl; have r2 := HBA5.out.cell 2 _ rfl; have r3 := HBA5.out.cell 3 _ rfl; have r4 := HBA5.out.cell 4 _ rfl
          have f0 := HBA5.out.fr 0; have f1 := HBA5.out.fr 1; have f2 := HBA5.out.fr 2; have f3 := HBA5.out.fr 3; have f4 := HBA5.out.fr 4
          go_wp2
          clear r0 r1 r2 r3 r4 f0 f1 f2 f3 f4
          have BF := set5_blk HBA5.out (.int .i64 k5) (.int .i64 c5) (.bool wr5) (.int .i64 lb5) (.slice A5 n5 cap5)
          have bg : But (Is (g + 1 + 1 + 1)) w4 (((((w4.setCell ⟨g + 1 + 1 + 1, 0, none⟩ (.int .i64 k5)).setCell ⟨g + 1 + 1 + 1, 1, none⟩ (.int .i64 c5)).setCell ⟨g + 1 + 1 + 1, 2, none⟩ (.bool wr5)).setCell ⟨g + 1 + 1 + 1, 3, none⟩ (.int .i64 lb5)).setCell ⟨g + 1 + 1 + 1, 4, none⟩ (.slice A5 n5 cap5)) := set5_but (But.refl _ _) (.inl (show Is (g + 1 + 1 + 1) (g + 1 + 1 + 1) from rfl)) _ _ _ _ _
          have bw := set5_but HB5.out (b := g + 1 + 1 + 1) (.inr hgw) (.int .i64 k5) (.int .i64 c5) (.bool wr5) (.int .i64 lb5) (.slice A5 n5 cap5)
          have hf6 := (HF5.out.but (bg.sub (fun k hk => by have e : k = g + 1 + 1 + 1 := hk; subst e; exact hgW))).fewer (Sub.upto HBW.out.size)
          have ha6 := HA5.out.but bg (fun e => hgd e.symm)
          generalize (((((w4.setCell ⟨g + 1 + 1 + 1, 0, none⟩ (.int .i64 k5)).setCell ⟨g + 1 + 1 + 1, 1, none⟩ (.int .i64 c5)).setCell ⟨g + 1 + 1 + 1, 2, none⟩ (.bool wr5)).setCell ⟨g + 1 + 1 + 1, 3, none⟩ (.int .i64 lb5)).setCell ⟨g + 1 + 1 + 1, 4, none⟩ (.slice A5 n5 cap5)) = WF at *
          refine ret_term Try.results26 rfl rfl BF ?_
          exact ⟨⟨_, rfl, hf6⟩, ha6, (by first | exact hn4 | exact Nat.le_trans (Nat.le_succ _) hn4), bw⟩
  obtain rfl : k = 7 := by omega
  · as_aux_lemma =>
      skip
      obtain ⟨vb, hvb⟩ : ∃ vb, vb = b.worth env := ⟨_, rfl⟩
      have HVB := Lib.hid hvb
      have hres2 : loopU F vb (fun i K m => blU F body (env ++ [⟨s, i⟩]) lab K m) (F + 1) va (fun m' => blU F rest env (lab + N1) kk m') m.step = res := by have := HON.out; rw [stU_for hf, ← HVA.out, ← hvb] at this; exact this
      clear hvb
      have hlb : lab + labelsL body ≤ 1048576 := by have h := HLE.out; rw [labelsS] at h; simp at h; omega
      have HRD := Lib.hid (HR3.out.below (Below.refl _ _).drew)
      have HAD := Lib.hid (show BdAt w3.drew d F m.step from HA3.out.but (T := Nowhere) (But.refl _ _).drew (fun h => h))
      have HRS := HR3
      go_upto_region 29 with (fail)
      refine wp_region_pre 12 (S := (fun w' => Same3 g y y w3 w')) (by kernel_rfl) (by kernel_rfl) (Same3.drew (Same3.refl _ _ _ _)) (fun hHeld => ?_)
      simp only [List.take_succ_cons, List.take_zero]
      refine wpAnyH_take_at (i := 0) (v := ?_) (some 157) rfl rfl (by kernel_rfl) (by kernel_rfl) (by kernel_rfl) (fun _ _ _ h => h) (Or.inl ⟨by rfl, ?_⟩) (by assumption) ?_
      rotate_left
      · (intro w hSw; (try dsimp only at hSw); go_simp; (try with_reducible rfl))
      (try simp only [Act.put, List.setIfInBounds_toArray, List.set_cons_zero, List.set_cons_succ])
      refine wpAnyH_take_at (i := 1) (v := ?_) (some 158) rfl rfl (by kernel_rfl) (by kernel_rfl) (by kernel_rfl) (fun _ _ _ h => h) (Or.inl ⟨by rfl, ?_⟩) (by assumption) ?_
      rotate_left
      · (intro w hSw; (try dsimp only at hSw); go_simp; (try with_reducible rfl))
      (try simp only [Act.put, List.setIfInBounds_toArray, List.set_cons_zero, List.set_cons_succ])
      refine wpAnyH_take_at (i := 2) (v := ?_) (some 159) rfl rfl (by kernel_rfl) (by kernel_rfl) (by kernel_rfl) (fun _ _ _ h => h) (Or.inl ⟨by rfl, ?_⟩) (by assumption) ?_
      rotate_left
      · (intro w hSw; (try dsimp only at hSw); go_simp; (try with_reducible rfl))
      (try simp only [Act.put, List.setIfInBounds_toArray, List.set_cons_zero, List.set_cons_succ])
      refine wpAnyH_take_at (i := 3) (v := ?_) (some 160) rfl rfl (by kernel_rfl) (by kernel_rfl) (by kernel_rfl) (fun _ _ _ h => h) (Or.inl ⟨by rfl, ?_⟩) (by assumption) ?_
      rotate_left
      · (intro w hSw; (try dsimp only at hSw); go_simp; (try with_reducible rfl))
      (try simp only [Act.put, List.setIfInBounds_toArray, List.set_cons_zero, List.set_cons_succ])
      refine wpAnyH_take_at (i := 4) (v := ?_) (some 161) rfl rfl (by kernel_rfl) (by kernel_rfl) (by kernel_rfl) (fun _ _ _ h => h) (Or.inl ⟨by rfl, ?_⟩) (by assumption) ?_
      rotate_left
      · (intro w hSw; (try dsimp only at hSw); go_simp; (try with_reducible rfl))
      (try simp only [Act.put, List.setIfInBounds_toArray, List.set_cons_zero, List.set_cons_succ])
      refine wpAnyH_take_at (i := 5) (v := ?_) (some 162) rfl rfl (by kernel_rfl) (by kernel_rfl) (by kernel_rfl) (fun _ _ _ h => h) (Or.inl ⟨by rfl, ?_⟩) (by assumption) ?_
      rotate_left
      · (intro w hSw; (try dsimp only at hSw); go_simp; (try with_reducible rfl))
      (try simp only [Act.put, List.setIfInBounds_toArray, List.set_cons_zero, List.set_cons_succ])
      refine wpAnyH_take_at (i := 6) (v := ?_) (some 163) rfl rfl (by kernel_rfl) (by kernel_rfl) (by kernel_rfl) (fun _ _ _ h => h) (Or.inl ⟨by rfl, ?_⟩) (by assumption) ?_
      rotate_left
      · (intro w hSw; (try dsimp only at hSw); go_simp; (try with_reducible rfl))
      (try simp only [Act.put, List.setIfInBounds_toArray, List.set_cons_zero, List.set_cons_succ])
      refine wpAnyH_take_at (i := 7) (v := ?_) (some 164) rfl rfl (by kernel_rfl) (by kernel_rfl) (by kernel_rfl) (fun _ _ _ h => h) (Or.inl ⟨by rfl, ?_⟩) (by assumption) ?_
      rotate_left
      · (intro w hSw; (try dsimp only at hSw); go_simp; (try with_reducible rfl))
      (try simp only [Act.put, List.setIfInBounds_toArray, List.set_cons_zero, List.set_cons_succ])
      refine wpAnyH_take_at (i := 9) (v := ?_) (some 166) rfl rfl (by kernel_rfl) (by kernel_rfl) (by kernel_rfl) (fun _ _ _ h => h) (Or.inl ⟨by rfl, ?_⟩) (by assumption) ?_
      rotate_left
      · (intro w hSw; (try dsimp only at hSw); go_simp; (try with_reducible rfl))
      (try simp only [Act.put, List.setIfInBounds_toArray, List.set_cons_zero, List.set_cons_succ])
      refine wpAnyH_take_at (i := 10) (v := ?_) (some 167) rfl rfl (by kernel_rfl) (by kernel_rfl) (by kernel_rfl) (fun _ _ _ h => h) (Or.inl ⟨by rfl, ?_⟩) (by assumption) ?_
      rotate_left
      · (intro w hSw; (try dsimp only at hSw); go_simp; (try with_reducible rfl))
      (try simp only [Act.put, List.setIfInBounds_toArray, List.set_cons_zero, List.set_cons_succ])
      refine wpAnyH_ready (rs := [8]) (by kernel_rfl) (by simp) ?_
      refine AllReadyH.cons rfl (fun K hK => ?_) AllReadyH.nil
      go_simp
      refine (eval_fx env b w3.drew S (Is d) _ _ HRD.out.sW HRD.out.rn.rb HRD.out.fx).mono ?_
      rintro e wv ⟨rfl, hib, hb⟩
      rw [← HVB.out] at hib
      rw [← HVB.out]
      have hb35 := (But.refl (Is d) w3).drew.trans (But.of_below (T := Is d) hb)
      refine hK.out _ _ ?_ (fun hHeld => ?_)
      · exact HR3.out.same3 hb35
      clear hK K
      (try simp only [Act.put, List.setIfInBounds_toArray, List.set_cons_zero, List.set_cons_succ])
      have HRL := Lib.hid (HRD.out.below hb)
      have HAL := Lib.hid (HAD.out.below hb)
      refine wpAnyH_ready (rs := [11]) (by kernel_rfl) (by simp) ?_
      refine AllReadyH.cons rfl (fun K hK => ?_) AllReadyH.nil
      go_simp
      refine (on_any Ae env.length ce _ _ _ _ wv).mono ?_
      rintro e wo ⟨rfl, rfl⟩
      have HO := Lib.hid (HRL.out.on HRE.out)
      have hbo : But (Is d) w3 (wv.alloc (.cells #[.slice Ae env.length ce] 106)) := hb35.trans (But.of_below ((Below.refl _ _).alloc (Nat.le_refl _) _))
      refine hK.out _ _ ?_ (fun hHeld => ?_)
      · exact HRS.out.same3 hbo
      clear hK K
      (try simp only [Act.put, List.setIfInBounds_toArray, List.set_cons_zero, List.set_cons_succ])
      have hba : Below wv.heap.size wv (wv.alloc (.cells #[.slice Ae env.length ce] 106)) := (Below.refl _ _).alloc (Nat.le_refl _) _
      have HA9 := Lib.hid (HAL.out.below hba)
      have HR9 := Lib.hid (HRL.out.below hba)
      clear hba hb
      refine wpAnyH_done (by kernel_rfl) ?_ _
      unfold QPre
      simp only [List.drop_succ_cons, List.drop_zero]
      go_wp2_with fail
      refine (HLP.out (F + 1) base _ d m.step env lab S _ _ _ va vb k1 n1 s1 A1 m1 p1 k2 n2 s2 A2 m2 p2 A3 p3 A4 p4 HA9.out HBD.out HS.out HHS.out HR9.out.rn.r1 HR9.out.fx hel3 HO.out hlb hx3 HIA.out hib (by omega) res hres2).mono ?_
      rintro e w4 ho
      cases res with
      | none =>
        obtain ⟨rfl, hb4⟩ := ho
        exact ⟨rfl, rfl, HBW.out.trans (hbo.trans hb4)⟩
      | some x =>
        obtain ⟨t, m1⟩ := x
        obtain ⟨⟨V, rfl, hf⟩, ha4, hn4, hb4⟩ := ho
        obtain ⟨k5, c5, wr5, lb5, A5, n5, cap5, rfl⟩ := hf.form
        have hb5 := hbo.trans hb4
        have HBA5 := Lib.hid (HBA.out.but hb5 hgd)
        have HF5 := Lib.hid (show FrT (Upto w3.heap.size) w4 t (tmV k5 c5 wr5 lb5 (.slice A5 n5 cap5)) from hf.fewer (Sub.upto (hbo).size))
        have HA5 := Lib.hid ha4
        have HB5 := Lib.hid (HBW.out.trans hb5)
        clear hf ha4 hb4 hb5
        (try clear c0 c1 c2 c3 c4 c5 c6 c7 c8 c9 c10 c11)
        have r0 := HBA5.out.cell 0 _ rfl; have r1 := HBA5.out.cell 1 _ rfl; have r2 := HBA5.out.cell 2 _ rfl; have r3 := HBA5.out.cell 3 _ rfl; have r4 := HBA5.out.cell 4 _ rfl
        have f0 := HBA5.out.fr 0; have f1 := HBA5.out.fr 1; have f2 := HBA5.out.fr 2; have f3 := HBA5.out.fr 3; have f4 := HBA5.out.fr 4
        go_wp2
        clear r0 r1 r2 r3 r4 f0 f1 f2 f3 f4
        have BF := set5_blk HBA5.out (.int .i64 k5) (.int .i64 c5) (.bool wr5) (.int .i64 lb5) (.slice A5 n5 cap5)
        have bg : But (Is (g + 1 + 1 + 1)) w4 (((((w4.setCell ⟨g + 1 + 1 + 1, 0, none⟩ (.int .i64 k5)).setCell ⟨g + 1 + 1 + 1, 1, none⟩ (.int .i64 c5)).setCell ⟨g + 1 + 1 + 1, 2, none⟩ (.bool wr5)).setCell ⟨g + 1 + 1 + 1, 3, none⟩ (.int .i64 lb5)).setCell ⟨g + 1 + 1 + 1, 4, none⟩ (.slice A5 n5 cap5)) := set5_but (But.refl _ _) (.inl (show Is (g + 1 + 1 + 1) (g + 1 + 1 + 1) from rfl)) _ _ _ _ _
        have bw := set5_but HB5.out (b := g + 1 + 1 + 1) (.inr hgw) (.int .i64 k5) (.int .i64 c5) (.bool wr5) (.int .i64 lb5) (.slice A5 n5 cap5)
        have hf6 := (HF5.out.but (bg.sub (fun k hk => by have e : k = g + 1 + 1 + 1 := hk; subst e; exact hgW))).fewer (Sub.upto HBW.out.size)
        have ha6 := HA5.out.but bg (fun e => hgd e.symm)
        generalize (((((w4.setCell ⟨g + 1 + 1 + 1, 0, none⟩ (.int .i64 k5)).setCell ⟨g + 1 + 1 + 1, 1, none⟩ (.int .i64 c5)).setCell ⟨g + 1 + 1 + 1, 2, none⟩ (.bool wr5)).setCell ⟨g + 1 + 1 + 1, 3, none⟩ (.int .i64 lb5)).setCell ⟨g + 1 + 1 + 1, 4, none⟩ (.slice A5 n5 cap5)) = WF at *
        refine ret_term Try.results26 rfl rfl BF ?_
        exact ⟨⟨_, rfl, hf6⟩, ha6, (by first | exact hn4 | exact Nat.le_trans (Nat.le_succ _) hn4), bw⟩
end Go.Proofs.Ytdelngmbpjgphaa
