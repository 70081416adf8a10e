/- The walk of the reference's kexpr. -/
import Derived.Test.YtijahadmaggncaaDoorFmtLib
import Derived.Test.YtijahadmaggncaaDoorKpSpec2
import Derived.Test.YtijahadmaggncaaDoorRdEW
import Derived.Test.YtijahadmaggncaaDoorStrB
import Derived.Test.YtijahadmaggncaaDoorAppZ
import Derived.Test.YtijahadmaggncaaDoorLex4
import Derived.Test.YtijahadmaggncaaDoorRegPre
import Derived.BigQuiet
import Derived.BigRegion
namespace Go.Proofs.YtijahadmaggncaaDoor
open Go.RowKit
set_option linter.unusedVariables false
abbrev OwnT (w : World) (base : Nat) (l : List Str) (v : Value) : Prop := OwnSs 9 w base Nowhere l v
theorem OwnT.lit1 {w : World} {base : Nat} (s : Str) (hs : okS s) (hb : base ≤ w.heap.size) : OwnT (w.alloc (.cells #[.string s] 9)) base [s] (.slice (some ⟨w.heap.size, 0, none⟩) 1 1) :=
  ⟨Nowhere, [encS s], Sub.refl _, Sub.nowhere _, not_nowhere, rfl, by simp [encS], ⟨by simp [encS], .inr ⟨w.heap.size, 1, (encS s).toArray, rfl, hb, by
    show (w.alloc (.cells (encS s).toArray 9)).heap[w.heap.size]? = _
    show (w.heap.push _)[w.heap.size]? = _
    simp, Nat.le_refl _, by simp [maxLen], by simp [encS], by simp [encS]⟩⟩, fun i e cs hi hc => by
    match i, hi, hc with
    | 0, hi, hc => simp at hi hc; subst hi hc; exact ⟨rfl, hs⟩⟩
theorem OwnT.rebase {w : World} {base base' : Nat} {l : List Str} {v : Value} (h : OwnT w base l v) (hb : base' ≤ base) : OwnT w base' l v := by
  obtain ⟨T, css, t1, t2, t3, h1, h2, h3, h4⟩ := h
  refine ⟨T, css, t1, t2, t3, h1, h2, ⟨h3.1, ?_⟩, h4⟩
  rcases h3.2 with h | ⟨g, cap, cur, e, hbg, r⟩
  · exact .inl h
  · exact .inr ⟨g, cap, cur, e, Nat.le_trans hb hbg, r⟩
/-- it reads, wherever -/
theorem OwnT.rd {w : World} {base : Nat} {l : List Str} {v : Value} (h : OwnT w base l v) (hb : l.length * 16 ≤ 140737488355328) : RdSs w (fun b => base ≤ b ∧ b < w.heap.size) l v :=
  h.toRd Flat.keeps hb (Sub.nowhere _) (fun b h1 h2 => ⟨h1, h2⟩)
def KxE (t : Ex) : Prop := ∀ (inner : Bool) (w : World) (S : Blocks) (V : Value), Sub S (Upto w.heap.size) → RdE w S t V → PowT w → t.wt ≤ 1048576 →
  Calls Tryd.prog 69 #[V, .bool inner] w fun e w' => ∃ x, e = .returned (.tuple #[x, .bool (tkE true t inner).2]) ∧ OwnT w' w.heap.size (tkE true t inner).1 x ∧ Below w.heap.size w w' ∧ tsz (tkE true t inner).1 ≤ 64 * t.wt
theorem okS_itoa {n : Int} (h : inI n) : okS (itoaS n) := by have := itoaS_size n h.1 h.2; unfold okS; omega
set_option maxHeartbeats 2000000 in
set_option maxRecDepth 100000 in
theorem kx_none (t : Ex) (ht : t.pair = none) : KxE t := by
  intro inner w S V hS r hF hwt
  obtain ⟨k, n, s, args, v, rfl, rfl, hk, hn, hs, hargs⟩ := id r
  obtain ⟨A, cap, rfl, hcl, hcm, _⟩ := hargs.form
  unfold maxLen at hcm
  have ht1 := tkE_none (neg := true) ht inner
  have hp := Ex.pair_none ht
  have hw1 := Ex.wt_pos' (Ex.mk k n s args)
  simp only [Ex.kind, Ex.name, Ex.args] at hp hw1
  replace ht1 : tkE true (Ex.mk k n s args) inner = if k = 1 then (if 0 ≤ n then ([itoaS n], true) else ([itoaS n], false)) else if k = 2 then ([s], knameB s) else ([], false) := ht1
  generalize htt : tkE true (Ex.mk k n s args) inner = tt at ht1
  generalize (Ex.mk k n s args).wt = wt at *
  have HT := Lib.hid ht1
  have hbl : Below w.heap.size w (w.alloc (.cells #[.int .i64 k, .int .i64 n, .string s, .slice A args.length cap] 74)) := (Below.refl _ _).alloc (Nat.le_refl _) _
  have BX := Blk.made w [.int .i64 k, .int .i64 n, .string s, .slice A args.length cap] 74 (base := 0) (Nat.zero_le _)
  have HF := Lib.hid (hF.go hbl)
  have G := Lib.hid hbl
  have hsz := hbl.size
  generalize args.length = m at *
  unfold exV
  clear hF hbl ht1 r hargs htt hS
  go_enter Tryd.func69, Tryd.ntmps69
  go_upto_region 1 with (fail)
  have hdW : w.heap.size < (w.alloc (.cells #[.int .i64 k, .int .i64 n, .string s, .slice A m cap] 74)).heap.size := by simp
  generalize (w.alloc (.cells #[.int .i64 k, .int .i64 n, .string s, .slice A m cap] 74)) = W at *
  generalize hd : w.heap.size = d at *
  have HD := Lib.hid hd
  clear hd
  have c0 := BX.cell 0 _ rfl
  have c1 := BX.cell 1 _ rfl
  have c2 := BX.cell 2 _ rfl
  have c3 := BX.cell 3 _ rfl
  clear BX
  by_cases h1 : k = 1
  · subst h1
    have HT1 := Lib.hid (show tt = ([itoaS n], decide (0 ≤ n)) by rw [HT.out, if_pos rfl]; by_cases h0 : 0 ≤ n <;> simp [h0])
    go_upto_region 2 with (fail)
    have HOK := Lib.hid (okS_itoa hn)
    have HN := Lib.hid hn
    clear hn hs hk
    refine wp_region_pre 8 (S := (fun w' => Stay W w')) (by kernel_rfl) (by kernel_rfl) (Stay.mk (Kept.start _)) (fun hHeld => ?_)
    simp only [List.take_succ_cons, List.take_zero]
    refine wpAnyH_take_at (i := 0) (v := ?_) (some 15) rfl rfl (by kernel_rfl) (by kernel_rfl) (by kernel_rfl) (fun _ _ _ h => h) (Or.inl ⟨by rfl, ?_⟩) (by assumption) ?_
    rotate_left
    · (intro w hSw; (try dsimp only at hSw); go_simp; (try with_reducible rfl))
    (try simp only [Act.put, List.setIfInBounds_toArray, List.set_cons_zero, List.set_cons_succ])
    refine wpAnyH_take_at (i := 1) (v := ?_) (some 16) rfl rfl (by kernel_rfl) (by kernel_rfl) (by kernel_rfl) (fun _ _ _ h => h) (Or.inl ⟨by rfl, ?_⟩) (by assumption) ?_
    rotate_left
    · (intro w hSw; (try dsimp only at hSw); go_simp; (try with_reducible rfl))
    (try simp only [Act.put, List.setIfInBounds_toArray, List.set_cons_zero, List.set_cons_succ])
    refine wpAnyH_take_at (i := 4) (v := ?_) (some 19) rfl rfl (by kernel_rfl) (by kernel_rfl) (by kernel_rfl) (fun _ _ _ h => h) (Or.inl ⟨by rfl, ?_⟩) (by assumption) ?_
    rotate_left
    · (intro w hSw; (try dsimp only at hSw); go_simp; (try with_reducible rfl))
    (try simp only [Act.put, List.setIfInBounds_toArray, List.set_cons_zero, List.set_cons_succ])
    refine wpAnyH_take_at (i := 5) (v := ?_) (some 20) rfl rfl (by kernel_rfl) (by kernel_rfl) (by kernel_rfl) (fun _ _ _ h => h) (Or.inl ⟨by rfl, ?_⟩) (by assumption) ?_
    rotate_left
    · (intro w hSw; (try dsimp only at hSw); go_simp; (try with_reducible rfl))
    (try simp only [Act.put, List.setIfInBounds_toArray, List.set_cons_zero, List.set_cons_succ])
    refine wpAnyH_take_at (i := 6) (v := ?_) (some 21) rfl rfl (by kernel_rfl) (by kernel_rfl) (by kernel_rfl) (fun _ _ _ h => h) (Or.inl ⟨by rfl, ?_⟩) (by assumption) ?_
    rotate_left
    · (intro w hSw; (try dsimp only at hSw); go_simp; (try with_reducible rfl))
    (try simp only [Act.put, List.setIfInBounds_toArray, List.set_cons_zero, List.set_cons_succ])
    refine wpAnyH_ready (rs := [2]) (by kernel_rfl) (by simp) ?_
    refine AllReadyH.cons rfl (fun K hK => ?_) AllReadyH.nil
    go_simp
    refine (fj_n n HN.out.1 HN.out.2 W.drew (HF.out.go (Below.refl _ _).drew)).mono ?_
    rintro e w1 ⟨rfl, hb1⟩
    have hst1 : Stay W w1 := Stay.step hb1 hHeld
    refine hK.out _ _ ?_ (fun hHeld => ?_)
    · exact hst1
    clear hK K
    (try simp only [Act.put, List.setIfInBounds_toArray, List.set_cons_zero, List.set_cons_succ])
    have hst2 := Stay.mk (Kept.alloc (Kept.here hst1) (.cells #[.string (itoaS n)] 9))
    refine wpAnyH_ready (rs := [3]) (by kernel_rfl) (by simp) ?_
    refine AllReadyH.cons rfl (fun K hK => ?_) AllReadyH.nil
    go_simp
    skip
    refine hK.out _ _ ?_ (fun hHeld => ?_)
    · exact hst2
    clear hK K
    (try simp only [Act.put, List.setIfInBounds_toArray, List.set_cons_zero, List.set_cons_succ])
    refine wpAnyH_take_at (i := 7) (v := ?_) (some 4) rfl rfl (by kernel_rfl) (by kernel_rfl) (by kernel_rfl) (fun _ _ _ h => h) (Or.inl ⟨by rfl, ?_⟩) (by assumption) ?_
    rotate_left
    · (intro w hSw; (try dsimp only at hSw); go_simp; (try with_reducible rfl))
    (try simp only [Act.put, List.setIfInBounds_toArray, List.set_cons_zero, List.set_cons_succ])
    refine wpAnyH_done (by kernel_rfl) ?_ _
    unfold QPre
    simp only [List.drop_succ_cons, List.drop_zero]
    have HL := Lib.hid (OwnT.lit1 (w := w1) (base := W.heap.size) (itoaS n) HOK.out (Stay.size hst1))
    have H2 := Lib.hid (G.out.trans ((Stay.below hst2).mono hsz))
    clear hst1 hst2 hHeld hb1 c0 c1 c2 c3
    go_wp2
    go_ret2
    exact ⟨_, by rw [HT1.out]; rfl, by rw [HT1.out, HD.out]; exact HL.out.rebase hsz, by rw [HD.out]; exact H2.out, by rw [HT1.out, tsz_one]; have := itoaS_size n HN.out.1 HN.out.2; omega⟩
  · by_cases h2 : k = 2
    · subst h2
      have HT1 := Lib.hid (show tt = ([s], knameB s) by rw [HT.out, if_neg (by decide), if_pos rfl])
      go_upto_region 4 with (fail)
      have HOK := Lib.hid (show okS s from hs)
      have hs1 : s.size ≤ 9223372036854775807 := by omega
      clear hn hs hk
      refine wp_region_pre 6 (S := (fun w' => Stay W w')) (by kernel_rfl) (by kernel_rfl) (Stay.mk (Kept.start _)) (fun hHeld => ?_)
      simp only [List.take_succ_cons, List.take_zero]
      refine wpAnyH_take_at (i := 0) (v := ?_) (some 26) rfl rfl (by kernel_rfl) (by kernel_rfl) (by kernel_rfl) (fun _ _ _ h => h) (Or.inl ⟨by rfl, ?_⟩) (by assumption) ?_
      rotate_left
      · (intro w hSw; (try dsimp only at hSw); go_simp; (try with_reducible rfl))
      (try simp only [Act.put, List.setIfInBounds_toArray, List.set_cons_zero, List.set_cons_succ])
      refine wpAnyH_take_at (i := 1) (v := ?_) (some 27) rfl rfl (by kernel_rfl) (by kernel_rfl) (by kernel_rfl) (fun _ _ _ h => h) (Or.inl ⟨by rfl, ?_⟩) (by assumption) ?_
      rotate_left
      · (intro w hSw; (try dsimp only at hSw); go_simp; (try with_reducible rfl))
      (try simp only [Act.put, List.setIfInBounds_toArray, List.set_cons_zero, List.set_cons_succ])
      refine wpAnyH_take_at (i := 3) (v := ?_) (some 29) rfl rfl (by kernel_rfl) (by kernel_rfl) (by kernel_rfl) (fun _ _ _ h => h) (Or.inl ⟨by rfl, ?_⟩) (by assumption) ?_
      rotate_left
      · (intro w hSw; (try dsimp only at hSw); go_simp; (try with_reducible rfl))
      (try simp only [Act.put, List.setIfInBounds_toArray, List.set_cons_zero, List.set_cons_succ])
      refine wpAnyH_take_at (i := 4) (v := ?_) (some 30) rfl rfl (by kernel_rfl) (by kernel_rfl) (by kernel_rfl) (fun _ _ _ h => h) (Or.inl ⟨by rfl, ?_⟩) (by assumption) ?_
      rotate_left
      · (intro w hSw; (try dsimp only at hSw); go_simp; (try with_reducible rfl))
      (try simp only [Act.put, List.setIfInBounds_toArray, List.set_cons_zero, List.set_cons_succ])
      refine wpAnyH_ready (rs := [2, 5]) (by kernel_rfl) (by simp) ?_
      refine AllReadyH.cons rfl (fun K hK => ?_) (AllReadyH.cons rfl (fun K hK => ?_) AllReadyH.nil)
      · have hst1 := Stay.mk (Kept.alloc (Kept.here hHeld) (.cells #[.string s] 9))
        go_simp
        skip
        refine hK.out _ _ ?_ (fun hHeld => ?_)
        · exact hst1
        clear hK K
        (try simp only [Act.put, List.setIfInBounds_toArray, List.set_cons_zero, List.set_cons_succ])
        refine wpAnyH_ready (rs := [5]) (by kernel_rfl) (by simp) ?_
        refine AllReadyH.cons rfl (fun K hK => ?_) AllReadyH.nil
        go_simp
        refine (kname_any s hs1 _).mono ?_
        rintro e w1 ⟨rfl, hb1⟩
        have hst2 : Stay W w1 := Stay.step hb1 hst1
        refine hK.out _ _ ?_ (fun hHeld => ?_)
        · exact hst2
        clear hK K
        (try simp only [Act.put, List.setIfInBounds_toArray, List.set_cons_zero, List.set_cons_succ])
        refine wpAnyH_done (by kernel_rfl) ?_ _
        unfold QPre
        simp only [List.drop_succ_cons, List.drop_zero]
        have HL := Lib.hid (show OwnT w1 W.heap.size [s] (.slice (some ⟨W.heap.size, 0, none⟩) 1 1) from (OwnT.lit1 (w := W.drew) (base := W.heap.size) s HOK.out (Nat.le_refl _)).keep Flat.keeps hb1)
        have hbf := Stay.below hst2
        clear hb1
        have H2 := Lib.hid (G.out.trans (hbf.mono hsz))
        clear hst1 hst2 hHeld hbf c0 c1 c2 c3
        go_wp2
        go_ret2
        exact ⟨_, by rw [HT1.out]; rfl, by rw [HT1.out, HD.out]; exact HL.out.rebase hsz, by rw [HD.out]; exact H2.out, by rw [HT1.out, tsz_one]; omega⟩
      · go_simp
        refine (kname_any s hs1 _).mono ?_
        rintro e w1 ⟨rfl, hb1⟩
        have hst1 : Stay W w1 := Stay.step hb1 hHeld
        refine hK.out _ _ ?_ (fun hHeld => ?_)
        · exact hst1
        clear hK K
        (try simp only [Act.put, List.setIfInBounds_toArray, List.set_cons_zero, List.set_cons_succ])
        have hst2 := Stay.mk (Kept.alloc (Kept.here hst1) (.cells #[.string s] 9))
        refine wpAnyH_ready (rs := [2]) (by kernel_rfl) (by simp) ?_
        refine AllReadyH.cons rfl (fun K hK => ?_) AllReadyH.nil
        go_simp
        skip
        refine hK.out _ _ ?_ (fun hHeld => ?_)
        · exact hst2
        clear hK K
        (try simp only [Act.put, List.setIfInBounds_toArray, List.set_cons_zero, List.set_cons_succ])
        refine wpAnyH_done (by kernel_rfl) ?_ _
        unfold QPre
        simp only [List.drop_succ_cons, List.drop_zero]
        have HL := Lib.hid (OwnT.lit1 (w := w1) (base := W.heap.size) s HOK.out (Stay.size hst1))
        have hbf := Stay.below hst2
        clear hb1
        have H2 := Lib.hid (G.out.trans (hbf.mono hsz))
        clear hst1 hst2 hHeld hbf c0 c1 c2 c3
        go_wp2
        go_ret2
        exact ⟨_, by rw [HT1.out]; rfl, by rw [HT1.out, HD.out]; exact HL.out.rebase hsz, by rw [HD.out]; exact H2.out, by rw [HT1.out, tsz_one]; omega⟩
    · --<no
      have HT1 := Lib.hid (show tt = ([], false) by rw [HT.out, if_neg h1, if_neg h2])
      have e1 : (k == 1) = false := by simpa using h1
      have e2 : (k == 2) = false := by simpa using h2
      have fin := Lib.hid (show OwnT W d tt.1 (.slice none 0 0) ∧ tsz tt.1 ≤ 64 * wt ∧ tt.2 = false by rw [HT1.out]; exact ⟨OwnL.nil _ _ _, Nat.zero_le _, rfl⟩)
      by_cases h3 : k < 3
      · go_wp2
        go_ret2
        exact ⟨_, by rw [fin.out.2.2]; rfl, by rw [HD.out]; exact fin.out.1, by rw [HD.out]; exact G.out, fin.out.2.1⟩
      · by_cases h9 : 9 < k
        · go_wp2
          go_ret2
          exact ⟨_, by rw [fin.out.2.2]; rfl, by rw [HD.out]; exact fin.out.1, by rw [HD.out]; exact G.out, fin.out.2.1⟩
        · have hm : m ≠ 2 := by omega
          have e3 : ((m : Int) == 2) = false := by simp; omega
          have e4 : ((m : Int) != 2) = true := by simp; omega
          go_wp2
          go_ret2
          exact ⟨_, by rw [fin.out.2.2]; rfl, by rw [HD.out]; exact fin.out.1, by rw [HD.out]; exact G.out, fin.out.2.1⟩
end Go.Proofs.YtijahadmaggncaaDoor
