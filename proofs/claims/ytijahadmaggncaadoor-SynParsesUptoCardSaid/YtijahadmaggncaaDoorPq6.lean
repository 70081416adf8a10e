/- The parser of syn.Parse: atoms; expressions altogether. -/
import Derived.Test.YtijahadmaggncaaDoorPq5
import Derived.Test.YtijahadmaggncaaDoorAtoiLib
namespace Go.Proofs.YtijahadmaggncaaDoor
open Go.RowKit
set_option linter.unusedVariables false
theorem words1 {p : Nat} (W : World) (s : Str) (hs : okS s) (hp : p < W.heap.size) : WordsAt p (W.alloc (.cells #[.string s] 9)) [s] (.slice (some ⟨W.heap.size, 0, none⟩) 1 1) :=
  words_lit W [s] (fun x hx => by rw [List.mem_singleton.1 hx]; exact hs) (by simp) hp
set_option maxHeartbeats 4000000 in
set_option maxRecDepth 100000 in
theorem patom_step (n : Nat) (h1 : ∀ m, m < n → PEx 46 m 0) : PEx 143 n 3 := by
  intro p en ts w out ho h
  cases n with
  | zero => cases ho
  | succ n =>
  have hlt := h.lt
  have bl0 : Below w.heap.size w (w.alloc (.cells #[.int .i64 0, .int .i64 0, .string ⟨#[]⟩, .slice none 0 0] 74)) := (Below.refl _ _).alloc (Nat.le_refl _) _
  have HB0 := Lib.hid (But.of_b (T := Is p) bl0)
  have HP0 := Lib.hid (h.below bl0)
  have HR0 := Lib.hid (Blk.made w [.int .i64 0, .int .i64 0, .string ⟨#[]⟩, .slice none 0 0] 74 (base := 0) (Nat.zero_le _))
  obtain ⟨d, hd⟩ : ∃ d, d = w.heap.size := ⟨_, rfl⟩
  have hdp : ¬ d = p := by omega
  have hdw : w.heap.size ≤ d := by omega
  have hpd : p < d := by omega
  have hWd : d < (w.alloc (.cells #[.int .i64 0, .int .i64 0, .string ⟨#[]⟩, .slice none 0 0] 74)).heap.size := by simp [hd]
  rw [← hd] at HR0
  cases hop : isT (bz [40]) ts with
  | true =>
    · skip
      obtain ⟨t, r, rfl, _⟩ := isT_true hop
      rw [exG_open hop, List.tail_cons] at ho
      have HI := Lib.hid (pis_any (bz [40]) HP0.out)
      rw [hop] at HI
      have H1 := Lib.hid (h1 n (by omega))
      have HE := Lib.hid ho
      clear ho h bl0 h1 hop
      go_enter Tryd.func143, Tryd.ntmps143
      go_upto_region 1 with (fail)
      rw [← hd]
      clear hd
      generalize (w.alloc (.cells #[.int .i64 0, .int .i64 0, .string ⟨#[]⟩, .slice none 0 0] 74)) = W0 at *
      go_upto_region 3 with (first | (go_at_call 77; refine HI.out.mono ?_; rintro e wa ⟨rfl, rfl⟩) | (go_at_call 78; refine (ptake_any HP0.out).mono ?_; rintro e W1 ⟨rfl, hp1, hb1⟩))
      have HB1 := Lib.hid (HB0.out.trans hb1)
      have HP1 := Lib.hid hp1
      have HR1 := Lib.hid (HR0.out.but hb1 (fun e => hdp e))
      have hz1 := hb1.size
      clear hp1 hb1 HB0 HP0 HR0 HI
      rcases PO.bind_some HE.out with ⟨q, e1, e2⟩ | ⟨a, q, e1, e2⟩
      · have HC := Lib.hid (H1.out p en r W1 _ e1 HP1.out)
        have HO := Lib.hid e2
        clear e1 e2 HE H1
        go_wp2_with (go_at_call 46; refine HC.out.mono ?_; rintro e w2 ⟨rfl, hb2⟩)
        rw [HO.out]
        exact ⟨rfl, rfl, HB1.out.trans hb2⟩
      · have HC := Lib.hid (H1.out p en r W1 _ e1 HP1.out)
        have HE2 := Lib.hid e2
        clear e1 e2 HE H1
        go_upto_region 4 with (go_at_call 46; refine HC.out.mono ?_; rintro e w2 ⟨x, rfl, hx, hp2, hb2⟩; obtain ⟨A, c, rfl⟩ := hx.form)
        have bl2 : Below w2.heap.size w2 (w2.alloc (.cells #[.int .i64 a.kind, .int .i64 a.num, .string a.name, .slice A a.args.length c] 74)) := (Below.refl _ _).alloc (Nat.le_refl _) _
        have HB2 := Lib.hid (HB1.out.trans (hb2.trans (But.of_b bl2)))
        have HP2 := Lib.hid (hp2.below bl2)
        have HX2 := Lib.hid (hx.below bl2)
        have HR2 := Lib.hid ((HR1.out.but hb2 (fun e => hdp e)).below bl2)
        have HY2 := Lib.hid (Blk.made w2 [.int .i64 a.kind, .int .i64 a.num, .string a.name, .slice A a.args.length c] 74 (base := 0) (Nat.zero_le _))
        have hz2 := hb2.size
        obtain ⟨d1, hd1⟩ : ∃ d1, d1 = w2.heap.size := ⟨_, rfl⟩
        have hdd : ¬ d1 = p := by omega
        have hdW1 : d < W1.heap.size := by omega
        have hpW2 : p < (w2.alloc (.cells #[.int .i64 a.kind, .int .i64 a.num, .string a.name, .slice A a.args.length c] 74)).heap.size := by simp; omega
        rw [← hd1] at HY2 ⊢
        clear hx hp2 hb2 bl2 HB1 HP1 HR1 HC hd1
        generalize (w2.alloc (.cells #[.int .i64 a.kind, .int .i64 a.num, .string a.name, .slice A a.args.length c] 74)) = W2 at *
        have bl3 : Below W2.heap.size W2 (W2.alloc (.cells #[.string ⟨#[41]⟩] 9)) := (Below.refl _ _).alloc (Nat.le_refl _) _
        have HW := Lib.hid (pwant_any (HP2.out.below bl3) (show WordsAt p (W2.alloc (.cells #[.string ⟨#[41]⟩] 9)) [bz [41]] (.slice (some ⟨W2.heap.size, 0, none⟩) 1 1) from words1 W2 (bz [41]) (by unfold okS; decide) hpW2))
        have HB3 := Lib.hid (HB2.out.trans (But.of_b bl3))
        have HX3 := Lib.hid (HX2.out.below bl3)
        have HR3 := Lib.hid (HR2.out.below bl3)
        have HY3 := Lib.hid (HY2.out.below bl3)
        clear bl3 HB2 HP2 HX2 HR2 HY2
        rcases PO.bind_some HE2.out with ⟨q2, e1, e2⟩ | ⟨u, q2, e1, e2⟩
        · have HO := Lib.hid e2
          have e3 := Option.some.inj e1
          rw [e3] at HW
          clear e1 e2 e3 HE2
          go_wp2_with (go_at_call 45; refine HW.out.mono ?_; rintro e w4 ⟨rfl, hb4⟩)
          rw [HO.out]
          exact ⟨rfl, rfl, HB3.out.trans hb4⟩
        · have HO := Lib.hid (Option.some.inj e2).symm
          have e3 := Option.some.inj e1
          rw [e3] at HW
          clear e1 e2 e3 HE2
          go_wp2_with (go_at_call 45; refine HW.out.mono ?_; rintro e w4 ⟨x9, rfl, _, hp4, hb4⟩; have hR4 := HR3.out.but hb4 (fun e => hdp e); have hY4 := HY3.out.but hb4 (fun e => hdd e); have r0 := hR4.cell 0 _ rfl; have r1 := hR4.cell 1 _ rfl; have r2 := hR4.cell 2 _ rfl; have r3 := hR4.cell 3 _ rfl; have f0 := hR4.fr 0; have f1 := hR4.fr 1; have f2 := hR4.fr 2; have f3 := hR4.fr 3; have y0 := hY4.cell 0 _ rfl; have y1 := hY4.cell 1 _ rfl; have y2 := hY4.cell 2 _ rfl; have y3 := hY4.cell 3 _ rfl)
          exact ret_box Tryd.results143 hR4 (HX3.out.but hb4 (.inr rfl)) hp4 (HB3.out.trans hb4) hlt hdw hdW1 HO.out rfl rfl
  | false =>
    · skip
      have HI := Lib.hid (pis_any (bz [40]) HP0.out)
      rw [hop] at HI
      cases ts with
      | nil =>
        have HO := Lib.hid (show out = .no [] by rw [exG_nil] at ho; exact (Option.some.inj ho).symm)
        clear ho h bl0 h1 hop
        go_enter Tryd.func143, Tryd.ntmps143
        go_upto_region 1 with (fail)
        rw [← hd]
        clear hd
        generalize (w.alloc (.cells #[.int .i64 0, .int .i64 0, .string ⟨#[]⟩, .slice none 0 0] 74)) = W0 at *
        obtain ⟨A, cap, c0, c1, f0, hl, hm⟩ := HP0.out.open_
        go_wp2_with (first | (go_at_call 77; refine HI.out.mono ?_; rintro e wa ⟨rfl, rfl⟩) | (go_at_call 79; refine (pname_r HP0.out).mono ?_; rintro e W1 ⟨rfl, hb1⟩))
        rw [HO.out]
        exact ⟨rfl, rfl, HB0.out.trans hb1⟩
      | cons t r =>
        have htk := h.toks t (List.mem_cons_self ..)
        by_cases hk : t.kind = 1
        · have HO := Lib.hid (show out = .ok (numX t) r by rw [exG_num hop hk] at ho; exact (Option.some.inj ho).symm)
          obtain ⟨hv1, hv2⟩ := htk.1.val hk
          have hsz := htk.2
          obtain ⟨y, hy⟩ : ∃ y : Str, y = t.str := ⟨_, rfl⟩
          obtain ⟨z, hz⟩ : ∃ z : Int, z = (vA 0 t.text : Nat) := ⟨_, rfl⟩
          have HAT := Lib.hid (fun W => atoi_n y (by rw [hy]; show t.text.length ≤ _; omega) z (by rw [hy, hz]; exact hv2) W)
          have HN := Lib.hid (show numX t = .mk 1 z ⟨#[]⟩ [] by rw [hz]; rfl)
          have hz0 : inI z := by unfold inI; omega
          have HT := Lib.hid (ptake_any HP0.out)
          clear ho h bl0 h1 hop htk hv1 hv2 hz hsz
          go_enter Tryd.func143, Tryd.ntmps143
          go_upto_region 1 with (fail)
          rw [← hd]
          clear hd
          generalize (w.alloc (.cells #[.int .i64 0, .int .i64 0, .string ⟨#[]⟩, .slice none 0 0] 74)) = W0 at *
          obtain ⟨b, off, cap, c0, c1, f0, hl, hm, k0, k1, k2, hok, _⟩ := HP0.out.head
          rw [hk] at k0
          rw [← hy] at HT
          clear hok k1 k2 hk hy
          go_wp2_with (first | (go_at_call 77; refine HI.out.mono ?_; rintro e wa ⟨rfl, rfl⟩) | (go_at_call 78; refine HT.out.mono ?_; rintro e W1 ⟨rfl, hp1, hb1⟩) | (go_at_call 163; refine (HAT.out _).mono ?_; rintro e W2 ⟨rfl, hb2⟩; have hR2 := (HR0.out.but hb1 (fun e => hdp e)).below hb2; have r0 := hR2.cell 0 _ rfl; have r1 := hR2.cell 1 _ rfl; have r2 := hR2.cell 2 _ rfl; have r3 := hR2.cell 3 _ rfl; have f0 := hR2.fr 0; have f1 := hR2.fr 1; have f2 := hR2.fr 2; have f3 := hR2.fr 3))
          have hp2 := hp1.below hb2
          have hbb := HB0.out.trans (hb1.trans (But.of_b hb2))
          exact ret_box (a := .mk 1 z ⟨#[]⟩ []) (A := none) (c := 0) Tryd.results143 hR2 (RdE.leaf _ _ (by decide) hz0 (by decide)) hp2 hbb hlt hdw hWd (by rw [HO.out, HN.out]) rfl rfl
        · rw [exG_name hop hk] at ho
          have HNM := Lib.hid (pname_r HP0.out)
          have HE := Lib.hid ho
          have hsz := htk.2
          have hkb : ((t.kind : Int) == 1) = false := by simpa using hk
          clear ho h bl0 h1 hop htk hk
          rcases PO.bind_some HE.out with ⟨q, e1, e2⟩ | ⟨s, q, e1, e2⟩
          · have HO := Lib.hid e2
            have e3 := Option.some.inj e1
            rw [e3] at HNM
            clear e1 e2 HE e3
            go_enter Tryd.func143, Tryd.ntmps143
            go_upto_region 1 with (fail)
            rw [← hd]
            clear hd
            generalize (w.alloc (.cells #[.int .i64 0, .int .i64 0, .string ⟨#[]⟩, .slice none 0 0] 74)) = W0 at *
            obtain ⟨b, off, cap, c0, c1, f0, hl, hm, k0, k1, k2, hok, _⟩ := HP0.out.head
            clear hok k1 k2
            go_wp2_with (first | (go_at_call 77; refine HI.out.mono ?_; rintro e wa ⟨rfl, rfl⟩) | (go_at_call 79; refine HNM.out.mono ?_; rintro e W1 ⟨rfl, hb1⟩))
            rw [HO.out]
            exact ⟨rfl, rfl, HB0.out.trans hb1⟩
          · have HO := Lib.hid (Option.some.inj e2).symm
            have e3 := Option.some.inj e1
            have hss : s.size ≤ 140737488355328 := by
              rw [nameG] at e3
              split at e3
              · simp only [PR.ok.injEq] at e3
                rw [← e3.1]; show t.text.length ≤ _; omega
              · cases e3
            rw [e3] at HNM
            clear e1 e2 HE e3 hsz
            go_enter Tryd.func143, Tryd.ntmps143
            go_upto_region 1 with (fail)
            rw [← hd]
            clear hd
            generalize (w.alloc (.cells #[.int .i64 0, .int .i64 0, .string ⟨#[]⟩, .slice none 0 0] 74)) = W0 at *
            obtain ⟨b, off, cap, c0, c1, f0, hl, hm, k0, k1, k2, hok, _⟩ := HP0.out.head
            clear hok k1 k2
            go_wp2_with (first | (go_at_call 77; refine HI.out.mono ?_; rintro e wa ⟨rfl, rfl⟩) | (go_at_call 79; refine HNM.out.mono ?_; rintro e W1 ⟨x9, rfl, rfl, hp1, hb1⟩; have hR2 := HR0.out.but hb1 (fun e => hdp e); have r0 := hR2.cell 0 _ rfl; have r1 := hR2.cell 1 _ rfl; have r2 := hR2.cell 2 _ rfl; have r3 := hR2.cell 3 _ rfl; have f0 := hR2.fr 0; have f1 := hR2.fr 1; have f2 := hR2.fr 2; have f3 := hR2.fr 3))
            exact ret_box (a := .mk 2 0 s []) (A := none) (c := 0) Tryd.results143 hR2 (RdE.leaf _ _ (by decide) (by decide) hss) hp1 (HB0.out.trans hb1) hlt hdw hWd HO.out rfl rfl
theorem px_all (n : Nat) : PEx 46 n 0 ∧ PEx 80 n 1 ∧ PEx 115 n 2 ∧ PEx 143 n 3 := by
  induction n using Nat.strongRecOn with
  | ind n ih => exact ⟨pexpr_step n (fun m hm => (ih m hm).2.1), psum_step n (fun m hm => (ih m hm).2.2.1), pproduct_step n (fun m hm => (ih m hm).2.2.2), patom_step n (fun m hm => (ih m hm).1)⟩
theorem pexpr_any (n : Nat) : PEx 46 n 0 := (px_all n).1
end Go.Proofs.YtijahadmaggncaaDoor
