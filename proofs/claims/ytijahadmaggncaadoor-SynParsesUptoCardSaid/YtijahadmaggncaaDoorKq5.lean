/- The reader of KParse: atoms; expressions altogether. -/
import Derived.Test.YtijahadmaggncaaDoorKq4
import Derived.Test.YtijahadmaggncaaDoorNumLib
import Derived.Test.YtijahadmaggncaaDoorPq6
namespace Go.Proofs.YtijahadmaggncaaDoor
open Go.RowKit
set_option linter.unusedVariables false
theorem pi_ok (s : ByteArray) (hs : s.size ≤ 281474976710656) (v : Int) (h : Lib.parseIntB 64 s.data.toList = .ok v) (w : World) :
    Calls Tryd.prog 83 #[.string s, .int .i64 10, .int .i64 64] w fun e w' => e = .returned (.tuple #[.int .i64 v, .nilIface]) ∧ Below w.heap.size w w' := by
  have hbytes : ∀ t : ByteArray, Below w.heap.size w (Lib.bytesWorld w 5 t) := fun t => ⟨rfl, rfl, rfl, by rw [Lib.bytesWorld_size]; omega, fun j hj => Lib.bytesWorld_at_old w 5 t j hj⟩
  refine (Any.strconv_ParseInt_10_at64_ok laysPI s (by omega) v h w).mono ?_
  rintro e w' ⟨he, hw⟩
  refine ⟨he, ?_⟩
  rcases hw with rfl | ⟨t, rfl⟩
  · exact Below.refl _ _
  · exact hbytes t
set_option maxHeartbeats 4000000 in
set_option maxRecDepth 100000 in
theorem katom_step (n : Nat) (h1 : ∀ m, m < n → KEx m 0) : KAt n := by
  intro k f L w a out ho h ha hf
  cases n with
  | zero => cases ho
  | succ n =>
  have hlt := h.lt
  have hll := h.len.1
  have bl0 : Below w.heap.size w (w.alloc (.cells #[.int .i64 0, .int .i64 0, .string ⟨#[]⟩, .slice none 0 0] 74)) := (Below.refl _ _).alloc (Nat.le_refl _) _
  have HB0 := Lib.hid (But.of_b (T := Is k) bl0)
  have HP0 := Lib.hid (h.below bl0)
  have HR0 := Lib.hid (Blk.made w [.int .i64 0, .int .i64 0, .string ⟨#[]⟩, .slice none 0 0] 74 (base := 0) (Nat.zero_le _))
  obtain ⟨d, hd⟩ : ∃ d, d = w.heap.size := ⟨_, rfl⟩
  have hdk : ¬ d = k := by omega
  have hdw : w.heap.size ≤ d := by omega
  have hWd : d < (w.alloc (.cells #[.int .i64 0, .int .i64 0, .string ⟨#[]⟩, .slice none 0 0] 74)).heap.size := by simp [hd]
  have hkW0 : k < (w.alloc (.cells #[.int .i64 0, .int .i64 0, .string ⟨#[]⟩, .slice none 0 0] 74)).heap.size := by simp; omega
  rw [← hd] at HR0
  have HI := Lib.hid (kword_any HP0.out a ha hf (bz [40]))
  have htk := h.toks
  cases hop : isT (bz [40]) (L.drop a) with
  | true =>
    · skip
      obtain ⟨t, r, hdr, _⟩ := isT_true hop
      obtain ⟨_, _, _, _, halt, _, _, hdr1, _⟩ := h.tok hdr
      rw [exG_open hop, hdr, List.tail_cons, ← hdr1] at ho
      rw [hop] at HI
      have H1 := Lib.hid (h1 n (by omega))
      have HE := Lib.hid ho
      have haa : a + 1 ≤ L.length := by omega
      clear ho h bl0 h1 hop hdr hdr1 htk
      go_enter Tryd.func153, Tryd.ntmps153
      go_upto_region 1 with (fail)
      rw [← hd]
      clear hd
      generalize (w.alloc (.cells #[.int .i64 0, .int .i64 0, .string ⟨#[]⟩, .slice none 0 0] 74)) = W0 at *
      go_upto_region 2 with (go_at_call 86; refine HI.out.mono ?_; rintro e W1 ⟨rfl, hp1, hb1⟩)
      have HB1 := Lib.hid (HB0.out.trans hb1)
      have HP1 := Lib.hid hp1
      have HR1 := Lib.hid (HR0.out.but hb1 (fun e => hdk e))
      have hz1 := hb1.size
      have hkW1 : k < W1.heap.size := by omega
      have hdW1 : d < W1.heap.size := by omega
      clear hp1 hb1 HB0 HP0 HR0 HI hkW0 hWd
      rcases PO.bind_some HE.out with ⟨q, e1, e2⟩ | ⟨x1, q, e1, e2⟩
      · have HC := Lib.hid (H1.out k a L W1 (a + 1) _ e1 HP1.out haa (by omega))
        have HO := Lib.hid e2
        clear e1 e2 HE H1
        go_upto_region 3 with (go_at_call 121; refine HC.out.mono ?_; rintro e w2 ⟨x, z, g, rfl, ⟨t1, hx⟩, hfr, hp2, hb2⟩; obtain ⟨A, c, rfl⟩ := hx.form)
        have bl2 : Below w2.heap.size w2 (w2.alloc (.cells #[.int .i64 t1.kind, .int .i64 t1.num, .string t1.name, .slice A t1.args.length c] 74)) := (Below.refl _ _).alloc (Nat.le_refl _) _
        have HY2 := Lib.hid (Blk.made w2 [.int .i64 t1.kind, .int .i64 t1.num, .string t1.name, .slice A t1.args.length c] 74 (base := 0) (Nat.zero_le _))
        have HR2 := Lib.hid ((HR1.out.but hb2 (fun e => hdk e)).below bl2)
        have HX2 := Lib.hid (hx.below bl2)
        have HP2 := Lib.hid (hp2.below bl2)
        have HB2 := Lib.hid (HB1.out.trans (hb2.trans (But.of_b bl2)))
        have HFR := Lib.hid hfr
        clear hx hp2 hb2 bl2 hfr HB1 HP1 HR1 HC
        generalize (w2.alloc (.cells #[.int .i64 t1.kind, .int .i64 t1.num, .string t1.name, .slice A t1.args.length c] 74)) = W2 at *
        generalize w2.heap.size = d1 at *
        have y0 := HY2.out.cell 0 _ rfl; have y1 := HY2.out.cell 1 _ rfl; have y2 := HY2.out.cell 2 _ rfl; have y3 := HY2.out.cell 3 _ rfl
        have r0 := HR2.out.cell 0 _ rfl; have r1 := HR2.out.cell 1 _ rfl; have r2 := HR2.out.cell 2 _ rfl; have r3 := HR2.out.cell 3 _ rfl
        have f0 := HR2.out.fr 0; have f1 := HR2.out.fr 1; have f2 := HR2.out.fr 2; have f3 := HR2.out.fr 3
        go_wp2
        exact ret_kno Tryd.results153 HR2.out HX2.out hkW1 HP2.out HB2.out hlt hdw hdW1 HO.out HFR.out rfl rfl rfl rfl
      · have HC := Lib.hid (H1.out k a L W1 (a + 1) _ e1 HP1.out haa (by omega))
        have HE2 := Lib.hid e2
        clear e1 e2 HE H1
        go_upto_region 5 with (go_at_call 121; refine HC.out.mono ?_; rintro e w2 ⟨x, b, g, rfl, hx, hbr, hbL, hgb, hp2, hb2⟩; obtain ⟨A, c, rfl⟩ := hx.form)
        have bl2 : Below w2.heap.size w2 (w2.alloc (.cells #[.int .i64 x1.kind, .int .i64 x1.num, .string x1.name, .slice A x1.args.length c] 74)) := (Below.refl _ _).alloc (Nat.le_refl _) _
        have HY2 := Lib.hid (Blk.made w2 [.int .i64 x1.kind, .int .i64 x1.num, .string x1.name, .slice A x1.args.length c] 74 (base := 0) (Nat.zero_le _))
        have HR2 := Lib.hid ((HR1.out.but hb2 (fun e => hdk e)).below bl2)
        have HX2 := Lib.hid (hx.below bl2)
        have HP2 := Lib.hid (hp2.below bl2)
        have HB2 := Lib.hid (HB1.out.trans (hb2.trans (But.of_b bl2)))
        have hz2 := hb2.size
        have HE3 := Lib.hid (show PO.bind (some (wantG [bz [41]] (L.drop b))) _ = some out by rw [hbr]; exact HE2.out)
        obtain ⟨d1, hd1⟩ : ∃ d1, d1 = w2.heap.size := ⟨_, rfl⟩
        have hdd : ¬ d1 = k := by omega
        rw [← hd1] at HY2 ⊢
        clear hx hp2 hb2 bl2 hbr HB1 HP1 HR1 HC HE2 hz2 hd1
        generalize (w2.alloc (.cells #[.int .i64 x1.kind, .int .i64 x1.num, .string x1.name, .slice A x1.args.length c] 74)) = W2 at *
        have bl3 : Below W2.heap.size W2 (W2.alloc (.cells #[.string ⟨#[41]⟩] 9)) := (Below.refl _ _).alloc (Nat.le_refl _) _
        have HW := Lib.hid (kwords_any (HP2.out.below bl3) b hbL hgb (show WordsAt k (W2.alloc (.cells #[.string ⟨#[41]⟩] 9)) [bz [41]] (.slice (some ⟨W2.heap.size, 0, none⟩) 1 1) from words1 W2 (bz [41]) (by unfold okS; decide) HP2.out.lt))
        have HB3 := Lib.hid (HB2.out.trans (But.of_b bl3))
        have HX3 := Lib.hid (HX2.out.below bl3)
        have HR3 := Lib.hid (HR2.out.below bl3)
        have HY3 := Lib.hid (HY2.out.below bl3)
        clear bl3 HB2 HP2 HX2 HR2 HY2
        rcases PO.bind_some HE3.out with ⟨q2, e1, e2⟩ | ⟨u, q2, e1, e2⟩
        · have HO := Lib.hid e2
          have e3 := Option.some.inj e1
          rw [e3] at HW
          clear e1 e2 e3 HE3
          go_wp2_with (go_at_call 122; refine HW.out.mono ?_; rintro e w4 ⟨z, g4, rfl, hfr, hp4, hb4⟩; have hR4 := HR3.out.but hb4 (fun e => hdk e); have hY4 := HY3.out.but hb4 (fun e => hdd e); have r0 := hR4.cell 0 _ rfl; have r1 := hR4.cell 1 _ rfl; have r2 := hR4.cell 2 _ rfl; have r3 := hR4.cell 3 _ rfl; have f0 := hR4.fr 0; have f1 := hR4.fr 1; have f2 := hR4.fr 2; have f3 := hR4.fr 3; have y0 := hY4.cell 0 _ rfl; have y1 := hY4.cell 1 _ rfl; have y2 := hY4.cell 2 _ rfl; have y3 := hY4.cell 3 _ rfl)
          exact ret_kno Tryd.results153 hR4 (HX3.out.but hb4 (.inl hkW1)) hkW1 hp4 (HB3.out.trans hb4) hlt hdw hdW1 HO.out hfr rfl rfl rfl rfl
        · have HO := Lib.hid (Option.some.inj e2).symm
          have e3 := Option.some.inj e1
          rw [e3] at HW
          clear e1 e2 e3 HE3
          go_wp2_with (go_at_call 122; refine HW.out.mono ?_; rintro e w4 ⟨b4, g4, rfl, hbr4, hbl4, hgb4, hp4, hb4⟩; have hR4 := HR3.out.but hb4 (fun e => hdk e); have hY4 := HY3.out.but hb4 (fun e => hdd e); have r0 := hR4.cell 0 _ rfl; have r1 := hR4.cell 1 _ rfl; have r2 := hR4.cell 2 _ rfl; have r3 := hR4.cell 3 _ rfl; have f0 := hR4.fr 0; have f1 := hR4.fr 1; have f2 := hR4.fr 2; have f3 := hR4.fr 3; have y0 := hY4.cell 0 _ rfl; have y1 := hY4.cell 1 _ rfl; have y2 := hY4.cell 2 _ rfl; have y3 := hY4.cell 3 _ rfl)
          exact ret_kok Tryd.results153 hR4 (HX3.out.but hb4 (.inl hkW1)) (fun h => rfl) hkW1 hp4 (HB3.out.trans hb4) hlt hdw hdW1 HO.out hbr4 hbl4 hgb4 rfl rfl rfl rfl
  | false =>
    · skip
      rw [hop] at HI
      cases hdr : L.drop a with
      | nil =>
        have HO := Lib.hid (show out = .no [] by rw [hdr, exG_nil] at ho; exact (Option.some.inj ho).symm)
        have hae := drop_end ha hdr
        have hge : ¬ (a : Int) < (L.length : Int) := by omega
        have HD := Lib.hid hdr
        clear ho h bl0 h1 hop hdr hae htk
        go_enter Tryd.func153, Tryd.ntmps153
        go_upto_region 1 with (fail)
        rw [← hd]
        clear hd
        generalize (w.alloc (.cells #[.int .i64 0, .int .i64 0, .string ⟨#[]⟩, .slice none 0 0] 74)) = W0 at *
        go_upto_region 7 with (go_at_call 86; refine HI.out.mono ?_; rintro e W1 ⟨rfl, hp1, hb1⟩)
        have HB1 := Lib.hid (HB0.out.trans hb1)
        have HP1 := Lib.hid hp1
        have HR1 := Lib.hid (HR0.out.but hb1 (fun e => hdk e))
        have hz1 := hb1.size
        have hdW1 : d < W1.heap.size := by omega
        have hkW1 : k < W1.heap.size := by omega
        clear hp1 hb1 HB0 HP0 HR0 HI
        obtain ⟨A, cap, c0, c1, f1, _⟩ := HP1.out.open_
        have HNM := Lib.hid (krname_any HP1.out a ha (Nat.le_refl _))
        rw [HD.out] at HNM
        go_wp2_with (go_at_call 120; refine HNM.out.mono ?_; rintro e W2 ⟨x9, z, g, rfl, ⟨s9, rfl, hs9⟩, hfr, hp2, hb2⟩; have hR2 := HR1.out.but hb2 (fun e => hdk e); have r0 := hR2.cell 0 _ rfl; have r1 := hR2.cell 1 _ rfl; have r2 := hR2.cell 2 _ rfl; have r3 := hR2.cell 3 _ rfl; have f0 := hR2.fr 0; have f1 := hR2.fr 1; have f2 := hR2.fr 2; have f3 := hR2.fr 3)
        exact ret_kno (a := .mk 2 0 s9 []) (A := none) (c := 0) (lo := W1.heap.size) (y := k) Tryd.results153 hR2 (RdE.leaf _ _ (by decide) (by decide) (by omega)) hkW1 hp2 (HB1.out.trans hb2) hlt hdw hdW1 HO.out hfr rfl rfl rfl rfl
      | cons t r =>
        have htt := htk t (by have h9 : t ∈ L.drop a := by rw [hdr]; exact List.mem_cons_self ..
                              exact List.mem_of_mem_drop h9)
        obtain ⟨_, _, _, _, halt, _, _, hdr1, _⟩ := h.tok hdr
        have hlt' : (a : Int) < (L.length : Int) := by omega
        have haa : a + 1 ≤ L.length := by omega
        rw [hdr] at ho hop
        have HD := Lib.hid hdr
        have HD1 := Lib.hid hdr1
        by_cases hk : t.kind = 1
        · have HO := Lib.hid (show out = .ok (numX t) r by rw [exG_num hop hk] at ho; exact (Option.some.inj ho).symm)
          obtain ⟨hv1, hv2⟩ := htt.1.val hk
          have hsz := htt.2
          obtain ⟨y, hy⟩ : ∃ y : Str, y = t.str := ⟨_, rfl⟩
          obtain ⟨z, hz⟩ : ∃ z : Int, z = (vA 0 t.text : Nat) := ⟨_, rfl⟩
          have HAT := Lib.hid (fun W => pi_ok y (by rw [hy]; show t.text.length ≤ _; omega) z (by rw [hy, hz]; exact hv2) W)
          have HN := Lib.hid (show numX t = .mk 1 z ⟨#[]⟩ [] by rw [hz]; rfl)
          have hz0 : inI z := by unfold inI; omega
          clear ho h bl0 h1 hop htk htt hv1 hv2 hz hsz hdr hdr1
          go_enter Tryd.func153, Tryd.ntmps153
          go_upto_region 1 with (fail)
          rw [← hd]
          clear hd
          generalize (w.alloc (.cells #[.int .i64 0, .int .i64 0, .string ⟨#[]⟩, .slice none 0 0] 74)) = W0 at *
          go_upto_region 7 with (go_at_call 86; refine HI.out.mono ?_; rintro e W1 ⟨rfl, hp1, hb1⟩)
          have HB1 := Lib.hid (HB0.out.trans hb1)
          have HP1 := Lib.hid hp1
          have HR1 := Lib.hid (HR0.out.but hb1 (fun e => hdk e))
          have hz1 := hb1.size
          have hdW1 : d < W1.heap.size := by omega
          have hkW1 : k < W1.heap.size := by omega
          clear hp1 hb1 HB0 HP0 HR0 HI
          obtain ⟨b, off, cap, c0, _, hbk, hok, _, k0, k1, k2⟩ := HP1.out.tok HD.out
          rw [hk] at k0
          rw [← hy] at k2
          clear hok k1 hk hy
          go_wp2_with (go_at_call 83; refine (HAT.out _).mono ?_; rintro e W2 ⟨rfl, hb2⟩; have hR2 := HR1.out.below hb2; have r0 := hR2.cell 0 _ rfl; have r1 := hR2.cell 1 _ rfl; have r2 := hR2.cell 2 _ rfl; have r3 := hR2.cell 3 _ rfl; have f0 := hR2.fr 0; have f1 := hR2.fr 1; have f2 := hR2.fr 2; have f3 := hR2.fr 3)
          exact ret_kok (a := .mk 1 z ⟨#[]⟩ []) (A := none) (c := 0) (lo := W1.heap.size) (y := k) (b := a + 1) Tryd.results153 hR2 (RdE.leaf _ _ (by decide) hz0 (by decide)) (fun _ => rfl) hkW1 (HP1.out.below hb2) (HB1.out.trans (But.of_b hb2)) hlt hdw hdW1 (by rw [HO.out, HN.out]) HD1.out haa (by omega) rfl rfl rfl rfl
        · rw [exG_name hop hk] at ho
          have HE := Lib.hid ho
          have hkb : ((t.kind : Int) == 1) = false := by simpa using hk
          clear ho h bl0 h1 hop htk htt hk hdr hdr1
          go_enter Tryd.func153, Tryd.ntmps153
          go_upto_region 1 with (fail)
          rw [← hd]
          clear hd
          generalize (w.alloc (.cells #[.int .i64 0, .int .i64 0, .string ⟨#[]⟩, .slice none 0 0] 74)) = W0 at *
          go_upto_region 7 with (go_at_call 86; refine HI.out.mono ?_; rintro e W1 ⟨rfl, hp1, hb1⟩)
          have HB1 := Lib.hid (HB0.out.trans hb1)
          have HP1 := Lib.hid hp1
          have HR1 := Lib.hid (HR0.out.but hb1 (fun e => hdk e))
          have hz1 := hb1.size
          have hdW1 : d < W1.heap.size := by omega
          have hkW1 : k < W1.heap.size := by omega
          clear hp1 hb1 HB0 HP0 HR0 HI
          obtain ⟨b, off, cap, c0, _, hbk, hok, _, k0, k1, k2⟩ := HP1.out.tok HD.out
          clear hok k1 k2
          have HNM := Lib.hid (krname_any HP1.out a ha (Nat.le_refl _))
          rw [HD.out] at HNM
          rcases PO.bind_some HE.out with ⟨q, e1, e2⟩ | ⟨s, q, e1, e2⟩
          · have HO := Lib.hid e2
            have e3 := Option.some.inj e1
            rw [e3] at HNM
            clear e1 e2 HE e3
            go_wp2_with (go_at_call 120; refine HNM.out.mono ?_; rintro e W2 ⟨x9, z, g, rfl, ⟨s9, rfl, hs9⟩, hfr, hp2, hb2⟩; have hR2 := HR1.out.but hb2 (fun e => hdk e); have r0 := hR2.cell 0 _ rfl; have r1 := hR2.cell 1 _ rfl; have r2 := hR2.cell 2 _ rfl; have r3 := hR2.cell 3 _ rfl; have f0 := hR2.fr 0; have f1 := hR2.fr 1; have f2 := hR2.fr 2; have f3 := hR2.fr 3)
            exact ret_kno (a := .mk 2 0 s9 []) (A := none) (c := 0) (lo := W1.heap.size) (y := k) Tryd.results153 hR2 (RdE.leaf _ _ (by decide) (by decide) (by omega)) hkW1 hp2 (HB1.out.trans hb2) hlt hdw hdW1 HO.out hfr rfl rfl rfl rfl
          · have HO := Lib.hid (Option.some.inj e2).symm
            have e3 := Option.some.inj e1
            rw [e3] at HNM
            clear e1 e2 HE e3
            go_wp2_with (go_at_call 120; refine HNM.out.mono ?_; rintro e W2 ⟨x9, b9, g, rfl, ⟨rfl, hs9⟩, hbr9, hbl9, hgb9, hp2, hb2⟩; have hR2 := HR1.out.but hb2 (fun e => hdk e); have r0 := hR2.cell 0 _ rfl; have r1 := hR2.cell 1 _ rfl; have r2 := hR2.cell 2 _ rfl; have r3 := hR2.cell 3 _ rfl; have f0 := hR2.fr 0; have f1 := hR2.fr 1; have f2 := hR2.fr 2; have f3 := hR2.fr 3)
            exact ret_kok (a := .mk 2 0 s []) (A := none) (c := 0) (lo := W1.heap.size) (y := k) Tryd.results153 hR2 (RdE.leaf _ _ (by decide) (by decide) (by omega)) (fun _ => rfl) hkW1 hp2 (HB1.out.trans hb2) hlt hdw hdW1 HO.out hbr9 hbl9 hgb9 rfl rfl rfl rfl
set_option maxHeartbeats 400000 in
theorem kexpr_three (n : Nat) (h : KAt n) : KEx n 3 := by
  intro k f L w a out ho hp ha hf
  have hlt := hp.lt
  --(.cells #[.int .i64 0, .int .i64 0, .string ⟨#[]⟩, .slice none 0 0] 74) = (.cells #[.int .i64 0, .int .i64 0, .string ⟨#[]⟩, .slice none 0 0] 74)
  have bl0 : Below w.heap.size w (w.alloc (.cells #[.int .i64 0, .int .i64 0, .string ⟨#[]⟩, .slice none 0 0] 74)) := (Below.refl _ _).alloc (Nat.le_refl _) _
  have HB0 := Lib.hid (But.of_b (T := Is k) bl0)
  have HR0 := Lib.hid (Blk.made w [.int .i64 0, .int .i64 0, .string ⟨#[]⟩, .slice none 0 0] 74 (base := 0) (Nat.zero_le _))
  have HC := Lib.hid (h k f L (w.alloc (.cells #[.int .i64 0, .int .i64 0, .string ⟨#[]⟩, .slice none 0 0] 74)) a out ho (hp.below bl0) ha hf)
  have hdk : ¬ w.heap.size = k := by omega
  have hWd : w.heap.size < (w.alloc (.cells #[.int .i64 0, .int .i64 0, .string ⟨#[]⟩, .slice none 0 0] 74)).heap.size := by simp
  have hkW0 : k < (w.alloc (.cells #[.int .i64 0, .int .i64 0, .string ⟨#[]⟩, .slice none 0 0] 74)).heap.size := by simp; omega
  clear hp ho bl0 h
  go_enter Tryd.func121, Tryd.ntmps121
  cases out with
  | no r =>
    go_wp2_with (go_at_call 153; refine HC.out.mono ?_; rintro e W2 ⟨x9, z, g, rfl, ⟨t9, hx⟩, hfr, hp2, hb2⟩; obtain ⟨A, c, rfl⟩ := hx.form; have hR2 := HR0.out.but hb2 (fun e => hdk e); have r0 := hR2.cell 0 _ rfl; have r1 := hR2.cell 1 _ rfl; have r2 := hR2.cell 2 _ rfl; have r3 := hR2.cell 3 _ rfl; have f0 := hR2.fr 0; have f1 := hR2.fr 1; have f2 := hR2.fr 2; have f3 := hR2.fr 3)
    exact ret_kno Tryd.results121 hR2 hx hkW0 hp2 (HB0.out.trans hb2) hlt (Nat.le_refl _) hWd rfl hfr rfl rfl rfl rfl
  | ok x r =>
    go_wp2_with (go_at_call 153; refine HC.out.mono ?_; rintro e W2 ⟨x9, b9, g, rfl, hx, hbr9, hbl9, hgb9, hp2, hb2⟩; obtain ⟨A, c, rfl⟩ := hx.form; have hR2 := HR0.out.but hb2 (fun e => hdk e); have r0 := hR2.cell 0 _ rfl; have r1 := hR2.cell 1 _ rfl; have r2 := hR2.cell 2 _ rfl; have r3 := hR2.cell 3 _ rfl; have f0 := hR2.fr 0; have f1 := hR2.fr 1; have f2 := hR2.fr 2; have f3 := hR2.fr 3)
    exact ret_kok Tryd.results121 hR2 hx (fun _ => rfl) hkW0 hp2 (HB0.out.trans hb2) hlt (Nat.le_refl _) hWd rfl hbr9 hbl9 hgb9 rfl rfl rfl rfl
theorem kx_every (n : Nat) : KEx n 0 ∧ KEx n 1 ∧ KEx n 2 ∧ KEx n 3 := by
  induction n using Nat.strongRecOn with
  | ind n ih => exact ⟨kexpr_step n 0 (by decide) (fun m hm => (ih m hm).2.1), kexpr_step n 1 (by decide) (fun m hm => (ih m hm).2.2.1), kexpr_step n 2 (by decide) (fun m hm => (ih m hm).2.2.2), kexpr_three n (katom_step n (fun m hm => (ih m hm).1))⟩
theorem kexpr_any (n : Nat) : KEx n 0 := (kx_every n).1
end Go.Proofs.YtijahadmaggncaaDoor
