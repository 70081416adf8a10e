/- The walk of syn.Parse. -/
import Derived.Test.YtijahadmaggncaaDoorPq10
namespace Go.Proofs.YtijahadmaggncaaDoor
open Go.RowKit
set_option linter.unusedVariables false
theorem parse_results {tmps : Array Value} {W : World} {a b c : Nat} {A : Option Addr} {n k : Nat} {z e : Int} (h2 : tmps[2]?.getD undef = .pointer (some ⟨a, 0, none⟩)) (h3 : tmps[3]?.getD undef = .pointer (some ⟨b, 0, none⟩)) (h4 : tmps[4]?.getD undef = .pointer (some ⟨c, 0, none⟩))
    (hA : Blk 0 W a [.slice A n k]) (hB : Blk 0 W b [.int .i64 z]) (hC : Blk 0 W c [.int .i64 e]) : (results Tryd.f8 tmps).run Tryd.prog W = .ok (.tuple #[.slice A n k, .int .i64 z, .int .i64 e]) W := by
  have a0 := hA.cell 0 _ rfl
  have b0 := hB.cell 0 _ rfl
  have c0 := hC.cell 0 _ rfl
  simp [results, Tryd.results8, go_sem, h2, h3, h4, a0, b0, c0]
/-- the three cells of the results, one stored after the other -/
theorem three_set {W : World} {a b c : Nat} {va vb vc : Value} (hA : Blk 0 W a [va]) (hB : Blk 0 W b [vb]) (hC : Blk 0 W c [vc]) (hab : a ≠ b) (hac : a ≠ c) (hbc : b ≠ c) (ua ub uc : Value) :
    Blk 0 (((W.setCell ⟨a, 0, none⟩ ua).setCell ⟨b, 0, none⟩ ub).setCell ⟨c, 0, none⟩ uc) a [ua] ∧ Blk 0 (((W.setCell ⟨a, 0, none⟩ ua).setCell ⟨b, 0, none⟩ ub).setCell ⟨c, 0, none⟩ uc) b [ub] ∧ Blk 0 (((W.setCell ⟨a, 0, none⟩ ua).setCell ⟨b, 0, none⟩ ub).setCell ⟨c, 0, none⟩ uc) c [uc] := by
  have hA1 : Blk 0 (W.setCell ⟨a, 0, none⟩ ua) a [ua] := hA.set (i := 0) (by simp) _
  have hB1 : Blk 0 ((W.setCell ⟨a, 0, none⟩ ua).setCell ⟨b, 0, none⟩ ub) b [ub] := (hB.other (p := ⟨a, 0, none⟩) hab _).set (i := 0) (by simp) _
  exact ⟨(hA1.other (p := ⟨b, 0, none⟩) (fun e => hab e.symm) ub).other (p := ⟨c, 0, none⟩) (fun e => hac e.symm) uc, hB1.other (p := ⟨c, 0, none⟩) (fun e => hbc e.symm) uc, ((hC.other (p := ⟨a, 0, none⟩) hac _).other (p := ⟨b, 0, none⟩) hbc _).set (i := 0) (by simp) _⟩
set_option maxHeartbeats 2000000 in
set_option maxRecDepth 100000 in
theorem parse_any (s : ByteArray) (hs : s.size ≤ 1048576) (w : World) : Calls Tryd.prog 8 #[.string s] w (ParOut (parG s.data.toList) w) := by
  have hln := data_len s
  have hlen := lexR_len s.data.toList
  have hok := lexR_ok s.data.toList
  have HT := Lib.hid (fun W => tokens_any s (by omega) W)
  obtain ⟨G, hG⟩ : ∃ G, G = parG s.data.toList := ⟨_, rfl⟩
  rw [← hG]
  unfold parG at hG
  rw [hln] at hG hlen
  generalize lexR s.data.toList = Z at *
  obtain ⟨L, at_, er⟩ := Z
  simp only at hG hlen hok
  unfold TokOut at HT
  simp only at HT
  have HG := Lib.hid hG
  clear hG
  have hmf : ∀ (fn : Fn) (first cap : Array Value) (w : World), (Instr.makeFunc fn first cap).run Tryd.prog w = .ok (.func fn first cap) w := fun _ _ _ _ => rfl
  have bl0 : Below w.heap.size w (((w.alloc (.cells #[.slice none 0 0] 22)).alloc (.cells #[.int .i64 0] 3)).alloc (.cells #[.int .i64 0] 23)) := (((Below.refl _ _).alloc (Nat.le_refl _) _).alloc (by simp) _).alloc (by simp; omega) _
  have b1 := Blk.made w [.slice none 0 0] 22 (base := 0) (Nat.zero_le _)
  have b2 := Blk.made (w.alloc (.cells #[.slice none 0 0] 22)) [.int .i64 0] 3 (base := 0) (Nat.zero_le _)
  have b3 := Blk.made ((w.alloc (.cells #[.slice none 0 0] 22)).alloc (.cells #[.int .i64 0] 3)) [.int .i64 0] 23 (base := 0) (Nat.zero_le _)
  have HA := Lib.hid ((b1.below ((Below.refl _ _).alloc (Nat.le_refl _) (.cells #[.int .i64 0] 3))).below ((Below.refl _ _).alloc (Nat.le_refl _) (.cells #[.int .i64 0] 23)))
  have HB := Lib.hid (b2.below ((Below.refl _ _).alloc (Nat.le_refl _) (.cells #[.int .i64 0] 23)))
  have HC := Lib.hid b3
  have HBL := Lib.hid bl0
  have hz0 : (((w.alloc (.cells #[.slice none 0 0] 22)).alloc (.cells #[.int .i64 0] 3)).alloc (.cells #[.int .i64 0] 23)).heap.size = w.heap.size + 1 + 1 + 1 := by simp
  simp only [World.size_alloc] at HB HC
  have HZ0 := Lib.hid hz0
  clear b1 b2 b3 bl0 hz0
  go_enter_defers Tryd.func8, Tryd.ntmps8
  go_upto_region 1 with (fail)
  generalize (((w.alloc (.cells #[.slice none 0 0] 22)).alloc (.cells #[.int .i64 0] 3)).alloc (.cells #[.int .i64 0] 23)) = W0 at *
  go_upto_region 2 with (go_at_call 22; refine (HT.out _).mono ?_; rintro e w1 ⟨x, rfl, hx, hb1⟩; have hB1 := HB.out.below hb1; have q0 := hB1.cell 0 _ rfl; have q1 := hB1.fr 0)
  have hz0 := HZ0.out
  have hz1 := hb1.size
  have HB1 := Lib.hid (show Blk 0 (w1.setCell ⟨w.heap.size + 1, 0, none⟩ (.int .i64 at_)) (w.heap.size + 1) [.int .i64 at_] from hB1.set (i := 0) (by simp) _)
  have HA1 := Lib.hid ((HA.out.below hb1).other (p := ⟨w.heap.size + 1, 0, none⟩) (by simp) (.int .i64 at_))
  have HC1 := Lib.hid ((HC.out.below hb1).other (p := ⟨w.heap.size + 1, 0, none⟩) (by simp) (.int .i64 at_))
  have HBL1 := Lib.hid ((HBL.out.trans (hb1.mono (by omega))).setCell (p := ⟨w.heap.size + 1, 0, none⟩) (by simp) (.int .i64 at_))
  have HX1 := Lib.hid (RdL.stored hx Flat.keeps (p := ⟨w.heap.size + 1, 0, none⟩) (fun h => h.elim id (fun h => by have h2 : W0.heap.size ≤ w.heap.size + 1 := h.1; omega)) (.int .i64 at_))
  have hz2 : w.heap.size + 1 + 1 < (w1.setCell ⟨w.heap.size + 1, 0, none⟩ (.int .i64 at_)).heap.size := by rw [size_setCell]; omega
  have HZ2 := Lib.hid (show W0.heap.size ≤ (w1.setCell ⟨w.heap.size + 1, 0, none⟩ (.int .i64 at_)).heap.size by rw [size_setCell]; exact hz1)
  have HXZ := Lib.hid (size_setCell w1 ⟨w.heap.size + 1, 0, none⟩ (.int .i64 at_))
  clear hx hb1 hB1 q0 q1 HA HB HC HBL HT hz0 hz1
  generalize hW1 : (w1.setCell ⟨w.heap.size + 1, 0, none⟩ (.int .i64 at_)) = W1 at *
  clear hW1
  by_cases her : er = 0
  · subst her
    rw [if_pos rfl] at HG
    obtain ⟨o, ho⟩ : ∃ o, stsG (6 * L.length + 1) [] L = some o := Option.ne_none_iff_exists'.1 (stsG_told _ _ _ (Nat.le_refl _))
    rw [ho] at HG
    have HO := Lib.hid ho
    have HOK := Lib.hid (fun t ht => (⟨hok t ht, Nat.le_trans (hlen.2 t ht) hs⟩ : tokOk t))
    have hLl : L.length ≤ 1048576 := Nat.le_trans hlen.1 hs
    clear ho hok hlen hln
    obtain ⟨A, cap, rfl, hAl, hAc, _⟩ := HX1.out.form
    unfold maxLen at hAc
    have bl2 : Below W1.heap.size W1 (W1.alloc (.cells #[.slice A L.length cap, .int .i64 (s.size : Int)] 64)) := (Below.refl _ _).alloc (Nat.le_refl _) _
    have HPS := Lib.hid (show PsAt W1.heap.size ⟨s.size, W0.heap.size⟩ (W1.alloc (.cells #[.slice A L.length cap, .int .i64 (s.size : Int)] 64)) L from ⟨_, Blk.made W1 [.slice A L.length cap, .int .i64 (s.size : Int)] 64 (Nat.zero_le _), RdL.go HX1.out Flat.keeps bl2 (fun k hk => hk.elim False.elim (fun h => by unfold Upto; rw [HXZ.out]; exact h.2)) (fun k hk => hk.elim False.elim (fun h => ⟨h.1, by rw [HXZ.out]; exact h.2⟩)), HOK.out⟩)
    have HA2 := Lib.hid (HA1.out.below bl2)
    have HB2 := Lib.hid (HB1.out.below bl2)
    have HC2 := Lib.hid (HC1.out.below bl2)
    have HBL2 := Lib.hid (HBL1.out.trans (bl2.mono HBL1.out.size))
    have HST := Lib.hid (pstmts_any _ _ ⟨s.size, W0.heap.size⟩ L _ o HO.out hLl HPS.out)
    have hpz : w.heap.size + 1 + 1 < W1.heap.size := hz2
    have hwlo : w.heap.size < W0.heap.size := by have := HZ0.out; omega
    have hwp : w.heap.size ≤ W1.heap.size := by omega
    have hapz : ¬ w.heap.size = W1.heap.size := by omega
    have hbpz : ¬ w.heap.size + 1 = W1.heap.size := by omega
    have hcpz : ¬ w.heap.size + 1 + 1 = W1.heap.size := by omega
    clear bl2 HA1 HB1 HC1 HBL1 HX1 hAl hAc HXZ HO HOK hz2 HZ0 HZ2
    go_upto_region 6 with (fail)
    obtain ⟨W2, hW2⟩ : ∃ W2, W2 = W1.alloc (.cells #[.slice A L.length cap, .int .i64 (s.size : Int)] 64) := ⟨_, rfl⟩
    have hWz : W1.heap.size < W2.heap.size := by rw [hW2]; simp
    rw [← hW2] at HPS HA2 HB2 HC2 HBL2 HST ⊢
    clear hW2
    generalize W1.heap.size = p at *
    cases o with
    | no r =>
      have HG2 := Lib.hid (show G = ([], placeG (s.size : Int) r, 1) from HG.out)
      clear HG
      go_wp2_with (go_at_call 24; refine HST.out.mono ?_; rintro e w3 ⟨rfl, hb3⟩)
      refine leaves_cons (f := 23) (args := #[.pointer (some ⟨w.heap.size, 0, none⟩), .pointer (some ⟨w.heap.size + 1, 0, none⟩), .pointer (some ⟨w.heap.size + 1 + 1, 0, none⟩)]) (by simp) (by simp [go_sem]) ?_
      refine (catch_misfit _ _ _ _ [] w3 _ _ _ (HA2.out.but hb3 (fun e => hapz e)) (HB2.out.but hb3 (fun e => hbpz e)) (HC2.out.but hb3 (fun e => hcpz e)) (by omega) (by omega) (by omega)).mono ?_
      rintro e u' w4 ⟨rfl, rfl, hA, hB, hC, hbt⟩
      have hbl : Below w.heap.size w w4 := (HBL2.out.trans (hb3.below (by omega) (fun k hk => by unfold Is at hk; omega))).trans (hbt.below (by have := hb3.size; omega) (fun k hk => by omega))
      show ∃ v, _ ∧ _
      rw [HG2.out]
      exact ⟨_, parse_results rfl rfl rfl hA hB hC, _, rfl, RdL.nil (by unfold maxLen; omega), hbl⟩
    | ok l r =>
      go_upto_region 7 with (go_at_call 24; refine HST.out.mono ?_; rintro e w3 ⟨x, rfl, hx, hp3, hb3⟩; obtain ⟨A9, c9, rfl⟩ := hx.form; have hA3 := HA2.out.but hb3 (fun e => hapz e); have q0 := hA3.cell 0 _ rfl; have q1 := hA3.fr 0)
      have HA4 := Lib.hid (show Blk 0 (w3.setCell ⟨w.heap.size, 0, none⟩ (.slice A9 l.length c9)) w.heap.size [.slice A9 l.length c9] from hA3.set (i := 0) (by simp) _)
      have HB4 := Lib.hid ((HB2.out.but hb3 (fun e => hbpz e)).other (p := ⟨w.heap.size, 0, none⟩) (by simp) (.slice A9 l.length c9))
      have HC4 := Lib.hid ((HC2.out.but hb3 (fun e => hcpz e)).other (p := ⟨w.heap.size, 0, none⟩) (by simp; omega) (.slice A9 l.length c9))
      have HBL4 := Lib.hid ((HBL2.out.trans (hb3.below (by omega) (fun k hk => by unfold Is at hk; omega))).setCell (p := ⟨w.heap.size, 0, none⟩) (Nat.le_refl _) (.slice A9 l.length c9))
      have HX4 := Lib.hid (hx.but ((But.refl (Is w.heap.size) w3).setCell (p := ⟨w.heap.size, 0, none⟩) (show Is w.heap.size w.heap.size from rfl) (.slice A9 l.length c9)) (.inl (by omega)))
      have HP4 := Lib.hid (hp3.but_lo ((But.refl (Is w.heap.size) w3).setCell (p := ⟨w.heap.size, 0, none⟩) (show Is w.heap.size w.heap.size from rfl) (.slice A9 l.length c9)) hwlo (by omega))
      have hzz := hb3.size
      have hpW2 := hWz
      have hz4 := size_setCell w3 ⟨w.heap.size, 0, none⟩ (.slice A9 l.length c9)
      clear hx hp3 hb3 hA3 q0 q1 HA2 HB2 HC2 HBL2 HST hzz hz4
      generalize (w3.setCell ⟨w.heap.size, 0, none⟩ (.slice A9 l.length c9)) = W4 at *
      cases r with
      | nil =>
        have HG2 := Lib.hid (show G = (l, 0, 0) from HG.out)
        clear HG
        obtain ⟨A6, cap6, p0, p1, pf, pl, pm⟩ := HP4.out.open_
        have a0 := HA4.out.cell 0 _ rfl
        have a1 := HA4.out.fr 0
        have b0 := HB4.out.cell 0 _ rfl
        have b1 := HB4.out.fr 0
        have c0 := HC4.out.cell 0 _ rfl
        have c1 := HC4.out.fr 0
        go_wp2_with fail
        refine leaves_cons (f := 23) (args := #[.pointer (some ⟨w.heap.size, 0, none⟩), .pointer (some ⟨w.heap.size + 1, 0, none⟩), .pointer (some ⟨w.heap.size + 1 + 1, 0, none⟩)]) (by simp) (by simp [go_sem]) ?_
        refine (catch_idle _ _ _ _).mono ?_
        rintro e u' w5 ⟨rfl, rfl, rfl⟩
        obtain ⟨hA5, hB5, hC5⟩ := three_set HA4.out HB4.out HC4.out (by omega) (by omega) (by omega) (.slice A9 l.length c9) (.int .i64 0) (.int .i64 0)
        have hbl := (((HBL4.out.setCell (p := ⟨w.heap.size, 0, none⟩) (Nat.le_refl _) (.slice A9 l.length c9)).setCell (p := ⟨w.heap.size + 1, 0, none⟩) (by simp) (.int .i64 0)).setCell (p := ⟨w.heap.size + 1 + 1, 0, none⟩) (by simp; omega) (.int .i64 0))
        show ∃ v, _ ∧ _
        rw [HG2.out]
        refine ⟨_, parse_results rfl rfl rfl hA5 hB5 hC5, _, rfl, ?_, hbl⟩
        have hp1 : ∀ k, Rn W2.heap.size p W4 k → w.heap.size + 1 + 1 < k := fun k hk => by have := hk.1; omega
        refine RdL.keep HX4.out RdSt.keeps (fun k hk => .inr ⟨by have := hp1 k hk; omega, by simp only [size_setCell]; exact hk.2.1⟩) ?_
        refine (((Same.refl _ _).setCell (fun h => ?_) _).setCell (fun h => ?_) _).setCell (fun h => ?_) _
        · have h2 := hp1 _ h; simp only at h2; omega
        · have h2 := hp1 _ h; simp only at h2; omega
        · have h2 := hp1 _ h; simp only at h2; omega
      | cons t r =>
        have HG2 := Lib.hid (show G = ([], (t.pos : Int), 1) from HG.out)
        clear HG
        have HFL := Lib.hid (pfail_any HP4.out)
        obtain ⟨b, off, cap6, p0, p1, pf, pl, pm, k0, k1, k2, hok, _⟩ := HP4.out.head
        clear hok k0 k1 k2
        go_wp2_with (go_at_call 25; refine HFL.out.mono ?_; rintro e w5 ⟨rfl, rfl⟩)
        refine leaves_cons (f := 23) (args := #[.pointer (some ⟨w.heap.size, 0, none⟩), .pointer (some ⟨w.heap.size + 1, 0, none⟩), .pointer (some ⟨w.heap.size + 1 + 1, 0, none⟩)]) (by simp) (by simp [go_sem]) ?_
        refine (catch_misfit _ _ _ _ [] _ _ _ _ HA4.out HB4.out HC4.out (by omega) (by omega) (by omega)).mono ?_
        rintro e u' w6 ⟨rfl, rfl, hA, hB, hC, hbt⟩
        have hbl : Below w.heap.size w w6 := HBL4.out.trans (hbt.below HBL4.out.size (fun k hk => by omega))
        show ∃ v, _ ∧ _
        rw [HG2.out]
        exact ⟨_, parse_results rfl rfl rfl hA hB hC, _, rfl, RdL.nil (by unfold maxLen; omega), hbl⟩
  · have HG2 := Lib.hid (show G = ([], (at_ : Int), er) by rw [HG.out, if_neg her])
    have hne : (er != 0) = true := by simpa using her
    have a0 := HA1.out.cell 0 _ rfl
    have a1 := HA1.out.fr 0
    have b0 := HB1.out.cell 0 _ rfl
    have b1 := HB1.out.fr 0
    have c0 := HC1.out.cell 0 _ rfl
    have c1 := HC1.out.fr 0
    clear her HG
    go_upto_region 3 with (fail)
    go_region
    obtain ⟨hA2, hB2, hC2⟩ := three_set HA1.out HB1.out HC1.out (by omega) (by omega) (by omega) (.slice none 0 0) (.int .i64 (at_ : Int)) (.int .i64 er)
    have hbl := (((HBL1.out.setCell (p := ⟨w.heap.size, 0, none⟩) (Nat.le_refl _) (.slice none 0 0)).setCell (p := ⟨w.heap.size + 1, 0, none⟩) (by simp) (.int .i64 (at_ : Int))).setCell (p := ⟨w.heap.size + 1 + 1, 0, none⟩) (by simp; omega) (.int .i64 er)).drew
    have hd := Below.refl (((W1.setCell ⟨w.heap.size, 0, none⟩ (.slice none 0 0)).setCell ⟨w.heap.size + 1, 0, none⟩ (.int .i64 (at_ : Int))).setCell ⟨w.heap.size + 1 + 1, 0, none⟩ (.int .i64 er)).heap.size (((W1.setCell ⟨w.heap.size, 0, none⟩ (.slice none 0 0)).setCell ⟨w.heap.size + 1, 0, none⟩ (.int .i64 (at_ : Int))).setCell ⟨w.heap.size + 1 + 1, 0, none⟩ (.int .i64 er)) |>.drew
    have HA2 := Lib.hid (hA2.below hd)
    have HB2 := Lib.hid (hB2.below hd)
    have HC2 := Lib.hid (hC2.below hd)
    have HBF := Lib.hid hbl
    clear hA2 hB2 hC2 hd hbl a0 a1 b0 b1 c0 c1 HA1 HB1 HC1 HX1 HBL1
    generalize (((W1.setCell ⟨w.heap.size, 0, none⟩ (.slice none 0 0)).setCell ⟨w.heap.size + 1, 0, none⟩ (.int .i64 (at_ : Int))).setCell ⟨w.heap.size + 1 + 1, 0, none⟩ (.int .i64 er)).drew = WF at *
    go_wp2
    rw [HG2.out]
    exact ⟨_, parse_results rfl rfl rfl HA2.out HB2.out HC2.out, _, rfl, RdL.nil (by unfold maxLen; omega), HBF.out⟩
end Go.Proofs.YtijahadmaggncaaDoor
