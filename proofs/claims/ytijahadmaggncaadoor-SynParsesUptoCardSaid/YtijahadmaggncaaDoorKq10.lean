/- The walks of KParse and of the law SynParses. -/
import Derived.Test.YtijahadmaggncaaDoorKq9
import Derived.Test.YtijahadmaggncaaDoorJt2
import Derived.Test.YtijahadmaggncaaDoorPq11
import Derived.Test.YtijahadmaggncaaDoorSame
namespace Go.Proofs.YtijahadmaggncaaDoor
open Go.RowKit
set_option linter.unusedVariables false
theorem kstmts_any (n : Nat) : KSs n := by
  induction n using Nat.strongRecOn with
  | ind n ih => exact kstmts_step n (fun m hm => kstmt_any m (ih m hm))
set_option maxHeartbeats 2000000 in
set_option maxRecDepth 100000 in
theorem kparse_any (s : ByteArray) (hs : s.size ≤ 1048576) (w : World) (hN : Nums w) : Calls Tryd.prog 9 #[.string s] w (ParOut (parG s.data.toList) w) := by
  have hln := data_len s
  have hlen := lexR_len s.data.toList
  have hok := lexR_ok s.data.toList
  have HT := Lib.hid (jtokens_lex s (by omega) w hN)
  obtain ⟨G, hG⟩ : ∃ G, G = parG s.data.toList := ⟨_, rfl⟩
  rw [← hG]
  unfold parG at hG
  rw [hln] at hG hlen
  generalize lexR s.data.toList = Z at *
  obtain ⟨L, at_, er⟩ := Z
  simp only at hG hlen hok
  unfold TokOut at HT
  simp only at HT
  have HG := Lib.hid hG
  clear hG hN
  go_enter Tryd.func9, Tryd.ntmps9
  go_upto_region 2 with (go_at_call 26; refine HT.out.mono ?_; rintro e w1 ⟨x, rfl, hx, hb1⟩)
  have HX1 := Lib.hid hx
  have HB1 := Lib.hid hb1
  clear hx hb1 HT
  by_cases her : er = 0
  · subst her
    rw [if_pos rfl] at HG
    obtain ⟨o, ho⟩ : ∃ o, stsG (6 * L.length + 1) [] L = some o := Option.ne_none_iff_exists'.1 (stsG_told _ _ _ (Nat.le_refl _))
    rw [ho] at HG
    have HO := Lib.hid ho
    have HOK := Lib.hid (fun t ht => (⟨hok t ht, Nat.le_trans (hlen.2 t ht) hs⟩ : tokOk t))
    have hLl : L.length ≤ 1048576 := Nat.le_trans hlen.1 hs
    clear ho hok hlen hln
    obtain ⟨A, cap, rfl, hAl, hAc, _⟩ := HX1.out.form
    unfold maxLen at hAc
    have bl2 : Below w1.heap.size w1 (w1.alloc (.cells #[.slice A L.length cap, .int .i64 0] 68)) := (Below.refl _ _).alloc (Nat.le_refl _) _
    have HPS := Lib.hid (show RkAt w1.heap.size L (w1.alloc (.cells #[.slice A L.length cap, .int .i64 0] 68)) 0 from ⟨_, Blk.made w1 [.slice A L.length cap, .int .i64 0] 68 (Nat.zero_le _), RdL.go HX1.out Flat.keeps bl2 (fun k hk => hk.elim False.elim (fun h => h.2)) (fun k hk => hk.elim False.elim (fun h => h.2)), HOK.out, hLl, Nat.zero_le _⟩)
    have HX2 := Lib.hid (RdL.go HX1.out Flat.keeps bl2 (fun k hk => hk.elim False.elim (fun h => h.2)) (Sub.refl _))
    have HB2 := Lib.hid (HB1.out.trans (bl2.mono HB1.out.size))
    have HST := Lib.hid (kstmts_any (6 * L.length + 1) w1.heap.size 0 L (w1.alloc (.cells #[.slice A L.length cap, .int .i64 0] 68)) 0 o (by rw [List.drop_zero]; exact HO.out) HPS.out (Nat.zero_le _) (Nat.le_refl _))
    have hz1 := HB1.out.size
    have hkW : w1.heap.size < (w1.alloc (.cells #[.slice A L.length cap, .int .i64 0] 68)).heap.size := by simp
    clear bl2 HX1 HB1 HPS hAl hAc HOK HO
    go_upto_region 5 with (fail)
    generalize (w1.alloc (.cells #[.slice A L.length cap, .int .i64 0] 68)) = W2 at *
    cases o with
    | no r =>
      have HG2 := Lib.hid (show G = ([], placeG (s.size : Int) r, 1) from HG.out)
      clear HG
      go_upto_region 8 with (go_at_call 27; refine HST.out.mono ?_; rintro e w3 ⟨x9, z, g, rfl, ⟨l9, hx9⟩, hfr, hp3, hb3⟩; obtain ⟨A9, c9, rfl⟩ := hx9.form)
      have HB3 := Lib.hid (HB2.out.trans (hb3.below (by omega) (fun k hk => by unfold Is at hk; omega)))
      have HX3 := Lib.hid (RdL.keep HX2.out Flat.keeps (Sub.refl _) (hb3.same (fun k hk => hk.elim False.elim (fun h => Nat.lt_trans h.2 hkW)) (fun k hk e => hk.elim False.elim (fun h => by unfold Is at e; have := h.2; omega))))
      have hgl := hp3.len.2
      obtain ⟨A5, cap5, c0, c1, f1, _⟩ := hp3.open_
      have HFR := Lib.hid hfr
      clear hx9 hfr hp3 hb3 HB2 HX2 HST
      by_cases hge : L.length ≤ g
      · have hge' : (L.length : Int) ≤ (g : Int) := by omega
        have HZ := Lib.hid (show placeG (s.size : Int) r = s.size by rw [← HFR.out, List.drop_eq_nil_of_le hge]; rfl)
        clear hge
        go_wp2
        go_ret3
        rw [HG2.out, HZ.out]
        exact ⟨_, rfl, RdL.nil (by unfold maxLen; omega), HB3.out⟩
      · have hge' : ¬ (L.length : Int) ≤ (g : Int) := by omega
        have hgl2 : g < L.length := by omega
        obtain ⟨b, off, rfl, hb, hok, hc⟩ := RdL.flat HX3.out hgl2
        have k1 : w3.cell? ⟨b, off + g * 3 + 1, none⟩ = some (.int .i64 ((L[g]'hgl2).pos : Int)) := by have := hc 1 _ rfl; simpa [Nat.add_assoc] using this
        have HZ := Lib.hid (show placeG (s.size : Int) r = ((L[g]'hgl2).pos : Int) by rw [← HFR.out, List.drop_eq_getElem_cons hgl2]; rfl)
        have hgi : (g : Int) < (L.length : Int) := by omega
        generalize (L[g]'hgl2).pos = pz at *
        clear hge hb hok hc HX3
        go_upto_region 10 with (fail)
        go_quiet (fail)
        go_wp2
        go_ret3
        rw [HG2.out, HZ.out]
        exact ⟨_, rfl, RdL.nil (by unfold maxLen; omega), below_drewN HB3.out _⟩
    | ok l r =>
      go_upto_region 6 with (go_at_call 27; refine HST.out.mono ?_; rintro e w3 ⟨x9, b, rfl, hx9, hbr, hbl, hp3, hb3⟩; obtain ⟨A9, c9, rfl⟩ := hx9.form)
      have HB3 := Lib.hid (HB2.out.trans (hb3.below (by omega) (fun k hk => by unfold Is at hk; omega)))
      have HX3 := Lib.hid (RdL.keep HX2.out Flat.keeps (Sub.refl _) (hb3.same (fun k hk => hk.elim False.elim (fun h => Nat.lt_trans h.2 hkW)) (fun k hk e => hk.elim False.elim (fun h => by unfold Is at e; have := h.2; omega))))
      have HXS := Lib.hid (show RdSts w3 (Plus Nowhere w.heap.size w3.heap.size) l (.slice A9 l.length c9) from RdL.sub hx9 RdSt.keeps (fun k hk => .inr ⟨by have := hk.1; omega, hk.2.1⟩))
      obtain ⟨A5, cap5, c0, c1, f1, _⟩ := hp3.open_
      have HBR := Lib.hid hbr
      clear hx9 hbr hp3 hb3 HB2 HX2 HST
      cases r with
      | nil =>
        have HG2 := Lib.hid (show G = (l, 0, 0) from HG.out)
        have hbe := drop_end hbl HBR.out
        have hbi : ((b : Int) == (L.length : Int)) = true := by rw [hbe]; simp
        clear HG hbe
        go_wp2
        go_ret3
        rw [HG2.out]
        exact ⟨_, rfl, HXS.out, HB3.out⟩
      | cons t r =>
        have HG2 := Lib.hid (show G = ([], (t.pos : Int), 1) from HG.out)
        have hbl2 : b < L.length := by
          rcases Nat.lt_or_ge b L.length with h | h
          · exact h
          · have h2 := HBR.out; rw [List.drop_eq_nil_of_le h] at h2; cases h2
        have hbi : ((b : Int) == (L.length : Int)) = false := by simp; omega
        have hge' : ¬ (L.length : Int) ≤ (b : Int) := by omega
        have hgi : (b : Int) < (L.length : Int) := by omega
        obtain ⟨bb, off, rfl, hb, hok, hc⟩ := RdL.flat HX3.out hbl2
        have htt : L[b]'hbl2 = t := by have h2 := HBR.out; rw [List.drop_eq_getElem_cons hbl2] at h2; injection h2
        have k1 : w3.cell? ⟨bb, off + b * 3 + 1, none⟩ = some (.int .i64 (t.pos : Int)) := by have := hc 1 _ rfl; rw [htt] at this; simpa [Nat.add_assoc] using this
        generalize t.pos = pz at *
        clear hb hok hc HX3 HG htt
        go_upto_region 10 with (fail)
        go_quiet (fail)
        go_wp2
        go_ret3
        rw [HG2.out]
        exact ⟨_, rfl, RdL.nil (by unfold maxLen; omega), below_drewN HB3.out _⟩
  · have HG2 := Lib.hid (show G = ([], (at_ : Int), er) by rw [HG.out, if_neg her])
    have hne : (er != 0) = true := by simpa using her
    obtain ⟨A, cap, rfl, _⟩ := HX1.out.form
    clear her HG
    go_wp2
    go_ret3
    rw [HG2.out]
    exact ⟨_, rfl, RdL.nil (by unfold maxLen; omega), HB1.out⟩
set_option maxHeartbeats 1000000 in
set_option maxRecDepth 100000 in
theorem synParses_walk (s : ByteArray) (hs : s.size ≤ 1048576) (w : World) (hN : Nums w) :
    Calls Tryd.prog 4 #[.string s] w fun e w' => e = .returned (.bool true) ∧ Below w.heap.size w w' := by
  have HA := Lib.hid (parse_any s hs w)
  have HB := Lib.hid (fun W (h : Nums W) => kparse_any s hs W h)
  have HN := Lib.hid hN
  generalize parG s.data.toList = Z at HA HB
  obtain ⟨l, n, er⟩ := Z
  unfold ParOut at HA HB
  simp only at HA HB
  clear hN
  go_enter Tryd.func4, Tryd.ntmps4
  go_wp2_with (go_at_call 8; refine HA.out.mono ?_)
  rintro e w1 ⟨x, rfl, hx, hb1⟩
  have N1 := Lib.hid (HN.out.go hb1)
  have X1 := Lib.hid hx
  clear hx
  go_wp2_with (go_at_call 9; refine (HB.out _ N1.out).mono ?_)
  rintro e w2 ⟨y, rfl, hy, hb2⟩
  have B2 := hb1.trans (hb2.mono hb1.size)
  have HY := Lib.hid (RdL.sub hy RdSt.keeps (Sub.plus_to (Sub.nowhere (Upto w2.heap.size)) (Nat.le_refl _) (Nat.le_refl _)))
  have HX := Lib.hid (RdL.go X1.out RdSt.keeps hb2 (Sub.plus_to (Sub.nowhere (Upto w1.heap.size)) (Nat.le_refl _) (Nat.le_refl _)) (Sub.plus_to (Sub.nowhere (Upto w2.heap.size)) (Nat.le_refl _) (by exact hb2.size)))
  have HE := Lib.hid (sameStmts_any l w2 x y HX.out HY.out)
  have hz2 := B2.size
  clear hy X1 N1 hb1 hb2 HA HB HX HY
  go_wp2_with (go_at_call 10; refine HE.out.mono ?_; rintro e w3 ⟨rfl, hb3⟩; have B3 := B2.trans (hb3.mono hz2))
  go_ret
  exact ⟨rfl, B3⟩
end Go.Proofs.YtijahadmaggncaaDoor
