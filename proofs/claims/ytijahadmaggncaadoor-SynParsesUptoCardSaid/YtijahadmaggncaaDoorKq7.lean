/- The reader of KParse: stmts. -/
import Derived.Test.YtijahadmaggncaaDoorKq6
namespace Go.Proofs.YtijahadmaggncaaDoor
open Go.RowKit
set_option linter.unusedVariables false
/-- does no statement begin here? -/
theorem beg_none {t : LTok} {r : List LTok} : anyG begS (t :: r) = ⟨#[]⟩ ↔ ((t.str.toList == [101, 108, 115, 101]) = true ∨ (t.str.toList == [116, 111]) = true ∨ keptB t.str = false) := by
  have hne : ∀ s ∈ begS, ¬ s = (⟨#[]⟩ : Str) := by
    intro s hs
    simp only [begS, List.mem_cons, List.not_mem_nil, or_false] at hs
    rcases hs with rfl | rfl | rfl | rfl | rfl | rfl | rfl <;> decide
  have h1 : ∀ (l : List Str), (∀ s ∈ l, ¬ s = (⟨#[]⟩ : Str)) → (anyG l (t :: r) = ⟨#[]⟩ ↔ ∀ s ∈ l, (t.str.toList == s.toList) = false) := by
    intro l
    induction l with
    | nil => intro _; simp [anyG]
    | cons s l ih =>
      intro hl
      rw [anyG]
      by_cases hx : isT s (t :: r) = true
      · rw [if_pos hx]
        constructor
        · intro h; exact absurd h (hl s (List.mem_cons_self ..))
        · intro h
          have := h s (List.mem_cons_self ..)
          rw [show isT s (t :: r) = (t.str.toList == s.toList) from rfl, this] at hx; cases hx
      · rw [if_neg hx, ih (fun s hs => hl s (List.mem_cons_of_mem _ hs))]
        have hx' : (t.str.toList == s.toList) = false := by
          cases e : (t.str.toList == s.toList)
          · rfl
          · exact absurd e hx
        constructor
        · intro h u hu
          rcases List.mem_cons.1 hu with rfl | hu
          · exact hx'
          · exact h u hu
        · intro h u hu; exact h u (List.mem_cons_of_mem _ hu)
  rw [h1 begS hne, kept_eq]
  generalize t.str.toList = y
  simp only [begS, List.forall_mem_cons, tl_bz]
  by_cases h7 : y = [101, 108, 115, 101]
  · subst h7; simp
  · by_cases h8 : y = [116, 111]
    · subst h8; simp
    · have e7 : (y == [101, 108, 115, 101]) = false := by simpa using h7
      have e8 : (y == [116, 111]) = false := by simpa using h8
      rw [e7, e8]
      simp only [Bool.false_eq_true, false_or, Bool.or_eq_false_iff, List.not_mem_nil, false_imp_iff, implies_true, and_true, Bool.or_false, and_assoc]
def KSm (m : Nat) : Prop := ∀ (k f : Nat) (L : List LTok) (w : World) (a : Nat) (out : PR St), stmtG m (stsG m []) formsP (L.drop a) = some out → ¬ anyG begS (L.drop a) = ⟨#[]⟩ → RkAt k L w f → a ≤ L.length → f ≤ a →
  Calls Tryd.prog 51 #[.pointer (some ⟨k, 0, none⟩), .int .i64 (a : Int)] w (KOut k L w (rdSt w.heap.size k) out)
theorem RkAt.grown {p g : Nat} {L : List LTok} {w w' : World} {v : Value} (h : RkAt p L w g) (hg : w.grownBy w' v.ownBlock) (hv : ∀ k, v.ownBlock = some k → p < k) : RkAt p L w' g := by
  have hlt := h.lt
  have hb := But.of_grown hg
  obtain ⟨u, h, r, o⟩ := h
  exact ⟨u, h.but hb (fun e => by have := hv _ e; omega), r.keep Flat.keeps (Sub.refl _) (hb.same (fun k hk => Nat.lt_trans hk hlt) (fun k hk e => by have := hv _ e; unfold Upto at hk; omega)), o⟩
set_option maxHeartbeats 8000000 in
set_option maxRecDepth 100000 in
theorem kstmts_step (n : Nat) (ih : ∀ m, m < n → KSm m) : KSs n := by
  intro k f L w a out ho h ha hf
  obtain ⟨i0, hi, hz0, hz1', hz2⟩ := info_parts infoSt
  have hkw := h.lt
  have hll := h.len.1
  have HP0 := Lib.hid h
  have HE0 := Lib.hid ho
  have IH := Lib.hid ih
  clear h ho ih
  go_enter Tryd.func27, Tryd.ntmps27
  go_wp2_with fail
  go_loopw [1, 7] (fun u o' wr => ∃ (o : Value) (acc : List St) (b g m : Nat), o = o' ∧ u = .int .i64 (b : Int) ∧ m ≤ n ∧ b ≤ L.length ∧ g ≤ b ∧ Hid (stsG m acc (L.drop b) = some out) ∧ Hid (RkAt k L wr g) ∧ Hid (But (Is k) w wr) ∧ Hid (OwnSt wr w.heap.size acc o) ∧ acc.length ≤ b) (fun u _ _ => L.length - (intOf u).toNat)
  case atStart => exact ⟨_, [], a, f, n, rfl, rfl, Nat.le_refl _, ha, hf, HE0, HP0, Lib.hid (But.refl _ _), Lib.hid (OwnL.nil _ _ _), Nat.zero_le _⟩
  case round =>
    clear HP0 HE0 ha hf
    obtain ⟨o, acc, b, g, m, rfl, rfl, hmn, hb, hgb, HE, HPr, HBr, HOr, hacc⟩ := hrel
    obtain ⟨m, rfl⟩ : ∃ j, m = j + 1 := by cases m with
      | zero => cases HE.out
      | succ m => exact ⟨m, rfl⟩
    obtain ⟨A, cap, c0, c1, f1, hset⟩ := HPr.out.open_
    have hmax : max (g : Int) (b : Int) = (b : Int) := by omega
    have HP := Lib.hid (hset b hb)
    have hbs := (But.refl (Is k) wr).setCell (p := ⟨k, 1, none⟩) (show Is k k from rfl) (.int .i64 (b : Int))
    have HB := Lib.hid (HBr.out.trans hbs)
    have HO := Lib.hid (OwnSt.but HOr.out hbs hkw)
    have htk := HPr.out.toks
    clear HPr HBr HOr hset hbs
    go_upto_region 3 with (fail)
    generalize (wr.setCell ⟨k, 1, none⟩ (.int .i64 (b : Int))) = W1 at *
    clear c0 c1 f1 hmax
    by_cases hs : anyG begS (L.drop b) = ⟨#[]⟩
    · have HX := Lib.hid (show out = .ok acc (L.drop b) by have h := HE.out; rw [stsG_stop hs] at h; exact (Option.some.inj h).symm)
      have HFIN := Lib.hid (fun (W2 : World) (h2 : Below W1.heap.size W1 W2) => show KOutS k L w (rdS w.heap.size k) out (.returned (.tuple #[o, .int .i64 (b : Int), .bool true])) W2 by
        rw [HX.out]
        have h3 := But.of_b (T := Is k) h2
        exact ⟨o, b, rfl, OwnSt.rd (OwnSt.but HO.out h3 hkw) hkw (by omega), rfl, hb, HP.out.below h2, HB.out.trans h3⟩)
      cases hd : L.drop b with
      | nil =>
        have hbe := drop_end hb hd
        have hbq : ((b : Int) == (L.length : Int)) = true := by rw [hbe]; simp
        obtain ⟨A1, cap1, d0, _, _, _⟩ := HP.out.open_
        clear hs HE IH hd htk HX
        go_wp2
        go_ret3
        exact HFIN.out _ (Below.refl _ _)
      | cons t r =>
        rw [hd, beg_none] at hs
        obtain ⟨b0, off, cap0, d0, hlt, hbk, hok, hdr, k0, k1, k2⟩ := HP.out.tok hd
        have hbq : ((b : Int) == (L.length : Int)) = false := by simp; omega
        have HKK := Lib.hid (fun W => kkept_any t.str W)
        generalize keptB t.str = kb at hs HKK
        generalize t.str = y at *
        clear HE IH hd htk HX hok k0 k1 hdr
        cases hel : (y.toList == [101, 108, 115, 101])
        · cases hto : (y.toList == [116, 111])
          · have hkb : kb = false := by rw [hel, hto] at hs; simpa using hs
            subst hkb
            go_wp2_with (go_at_call 50; refine (HKK.out _).mono ?_; rintro e W2 ⟨rfl, hb2⟩)
            go_ret3
            exact HFIN.out _ hb2
          · go_wp2
            go_ret3
            exact HFIN.out _ (Below.refl _ _)
        · go_wp2
          go_ret3
          exact HFIN.out _ (Below.refl _ _)
    · obtain ⟨t, r, hd⟩ := anyG_ne hs
      have hs2 := hs
      rw [hd, beg_none] at hs2
      have he := HE.out
      rw [stsG_step hs] at he
      obtain ⟨b0, off, cap0, d0, hlt, hbk, hok, hdr, k0, k1, k2⟩ := HP.out.tok hd
      have hbq : ((b : Int) == (L.length : Int)) = false := by simp; omega
      have HKK := Lib.hid (fun W => kkept_any t.str W)
      generalize keptB t.str = kb at hs2 HKK
      generalize t.str = y at *
      obtain ⟨e1, e2, rfl⟩ : (y.toList == [101, 108, 115, 101]) = false ∧ (y.toList == [116, 111]) = false ∧ kb = true := by
        cases h1 : (y.toList == [101, 108, 115, 101]) <;> cases h2 : (y.toList == [116, 111]) <;> cases kb <;> simp_all
      have HE2 := Lib.hid he
      have HSM := Lib.hid (IH.out m (by omega))
      have HS := Lib.hid hs
      clear HE IH he hs hs2 htk hok k0 k1 hdr hd
      go_upto_region 5 with (go_at_call 50; refine (HKK.out _).mono ?_; rintro e W2 ⟨rfl, hb2⟩)
      have HP2 := Lib.hid (HP.out.below hb2)
      have HB2 := Lib.hid (HB.out.trans (But.of_b hb2))
      have HO2 := Lib.hid (OwnSt.but HO.out (But.of_b (T := Is k) hb2) hkw)
      clear HP HB HO hb2 HKK d0 k2 e1 e2 hbq
      rcases PO.bind_some HE2.out with ⟨q, e1, e2⟩ | ⟨st, q, e1, e2⟩
      · have HC := Lib.hid (HSM.out k b L W2 b _ e1 HS.out HP2.out hb (Nat.le_refl _))
        have HX := Lib.hid e2
        clear e1 e2 HE2 HSM HS
        go_upto_region 6 with (go_at_call 51; refine HC.out.mono ?_; rintro e W3 ⟨x, z, g3, rfl, ⟨⟨k', s', a', b', l', m'⟩, cs, rfl, hrs⟩, hfr, hp3, hb3⟩; obtain ⟨k1, n1, s1, A1, c1, m1, k2, n2, s2, A2, c2, m2, A3, m3, A4, m4, rfl, _, _, _, _, _, _⟩ := hrs.cells)
        have HFR := Lib.hid (show KOutS k L w (rdS w.heap.size k) out (.returned (.tuple #[.slice none 0 0, .int .i64 (b : Int), .bool false])) (W3.alloc (.cells #[.int .i64 k', .string s', .int .i64 k1, .int .i64 n1, .string s1, .slice A1 c1 m1, .int .i64 k2, .int .i64 n2, .string s2, .slice A2 c2 m2, .slice A3 l'.length m3, .slice A4 m'.length m4] 76)) by
          rw [HX.out]
          have bl3 := (Below.refl W3.heap.size W3).alloc (Nat.le_refl _) (.cells #[.int .i64 k', .string s', .int .i64 k1, .int .i64 n1, .string s1, .slice A1 c1 m1, .int .i64 k2, .int .i64 n2, .string s2, .slice A2 c2 m2, .slice A3 l'.length m3, .slice A4 m'.length m4] 76)
          exact ⟨_, _, g3, rfl, ⟨[], rdS.nil _ _ _⟩, hfr, hp3.below bl3, HB2.out.trans (hb3.trans (But.of_b bl3))⟩)
        clear hrs hfr hp3 hb3 HB2 HO2 HP2 HX HC
        generalize (W3.alloc (.cells #[.int .i64 k', .string s', .int .i64 k1, .int .i64 n1, .string s1, .slice A1 c1 m1, .int .i64 k2, .int .i64 n2, .string s2, .slice A2 c2 m2, .slice A3 l'.length m3, .slice A4 m'.length m4] 76)) = W4 at *
        go_wp2
        go_ret3
        exact HFR.out
      · have HC := Lib.hid (HSM.out k b L W2 b _ e1 HS.out HP2.out hb (Nat.le_refl _))
        have HE3 := Lib.hid e2
        have hln := stmtG_len (fun ts l r h => stsG_len _ _ _ _ _ h) forms_ne e1
        rw [List.length_drop] at hln
        clear e1 e2 HE2 HSM HS
        go_upto_region 6 with (go_at_call 51; refine HC.out.mono ?_; rintro e W3 ⟨x, b3, g3, rfl, ⟨cs, rfl, hrs⟩, hbr3, hbl3, hgb3, hp3, hb3⟩; obtain ⟨k', s', a', b', l', m'⟩ := st; obtain ⟨k1, n1, s1, A1, c1, m1, k2, n2, s2, A2, c2, m2, A3, m3, A4, m4, rfl, _, _, _, _, _, _⟩ := hrs.cells)
        have bl3 := (Below.refl W3.heap.size W3).alloc (Nat.le_refl _) (.cells #[.int .i64 k', .string s', .int .i64 k1, .int .i64 n1, .string s1, .slice A1 c1 m1, .int .i64 k2, .int .i64 n2, .string s2, .slice A2 c2 m2, .slice A3 l'.length m3, .slice A4 m'.length m4] 76)
        have HY3 := Lib.hid (Blk.made W3 [.int .i64 k', .string s', .int .i64 k1, .int .i64 n1, .string s1, .slice A1 c1 m1, .int .i64 k2, .int .i64 n2, .string s2, .slice A2 c2 m2, .slice A3 l'.length m3, .slice A4 m'.length m4] 76 (base := 0) (Nat.zero_le _))
        have HRS := Lib.hid (RdSt.keeps _ _ _ _ _ _ (Sub.refl _) (same_of_below bl3 (Rn.upto (lo := W2.heap.size) (y := k))) hrs)
        have HP3 := Lib.hid (hp3.below bl3)
        have HB3 := Lib.hid (HB2.out.trans (hb3.trans (But.of_b bl3)))
        have HO3 := Lib.hid (OwnSt.but (OwnSt.but HO2.out hb3 hkw) (But.of_b (T := Is k) bl3) hkw)
        have hz2' := HB2.out.size
        have hz3 := hb3.size
        have OLT := Lib.hid HO2.out.lt
        have HBR := Lib.hid hbr3
        have hb3b : b < b3 := by have h2 := congrArg List.length hbr3; rw [List.length_drop] at h2; omega
        have hsu : Sub (Rn W2.heap.size k W3) (Upto (W3.alloc (.cells #[.int .i64 k', .string s', .int .i64 k1, .int .i64 n1, .string s1, .slice A1 c1 m1, .int .i64 k2, .int .i64 n2, .string s2, .slice A2 c2 m2, .slice A3 l'.length m3, .slice A4 m'.length m4] 76)).heap.size) := fun j hj => Nat.lt_of_lt_of_le hj.2.1 bl3.size
        have hsb : Sub (Rn W2.heap.size k W3) (fun j => w.heap.size ≤ j) := fun j hj => Nat.le_trans hz2' hj.1
        have hnt : ∀ j, o.ownBlock = some j → ¬ Rn W2.heap.size k W3 j := fun j e hj => by have := (OLT.out j e).2; have := hj.1; omega
        have hw3 : w.heap.size ≤ (W3.alloc (.cells #[.int .i64 k', .string s', .int .i64 k1, .int .i64 n1, .string s1, .slice A1 c1 m1, .int .i64 k2, .int .i64 n2, .string s2, .slice A2 c2 m2, .slice A3 l'.length m3, .slice A4 m'.length m4] 76)).heap.size := by have := bl3.size; omega
        obtain ⟨S9, hS9⟩ : ∃ S9, S9 = Rn W2.heap.size k W3 := ⟨_, rfl⟩
        rw [← hS9] at HRS hsu hsb hnt
        clear hrs hp3 hb3 bl3 hbr3 HO2 HB2 HP2 HC hz2' hz3 hS9
        generalize (W3.alloc (.cells #[.int .i64 k', .string s', .int .i64 k1, .int .i64 n1, .string s1, .slice A1 c1 m1, .int .i64 k2, .int .i64 n2, .string s2, .slice A2 c2 m2, .slice A3 l'.length m3, .slice A4 m'.length m4] 76)) = W4 at *
        generalize W3.heap.size = d3 at *
        have y0 := HY3.out.cell 0 _ rfl; have y1 := HY3.out.cell 1 _ rfl; have y2 := HY3.out.cell 2 _ rfl; have y3 := HY3.out.cell 3 _ rfl; have y4 := HY3.out.cell 4 _ rfl; have y5 := HY3.out.cell 5 _ rfl; have y6 := HY3.out.cell 6 _ rfl; have y7 := HY3.out.cell 7 _ rfl; have y8 := HY3.out.cell 8 _ rfl; have y9 := HY3.out.cell 9 _ rfl; have y10 := HY3.out.cell 10 _ rfl; have y11 := HY3.out.cell 11 _ rfl
        have bl5 : Below W4.heap.size W4 (W4.alloc (.cells #[.int .i64 k', .string s', .int .i64 k1, .int .i64 n1, .string s1, .slice A1 c1 m1, .int .i64 k2, .int .i64 n2, .string s2, .slice A2 c2 m2, .slice A3 l'.length m3, .slice A4 m'.length m4] 76)) := (Below.refl _ _).alloc (Nat.le_refl _) _
        have OW5 := Lib.hid (show OwnSt (W4.alloc (.cells #[.int .i64 k', .string s', .int .i64 k1, .int .i64 n1, .string s1, .slice A1 c1 m1, .int .i64 k2, .int .i64 n2, .string s2, .slice A2 c2 m2, .slice A3 l'.length m3, .slice A4 m'.length m4] 76)) w.heap.size acc o from OwnL.keep HO3.out RdSt.keeps bl5)
        have LT5 := Lib.hid (show RdL _ 12 184 (W4.alloc (.cells #[.int .i64 k', .string s', .int .i64 k1, .int .i64 n1, .string s1, .slice A1 c1 m1, .int .i64 k2, .int .i64 n2, .string s2, .slice A2 c2 m2, .slice A3 l'.length m3, .slice A4 m'.length m4] 76)) (Is W4.heap.size) [St.mk k' s' a' b' l' m'] (.slice (some ⟨W4.heap.size, 0, none⟩) 1 1) from st_lit W4 HRS.out hsu rfl)
        have PS5 := Lib.hid (HP3.out.below bl5)
        have BB5 := Lib.hid (HB3.out.trans (But.of_b bl5))
        have hw6 : w.heap.size ≤ (W4.alloc (.cells #[.int .i64 k', .string s', .int .i64 k1, .int .i64 n1, .string s1, .slice A1 c1 m1, .int .i64 k2, .int .i64 n2, .string s2, .slice A2 c2 m2, .slice A3 l'.length m3, .slice A4 m'.length m4] 76)).heap.size := by have := bl5.size; omega
        have hsu2 : Sub S9 (Upto (W4.alloc (.cells #[.int .i64 k', .string s', .int .i64 k1, .int .i64 n1, .string s1, .slice A1 c1 m1, .int .i64 k2, .int .i64 n2, .string s2, .slice A2 c2 m2, .slice A3 l'.length m3, .slice A4 m'.length m4] 76)).heap.size) := hsu.trans (Sub.upto bl5.size)
        clear bl5 HO3 HP3 HB3 HRS hsu
        go_wp2_with (at_builtin; generalize (W4.alloc (.cells #[.int .i64 k', .string s', .int .i64 k1, .int .i64 n1, .string s1, .slice A1 c1 m1, .int .i64 k2, .int .i64 n2, .string s2, .slice A2 c2 m2, .slice A3 l'.length m3, .slice A4 m'.length m4] 76)) = W5 at *; refine wpList_append_list rfl _ _ 22 rfl i0 _ Tryd.underlying22 hi hz0 hz1' hz2 rfl (by decide) RdSt.keeps OW5.out LT5.out rfl rfl hsb hsu2 hnt oneSt ?c3 ?c4 hw6 ?_)
        case c3 => simp only [List.length_cons, List.length_nil]; unfold maxLen; omega
        case c4 => simp only [List.length_cons, List.length_nil]; omega
        intro v2 w2 ho hg hk2
        have HO6 := Lib.hid (show OwnSt w2 w.heap.size (acc ++ [St.mk k' s' a' b' l' m']) v2 from ho)
        have HP6 := Lib.hid (RkAt.grown PS5.out hg (fun j e => Nat.lt_of_lt_of_le hkw (OLT.out j e).1))
        have HB6 := Lib.hid (But.grown_ BB5.out hg (fun j e => (OLT.out j e).1))
        have HE6 := Lib.hid (show stsG m (acc ++ [St.mk k' s' a' b' l' m']) (L.drop b3) = some out by rw [HBR.out]; exact HE3.out)
        clear ho hg hk2 OW5 LT5 PS5 BB5 hsb hsu2 hnt HE3 y0 y1 y2 y3 y4 y5 y6 y7 y8 y9 y10 y11
        go_wp2_with fail
        go_roundw
        case rel => exact ⟨_, _, b3, g3, m, rfl, rfl, by omega, hbl3, hgb3, HE6, HP6, HB6, HO6, by simp only [List.length_append, List.length_cons, List.length_nil]; omega⟩
        case measure => simp [intOf]; omega
end Go.Proofs.YtijahadmaggncaaDoor
