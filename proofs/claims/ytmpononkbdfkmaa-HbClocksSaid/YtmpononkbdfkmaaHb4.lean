/- The walk of the reference's SClocks. -/
import Derived.Test.YtmpononkbdfkmaaHb2
import Derived.Test.YtmpononkbdfkmaaHb3
import Derived.Test.YtmpononkbdfkmaaVec5
namespace Go.Proofs.Ytmpononkbdfkmaa
open Go.RowKit
set_option linter.unusedVariables false
/-- the clock of event j, the first i events told -/
def cAt (l : List HEv) (j i : Nat) : List Nat := if kn (evAt l j).act then clk l (down l j) i else []
theorem cAt_zero (l : List HEv) (j : Nat) : cAt l j 0 = [] := by
  unfold cAt
  split
  · have e : ∀ n, ((List.range n).map fun p => cntA l (down l j) 0 p) = [] ++ List.replicate n 0 := by
      intro n
      exact List.ext_getElem (by simp) (fun i h1 h2 => by rw [List.getElem_map]; simp only [List.nil_append, List.getElem_replicate]; rfl)
    unfold clk
    rw [e, trimL_pad]; rfl
  · rfl
theorem cAt_len (l : List HEv) (j i : Nat) : (cAt l j i).length ≤ 200 := by
  unfold cAt
  split
  · exact clk_len _ _ _
  · simp
def isIn (l : List HEv) (j i : Nat) : Bool := kn (evAt l j).act && kn (evAt l i).act && (decide (i = j) || hr l j i)
theorem cAt_yes {l : List HEv} {j i : Nat} (hi : i < 18446744073709551615) (h : isIn l j i = true) : tickL (cAt l j i) (evAt l i).act = cAt l j (i + 1) := by
  unfold isIn at h
  simp only [Bool.and_eq_true] at h
  unfold cAt
  rw [if_pos h.1.1, if_pos h.1.1]
  exact tick_clk hi (down_kn h.1.1) h.2
theorem cAt_no {l : List HEv} {j i : Nat} (h : isIn l j i = false) : cAt l j i = cAt l j (i + 1) := by
  unfold cAt
  by_cases hk : kn (evAt l j).act = true
  · rw [if_pos hk, if_pos hk]
    refine (clk_skip ?_).symm
    cases e : down l j i
    · rfl
    · have := down_kn hk i e
      unfold isIn at h
      rw [hk, this] at h
      unfold down at e
      rw [e] at h
      simp at h
  · rw [if_neg hk, if_neg hk]
theorem clocksH_next (l : List HEv) (q : Nat) : clocksH l (q + 1) = clocksH l q ++ [cAt l q (q + 1)] := clocksH_succ l q
/-- a clock that does not lie in the row of what has been told -/
def Ok3 (base : Nat) (o : Value) (w : World) (c : List Nat) (v : Value) : Prop := ∃ T, Sub T (fun b => base ≤ b) ∧ Sub T (Upto w.heap.size) ∧ (∀ k, o.ownBlock = some k → ¬ T k) ∧ RdU w T c v
theorem Ok3.below {base : Nat} {o : Value} {w w' : World} {c : List Nat} {v : Value} (h : Ok3 base o w c v) (hb : Below w.heap.size w w') : Ok3 base o w' c v := by
  obtain ⟨T, h0, h1, h3, h4⟩ := h
  exact ⟨T, h0, h1.lift hb.size, h3, h4.go Flat.keeps hb h1 (Sub.refl _)⟩
theorem Ok3.rd {base : Nat} {o : Value} {w : World} {c : List Nat} {v : Value} (h : Ok3 base o w c v) : RdU w (Upto w.heap.size) c v := by
  obtain ⟨T, _, h1, _, h4⟩ := h
  exact h4.sub Flat.keeps h1
theorem Ok3.nil {base : Nat} {o : Value} {w : World} : Ok3 base o w [] (.slice none 0 0) := ⟨Nowhere, Sub.nowhere _, Sub.nowhere _, fun _ _ h => h, RdL.nil (by unfold maxLen; omega)⟩
theorem Ok3.fresh {base : Nat} {o : Value} {w w' : World} {c : List Nat} {v : Value} {L : List (List Nat)} {E : TypeId} {S : Blocks} (h : OwnUs E w base S L o) (hle : base ≤ w.heap.size) (hb : Below w.heap.size w w') (r : RdU w' (Plus Nowhere w.heap.size w'.heap.size) c v) : Ok3 base o w' c v := by
  refine ⟨_, fun b hb => ?_, Sub.plus_to (Sub.nowhere (Upto w.heap.size)) hb.size (Nat.le_refl _), fun k hk => ?_, r⟩
  · rcases hb with hb | hb
    · exact hb.elim
    · omega
  · have := (h.lt k hk).2
    exact not_plus (S := Nowhere) (n := 0) (Sub.nowhere _) (Nat.zero_le _) (.inl this)
abbrev OutUs (w : World) (base : Nat) (L : List (List Nat)) (o : Value) : Prop := OwnUs 27 w base (fun b => base ≤ b) L o

set_option maxHeartbeats 6000000 in
set_option maxRecDepth 100000 in
theorem sclocks_any (l : List HEv) (w : World) (S : Blocks) (v : Value) (hS : Sub S (Upto w.heap.size)) (r : RdEvs w S l v) :
    Calls Try.prog 62 #[v] w fun e w' => ∃ x, e = .returned x ∧ RdUs w' (Plus Nowhere w.heap.size w'.heap.size) (clocksH l l.length) x ∧ Below w.heap.size w w' := by
  obtain ⟨A, cap, rfl, hl, hcm, hby⟩ := r.form
  unfold maxLen at hcm
  obtain ⟨i0, hi, hz0, hz1, hz2⟩ := info_parts infoUs
  have R := Lib.hid r
  clear r
  go_enter Try.func62, Try.ntmps62
  go_wp2_with fail
  refine (sreach_any l _ S _ hS R.out).mono ?_
  rintro e w1 ⟨g, gs, rfl, hgl, hm, hb1⟩
  have HGL := Lib.hid hgl
  have M1 := Lib.hid hm
  clear hgl hm
  go_wp2
  go_loopw [4, 14] (fun o t wr => ∃ j : Nat, j ≤ l.length ∧ t = .int .i64 j ∧ Hid (OutUs wr w.heap.size (clocksH l j) o) ∧ Hid (MatB w.heap.size wr g l.length gs (hr l)) ∧ Hid (∀ k, o.ownBlock = some k → k ≠ g ∧ ∀ i : Nat, gs[i]? ≠ some k) ∧ Below w.heap.size w wr) (fun _ t _ => l.length - (intOf t).toNat)
  case atStart => exact ⟨0, by omega, rfl, Lib.hid (OwnL.nil _ _ _), M1, Lib.hid (fun k hk => by cases hk), hb1⟩
  case round =>
    clear M1 hb1
    obtain ⟨j, hjn, rfl, O, M, NO, hb⟩ := hrel
    obtain ⟨wo, hwo⟩ : ∃ wo : World, wo = wr := ⟨_, rfl⟩
    subst hwo
    by_cases hlt : j < l.length
    · obtain ⟨b, off, rfl, hbS, hok, hc⟩ := RdEvs.at_ R.out hlt
      rcases hev : evAt l j with ⟨k, a, ot, ce, wt, lb⟩
      rw [hev] at hok hc
      have e0 := (hb.cell (p := ⟨b, off + j * 6, none⟩) (hS _ hbS)).trans (hc 0 _ rfl)
      have e1 := (hb.cell (p := ⟨b, off + j * 6 + 1, none⟩) (hS _ hbS)).trans (hc 1 _ rfl); have e2 := (hb.cell (p := ⟨b, off + j * 6 + 2, none⟩) (hS _ hbS)).trans (hc 2 _ rfl); have e3 := (hb.cell (p := ⟨b, off + j * 6 + 3, none⟩) (hS _ hbS)).trans (hc 3 _ rfl); have e4 := (hb.cell (p := ⟨b, off + j * 6 + 4, none⟩) (hS _ hbS)).trans (hc 4 _ rfl); have e5 := (hb.cell (p := ⟨b, off + j * 6 + 5, none⟩) (hS _ hbS)).trans (hc 5 _ rfl)
      have HE := Lib.hid hev
      clear hc hev hok hbS
      have O1 := Lib.hid (O.out.keep rdU1_keeps ((Below.refl _ _).alloc (Nat.le_refl _) (.cells #[.int .i64 k, .int .i64 a, .int .i64 ot, .int .i64 ce, .bool wt, .int .i64 lb] 137)))
      have M1 := Lib.hid (M.out.below ((Below.refl _ _).alloc (Nat.le_refl _) (.cells #[.int .i64 k, .int .i64 a, .int .i64 ot, .int .i64 ce, .bool wt, .int .i64 lb] 137)))
      have D1 := Lib.hid (Blk.made wo [.int .i64 k, .int .i64 a, .int .i64 ot, .int .i64 ce, .bool wt, .int .i64 lb] 137 (base := 0) (Nat.zero_le _))
      have B1 : Below w.heap.size w (wo.alloc (.cells #[.int .i64 k, .int .i64 a, .int .i64 ot, .int .i64 ce, .bool wt, .int .i64 lb] 137)) := hb.alloc hb.size _
      obtain ⟨d, hd⟩ : ∃ d, d = wo.heap.size := ⟨_, rfl⟩
      have hdg : d ≠ g := by have := M.out.out.lt; omega
      go_wp2_with fail
      rw [← hd] at D1 ⊢
      have HNN := Lib.hid (show ∀ k, u4.ownBlock = some k → k < d by
        intro k hk; have := (O.out.lt k hk).2; omega)
      clear O M hb e0 e1 e2 e3 e4 e5 hd
      generalize wo.alloc (.cells #[.int .i64 k, .int .i64 a, .int .i64 ot, .int .i64 ce, .bool wt, .int .i64 lb] 137) = W1 at *
      have C0 := Lib.hid (show Ok3 w.heap.size u4 W1 (cAt l j 0) (.slice none 0 0) by rw [cAt_zero]; exact Ok3.nil)
      go_loopw [7, 24] (fun c t wr => ∃ i : Nat, i ≤ j + 1 ∧ t = .int .i64 i ∧ Hid (Ok3 w.heap.size u4 wr (cAt l j i) c) ∧ Hid (OutUs wr w.heap.size (clocksH l j) u4) ∧ Hid (MatB w.heap.size wr g l.length gs (hr l)) ∧ Hid (Blk 0 wr d [.int .i64 k, .int .i64 a, .int .i64 ot, .int .i64 ce, .bool wt, .int .i64 lb]) ∧ Below w.heap.size w wr) (fun _ t _ => j + 1 - (intOf t).toNat)
      case atStart => exact ⟨0, by omega, rfl, C0, O1, M1, D1, B1⟩
      case round =>
        clear C0 O1 M1 D1 B1
        obtain ⟨i, hij1, rfl, C, O, M, D, hb⟩ := hrel
        by_cases hlt2 : i < j + 1
        · have hil : i < l.length := by omega
          obtain ⟨b', off', hbo, hbS, hok, hc⟩ := RdEvs.at_ R.out hil
          injection hbo with hbo
          injection hbo with hbo1 hbo2
          subst hbo1 hbo2
          rcases hev : evAt l i with ⟨k', a', ot', ce', wt', lb'⟩
          rw [hev] at hok hc
          have e0 := (hb.cell (p := ⟨b, off + i * 6, none⟩) (hS _ hbS)).trans (hc 0 _ rfl)
          have e1 := (hb.cell (p := ⟨b, off + i * 6 + 1, none⟩) (hS _ hbS)).trans (hc 1 _ rfl); have e2 := (hb.cell (p := ⟨b, off + i * 6 + 2, none⟩) (hS _ hbS)).trans (hc 2 _ rfl); have e3 := (hb.cell (p := ⟨b, off + i * 6 + 3, none⟩) (hS _ hbS)).trans (hc 3 _ rfl); have e4 := (hb.cell (p := ⟨b, off + i * 6 + 4, none⟩) (hS _ hbS)).trans (hc 4 _ rfl); have e5 := (hb.cell (p := ⟨b, off + i * 6 + 5, none⟩) (hS _ hbS)).trans (hc 5 _ rfl)
          have HE' := Lib.hid hev
          clear hc hev hok
          have C1 := Lib.hid (C.out.below ((Below.refl _ _).alloc (Nat.le_refl _) (.cells #[.int .i64 k', .int .i64 a', .int .i64 ot', .int .i64 ce', .bool wt', .int .i64 lb'] 137)))
          have O1 := Lib.hid (O.out.keep rdU1_keeps ((Below.refl _ _).alloc (Nat.le_refl _) (.cells #[.int .i64 k', .int .i64 a', .int .i64 ot', .int .i64 ce', .bool wt', .int .i64 lb'] 137)))
          have M1 := Lib.hid (M.out.below ((Below.refl _ _).alloc (Nat.le_refl _) (.cells #[.int .i64 k', .int .i64 a', .int .i64 ot', .int .i64 ce', .bool wt', .int .i64 lb'] 137)))
          have D1 := Lib.hid (D.out.but (T := Nowhere) ((But.refl _ _).alloc (.cells #[.int .i64 k', .int .i64 a', .int .i64 ot', .int .i64 ce', .bool wt', .int .i64 lb'] 137)) (fun h => h))
          have D2 := Lib.hid (Blk.made wr [.int .i64 k', .int .i64 a', .int .i64 ot', .int .i64 ce', .bool wt', .int .i64 lb'] 137 (base := 0) (Nat.zero_le _))
          have B1 : Below w.heap.size w (wr.alloc (.cells #[.int .i64 k', .int .i64 a', .int .i64 ot', .int .i64 ce', .bool wt', .int .i64 lb'] 137)) := hb.alloc hb.size _
          obtain ⟨d', hd'⟩ : ∃ d', d' = wr.heap.size := ⟨_, rfl⟩
          have c1 := D1.out.cell 1 _ rfl
          go_wp2_with fail
          rw [← hd'] at D2 ⊢
          clear hd' C O M D hb e0 e1 e2 e3 e4 e5 hbS
          generalize wr.alloc (.cells #[.int .i64 k', .int .i64 a', .int .i64 ot', .int .i64 ce', .bool wt', .int .i64 lb'] 137) = W2 at *
          have c1' := D2.out.cell 1 _ rfl
          clear D2
          refine (scount_any a _).mono ?_
          rintro e w' ⟨rfl, rfl⟩
          by_cases hka : kn a = true
          · rw [hka]
            by_cases hka' : kn a' = true
            · by_cases hij : i = j
              · have hij' : ((i : Int) == (j : Int)) = true := by simp [hij]
                have HJ := Lib.hid hij
                clear hij
                have HI := Lib.hid (show tickL (cAt l j i) a' = cAt l j (i + 1) by
                  have := cAt_yes (l := l) (j := j) (i := i) (by omega) (by unfold isIn; rw [HE.out, HE'.out]; simp [hka, hka', HJ.out])
                  rw [HE'.out] at this
                  exact this)
                go_wp2_with (first | (go_at_call 103; refine (scount_any a' _).mono ?_; rintro e w' ⟨rfl, rfl⟩; rw [hka']) | (go_at_call 24; refine (gtick_any (cAt l j i) a' _ _ _ (Sub.refl _) C1.out.rd).mono ?_; rintro e w5 ⟨u5, rfl, hu5, hb5⟩))
                rw [HI.out] at hu5
                have C5 := Lib.hid (Ok3.fresh O1.out B1.size hb5 hu5)
                have O5 := Lib.hid (O1.out.keep rdU1_keeps hb5)
                have M5 := Lib.hid (M1.out.below hb5)
                have D5 := Lib.hid (D1.out.but (T := Nowhere) (But.of_below hb5) (fun h => h))
                have B5 := B1.trans (hb5.mono B1.size)
                clear C1 O1 M1 D1 B1 hu5 hb5 c1 c1'
                go_roundw
                case rel => exact ⟨i + 1, by omega, by go_num, C5, O5, M5, D5, B5⟩
                case measure => simp [intOf]; omega
              · have hij' : ((i : Int) == (j : Int)) = false := by simp; omega
                have HJ := Lib.hid hij
                obtain ⟨gj, hgj⟩ : ∃ gj, gs[j]? = some gj := ⟨gs[j]'(by have := HGL.out; omega), List.getElem?_eq_getElem _⟩
                have a0 := M1.out.at_ hgj
                have a1 := M1.out.at2 hgj hil
                have b0 : (0 : Int) ≤ (j : Int) := by omega
                have b1 : (j : Int) < (l.length : Int) := by omega
                have b2 : (0 : Int) ≤ (i : Int) := by omega
                have b3 : (i : Int) < (l.length : Int) := by omega
                clear hij hgj
                by_cases hh : hr l j i = true
                · rw [hh] at a1
                  have HH := Lib.hid hh
                  clear hh
                  have HI := Lib.hid (show tickL (cAt l j i) a' = cAt l j (i + 1) by
                    have := cAt_yes (l := l) (j := j) (i := i) (by omega) (by unfold isIn; rw [HE.out, HE'.out]; simp [hka, hka', HH.out])
                    rw [HE'.out] at this
                    exact this)
                  go_wp2_with (first | (go_at_call 103; refine (scount_any a' _).mono ?_; rintro e w' ⟨rfl, rfl⟩; rw [hka']) | (go_at_call 24; refine (gtick_any (cAt l j i) a' _ _ _ (Sub.refl _) C1.out.rd).mono ?_; rintro e w5 ⟨u5, rfl, hu5, hb5⟩))
                  rw [HI.out] at hu5
                  have C5 := Lib.hid (Ok3.fresh O1.out B1.size hb5 hu5)
                  have O5 := Lib.hid (O1.out.keep rdU1_keeps hb5)
                  have M5 := Lib.hid (M1.out.below hb5)
                  have D5 := Lib.hid (D1.out.but (T := Nowhere) (But.of_below hb5) (fun h => h))
                  have B5 := B1.trans (hb5.mono B1.size)
                  clear C1 O1 M1 D1 B1 hu5 hb5 c1 c1'
                  go_roundw
                  case rel => exact ⟨i + 1, by omega, by go_num, C5, O5, M5, D5, B5⟩
                  case measure => simp [intOf]; omega
                · have hh0 : hr l j i = false := by simpa using hh
                  rw [hh0] at a1
                  have HH := Lib.hid hh0
                  clear hh hh0
                  have HI := Lib.hid (show cAt l j i = cAt l j (i + 1) from cAt_no (by unfold isIn; rw [HE.out, HE'.out]; simp [hka, hka', HJ.out, HH.out]))
                  rw [HI.out] at C1
                  go_wp2_with (go_at_call 103; refine (scount_any a' _).mono ?_; rintro e w' ⟨rfl, rfl⟩; rw [hka'])
                  go_roundw
                  case rel => exact ⟨i + 1, by omega, by go_num, C1, O1, M1, D1, B1⟩
                  case measure => simp [intOf]; omega
            · have hka' : kn a' = false := by simpa using hka'
              have HI := Lib.hid (show cAt l j i = cAt l j (i + 1) from cAt_no (by unfold isIn; rw [HE.out, HE'.out]; simp [hka, hka']))
              rw [HI.out] at C1
              go_wp2_with (go_at_call 103; refine (scount_any a' _).mono ?_; rintro e w' ⟨rfl, rfl⟩; rw [hka'])
              go_roundw
              case rel => exact ⟨i + 1, by omega, by go_num, C1, O1, M1, D1, B1⟩
              case measure => simp [intOf]; omega
          · have hka : kn a = false := by simpa using hka
            rw [hka]
            have HI := Lib.hid (show cAt l j i = cAt l j (i + 1) from cAt_no (by unfold isIn; rw [HE.out, HE'.out]; simp [hka]))
            rw [HI.out] at C1
            go_wp2_with (go_at_call 103; refine (scount_any a' _).mono ?_; rintro e w' ⟨rfl, rfl⟩; rw [hka'])
            go_roundw
            case rel => exact ⟨i + 1, by omega, by go_num, C1, O1, M1, D1, B1⟩
            case measure => simp [intOf]; omega
        · have hie : i = j + 1 := by omega
          subst hie
          have HC := Lib.hid (clocksH_next l j)
          have hcl := cAt_len l j (j + 1)
          obtain ⟨T, t0, t1, t2, t3⟩ := C.out
          obtain ⟨A9, c9, rfl, _⟩ := t3.form
          have T0 := Lib.hid t0
          have T1 := Lib.hid t1
          have T2 := Lib.hid t2
          have T3 := Lib.hid t3
          have HL := Lib.hid (clocksH_len l j)
          clear t0 t1 t2 t3 C D
          go_wp2_with (at_builtin; refine wpList_append_one rfl _ _ 76 rfl i0 _ Try.underlying76 hi hz0 hz1 hz2 rfl (by decide) rdU1_keeps O.out (x := cAt l j (j + 1)) (cs := [Value.slice A9 (cAt l j (j + 1)).length c9]) (Tx := T) ⟨_, rfl, T3.out⟩ rfl rfl rfl T0.out T1.out T2.out (by simp [Value.oneCell']) (by rw [HL.out]; unfold maxLen; omega) (by rw [HL.out]; omega) hb.size ?_)
          intro v9 w9 ho9 hg9 h9
          rw [← HC.out] at ho9
          have hbut := But.of_grown hg9
          have hb9 := hb.grown hg9 hb.size (fun k hk => (O.out.lt k hk).1)
          have M9 := Lib.hid (M.out.but hbut (fun e => (NO.out _ e).1 rfl) (fun i b hi e => (NO.out _ e).2 i hi))
          have hML := M.out.out.lt
          have NO9 := Lib.hid (show ∀ k, v9.ownBlock = some k → k ≠ g ∧ ∀ i : Nat, gs[i]? ≠ some k by
            intro k hk
            rcases h9 with h9 | h9
            · rw [h9] at hk; exact NO.out k hk
            · rw [h9] at hk
              have e := Option.some.inj hk
              refine ⟨by omega, fun i hi => ?_⟩
              have := (M.out.row i k hi).1.lt
              omega)
          have O9 := Lib.hid ho9
          clear ho9 hg9 h9 hbut hML O M hb NO T0 T1 T2 T3
          go_wp2
          go_roundw
          case rel => exact ⟨j + 1, by omega, by go_num, O9, M9, NO9, hb9⟩
          case measure => simp [intOf]; omega
    · have hjn' : j = l.length := by omega
      subst hjn'
      have HR := Lib.hid (O.out.bound.toRd (bytes := 24) (S' := Plus Nowhere w.heap.size wo.heap.size) rdU1_keeps (by rw [clocksH_len]; omega) (fun b hb => .inr ⟨hb.1, hb.2⟩) (fun b h1 h2 => .inr ⟨h1, h2⟩))
      clear O M NO
      go_wp2
      go_ret
      exact ⟨_, rfl, HR.out, hb⟩
end Go.Proofs.Ytmpononkbdfkmaa
