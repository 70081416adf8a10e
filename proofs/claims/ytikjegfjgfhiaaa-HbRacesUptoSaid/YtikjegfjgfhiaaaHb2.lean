/- The walk of hb.Clocks. -/
import Derived.Test.YtikjegfjgfhiaaaHb1
namespace Go.Proofs.Ytikjegfjgfhiaaa
open Go.RowKit
set_option linter.unusedVariables false
def gAt (l : List HEv) (q : Nat) (x : Int) : List Nat := clk l (seen l x q) q
theorem gAt_skip {l : List HEv} {q : Nat} (h : kn (evAt l q).act = false) (x : Int) : gAt l q x = gAt l (q + 1) x :=
  (seen_other (by unfold gen; rw [h]; rfl)).symm
theorem gAt_alone {l : List HEv} {q : Nat} (h : kn (evAt l q).act = true) (hs : ¬ ((evAt l q).kind = 2 ∧ kn (evAt l q).other = true)) (x : Int) (hx : kn x = true) :
    updV (gAt l q) (evAt l q).act (clk l (down l q) (q + 1)) x = gAt l (q + 1) x := by
  by_cases e : x = (evAt l q).act
  · subst e
    rw [updV_same]
    exact (seen_next h).symm
  · rw [updV_other _ _ e]
    refine (seen_other ?_).symm
    unfold gen
    rw [decide_eq_false (fun e2 => e e2.symm)]
    cases hd : (decide ((evAt l q).kind = 2) && decide ((evAt l q).other = x))
    · simp
    · exfalso
      simp only [Bool.and_eq_true, decide_eq_true_eq] at hd
      exact hs ⟨hd.1, by rw [hd.2]; exact hx⟩
theorem gAt_spawn {l : List HEv} {q : Nat} (h : kn (evAt l q).act = true) (hs : (evAt l q).kind = 2) (ho : kn (evAt l q).other = true) (x : Int) (hx : kn x = true) :
    updV (updV (gAt l q) (evAt l q).act (clk l (down l q) (q + 1))) (evAt l q).other (joinL (updV (gAt l q) (evAt l q).act (clk l (down l q) (q + 1)) (evAt l q).other) (clk l (down l q) (q + 1))) x = gAt l (q + 1) x := by
  by_cases e : x = (evAt l q).other
  · subst e
    rw [updV_same]
    by_cases e2 : (evAt l q).other = (evAt l q).act
    · rw [e2, updV_same, seen_self h]
      exact (seen_next h).symm
    · rw [updV_other _ _ e2]
      exact seen_spawn h hs ho e2
  · rw [updV_other _ _ e]
    by_cases e2 : x = (evAt l q).act
    · subst e2
      rw [updV_same]
      exact (seen_next h).symm
    · rw [updV_other _ _ e2]
      refine (seen_other ?_).symm
      unfold gen
      rw [decide_eq_false (fun e3 => e2 e3.symm), decide_eq_false (p := (evAt l q).other = x) (fun e3 => e e3.symm)]
      simp
theorem clk_len (l : List HEv) (A : Nat → Bool) (n : Nat) : (clk l A n).length ≤ 200 := by
  have := trimL_length ((List.range 200).map fun p => cntA l A n p)
  unfold clk
  simpa using this
theorem clocksH_succ (l : List HEv) (q : Nat) : clocksH l (q + 1) = clocksH l q ++ [if kn (evAt l q).act then clk l (down l q) (q + 1) else []] := by
  unfold clocksH
  rw [List.range_succ, List.map_append]; rfl
theorem clocksH_len (l : List HEv) (q : Nat) : (clocksH l q).length = q := by simp [clocksH]
theorem clocksH_t {l : List HEv} {q : Nat} (h : kn (evAt l q).act = true) : clocksH l (q + 1) = clocksH l q ++ [clk l (down l q) (q + 1)] := by
  rw [clocksH_succ, if_pos h]
theorem clocksH_f {l : List HEv} {q : Nat} (h : kn (evAt l q).act = false) : clocksH l (q + 1) = clocksH l q ++ [[]] := by
  rw [clocksH_succ, if_neg (by rw [h]; simp)]

set_option maxHeartbeats 1600000 in
set_option maxRecDepth 100000 in
theorem clocks_any (l : List HEv) (w : World) (S : Blocks) (v : Value) (hS : Sub S (Upto w.heap.size)) (r : RdEvs w S l v) :
    Calls Try.prog 25 #[v] w fun e w' => ∃ x, e = .returned x ∧ RdUs w' (Plus Nowhere w.heap.size w'.heap.size) (clocksH l l.length) x ∧ Below w.heap.size w w' := by
  obtain ⟨A, cap, rfl, hl, hcm, hby⟩ := r.form
  unfold maxLen at hcm
  obtain ⟨i0, hi, hz0, hz1, hz2⟩ := info_parts infoUs
  have hmm := @run_makeMap Try.prog
  have R := Lib.hid r
  clear r
  go_enter Try.func25, Try.ntmps25
  go_wp2
  clear hmm
  have M0 := Lib.hid (show HbM w.heap.size w.heap.size 0 (gAt l 0) (fun _ => .slice none 0 0) (.slice none 0 0) [] (w.alloc (.map #[] 0)) from
    ⟨OwnM.made w, Nat.le_refl _, by simp, OwnL.nil _ _ _, fun k hk => (by cases hk), fun a _ => ⟨Nowhere, Sub.nowhere _, fun h => h, fun _ _ h => h, (by
      have : gAt l 0 a = [] := by unfold gAt clk cntA cntB; decide
      rw [this]; exact RdL.nil (by unfold maxLen; omega))⟩⟩)
  have B0 : Below w.heap.size w (w.alloc (.map #[] 0)) := (Below.refl _ _).alloc (Nat.le_refl _) _
  go_loopw [4, 11] (fun o t wr => ∃ (q n : Nat) (f : Int → Value), q ≤ l.length ∧ t = .int .i64 q ∧ n ≤ 2 * q ∧ Hid (HbM w.heap.size w.heap.size n (gAt l q) f o (clocksH l q) wr) ∧ Below w.heap.size w wr) (fun _ t _ => l.length - (intOf t).toNat)
  case atStart => exact ⟨0, 0, _, by omega, rfl, by omega, M0, B0⟩
  case round =>
    clear M0 B0
    obtain ⟨q, n, f, hq, rfl, hn, M, hb⟩ := hrel
    by_cases hlt : q < l.length
    · obtain ⟨b, off, rfl, hbS, hok, hc⟩ := RdEvs.at_ R.out hlt
      rcases hev : evAt l q with ⟨k, a, ot, ce, wt, lb⟩
      rw [hev] at hok hc
      have e0 := (hb.cell (p := ⟨b, off + q * 6, none⟩) (hS _ hbS)).trans (hc 0 _ rfl)
      have e1 := (hb.cell (p := ⟨b, off + q * 6 + 1, none⟩) (hS _ hbS)).trans (hc 1 _ rfl); have e2 := (hb.cell (p := ⟨b, off + q * 6 + 2, none⟩) (hS _ hbS)).trans (hc 2 _ rfl); have e3 := (hb.cell (p := ⟨b, off + q * 6 + 3, none⟩) (hS _ hbS)).trans (hc 3 _ rfl); have e4 := (hb.cell (p := ⟨b, off + q * 6 + 4, none⟩) (hS _ hbS)).trans (hc 4 _ rfl); have e5 := (hb.cell (p := ⟨b, off + q * 6 + 5, none⟩) (hS _ hbS)).trans (hc 5 _ rfl)
      have HE := Lib.hid hev
      obtain ⟨-, hia, hio, -, -⟩ := hok
      clear hc hev
      go_wp2_with fail
      obtain ⟨d, hd⟩ : ∃ d, d = wr.heap.size := ⟨_, rfl⟩
      have hdB : d ≠ w.heap.size := by have := M.out.own.lt; omega
      have M1 := Lib.hid (M.out.below ((Below.refl _ _).alloc (Nat.le_refl _) (.cells #[.int .i64 k, .int .i64 a, .int .i64 ot, .int .i64 ce, .bool wt, .int .i64 lb] 61)))
      have D1 := Lib.hid (Blk.made wr [.int .i64 k, .int .i64 a, .int .i64 ot, .int .i64 ce, .bool wt, .int .i64 lb] 61 (base := 0) (Nat.zero_le _))
      have B1 : Below w.heap.size w (wr.alloc (.cells #[.int .i64 k, .int .i64 a, .int .i64 ot, .int .i64 ce, .bool wt, .int .i64 lb] 61)) := hb.alloc hb.size _
      rw [← hd] at D1 ⊢
      have hlen := clocksH_len l q
      have hln1 : (clocksH l q).length + 1 ≤ maxLen := by unfold maxLen; omega
      have hln2 : ((clocksH l q).length + 1) * 24 ≤ 140737488355328 := by omega
      have HL1 := Lib.hid hln1
      have HL2 := Lib.hid hln2
      have hcl := clk_len l (down l q) (q + 1)
      clear hd M hb e0 e1 e2 e3 e4 e5 hbS hlen hln1 hln2
      generalize wr.alloc (.cells #[.int .i64 k, .int .i64 a, .int .i64 ot, .int .i64 ce, .bool wt, .int .i64 lb] 61) = w1 at *
      have c0 := D1.out.cell 0 _ rfl
      have c1 := D1.out.cell 1 _ rfl
      have c2 := D1.out.cell 2 _ rfl
      refine (known_any a _).mono ?_
      rintro e w' ⟨rfl, rfl⟩
      by_cases hka : kn a = true
      · have HC := Lib.hid (show clocksH l (q + 1) = clocksH l q ++ [clk l (down l q) (q + 1)] from clocksH_t (by rw [HE.out]; exact hka))
        rw [hka]
        go_wp2_with (at_lookup; refine wpList_look rfl _ _ 82 rfl 65 a Try.underlying3 Try.underlying82 (zeroUs _) rfl M1.out.own rfl hia ?_)
        refine (tick_any (gAt l q a) a _ _ _ (Sub.refl _) (M1.out.fam a hka).rd).mono ?_
        rintro e w2 ⟨u, rfl, hu, hb2⟩
        have C2 := Lib.hid (M1.out.fresh hb2 hu)
        have M2 := Lib.hid (M1.out.below hb2)
        have D2 := Lib.hid (D1.out.but (T := Nowhere) (But.of_below (hb2.mono (Nat.le_refl _))) (fun h => h))
        have B2 := B1.trans (hb2.mono B1.size)
        clear M1 D1 B1 hb2 hu c0 c1 c2
        have c0 := D2.out.cell 0 _ rfl
        have c1 := D2.out.cell 1 _ rfl
        have c2 := D2.out.cell 2 _ rfl
        go_wp2_with fail
        refine (known_any ot _).mono ?_
        rintro e w' ⟨rfl, rfl⟩
        have HN := Lib.hid (show n < maxLen by unfold maxLen; omega)
        by_cases hko : kn ot = true
        · rw [hko]
          by_cases h4 : k = 4
          · -- it has waited for the other one
            subst h4
            have HJ := Lib.hid (show joinL (tickL (gAt l q a) a) (gAt l q ot) = clk l (down l q) (q + 1) by
              have := clk_join (l := l) (j := q) (by omega) (by rw [HE.out]; exact hka) (by rw [HE.out]) (by rw [HE.out]; exact hko)
              rw [HE.out] at this
              exact this)
            have HG := Lib.hid (show ∀ x, kn x = true → updV (gAt l q) a (clk l (down l q) (q + 1)) x = gAt l (q + 1) x by
              have := gAt_alone (l := l) (q := q) (by rw [HE.out]; exact hka) (by rw [HE.out]; rintro ⟨h, _⟩; simp at h)
              rw [HE.out] at this
              exact this)
            go_wp2_with (at_lookup; refine wpList_look rfl _ _ 82 rfl 65 ot Try.underlying3 Try.underlying82 (zeroUs _) rfl M2.out.own rfl hio ?_)
            refine (join_any (tickL (gAt l q a) a) (gAt l q ot) _ _ _ _ _ (Sub.refl _) (Sub.refl _) C2.out.rd (M2.out.fam ot hko).rd).mono ?_
            rintro e w3 ⟨u3, rfl, hu3, hb3⟩
            rw [HJ.out] at hu3
            have C3 := Lib.hid (M2.out.fresh hb3 hu3)
            have M3 := Lib.hid (M2.out.below hb3)
            have D3 := Lib.hid (D2.out.but (T := Nowhere) (But.of_below (hb3.mono (Nat.le_refl _))) (fun h => h))
            have B3 := B2.trans (hb3.mono B2.size)
            clear M2 D2 B2 C2 hb3 hu3 c0 c1 c2
            have c0 := D3.out.cell 0 _ rfl
            have c1 := D3.out.cell 1 _ rfl
            have c2 := D3.out.cell 2 _ rfl
            go_wp2_with (at_mapUpdate; refine wpList_put rfl _ _ _ 82 rfl 65 a u3 Try.underlying3 Try.underlying82 rfl M3.out.own rfl rfl hia HN.out ?_)
            intro w7 hm4 hg4
            obtain ⟨hm4, hbt4⟩ := M3.out.put C3.out a hm4 hg4
            have M7 := Lib.hid (hm4.congr HG.out)
            have C7 := Lib.hid (C3.out.but hbt4)
            have D7 := Lib.hid (D3.out.but hbt4 hdB)
            have B7 : Below w.heap.size w w7 := B3.trans (hbt4.below B3.size (fun k hk => by cases hk; exact Nat.le_refl _))
            obtain ⟨n7, hn7⟩ : ∃ n7, n7 = n + 1 := ⟨_, rfl⟩
            rw [← hn7] at M7
            have hn7' : n7 ≤ 2 * (q + 1) := by omega
            obtain ⟨f7, hf7⟩ : ∃ f7, f7 = updV f a u3 := ⟨_, rfl⟩
            rw [← hf7] at M7
            clear hn7 hf7 M3 C3 D3 B3 hm4 hg4 hbt4 HG HJ c0 c1 c2
            have c0 := D7.out.cell 0 _ rfl
            have c1 := D7.out.cell 1 _ rfl
            have c2 := D7.out.cell 2 _ rfl
            go_wp2_with fail
            refine (known_any ot _).mono ?_
            rintro e w' ⟨rfl, rfl⟩
            rw [hko]
            clear hko
            go_wp2_with fail
            refine (cloneU (clk l (down l q) (q + 1)) _ _ _ (Sub.refl _) C7.out.rd).mono ?_
            rintro e w8 ⟨x, rfl, hx, hb8⟩
            have M8 := Lib.hid (M7.out.below hb8)
            have B8 := B7.trans (hb8.mono B7.size)
            have RX := Lib.hid (hx.toRd (bytes := 8) (S' := Plus Nowhere w7.heap.size w8.heap.size) Flat.keeps (by omega) (Sub.nowhere _) (fun b h1 h2 => .inr ⟨h1, h2⟩))
            have NT := Lib.hid (M7.out.newT hb8)
            obtain ⟨A9, c9, rfl⟩ := hx.form
            have h1c : ∀ u ∈ [Value.slice A9 (clk l (down l q) (q + 1)).length c9], u.oneCell' = true := by simp [Value.oneCell']
            have H1C := Lib.hid h1c
            clear M7 C7 B7 hx hb8 h1c
            go_wp2_with (at_builtin; refine wpList_append_one rfl _ _ 56 rfl i0 _ Try.underlying56 hi hz0 hz1 hz2 rfl (by decide) rdU1_keeps M8.out.row (x := clk l (down l q) (q + 1)) (cs := [Value.slice A9 (clk l (down l q) (q + 1)).length c9]) (Tx := Plus Nowhere w7.heap.size w8.heap.size) ⟨_, rfl, RX.out⟩ rfl rfl rfl NT.out.1 NT.out.2.1 NT.out.2.2 H1C.out HL1.out HL2.out B8.size ?_)
            intro v9 w9 ho9 hg9 h9
            rw [← HC.out] at ho9
            obtain ⟨hm9, hb9⟩ := M8.out.push (by rw [← HC.out]; exact ho9) hg9 h9
            rw [← HC.out] at hm9
            have M9 := Lib.hid hm9
            have B9 := B8.trans hb9
            clear hm9 ho9 hg9 h9 M8 B8 NT RX
            go_wp2
            go_roundw
            case rel => exact ⟨q + 1, n7, f7, by omega, by go_num, by omega, M9, B9⟩
            case measure => simp [intOf]; omega
          · by_cases h2 : k = 2
            · -- the other one begins
              subst h2
              have HJ := Lib.hid (show tickL (gAt l q a) a = clk l (down l q) (q + 1) by
                have := clk_alone (l := l) (j := q) (by omega) (by rw [HE.out]; exact hka) (by rw [HE.out]; rintro ⟨h, _⟩; simp at h)
                rw [HE.out] at this
                exact this)
              have HG := Lib.hid (show ∀ x, kn x = true → updV (updV (gAt l q) a (clk l (down l q) (q + 1))) ot (joinL (updV (gAt l q) a (clk l (down l q) (q + 1)) ot) (clk l (down l q) (q + 1))) x = gAt l (q + 1) x by
                have := gAt_spawn (l := l) (q := q) (by rw [HE.out]; exact hka) (by rw [HE.out]) (by rw [HE.out]; exact hko)
                rw [HE.out] at this
                exact this)
              have C3 := C2
              rw [HJ.out] at C3
              clear C2
              go_wp2_with (at_mapUpdate; refine wpList_put rfl _ _ _ 82 rfl 65 a u Try.underlying3 Try.underlying82 rfl M2.out.own rfl rfl hia HN.out ?_)
              intro w4 hm4 hg4
              obtain ⟨hm4, hbt4⟩ := M2.out.put C3.out a hm4 hg4
              have C4 := Lib.hid (C3.out.but hbt4)
              have D4 := Lib.hid (D2.out.but hbt4 hdB)
              have B4 : Below w.heap.size w w4 := B2.trans (hbt4.below B2.size (fun k hk => by cases hk; exact Nat.le_refl _))
              have M4 := Lib.hid hm4
              have HN1 := Lib.hid (show n + 1 < maxLen by unfold maxLen; omega)
              have hw4 := B4.size
              clear M2 C3 D2 B2 hm4 hg4 hbt4 HJ c0 c1 c2
              have c0 := D4.out.cell 0 _ rfl
              have c1 := D4.out.cell 1 _ rfl
              have c2 := D4.out.cell 2 _ rfl
              go_wp2_with fail
              refine (known_any ot _).mono ?_
              rintro e w' ⟨rfl, rfl⟩
              rw [hko]
              go_upto_region 13 with (fail)
              go_cut [] (fun wx => ∃ n7 f7, n7 ≤ 2 * (q + 1) ∧ Hid (HbM w.heap.size w.heap.size n7 (gAt l (q + 1)) f7 u4 (clocksH l q) wx) ∧ Hid (Ok2 w.heap.size u4 wx (clk l (down l q) (q + 1)) u) ∧ Below w.heap.size w wx)
              case first =>
                have hlk := (M4.out.own.drew).look Try.underlying3 Try.underlying82 (zeroUs _) hio
                go_region_with (go_at_call 41; refine (join_any (updV (gAt l q) a (clk l (down l q) (q + 1)) ot) (clk l (down l q) (q + 1)) _ _ _ _ _ (Sub.refl _) (Sub.refl _) ((M4.out.below (Below.refl _ _).drew).fam ot hko).rd (C4.out.below (Below.refl _ _).drew).rd).mono ?_; rintro e w5 ⟨u5, rfl, hu5, hb5⟩; have M5 := Lib.hid ((M4.out.below (Below.refl _ _).drew).below hb5); obtain ⟨w6, hrun, hm6, hg6⟩ := M5.out.own.put Try.underlying3 Try.underlying82 hio HN1.out u5; have k2 := ((D4.out.below (Below.refl _ _).drew).below hb5).cell 2 _ rfl; clear hlk)
                all_goals
                  obtain ⟨hm7, hbt7⟩ := M5.out.put ((M4.out.below (Below.refl _ _).drew).fresh hb5 hu5) ot hm6 hg6
                  have hb7 : Below w.heap.size w w6 := (B4.drew.trans (hb5.mono hw4)).trans (hbt7.below (Nat.le_trans hw4 hb5.size) (fun k hk => by cases hk; exact Nat.le_refl _))
                  have C7 := Lib.hid (((C4.out.below (Below.refl _ _).drew).below hb5).but hbt7)
                  have M7 := Lib.hid (hm7.congr HG.out)
                  clear M5 hm7 hbt7 hm6 hg6 hrun hu5 hb5 k2 c0 c1 c2 M4 C4 D4 B4 HG hw4
                  go_wp2
                  go_meet
                  go_light
                  exact ⟨n + 1 + 1, _, by omega, M7, C7, hb7⟩
              case rest =>
                obtain ⟨n7, f7, hn7', M7, C7, B7⟩ := hcut
                obtain ⟨w7, hw7⟩ : ∃ x, x = wc := ⟨wc, rfl⟩
                subst hw7
                clear M4 C4 D4 B4 HG hw4 c0 c1 c2 hko
                go_wp2_with fail
                refine (cloneU (clk l (down l q) (q + 1)) _ _ _ (Sub.refl _) C7.out.rd).mono ?_
                rintro e w8 ⟨x, rfl, hx, hb8⟩
                have M8 := Lib.hid (M7.out.below hb8)
                have B8 := B7.trans (hb8.mono B7.size)
                have RX := Lib.hid (hx.toRd (bytes := 8) (S' := Plus Nowhere w7.heap.size w8.heap.size) Flat.keeps (by omega) (Sub.nowhere _) (fun b h1 h2 => .inr ⟨h1, h2⟩))
                have NT := Lib.hid (M7.out.newT hb8)
                obtain ⟨A9, c9, rfl⟩ := hx.form
                have h1c : ∀ u ∈ [Value.slice A9 (clk l (down l q) (q + 1)).length c9], u.oneCell' = true := by simp [Value.oneCell']
                have H1C := Lib.hid h1c
                clear M7 C7 B7 hx hb8 h1c
                go_wp2_with (at_builtin; refine wpList_append_one rfl _ _ 56 rfl i0 _ Try.underlying56 hi hz0 hz1 hz2 rfl (by decide) rdU1_keeps M8.out.row (x := clk l (down l q) (q + 1)) (cs := [Value.slice A9 (clk l (down l q) (q + 1)).length c9]) (Tx := Plus Nowhere w7.heap.size w8.heap.size) ⟨_, rfl, RX.out⟩ rfl rfl rfl NT.out.1 NT.out.2.1 NT.out.2.2 H1C.out HL1.out HL2.out B8.size ?_)
                intro v9 w9 ho9 hg9 h9
                rw [← HC.out] at ho9
                obtain ⟨hm9, hb9⟩ := M8.out.push (by rw [← HC.out]; exact ho9) hg9 h9
                rw [← HC.out] at hm9
                have M9 := Lib.hid hm9
                have B9 := B8.trans hb9
                clear hm9 ho9 hg9 h9 M8 B8 NT RX
                go_wp2
                go_roundw
                case rel => exact ⟨q + 1, n7, f7, by omega, by go_num, by omega, M9, B9⟩
                case measure => simp [intOf]; omega
            · -- nothing of the kind
              have h4' : (k == 4) = false := by simpa using h4
              have h2' : (k == 2) = false := by simpa using h2
              have HJ := Lib.hid (show tickL (gAt l q a) a = clk l (down l q) (q + 1) by
                have := clk_alone (l := l) (j := q) (by omega) (by rw [HE.out]; exact hka) (by rw [HE.out]; rintro ⟨h, _⟩; exact h4 h)
                rw [HE.out] at this
                exact this)
              have HG := Lib.hid (show ∀ x, kn x = true → updV (gAt l q) a (clk l (down l q) (q + 1)) x = gAt l (q + 1) x by
                have := gAt_alone (l := l) (q := q) (by rw [HE.out]; exact hka) (by rw [HE.out]; rintro ⟨h, _⟩; exact h2 h)
                rw [HE.out] at this
                exact this)
              have C3 := C2
              rw [HJ.out] at C3
              clear C2
              go_wp2_with (at_mapUpdate; refine wpList_put rfl _ _ _ 82 rfl 65 a u Try.underlying3 Try.underlying82 rfl M2.out.own rfl rfl hia HN.out ?_)
              intro w7 hm4 hg4
              obtain ⟨hm4, hbt4⟩ := M2.out.put C3.out a hm4 hg4
              have C7 := Lib.hid (C3.out.but hbt4)
              have D7 := Lib.hid (D2.out.but hbt4 hdB)
              have B7 : Below w.heap.size w w7 := B2.trans (hbt4.below B2.size (fun k hk => by cases hk; exact Nat.le_refl _))
              have M7 := Lib.hid (hm4.congr HG.out)
              obtain ⟨n7, hn7⟩ : ∃ n7, n7 = n + 1 := ⟨_, rfl⟩
              rw [← hn7] at M7
              have hn7' : n7 ≤ 2 * (q + 1) := by omega
              obtain ⟨f7, hf7⟩ : ∃ f7, f7 = updV f a u := ⟨_, rfl⟩
              rw [← hf7] at M7
              clear c0 c1 c2 hn7 hf7 M2 C3 D2 B2 hm4 hg4 hbt4 HG HJ
              have c0 := D7.out.cell 0 _ rfl
              have c1 := D7.out.cell 1 _ rfl
              have c2 := D7.out.cell 2 _ rfl
              go_wp2_with fail
              refine (known_any ot _).mono ?_
              rintro e w' ⟨rfl, rfl⟩
              rw [hko]
              clear hko
              go_wp2_with fail
              refine (cloneU (clk l (down l q) (q + 1)) _ _ _ (Sub.refl _) C7.out.rd).mono ?_
              rintro e w8 ⟨x, rfl, hx, hb8⟩
              have M8 := Lib.hid (M7.out.below hb8)
              have B8 := B7.trans (hb8.mono B7.size)
              have RX := Lib.hid (hx.toRd (bytes := 8) (S' := Plus Nowhere w7.heap.size w8.heap.size) Flat.keeps (by omega) (Sub.nowhere _) (fun b h1 h2 => .inr ⟨h1, h2⟩))
              have NT := Lib.hid (M7.out.newT hb8)
              obtain ⟨A9, c9, rfl⟩ := hx.form
              have h1c : ∀ u ∈ [Value.slice A9 (clk l (down l q) (q + 1)).length c9], u.oneCell' = true := by simp [Value.oneCell']
              have H1C := Lib.hid h1c
              clear M7 C7 B7 hx hb8 h1c
              go_wp2_with (at_builtin; refine wpList_append_one rfl _ _ 56 rfl i0 _ Try.underlying56 hi hz0 hz1 hz2 rfl (by decide) rdU1_keeps M8.out.row (x := clk l (down l q) (q + 1)) (cs := [Value.slice A9 (clk l (down l q) (q + 1)).length c9]) (Tx := Plus Nowhere w7.heap.size w8.heap.size) ⟨_, rfl, RX.out⟩ rfl rfl rfl NT.out.1 NT.out.2.1 NT.out.2.2 H1C.out HL1.out HL2.out B8.size ?_)
              intro v9 w9 ho9 hg9 h9
              rw [← HC.out] at ho9
              obtain ⟨hm9, hb9⟩ := M8.out.push (by rw [← HC.out]; exact ho9) hg9 h9
              rw [← HC.out] at hm9
              have M9 := Lib.hid hm9
              have B9 := B8.trans hb9
              clear hm9 ho9 hg9 h9 M8 B8 NT RX
              go_wp2
              go_roundw
              case rel => exact ⟨q + 1, n7, f7, by omega, by go_num, by omega, M9, B9⟩
              case measure => simp [intOf]; omega
        · -- there is no other one
          have hko' : kn ot = false := by simpa using hko
          rw [hko']
          have HJ := Lib.hid (show tickL (gAt l q a) a = clk l (down l q) (q + 1) by
            have := clk_alone (l := l) (j := q) (by omega) (by rw [HE.out]; exact hka) (by rw [HE.out]; rintro ⟨_, h⟩; exact hko h)
            rw [HE.out] at this
            exact this)
          have HG := Lib.hid (show ∀ x, kn x = true → updV (gAt l q) a (clk l (down l q) (q + 1)) x = gAt l (q + 1) x by
            have := gAt_alone (l := l) (q := q) (by rw [HE.out]; exact hka) (by rw [HE.out]; rintro ⟨_, h⟩; exact hko h)
            rw [HE.out] at this
            exact this)
          have C3 := C2
          rw [HJ.out] at C3
          clear C2
          go_wp2_with (at_mapUpdate; refine wpList_put rfl _ _ _ 82 rfl 65 a u Try.underlying3 Try.underlying82 rfl M2.out.own rfl rfl hia HN.out ?_)
          intro w7 hm4 hg4
          obtain ⟨hm4, hbt4⟩ := M2.out.put C3.out a hm4 hg4
          have C7 := Lib.hid (C3.out.but hbt4)
          have D7 := Lib.hid (D2.out.but hbt4 hdB)
          have B7 : Below w.heap.size w w7 := B2.trans (hbt4.below B2.size (fun k hk => by cases hk; exact Nat.le_refl _))
          have M7 := Lib.hid (hm4.congr HG.out)
          obtain ⟨n7, hn7⟩ : ∃ n7, n7 = n + 1 := ⟨_, rfl⟩
          rw [← hn7] at M7
          have hn7' : n7 ≤ 2 * (q + 1) := by omega
          obtain ⟨f7, hf7⟩ : ∃ f7, f7 = updV f a u := ⟨_, rfl⟩
          rw [← hf7] at M7
          clear c0 c1 c2 hn7 hf7 M2 C3 D2 B2 hm4 hg4 hbt4 HG HJ
          have c0 := D7.out.cell 0 _ rfl
          have c1 := D7.out.cell 1 _ rfl
          have c2 := D7.out.cell 2 _ rfl
          go_wp2_with fail
          refine (known_any ot _).mono ?_
          rintro e w' ⟨rfl, rfl⟩
          rw [hko']
          clear hko hko'
          go_wp2_with fail
          refine (cloneU (clk l (down l q) (q + 1)) _ _ _ (Sub.refl _) C7.out.rd).mono ?_
          rintro e w8 ⟨x, rfl, hx, hb8⟩
          have M8 := Lib.hid (M7.out.below hb8)
          have B8 := B7.trans (hb8.mono B7.size)
          have RX := Lib.hid (hx.toRd (bytes := 8) (S' := Plus Nowhere w7.heap.size w8.heap.size) Flat.keeps (by omega) (Sub.nowhere _) (fun b h1 h2 => .inr ⟨h1, h2⟩))
          have NT := Lib.hid (M7.out.newT hb8)
          obtain ⟨A9, c9, rfl⟩ := hx.form
          have h1c : ∀ u ∈ [Value.slice A9 (clk l (down l q) (q + 1)).length c9], u.oneCell' = true := by simp [Value.oneCell']
          have H1C := Lib.hid h1c
          clear M7 C7 B7 hx hb8 h1c
          go_wp2_with (at_builtin; refine wpList_append_one rfl _ _ 56 rfl i0 _ Try.underlying56 hi hz0 hz1 hz2 rfl (by decide) rdU1_keeps M8.out.row (x := clk l (down l q) (q + 1)) (cs := [Value.slice A9 (clk l (down l q) (q + 1)).length c9]) (Tx := Plus Nowhere w7.heap.size w8.heap.size) ⟨_, rfl, RX.out⟩ rfl rfl rfl NT.out.1 NT.out.2.1 NT.out.2.2 H1C.out HL1.out HL2.out B8.size ?_)
          intro v9 w9 ho9 hg9 h9
          rw [← HC.out] at ho9
          obtain ⟨hm9, hb9⟩ := M8.out.push (by rw [← HC.out]; exact ho9) hg9 h9
          rw [← HC.out] at hm9
          have M9 := Lib.hid hm9
          have B9 := B8.trans hb9
          clear hm9 ho9 hg9 h9 M8 B8 NT RX
          go_wp2
          go_roundw
          case rel => exact ⟨q + 1, n7, f7, by omega, by go_num, by omega, M9, B9⟩
          case measure => simp [intOf]; omega
      · -- nobody that is known
        have hka' : kn a = false := by simpa using hka
        have HC := Lib.hid (show clocksH l (q + 1) = clocksH l q ++ [[]] from clocksH_f (by rw [HE.out]; exact hka'))
        have HG := Lib.hid (show ∀ x, kn x = true → gAt l q x = gAt l (q + 1) x from fun x _ => gAt_skip (by rw [HE.out]; exact hka') x)
        rw [hka']
        clear hka hka'
        go_wp2_with (at_builtin; refine wpList_append_one rfl _ _ 56 rfl i0 _ Try.underlying56 hi hz0 hz1 hz2 rfl (by decide) rdU1_keeps M1.out.row (x := ([] : List Nat)) (cs := [Value.slice none 0 0]) (Tx := Nowhere) ⟨_, rfl, RdL.nil (by unfold maxLen; omega)⟩ rfl rfl rfl (Sub.nowhere _) (Sub.nowhere _) not_nowhere (by simp [Value.oneCell']) HL1.out HL2.out B1.size ?_)
        intro v9 w9 ho9 hg9 h9
        obtain ⟨hm9, hb9⟩ := M1.out.push ho9 hg9 h9
        rw [← HC.out] at hm9
        have M9 := Lib.hid (hm9.congr HG.out)
        have B9 := B1.trans hb9
        clear hm9 ho9 hg9 h9 M1 B1
        go_wp2
        go_roundw
        case rel => exact ⟨q + 1, n, f, by omega, by go_num, by omega, M9, B9⟩
        case measure => simp [intOf]; omega
    · have hqn : q = l.length := by omega
      subst hqn
      have HR := Lib.hid (M.out.row.bound.toRd (bytes := 24) (S' := Plus Nowhere w.heap.size wr.heap.size) rdU1_keeps (by rw [clocksH_len]; omega) (fun b hb => .inr ⟨hb.1.1, hb.2⟩) (fun b h1 h2 => .inr ⟨h1, h2⟩))
      clear M
      go_wp2
      go_ret
      exact ⟨_, rfl, HR.out, hb⟩
theorem RdUs.at_ {w : World} {S : Blocks} {l : List (List Nat)} {A : Option Addr} {n cap : Nat} (h : RdUs w S l (.slice A n cap)) {q : Nat} (hq : q < l.length) :
    ∃ b off v, A = some ⟨b, off, none⟩ ∧ S b ∧ w.cell? ⟨b, off + q, none⟩ = some v ∧ RdU w S l[q] v := by
  obtain ⟨b, off, cs, h1, h2, h3, h4, v, rfl, h5⟩ := RdL.at_ h hq
  exact ⟨b, off, v, h1, h2, by simpa using h4 0 v rfl, h5⟩
theorem clocksH_get (l : List HEv) {n q : Nat} (h : q < (clocksH l n).length) (hk : kn (evAt l q).act = true) : (clocksH l n)[q] = clk l (down l q) (q + 1) := by
  have hq : q < n := by rw [clocksH_len] at h; exact h
  have e : (clocksH l n)[q]? = some (if kn (evAt l q).act then clk l (down l q) (q + 1) else []) := by
    unfold clocksH
    rw [List.getElem?_map, List.getElem?_range hq]; rfl
  rw [List.getElem?_eq_getElem h] at e
  exact (Option.some.inj e).trans (if_pos hk)
end Go.Proofs.Ytikjegfjgfhiaaa
