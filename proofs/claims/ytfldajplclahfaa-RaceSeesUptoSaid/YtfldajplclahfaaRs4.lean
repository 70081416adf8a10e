/- The walk of race.Apart. -/
import Derived.Test.YtfldajplclahfaaRs3
import Derived.Test.YtfldajplclahfaaCct
import Derived.Test.YtfldajplclahfaaGSp1
namespace Go.Proofs.Ytfldajplclahfaa
open Go.RowKit
set_option linter.unusedVariables false
/-- the orders of two leaves, and the error -/
def apE (t : Tm) (i j : Int) : Int := if i < 0 ∨ j < 0 ∨ (t.count : Int) ≤ i ∨ (t.count : Int) ≤ j then 7 else if i = j ∨ befB t i j = true ∨ befB t j i = true then 1 else 0
def apL (t : Tm) (i j : Int) (a b : Int) : List Int := if apE t i j = 0 then earlyL t i.toNat j.toNat t.count ++ [a, b] ++ lateL t i.toNat j.toNat t.count else []
theorem apE_out {t : Tm} {i j : Int} (h : i < 0 ∨ j < 0 ∨ (t.count : Int) ≤ i ∨ (t.count : Int) ≤ j) : apE t i j = 7 := by unfold apE; rw [if_pos h]
theorem apE_bad {t : Tm} {i j : Int} (h : ¬ (i < 0 ∨ j < 0 ∨ (t.count : Int) ≤ i ∨ (t.count : Int) ≤ j)) (h2 : i = j ∨ befB t i j = true ∨ befB t j i = true) : apE t i j = 1 := by unfold apE; rw [if_neg h, if_pos h2]
theorem apE_ok {t : Tm} {i j : Int} (h : ¬ (i < 0 ∨ j < 0 ∨ (t.count : Int) ≤ i ∨ (t.count : Int) ≤ j)) (h2 : ¬ (i = j ∨ befB t i j = true ∨ befB t j i = true)) : apE t i j = 0 := by unfold apE; rw [if_neg h, if_neg h2]
theorem apL_bad {t : Tm} {i j : Int} (h : apE t i j ≠ 0) (a b : Int) : apL t i j a b = [] := by unfold apL; rw [if_neg h]
/-- one more is appended to a row, another row lies elsewhere -/
theorem two_rows {a b v' : Value} {n : Nat} (hd : ∀ k, a.ownBlock = some k → b.ownBlock ≠ some k) (hb : ∀ k, b.ownBlock = some k → k < n) (hn : v'.ownBlock = a.ownBlock ∨ v'.ownBlock = some (n + 1)) : ∀ k, v'.ownBlock = some k → b.ownBlock ≠ some k := fun k hk h => by
  rcases hn with e | e
  · rw [e] at hk; exact hd k hk h
  · rw [e] at hk; injection hk with hk; have := hb k h; omega
theorem OwnL.lower {α : Type} {rd : World → Blocks → α → List Value → Prop} {size : Nat} {E : TypeId} {w : World} {base base' : Nat} {S : Blocks} {l : List α} {v : Value} (h : OwnL rd size E w base S l v) (hb : base' ≤ base) : OwnL rd size E w base' S l v := by
  obtain ⟨T, css, h1, h2, h3, h4, h5, ⟨h6, h7⟩, h8⟩ := h
  refine ⟨T, css, h1, h2, h3, h4, h5, ⟨h6, ?_⟩, h8⟩
  rcases h7 with h7 | ⟨g, cap, cur, e1, hg, hr⟩
  · exact .inl h7
  · exact .inr ⟨g, cap, cur, e1, Nat.le_trans hb hg, hr⟩
theorem apart_cat (la lb : List Int) (x y : Int) (hx : inI x) (hy : inI y) (ua ub : Value) (w : World) (base : Nat) (ha : OwnI 3 w base Nowhere la ua) (hb : OwnI 3 w base Nowhere lb ub) (hla : la.length ≤ 1048576) (hlb : lb.length ≤ 1048576) (hbw : base ≤ w.heap.size) :
    Calls Try.prog 31 #[.slice (some ⟨w.heap.size + 1, 0, none⟩) 3 3] ((w.alloc (.cells #[.int .i64 x, .int .i64 y] 3)).alloc (.cells #[ua, .slice (some ⟨w.heap.size, 0, none⟩) 2 2, ub] 34)) fun e w' => ∃ v, e = .returned v ∧ OwnI 3 w' w.heap.size Nowhere (la ++ [x, y] ++ lb) v ∧ Below w.heap.size w w' := by
  have b1 : Below w.heap.size w (w.alloc (.cells #[.int .i64 x, .int .i64 y] 3)) := (Below.refl _ _).alloc (Nat.le_refl _) _
  have b2 : Below (w.alloc (.cells #[.int .i64 x, .int .i64 y] 3)).heap.size (w.alloc (.cells #[.int .i64 x, .int .i64 y] 3)) ((w.alloc (.cells #[.int .i64 x, .int .i64 y] 3)).alloc (.cells #[ua, .slice (some ⟨w.heap.size, 0, none⟩) 2 2, ub] 34)) := (Below.refl _ _).alloc (Nat.le_refl _) _
  have b3 := b1.trans (b2.mono b1.size)
  have hs1 : (w.alloc (.cells #[.int .i64 x, .int .i64 y] 3)).heap.size = w.heap.size + 1 := by simp
  have hy2 := Blk.made (w.alloc (.cells #[.int .i64 x, .int .i64 y] 3)) [ua, .slice (some ⟨w.heap.size, 0, none⟩) 2 2, ub] 34 (base := 0) (Nat.zero_le _)
  rw [hs1] at hy2
  have hp := (RowZ.ofBlk (l := [x, y]) ((Blk.made w [.int .i64 x, .int .i64 y] 3 (base := 0) (Nat.zero_le _)))).rd (c := 2) (by simp) (by simp [maxLen]) (fun z hz => by simp only [List.mem_cons, List.not_mem_nil, or_false] at hz; rcases hz with h | h <;> (rw [h]; assumption)) (by simp)
  have hp2 : RdI ((w.alloc (.cells #[.int .i64 x, .int .i64 y] 3)).alloc (.cells #[ua, .slice (some ⟨w.heap.size, 0, none⟩) 2 2, ub] 34)) (Is w.heap.size) [x, y] (.slice (some ⟨w.heap.size, 0, none⟩) 2 2) := hp.keep Flat.keeps (Sub.refl _) (same_of_below b2 (fun g hg => by have h : g = w.heap.size := hg; simp only [Upto]; omega))
  have ha2 := (ha.keep Flat.keeps b3).toRd (bytes := 8) (S' := Upto ((w.alloc (.cells #[.int .i64 x, .int .i64 y] 3)).alloc (.cells #[ua, .slice (some ⟨w.heap.size, 0, none⟩) 2 2, ub] 34)).heap.size) Flat.keeps (by omega) (Sub.nowhere _) (fun b _ h => h)
  have hb2 := (hb.keep Flat.keeps b3).toRd (bytes := 8) (S' := Upto ((w.alloc (.cells #[.int .i64 x, .int .i64 y] 3)).alloc (.cells #[ua, .slice (some ⟨w.heap.size, 0, none⟩) 2 2, ub] 34)).heap.size) Flat.keeps (by omega) (Sub.nowhere _) (fun b _ h => h)
  have hlt := hy2.lt
  have hc0 := hy2.cell 0 _ rfl
  have hc1 := hy2.cell 1 _ rfl
  have hc2 := hy2.cell 2 _ rfl
  generalize (w.alloc (.cells #[.int .i64 x, .int .i64 y] 3)).alloc (.cells #[ua, .slice (some ⟨w.heap.size, 0, none⟩) 2 2, ub] 34) = W at *
  have hp3 : RdI W (Upto W.heap.size) [x, y] (.slice (some ⟨w.heap.size, 0, none⟩) 2 2) := hp2.keep Flat.keeps (fun g hg => by have h : g = w.heap.size := hg; simp only [Upto]; omega) (Same.refl _ _)
  refine (concat3_any (fun i => match i with | 0 => la | 1 => [x, y] | _ => lb) (fun i => match i with | 0 => ua | 1 => .slice (some ⟨w.heap.size, 0, none⟩) 2 2 | _ => ub) W (Upto W.heap.size) (w.heap.size + 1) 0 3 (Sub.refl _) ?_ hlt ?_ ?_).mono ?_
  · intro i
    match i with
    | 0 => exact hla
    | 1 => simp
    | _ + 2 => exact hlb
  · intro i hi
    match i, hi with
    | 0, _ => exact hc0
    | 1, _ => exact hc1
    | 2, _ => exact hc2
  · intro i hi
    match i, hi with
    | 0, _ => exact ha2
    | 1, _ => exact hp3
    | 2, _ => exact hb2
  · rintro e w' ⟨v, rfl, ho, hb⟩
    refine ⟨v, rfl, ?_, b3.trans (hb.mono b3.size)⟩
    have h := ho.lower (base' := w.heap.size) b3.size
    simpa [catTo] using h
set_option maxHeartbeats 4000000 in
set_option maxRecDepth 100000 in
theorem apart_any (t : Tm) (i j : Int) (w : World) (S : Blocks) (V : Value) (hS : Sub S (Upto w.heap.size)) (r : RdT w S t V) (hl : t.count ≤ 1048576) (hii : inI i) (hij : inI j) :
    Calls Try.prog 14 #[V, .int .i64 i, .int .i64 j] w fun e w' => ∃ x y, e = .returned (.tuple #[x, y, .int .i64 (apE t i j)]) ∧ RdI w' (Plus Nowhere w.heap.size w'.heap.size) (apL t i j i j) x ∧ RdI w' (Plus Nowhere w.heap.size w'.heap.size) (apL t i j j i) y ∧ Below w.heap.size w w' := by
  obtain ⟨i0, hi, hz0, hz1, hz2⟩ := info_parts infoInt
  obtain ⟨k, c, wb, lb, kids, v, et, rfl, h1, h2, h3, h4⟩ := id r
  obtain ⟨A1, n1, rfl, _⟩ := h4.form
  have bel : Below w.heap.size w (w.alloc (.cells #[.int .i64 k, .int .i64 c, .bool wb, .int .i64 lb, .slice A1 kids.length n1] 26)) := (Below.refl _ _).alloc (Nat.le_refl _) _
  have BEL := Lib.hid bel
  have RA := Lib.hid (r.go bel hS)
  have HS := Lib.hid (hS.trans (Sub.upto bel.size))
  have BX := Lib.hid (Blk.made w [.int .i64 k, .int .i64 c, .bool wb, .int .i64 lb, .slice A1 kids.length n1] 26 (base := 0) (Nat.zero_le _))
  unfold tmV
  clear h4 bel r et h1 h2 h3 hS
  go_enter Try.func14, Try.ntmps14
  go_upto_region 1 with (fail)
  have hbs := BEL.out.size
  obtain ⟨X, hX⟩ : ∃ X, X = w.heap.size := ⟨_, rfl⟩
  rw [← hX] at BX ⊢
  clear hX
  generalize (w.alloc (.cells #[.int .i64 k, .int .i64 c, .bool wb, .int .i64 lb, .slice A1 kids.length n1] 26)) = W at *
  have x0 := BX.out.cell 0 _ rfl; have x1 := BX.out.cell 1 _ rfl; have x2 := BX.out.cell 2 _ rfl; have x3 := BX.out.cell 3 _ rfl; have x4 := BX.out.cell 4 _ rfl
  go_wp2_with fail
  refine (marks_any t W S _ HS.out RA.out hl).mono ?_
  rintro e w1 ⟨y, rfl, hy, hb⟩
  obtain ⟨T, hT, hy2⟩ := hy
  obtain ⟨B, capB, rfl, hlb, hbm, -⟩ := hy2.form
  rw [Tm.marks_len] at hlb ⊢
  unfold maxLen at hbm
  have B1 := Lib.hid (BEL.out.trans (hb.mono BEL.out.size))
  have HR := Lib.hid (show ∀ wx, Below w1.heap.size w1 wx → Sub S (Upto wx.heap.size) ∧ RdT wx S t (.agg #[.int .i64 k, .int .i64 c, .bool wb, .int .i64 lb, .slice A1 kids.length n1]) ∧ Blk 0 wx X [.int .i64 k, .int .i64 c, .bool wb, .int .i64 lb, .slice A1 kids.length n1] from fun wx h =>
    have h2 := hb.trans (h.mono hb.size)
    ⟨HS.out.trans (Sub.upto h2.size), RA.out.go h2 HS.out, BX.out.below h2⟩)
  clear hb hy2 hT x0 x1 x2 x3 x4 BX RA HS BEL
  obtain ⟨n, hn⟩ : ∃ n, n = t.count := ⟨_, rfl⟩
  have HN := Lib.hid hn
  have HAO := Lib.hid (fun h => apE_out (t := t) (i := i) (j := j) h)
  have HAB := Lib.hid (fun h h2 => apE_bad (t := t) (i := i) (j := j) h h2)
  have HAK := Lib.hid (fun h h2 => apE_ok (t := t) (i := i) (j := j) h h2)
  rw [← hn] at hl hlb HAO HAB HAK ⊢
  clear hn
  have HBADR := Lib.hid (show ∀ (e : Int) wx, apE t i j = e → e ≠ 0 → Below w.heap.size w wx → ∃ x y, Ending.returned (.tuple #[.slice none 0 0, .slice none 0 0, .int .i64 e]) = .returned (.tuple #[x, y, .int .i64 (apE t i j)]) ∧ RdI wx (Plus Nowhere w.heap.size wx.heap.size) (apL t i j i j) x ∧ RdI wx (Plus Nowhere w.heap.size wx.heap.size) (apL t i j j i) y ∧ Below w.heap.size w wx from fun e wx he h0 hb => by
    have h1 : apE t i j ≠ 0 := by rw [he]; exact h0
    exact ⟨_, _, by rw [he], by rw [apL_bad h1]; exact RdL.nil (by simp [maxLen]), by rw [apL_bad h1]; exact RdL.nil (by simp [maxLen]), hb⟩)
  by_cases hi0 : i < 0
  · have HE := Lib.hid (HAO.out (.inl hi0))
    go_wp2
    go_ret3
    exact HBADR.out 7 _ HE.out (by omega) B1.out
  by_cases hj0 : j < 0
  · have HE := Lib.hid (HAO.out (.inr (.inl hj0)))
    go_wp2
    go_ret3
    exact HBADR.out 7 _ HE.out (by omega) B1.out
  by_cases hin : (n : Int) ≤ i
  · have HE := Lib.hid (HAO.out (.inr (.inr (.inl hin))))
    have hin2 : i ≥ (n : Int) := hin
    go_wp2
    go_ret3
    exact HBADR.out 7 _ HE.out (by omega) B1.out
  have hin2 : ¬ i ≥ (n : Int) := hin
  by_cases hjn : (n : Int) ≤ j
  · have HE := Lib.hid (HAO.out (.inr (.inr (.inr hjn))))
    have hjn2 : j ≥ (n : Int) := hjn
    go_wp2
    go_ret3
    exact HBADR.out 7 _ HE.out (by omega) B1.out
  have hjn2 : ¬ j ≥ (n : Int) := hjn
  have HIN := Lib.hid (show ¬ (i < 0 ∨ j < 0 ∨ (n : Int) ≤ i ∨ (n : Int) ≤ j) by omega)
  obtain ⟨a, rfl⟩ : ∃ a : Nat, i = (a : Int) := ⟨i.toNat, by omega⟩
  obtain ⟨b, rfl⟩ : ∃ a : Nat, j = (a : Int) := ⟨j.toNat, by omega⟩
  have han : a < n := by omega
  have hbn : b < n := by omega
  have hR1 := HR.out w1 (Below.refl _ _)
  have x0 := hR1.2.2.cell 0 _ rfl; have x1 := hR1.2.2.cell 1 _ rfl; have x2 := hR1.2.2.cell 2 _ rfl; have x3 := hR1.2.2.cell 3 _ rfl; have x4 := hR1.2.2.cell 4 _ rfl
  clear hi0 hj0 hin hjn
  by_cases hab : a = b
  · subst hab
    have HE := Lib.hid (HAB.out HIN.out (.inl rfl))
    go_wp2
    go_ret3
    exact HBADR.out 1 _ HE.out (by omega) B1.out
  have hab2 : ((a : Int) == (b : Int)) = false := by simp; omega
  go_upto_region 4 with (fail)
  obtain ⟨bad, hbad⟩ : ∃ x, x = (befB t (a : Int) (b : Int) || befB t (b : Int) (a : Int)) := ⟨_, rfl⟩
  have HBAD := Lib.hid hbad
  clear hbad
  go_cut [47] (fun x wx => x = .bool bad ∧ Hid (Below w1.heap.size w1 wx))
  case first =>
    skip
    have CB1 := before_any t (a : Int) (b : Int) w1 S _ hR1.1 hR1.2.1 (by rw [← HN.out]; exact hl)
    cases h1 : befB t (a : Int) (b : Int) with
    | true =>
      have HBT := Lib.hid (show bad = true by rw [HBAD.out, h1]; rfl)
      rw [h1] at CB1
      clear h1
      go_wp2_with fail
      refine CB1.mono ?_
      rintro e w2 ⟨rfl, hb2⟩
      have HB2 := Lib.hid hb2
      clear hb2 CB1 x0 x1 x2 x3 x4 hR1
      go_wp2
      go_meet
      exact ⟨by rw [HBT.out], HB2⟩
    | false =>
      have HBT := Lib.hid (show bad = befB t (b : Int) (a : Int) by rw [HBAD.out, h1]; rfl)
      rw [h1] at CB1
      clear h1
      go_wp2_with fail
      refine CB1.mono ?_
      rintro e w2 ⟨rfl, hb2⟩
      have HB2 := Lib.hid hb2
      have hR2 := HR.out w2 hb2
      clear hb2 CB1 x0 x1 x2 x3 x4 hR1
      have x0 := hR2.2.2.cell 0 _ rfl; have x1 := hR2.2.2.cell 1 _ rfl; have x2 := hR2.2.2.cell 2 _ rfl; have x3 := hR2.2.2.cell 3 _ rfl; have x4 := hR2.2.2.cell 4 _ rfl
      have CB2 := before_any t (b : Int) (a : Int) w2 S _ hR2.1 hR2.2.1 (by rw [← HN.out]; exact hl)
      go_wp2_with fail
      refine CB2.mono ?_
      rintro e w3 ⟨rfl, hb3⟩
      have HB3 := Lib.hid (HB2.out.trans (hb3.mono HB2.out.size))
      clear hb3 CB2 x0 x1 x2 x3 x4 hR2
      go_wp2
      go_meet
      exact ⟨by rw [HBT.out], HB3⟩
  case rest =>
  obtain ⟨rfl, HB0⟩ := hcut
  clear x0 x1 x2 x3 x4 hR1
  have HBW := Lib.hid (B1.out.trans (HB0.out.mono B1.out.size))
  cases bad with
  | true =>
    have HE := Lib.hid (HAB.out HIN.out (.inr (by have h := HBAD.out; rw [eq_comm, Bool.or_eq_true] at h; exact h)))
    go_wp2
    go_ret3
    exact HBADR.out 1 _ HE.out (by omega) HBW.out
  | false =>
    have HE := Lib.hid (HAK.out HIN.out (fun h => by
      have hb := HBAD.out
      rcases h with h | h | h
      · omega
      · rw [h] at hb; cases hb
      · rw [h, Bool.or_true] at hb; cases hb))
    have HL := Lib.hid (show ∀ x y : Int, apL t (a : Int) (b : Int) x y = earlyL t a b n ++ [x, y] ++ lateL t a b n from fun x y => by unfold apL; rw [if_pos HE.out, Int.toNat_natCast, Int.toNat_natCast, HN.out])
    clear HBADR HAO HAB HAK
    go_wp2_with fail
    go_loopw [10, 11, 50] (fun ra rb u wr => ∃ q : Nat, q ≤ n ∧ u = .int .i64 q ∧ Hid (OwnI 3 wr w1.heap.size Nowhere (earlyL t a b q) ra) ∧ Hid (OwnI 3 wr w1.heap.size Nowhere (lateL t a b q) rb) ∧ Hid (∀ k, ra.ownBlock = some k → rb.ownBlock ≠ some k) ∧ Hid (Below w1.heap.size w1 wr)) (fun _ _ u _ => n - (intOf u).toNat)
    case atStart => exact ⟨0, Nat.zero_le _, rfl, Lib.hid (OwnL.nil _ _ _), Lib.hid (OwnL.nil _ _ _), Lib.hid (fun k h => by cases h), HB0⟩
    case round =>
      obtain ⟨q, hq, rfl, HA, HBE, HD, HB⟩ := hrel
      by_cases hlt : q < n
      · skip
        have q0 : (0 : Int) ≤ (q : Int) := by omega
        have q1 : (q : Int) < (n : Int) := by omega
        have HSE := Lib.hid (earlyL_succ t a b q)
        have HSL := Lib.hid (lateL_succ t a b q)
        by_cases hqa : q = a
        · subst hqa
          have HA2 := Lib.hid (show OwnI 3 wr w1.heap.size Nowhere (earlyL t q b (q + 1)) u10 by rw [HSE.out]; simpa using HA.out)
          have HL2 := Lib.hid (show OwnI 3 wr w1.heap.size Nowhere (lateL t q b (q + 1)) u11 by rw [HSL.out]; simpa using HBE.out)
          clear HA HBE HSE HSL
          go_wp2
          go_roundw
          case rel => exact ⟨q + 1, hlt, by go_num, HA2, HL2, HD, HB⟩
          case measure => simp [intOf]; omega
        · have hqa2 : ((q : Int) == (a : Int)) = false := by simp; omega
          by_cases hqb : q = b
          · subst hqb
            have HA2 := Lib.hid (show OwnI 3 wr w1.heap.size Nowhere (earlyL t a q (q + 1)) u10 by rw [HSE.out]; simpa using HA.out)
            have HL2 := Lib.hid (show OwnI 3 wr w1.heap.size Nowhere (lateL t a q (q + 1)) u11 by rw [HSL.out]; simpa using HBE.out)
            clear HA HBE HSE HSL
            go_wp2
            go_roundw
            case rel => exact ⟨q + 1, hlt, by go_num, HA2, HL2, HD, HB⟩
            case measure => simp [intOf]; omega
          · have hqb2 : ((q : Int) == (b : Int)) = false := by simp; omega
            rw [decide_eq_false hqa, decide_eq_false hqb] at HSE HSL
            have HEB := Lib.hid (show earlyB t a b q = (befB t (q : Int) (a : Int) || befB t (q : Int) (b : Int)) by
              unfold earlyB
              rw [befB_n (by rw [← HN.out]; exact hlt) (by rw [← HN.out]; exact han), befB_n (by rw [← HN.out]; exact hlt) (by rw [← HN.out]; exact hbn)])
            obtain ⟨eb, heb⟩ : ∃ x, x = earlyB t a b q := ⟨_, rfl⟩
            rw [← heb] at HSE HSL HEB
            clear heb hqa hqb
            have hR1 := HR.out wr HB.out
            have x0 := hR1.2.2.cell 0 _ rfl; have x1 := hR1.2.2.cell 1 _ rfl; have x2 := hR1.2.2.cell 2 _ rfl; have x3 := hR1.2.2.cell 3 _ rfl; have x4 := hR1.2.2.cell 4 _ rfl
            go_upto_region 12 with (fail)
            go_cut [66] (fun x wx => x = .bool eb ∧ Hid (Below wr.heap.size wr wx))
            case first =>
              have CB1 := before_any t (q : Int) (a : Int) wr S _ hR1.1 hR1.2.1 (by rw [← HN.out]; exact hl)
              cases h1 : befB t (q : Int) (a : Int) with
              | true =>
                have HBT := Lib.hid (show eb = true by rw [HEB.out, h1]; rfl)
                rw [h1] at CB1
                clear h1
                go_wp2_with fail
                refine CB1.mono ?_
                rintro e w2 ⟨rfl, hb2⟩
                have HB2 := Lib.hid hb2
                clear hb2 CB1 x0 x1 x2 x3 x4 hR1
                go_wp2
                go_meet
                exact ⟨by rw [HBT.out], HB2⟩
              | false =>
                have HBT := Lib.hid (show eb = befB t (q : Int) (b : Int) by rw [HEB.out, h1]; rfl)
                rw [h1] at CB1
                clear h1
                go_wp2_with fail
                refine CB1.mono ?_
                rintro e w2 ⟨rfl, hb2⟩
                have HB2 := Lib.hid hb2
                have hR2 := HR.out w2 (HB.out.trans (hb2.mono HB.out.size))
                clear hb2 CB1 x0 x1 x2 x3 x4 hR1
                have x0 := hR2.2.2.cell 0 _ rfl; have x1 := hR2.2.2.cell 1 _ rfl; have x2 := hR2.2.2.cell 2 _ rfl; have x3 := hR2.2.2.cell 3 _ rfl; have x4 := hR2.2.2.cell 4 _ rfl
                have CB2 := before_any t (q : Int) (b : Int) w2 S _ hR2.1 hR2.2.1 (by rw [← HN.out]; exact hl)
                go_wp2_with fail
                refine CB2.mono ?_
                rintro e w3 ⟨rfl, hb3⟩
                have HB3 := Lib.hid (HB2.out.trans (hb3.mono HB2.out.size))
                clear hb3 CB2 x0 x1 x2 x3 x4 hR2
                go_wp2
                go_meet
                exact ⟨by rw [HBT.out], HB3⟩
            case rest =>
              obtain ⟨rfl, HBX⟩ := hcut
              clear x0 x1 x2 x3 x4 hR1
              have HA2 := Lib.hid (HA.out.keep Flat.keeps HBX.out)
              have HL2 := Lib.hid (HBE.out.keep Flat.keeps HBX.out)
              have HB2 := Lib.hid (HB.out.trans (HBX.out.mono HB.out.size))
              have HSZ := Lib.hid HB2.out.size
              have hle := Lib.hid (earlyL_len t a b q)
              have hll := Lib.hid (lateL_len t a b q)
              clear HA HBE HB HBX
              cases eb with
              | true =>
                have HLN := Lib.hid (show lateL t a b (q + 1) = lateL t a b q by rw [HSL.out]; rfl)
                have HEN := Lib.hid (show earlyL t a b (q + 1) = earlyL t a b q ++ [(q : Int)] by rw [HSE.out]; rfl)
                go_wp2_with (at_builtin; refine wpList_append_one rfl _ _ 34 rfl i0 _ Try.underlying34 hi hz0 hz1 hz2 rfl (by decide) Flat.keeps HA2.out (x := (q : Int)) (cs := [Value.int .i64 (q : Int)]) (Tx := Nowhere) ?d0 rfl rfl rfl (Sub.nowhere _) (Sub.nowhere _) not_nowhere ?d1 ?d2 ?d3 ?d4 ?_)
                case d0 => exact ⟨rfl, by unfold inI; omega⟩
                case d1 => simp [Value.oneCell']
                case d2 => have := hle.out; unfold maxLen; omega
                case d3 => have := hle.out; omega
                try (case d4 => exact HSZ.out)
                intro v4 w4 ho4 hg4 hn4
                have HO4 := Lib.hid (show OwnI 3 w4 w1.heap.size Nowhere (earlyL t a b (q + 1)) v4 by rw [HEN.out]; exact ho4)
                have HL4 := Lib.hid (show OwnI 3 w4 w1.heap.size Nowhere (lateL t a b (q + 1)) u11 by rw [HLN.out]; exact HL2.out.but (But.of_grown hg4) (fun k hk h => HD.out k h hk))
                have HD4 := Lib.hid (two_rows HD.out (fun k h => (HL2.out.lt k h).2) hn4)
                have HB4 := Lib.hid (HB2.out.grown hg4 HSZ.out (fun g hg => (HA2.out.lt g hg).1))
                clear ho4 hg4 hn4 HA2 HL2 HB2
                go_wp2_with fail
                go_roundw
                case rel => exact ⟨q + 1, hlt, by go_num, HO4, HL4, HD4, HB4⟩
                case measure => simp [intOf]; omega
              | false =>
                have HLN := Lib.hid (show lateL t a b (q + 1) = lateL t a b q ++ [(q : Int)] by rw [HSL.out]; rfl)
                have HEN := Lib.hid (show earlyL t a b (q + 1) = earlyL t a b q by rw [HSE.out]; rfl)
                go_wp2_with (at_builtin; refine wpList_append_one rfl _ _ 34 rfl i0 _ Try.underlying34 hi hz0 hz1 hz2 rfl (by decide) Flat.keeps HL2.out (x := (q : Int)) (cs := [Value.int .i64 (q : Int)]) (Tx := Nowhere) ?d0 rfl rfl rfl (Sub.nowhere _) (Sub.nowhere _) not_nowhere ?d1 ?d2 ?d3 ?d4 ?_)
                case d0 => exact ⟨rfl, by unfold inI; omega⟩
                case d1 => simp [Value.oneCell']
                case d2 => have := hll.out; unfold maxLen; omega
                case d3 => have := hll.out; omega
                try (case d4 => exact HSZ.out)
                intro v4 w4 ho4 hg4 hn4
                have HO4 := Lib.hid (show OwnI 3 w4 w1.heap.size Nowhere (lateL t a b (q + 1)) v4 by rw [HLN.out]; exact ho4)
                have HL4 := Lib.hid (show OwnI 3 w4 w1.heap.size Nowhere (earlyL t a b (q + 1)) u10 by rw [HEN.out]; exact HA2.out.but (But.of_grown hg4) (fun k hk h => HD.out k hk h))
                have HD4 := Lib.hid (show ∀ k, u10.ownBlock = some k → v4.ownBlock ≠ some k from fun k h1 h2 => two_rows (fun k h h' => HD.out k h' h) (fun k h => (HA2.out.lt k h).2) hn4 k h2 h1)
                have HB4 := Lib.hid (HB2.out.grown hg4 HSZ.out (fun g hg => (HL2.out.lt g hg).1))
                clear ho4 hg4 hn4 HA2 HL2 HB2
                go_wp2_with fail
                go_roundw
                case rel => exact ⟨q + 1, hlt, by go_num, HL4, HO4, HD4, HB4⟩
                case measure => simp [intOf]; omega
      · have hqe : q = n := by omega
        subst hqe
        have hle := earlyL_len t a b q
        have hll := lateL_len t a b q
        have HC1 := Lib.hid (fun x y hx hy => apart_cat (earlyL t a b q) (lateL t a b q) x y hx hy u10 u11 wr w1.heap.size HA.out HBE.out (by omega) (by omega) HB.out.size)
        have HLE := Lib.hid hle
        have HLL := Lib.hid hll
        clear hle hll
        obtain ⟨Aa, ca, rfl⟩ := HA.out.form
        obtain ⟨Ab, cb, rfl⟩ := HBE.out.form
        go_wp2_with fail
        refine (HC1.out (a : Int) (b : Int) (by unfold inI; omega) (by unfold inI; omega)).mono ?_
        rintro e w3 ⟨v3, rfl, ho3, hb3⟩
        obtain ⟨l3, hl3⟩ : ∃ l, l = earlyL t a b q ++ [(a : Int), (b : Int)] ++ lateL t a b q := ⟨_, rfl⟩
        have HL30 := Lib.hid hl3
        rw [← hl3] at ho3
        clear hl3
        obtain ⟨A3, c3, rfl⟩ := ho3.form
        have HA3 := Lib.hid (HA.out.keep Flat.keeps hb3)
        have HL3 := Lib.hid (HBE.out.keep Flat.keeps hb3)
        have HO3 := Lib.hid (ho3.lower (base' := w.heap.size) (Nat.le_trans B1.out.size HB.out.size))
        have HB3 := Lib.hid (HBW.out.size)
        have HW3 := Lib.hid (show Below w.heap.size w w3 from (B1.out.trans (HB.out.mono B1.out.size)).trans (hb3.mono (Nat.le_trans B1.out.size HB.out.size)))
        have hs3 := Lib.hid (show w1.heap.size ≤ w3.heap.size from Nat.le_trans HB.out.size hb3.size)
        have HC2 := Lib.hid (fun x y hx hy => apart_cat (earlyL t a b q) (lateL t a b q) x y hx hy _ _ w3 w1.heap.size HA3.out HL3.out (by have := HLE.out; omega) (by have := HLL.out; omega) hs3.out)
        clear ho3 hb3 HA HBE HB HC1
        go_wp2_with fail
        refine (HC2.out (b : Int) (a : Int) (by unfold inI; omega) (by unfold inI; omega)).mono ?_
        rintro e w4 ⟨v4, rfl, ho4, hb4⟩
        obtain ⟨l4, hl4⟩ : ∃ l, l = earlyL t a b q ++ [(b : Int), (a : Int)] ++ lateL t a b q := ⟨_, rfl⟩
        have HL40 := Lib.hid hl4
        rw [← hl4] at ho4
        clear hl4
        obtain ⟨A4, c4, rfl⟩ := ho4.form
        have HO4 := Lib.hid (HO3.out.keep Flat.keeps hb4)
        have HO5 := Lib.hid (ho4.lower (base' := w.heap.size) HW3.out.size)
        have HW4 := Lib.hid (HW3.out.trans (hb4.mono HW3.out.size))
        clear ho4 hb4 HO3 HC2 HA3 HL3
        go_wp2
        go_ret3
        refine ⟨_, _, by rw [HE.out]; rfl, ?_, ?_, HW4.out⟩
        · rw [HL.out, ← HL30.out]
          exact HO4.out.toRd (bytes := 8) Flat.keeps (by have := HLE.out; have := HLL.out; rw [HL30.out]; simp only [List.length_append, List.length_cons, List.length_nil]; omega) (Sub.nowhere _) (fun b h1 h2 => .inr ⟨h1, h2⟩)
        · rw [HL.out, ← HL40.out]
          exact HO5.out.toRd (bytes := 8) Flat.keeps (by have := HLE.out; have := HLL.out; rw [HL40.out]; simp only [List.length_append, List.length_cons, List.length_nil]; omega) (Sub.nowhere _) (fun b h1 h2 => .inr ⟨h1, h2⟩)
end Go.Proofs.Ytfldajplclahfaa
