/- The walk of the reference's HPlay. -/
import Derived.Test.YtmpononkbdfkmaaUf5
import Derived.Deep.CutBlock
namespace Go.Proofs.Ytmpononkbdfkmaa
open Go.RowKit
set_option linter.unusedVariables false
/-- block g holds n labels -/
structure LRow (base : Nat) (w : World) (g n : Nat) (s : Nat → Nat) : Prop where
  ge : base ≤ g
  lt : g < w.heap.size
  cell : ∀ q, q < n → w.cell? ⟨g, q, none⟩ = some (.int .i64 (s q : Int))
  fr : ∀ o, w.frozen? ⟨g, o, none⟩ = false
section
variable {base : Nat} {w w' : World} {g n : Nat} {s : Nat → Nat}
theorem LRow.but {T : Blocks} (r : LRow base w g n s) (h : But T w w') (ht : ¬ T g) : LRow base w' g n s :=
  ⟨r.ge, Nat.lt_of_lt_of_le r.lt h.size, fun q hq => h.cell ht (r.cell q hq), fun o => (frozen_of_block (h.block _ r.lt ht)).trans (r.fr o)⟩
theorem LRow.below (r : LRow base w g n s) (h : Below w.heap.size w w') : LRow base w' g n s := r.but (T := Nowhere) (But.of_below h) (fun h => h)
theorem LRow.set (r : LRow base w g n s) {i : Nat} (hi : i < n) (x : Nat) : LRow base (w.setCell ⟨g, i, none⟩ (.int .i64 (x : Int))) g n (fun k => if k = i then x else s k) := by
  refine ⟨r.ge, by rw [size_setCell]; exact r.lt, fun q hq => ?_, fun o => by rw [World.frozen?_setCell]; exact r.fr o⟩
  by_cases e : q = i
  · subst e
    simp only [if_true]
    exact World.cell?_setCell_same' _ _ _ (by rw [r.cell q hq]; rfl)
  · simp only [if_neg e]
    rw [World.cell?_setCell_other _ _ _ _ (fun h => e (by injection h with _ h; exact h.symm))]
    exact r.cell q hq
theorem LRow.congr {t : Nat → Nat} (r : LRow base w g n s) (h : ∀ q, q < n → s q = t q) : LRow base w g n t :=
  ⟨r.ge, r.lt, fun q hq => by rw [← h q hq]; exact r.cell q hq, r.fr⟩
end

set_option maxHeartbeats 1000000 in
set_option maxRecDepth 100000 in
theorem hplay_any (n : Nat) (hn : n ≤ 200) (ops : List UOp) (w : World) (S : Blocks) (hS : Sub S (Upto w.heap.size)) (v : Value) (r : RdO w S ops v) :
    Calls Try.prog 38 #[.int .i64 (n : Int), v] w fun e w' => ∃ x, e = .returned (.tuple #[x, .int .i64 0]) ∧ RdI w' (Plus Nowhere w.heap.size w'.heap.size) (uRun n ops).2 x ∧ Below w.heap.size w w' := by
  obtain ⟨i0, hi, hz0, hz1, hz2⟩ := info_parts infoI
  have hmk := fun w => run_make1 (P := Try.prog) 37 3 i0 _ Try.underlying37 hi hz0 hz1 rfl n (by rw [hz2]; omega) (by omega) w
  obtain ⟨A, cap, rfl, hl, hcm, hby⟩ := r.form
  unfold maxLen at hcm
  have R := Lib.hid r
  clear r
  have hn0 : ¬ (n : Int) < 0 := by omega
  have hn1 : ¬ 200 < n := by omega
  go_enter Try.func38, Try.ntmps38
  go_wp2_with fail
  obtain ⟨g, hg⟩ : ∃ g, g = w.heap.size := ⟨_, rfl⟩
  have hbw : Below w.heap.size w (w.alloc (.cells (Array.replicate n (.int .i64 0)) 3)) := (Below.refl _ _).alloc (Nat.le_refl _) _
  have hR0 : LRow w.heap.size (w.alloc (.cells (Array.replicate n (.int .i64 0)) 3)) w.heap.size n (fun _ => 0) :=
    ⟨Nat.le_refl _, by simp, fun q hq => made_row w n _ (by rw [List.getElem?_replicate, if_pos hq]), fun o => frozen_alloc_cells _ _ _ _⟩
  generalize w.alloc (.cells (Array.replicate n (.int .i64 0)) 3) = w0 at hbw hR0 ⊢
  have hgw := Nat.le_of_eq hg
  have hgw' := Nat.le_of_eq hg.symm
  have hR1 : LRow w.heap.size w0 g n (fun _ => 0) := by rw [hg]; exact hR0
  clear hR0
  rw [← hg]
  clear hg
  have HR0 := Lib.hid hR1
  clear hR1
  go_loopw [29] (fun t wr => ∃ q : Nat, q ≤ n ∧ t = .int .i64 (q : Int) ∧ Hid (LRow w.heap.size wr g n (fun k => if k < q then k else 0)) ∧ Below w.heap.size w wr) (fun t _ => n - (intOf t).toNat)
  case atStart => exact ⟨0, by omega, rfl, Lib.hid (HR0.out.congr (fun q _ => by simp)), hbw⟩
  case round =>
    clear HR0 hbw
    obtain ⟨q, hq, rfl, hr, hb⟩ := hrel
    by_cases hlt : q < n
    · have hc := hr.out.cell q hlt
      have hf := hr.out.fr q
      have HR := Lib.hid ((hr.out.set hlt q).congr (t := fun k => if k < q + 1 then k else 0) (fun k _ => by
        by_cases e : k = q
        · subst e; simp
        · by_cases e2 : k < q
          · simp [e, e2]; omega
          · simp [e, e2]; omega))
      have hb2 : Below w.heap.size w (wr.setCell ⟨g, q, none⟩ (.int .i64 (q : Int))) := hb.setCell (p := ⟨g, q, none⟩) hgw' _
      clear hr hb
      go_wp2
      go_roundw
      case rel => exact ⟨q + 1, by omega, by go_num, HR, hb2⟩
      case measure => simp [intOf]; omega
    · have HR := Lib.hid (hr.out.congr (t := id) (fun k hk => by simp; omega))
      clear hr
      go_wp2_with fail
      go_loopw [8, 39] (fun o t wr => ∃ q : Nat, q ≤ ops.length ∧ t = .int .i64 (q : Int) ∧ OwnI 3 wr (g + 1) Nowhere (uRun n (ops.take q)).2 o ∧ Hid (LRow w.heap.size wr g n (uRun n (ops.take q)).1) ∧ Below w.heap.size w wr) (fun _ t _ => ops.length - (intOf t).toNat)
      case atStart => exact ⟨0, by omega, rfl, OwnL.nil _ _ _, HR, hb⟩
      case round =>
        clear HR hb
        obtain ⟨q, hq, rfl, ho, hr, hb⟩ := hrel
        have HO := Lib.hid ho
        have hlen := uRun_len n (ops.take q)
        have hlen2 : (uRun n (ops.take q)).2.length = q := by rw [hlen]; simp; omega
        have HL := Lib.hid hlen2
        clear hlen hlen2 ho
        by_cases hlt : q < ops.length
        · have HT := Lib.hid (show ops.take (q + 1) = ops.take q ++ [ops[q]] by rw [List.take_succ_eq_append_getElem hlt])
          obtain ⟨b0, off, rfl, hsb, hok, c0, c1, c2⟩ := RdO.at1 (R.out.go Flat.keeps hb hS (Sub.refl _)) hlt
          generalize hoq : ops[q] = o at *
          have HT' := HT
          clear hoq HT
          obtain ⟨k, i, j⟩ := o
          dsimp only at c0 c1 c2
          go_upto_region 14 with (fail)
          have hW : (wr.alloc (.cells #[.int .i64 k, .int .i64 i, .int .i64 j] 108)).cell? ⟨wr.heap.size, 0, none⟩ = some (.int .i64 k) ∧ (wr.alloc (.cells #[.int .i64 k, .int .i64 i, .int .i64 j] 108)).cell? ⟨wr.heap.size, 1, none⟩ = some (.int .i64 i) ∧ (wr.alloc (.cells #[.int .i64 k, .int .i64 i, .int .i64 j] 108)).cell? ⟨wr.heap.size, 2, none⟩ = some (.int .i64 j) := by simp
          have hb2 : Below w.heap.size w (wr.alloc (.cells #[.int .i64 k, .int .i64 i, .int .i64 j] 108)) := hb.alloc hb.size _
          have hbel : Below wr.heap.size wr (wr.alloc (.cells #[.int .i64 k, .int .i64 i, .int .i64 j] 108)) := (Below.refl _ _).alloc (Nat.le_refl _) _
          have HR2 := Lib.hid (hr.out.below hbel)
          have HO2 := Lib.hid (HO.out.keep Flat.keeps hbel)
          have hgl := hr.out.lt
          have hsz : wr.heap.size < (wr.alloc (.cells #[.int .i64 k, .int .i64 i, .int .i64 j] 108)).heap.size := by simp
          obtain ⟨d0, d1, d2⟩ := hW
          clear hbel hb hr HO c0 c1 c2
          generalize wr.alloc (.cells #[.int .i64 k, .int .i64 i, .int .i64 j] 108) = W at *
          obtain ⟨bo, hbo⟩ : ∃ bo, bo = wr.heap.size := ⟨_, rfl⟩
          rw [← hbo] at d0 d1 d2 hgl hsz ⊢
          clear hbo
          go_cut [12] (fun x wx => x = .bool (okP n i) ∧ wx = W)
          case first =>
            rcases Int.lt_or_le i 0 with h1 | h1
            · have h2 : ¬ (0 : Int) ≤ i := by omega
              go_wp2
              go_meet
              exact ⟨by simp [okP]; omega, rfl⟩
            · rcases Int.lt_or_le i n with h2 | h2
              · have h3 : (0 : Int) ≤ i := h1
                go_wp2
                go_meet
                exact ⟨by simp [okP, h2, h3], rfl⟩
              · have h3 : (0 : Int) ≤ i := h1
                have h4 : ¬ i < (n : Int) := by omega
                go_wp2
                go_meet
                exact ⟨by simp [okP, h3, h4], rfl⟩
          case rest =>
            obtain ⟨rfl, rfl⟩ := hcut
            generalize hbi : okP n i = bi at *
            generalize hbj : okP n j = bj at *
            go_upto_region 15 with (fail)
            go_cut [13] (fun x wx => x = .bool (bi && bj) ∧ wx = wc)
            case first =>
              cases bi
              · go_wp2
                go_meet
                exact ⟨rfl, rfl⟩
              · rcases Int.lt_or_le j 0 with h1 | h1
                · have h2 : ¬ (0 : Int) ≤ j := by omega
                  go_wp2
                  go_meet
                  exact ⟨by rw [← hbj]; simp [okP]; omega, rfl⟩
                · rcases Int.lt_or_le j n with h2 | h2
                  · have h3 : (0 : Int) ≤ j := h1
                    go_wp2
                    go_meet
                    exact ⟨by rw [← hbj]; simp [okP, h2, h3], rfl⟩
                  · have h3 : (0 : Int) ≤ j := h1
                    have h4 : ¬ j < (n : Int) := by omega
                    go_wp2
                    go_meet
                    exact ⟨by rw [← hbj]; simp [okP, h3, h4], rfl⟩
            case rest =>
              obtain ⟨rfl, rfl⟩ := hcut
              go_upto_block 4 with (fail)
              go_cut [11, 13] (fun x _ wx => x = .int .i64 (uAns n (uRun n (ops.take q)).1 ⟨k, i, j⟩).2 ∧ Hid (LRow w.heap.size wx g n (uAns n (uRun n (ops.take q)).1 ⟨k, i, j⟩).1) ∧ But (Is g) wc wx)
              case first =>
                clear hb2 HO2 HT' HL R hmk
                generalize (uRun n (ops.take q)).1 = s at *
                have hgbo : g ≠ bo := by omega
                have hbog : bo ≠ g := by omega
                by_cases h1 : k = 1 ∧ (bi && bj) = true
                · obtain ⟨rfl, hij⟩ := h1
                  simp only [Bool.and_eq_true] at hij
                  obtain ⟨rfl, rfl⟩ := hij
                  have hi' := hbi
                  have hj' := hbj
                  simp only [okP, Bool.and_eq_true, decide_eq_true_eq] at hi' hj'
                  obtain ⟨i, rfl⟩ := Int.eq_ofNat_of_zero_le hi'.1
                  obtain ⟨j, rfl⟩ := Int.eq_ofNat_of_zero_le hj'.1
                  have hin : i < n := by omega
                  have hjn : j < n := by omega
                  have ci := HR2.out.cell i hin
                  have cj := HR2.out.cell j hjn
                  by_cases he : s i = s j
                  · have hA := Lib.hid (show uAns n s ⟨1, i, j⟩ = (s, 0) by simp [uAns, hbi, hbj, he])
                    have hd : ((s i : Int) != (s j : Int)) = false := by simp [he]
                    clear he hi' hj' hbi hbj
                    go_wp2
                    go_quiet (fail)
                    go_wp2
                    go_meet
                    rw [hA.out]
                    exact ⟨rfl, Lib.hid (HR2.out.but (T := Nowhere) ((But.refl _ _).drewN _) (fun h => h)), (But.refl _ _).drewN _⟩
                  · have hA := Lib.hid (show uAns n s ⟨1, i, j⟩ = (joinS s (s i) (s j), 1) by simp [uAns, hbi, hbj, he])
                    have hd : ((s i : Int) != (s j : Int)) = true := by simp; omega
                    clear he hi' hj' hbi hbj
                    go_wp2
                    go_quiet (fail)
                    have HR3 := Lib.hid (HR2.out.but (T := Nowhere) ((But.refl _ _).drewN ‹Nat›) (fun h => h))
                    have hb3 : But (Is g) wc (wc.drewN ‹Nat›) := (But.refl _ _).drewN _
                    go_wp2
                    clear ci cj d0 d1 d2 HR2
                    go_loopw [86] (fun t wr => ∃ p : Nat, p ≤ n ∧ t = .int .i64 (p : Int) ∧ Hid (LRow w.heap.size wr g n (fun m => if m < p then joinS s (s i) (s j) m else s m)) ∧ But (Is g) wc wr) (fun t _ => n - (intOf t).toNat)
                    case atStart => exact ⟨0, by omega, rfl, Lib.hid (by simpa using HR3.out), hb3⟩
                    case round =>
                      clear HR3 hb3
                      obtain ⟨p, hp, rfl, hr, hb3⟩ := hrel
                      by_cases hlt : p < n
                      · have c := hr.out.cell p hlt
                        simp only [Nat.lt_irrefl, if_false] at c
                        have hf := hr.out.fr p
                        by_cases he : s p = s j
                        · rw [he] at c
                          have HR := Lib.hid ((hr.out.set hlt (s i)).congr (t := fun m => if m < p + 1 then joinS s (s i) (s j) m else s m) (fun m _ => by
                            by_cases e : m = p
                            · subst e; simp [joinS, he]
                            · have : (m < p + 1) = (m < p) := by simp; omega
                              simp only [e, this, if_false]))
                          have hb4 : But (Is g) wc (_root_.Go.World.setCell _ ⟨g, p, none⟩ (.int .i64 (s i : Int))) := hb3.setCell (p := ⟨g, p, none⟩) rfl _
                          clear he hr hb3
                          go_wp2
                          go_roundw
                          case rel => exact ⟨p + 1, by omega, by go_num, HR, hb4⟩
                          case measure => simp [intOf]; omega
                        · have hd : ((s p : Int) == (s j : Int)) = false := by simp; omega
                          have HR := Lib.hid (hr.out.congr (t := fun m => if m < p + 1 then joinS s (s i) (s j) m else s m) (fun m _ => by
                            by_cases e : m = p
                            · subst e; simp [joinS, he]
                            · have : (m < p + 1) = (m < p) := by simp; omega
                              simp only [this]))
                          clear he hr
                          go_wp2
                          go_roundw
                          case rel => exact ⟨p + 1, by omega, by go_num, HR, hb3⟩
                          case measure => simp [intOf]; omega
                      · have HR := Lib.hid (hr.out.congr (t := joinS s (s i) (s j)) (fun m hm => by rw [if_pos (by omega)]))
                        clear hr
                        go_wp2
                        go_meet
                        rw [hA.out]
                        exact ⟨rfl, HR, hb3⟩
                · by_cases h2 : k = 2 ∧ (bi && bj) = true
                  · obtain ⟨rfl, hij⟩ := h2
                    simp only [Bool.and_eq_true] at hij
                    obtain ⟨rfl, rfl⟩ := hij
                    have hi' := hbi
                    have hj' := hbj
                    simp only [okP, Bool.and_eq_true, decide_eq_true_eq] at hi' hj'
                    obtain ⟨i, rfl⟩ := Int.eq_ofNat_of_zero_le hi'.1
                    obtain ⟨j, rfl⟩ := Int.eq_ofNat_of_zero_le hj'.1
                    have hin : i < n := by omega
                    have hjn : j < n := by omega
                    have ci := HR2.out.cell i hin
                    have cj := HR2.out.cell j hjn
                    by_cases he : s i = s j
                    all_goals
                      have hA := Lib.hid (show uAns n s ⟨2, i, j⟩ = (s, if s i = s j then 1 else 0) by simp [uAns, hbi, hbj])
                    · have hd : ((s i : Int) == (s j : Int)) = true := by simp [he]
                      have HE := Lib.hid he
                      clear he hi' hj' hbi hbj h1
                      go_wp2
                      go_quiet (fail)
                      go_wp2
                      go_meet
                      rw [hA.out]
                      exact ⟨by simp [HE.out], Lib.hid (HR2.out.but (T := Nowhere) ((But.refl _ _).drewN _) (fun h => h)), (But.refl _ _).drewN _⟩
                    · have hd : ((s i : Int) == (s j : Int)) = false := by simp; omega
                      have HE := Lib.hid he
                      clear he hi' hj' hbi hbj h1
                      go_wp2
                      go_quiet (fail)
                      go_wp2
                      go_meet
                      rw [hA.out]
                      exact ⟨by simp [HE.out], Lib.hid (HR2.out.but (T := Nowhere) ((But.refl _ _).drewN _) (fun h => h)), (But.refl _ _).drewN _⟩
                  · by_cases h3 : k = 3 ∧ bi = true
                    · obtain ⟨rfl, rfl⟩ := h3
                      have hi' := hbi
                      simp only [okP, Bool.and_eq_true, decide_eq_true_eq] at hi'
                      obtain ⟨i, rfl⟩ := Int.eq_ofNat_of_zero_le hi'.1
                      have hin : i < n := by omega
                      have ci := HR2.out.cell i hin
                      have hA := Lib.hid (show uAns n s ⟨3, i, j⟩ = (s, (cntL n s (s i) : Int)) by simp [uAns, hbi])
                      clear h1 h2 hi' hbi hbj
                      go_wp2
                      go_loopw [11, 127] (fun x t wr => ∃ p : Nat, p ≤ n ∧ t = .int .i64 (p : Int) ∧ x = .int .i64 (cntL p s (s i) : Int) ∧ wr = wc) (fun _ t _ => n - (intOf t).toNat)
                      case atStart => exact ⟨0, by omega, rfl, rfl, rfl⟩
                      case round =>
                        obtain ⟨p, hp, rfl, rfl, rfl⟩ := hrel
                        have hcl := cntL_le p s (s i)
                        by_cases hlt : p < n
                        · have c := HR2.out.cell p hlt
                          have HC := Lib.hid (show cntL (p + 1) s (s i) = cntL p s (s i) + if s p = s i then 1 else 0 by
                            simp [cntL, List.range_succ, List.countP_append, List.countP_singleton])
                          by_cases he : s p = s i
                          · have hd : ((s p : Int) == (s i : Int)) = true := by simp [he]
                            have HE := Lib.hid he
                            clear he
                            go_wp2
                            go_roundw
                            case rel => exact ⟨p + 1, by omega, by go_num, by rw [HC.out, if_pos HE.out]; go_num, trivial⟩
                            case measure => simp [intOf]; omega
                          · have hd : ((s p : Int) == (s i : Int)) = false := by simp; omega
                            have HE := Lib.hid he
                            clear he
                            go_wp2
                            go_roundw
                            case rel => exact ⟨p + 1, by omega, by go_num, by rw [HC.out, if_neg HE.out]; go_num, trivial⟩
                            case measure => simp [intOf]; omega
                        · obtain rfl : p = n := by omega
                          go_wp2
                          go_meet
                          rw [hA.out]
                          exact ⟨rfl, HR2, But.refl _ _⟩
                    · have hA := Lib.hid (show uAns n s ⟨k, i, j⟩ = (s, -1) by
                        simp only [uAns, hbi, hbj]
                        rw [if_neg (fun h => h1 ⟨h.1, by simp [h.2.1, h.2.2]⟩), if_neg (fun h => h2 ⟨h.1, by simp [h.2.1, h.2.2]⟩), if_neg h3])
                      by_cases k1 : k = 1
                      · subst k1
                        have hf : (bi && bj) = false := by simpa using h1
                        clear h1 h2 h3 hbi hbj
                        rw [hf]
                        go_wp2
                        go_meet
                        rw [hA.out]
                        exact ⟨rfl, HR2, But.refl _ _⟩
                      · by_cases k2 : k = 2
                        · subst k2
                          have hf : (bi && bj) = false := by simpa using h2
                          clear h1 h2 h3 hbi hbj
                          rw [hf]
                          go_wp2
                          go_meet
                          rw [hA.out]
                          exact ⟨rfl, HR2, But.refl _ _⟩
                        · have e1 : (k == 1) = false := by simpa using k1
                          have e2 : (k == 2) = false := by simpa using k2
                          by_cases k3 : k = 3
                          · subst k3
                            have hf : bi = false := by simpa using h3
                            subst hf
                            clear h1 h2 h3 hbi hbj
                            go_wp2
                            go_meet
                            rw [hA.out]
                            exact ⟨rfl, HR2, But.refl _ _⟩
                          · have e3 : (k == 3) = false := by simpa using k3
                            clear h1 h2 h3 hbi hbj k1 k2 k3
                            go_wp2
                            go_meet
                            rw [hA.out]
                            exact ⟨rfl, HR2, But.refl _ _⟩
              case rest =>
                clear HR2 d0 d1 d2 hbi hbj hgl
                obtain ⟨rfl, HR3, hk3⟩ := hcut
                have hz3 := hk3.size
                have HO3 := Lib.hid (HO2.out.but hk3 (fun g' hg e => by
                  have := (HO2.out.lt g' hg).1
                  rw [e] at this; omega))
                have hb3 := hb2.trans (hk3.below hb2.size (fun k e => by rw [e]; exact hgw'))
                have hans := Lib.hid (uAns_ok n hn (uRun n (ops.take q)).1 ⟨k, i, j⟩)
                have hgz : g + 1 ≤ wc.heap.size := by have := HR3.out.lt; omega
                clear hk3 HO2 hb2 hmk
                go_wp2_with (at_builtin; refine wpList_append_one rfl _ _ 37 rfl i0 _ Try.underlying37 hi hz0 hz1 hz2 rfl (by decide) Flat.keeps HO3.out (x := (uAns n (uRun n (ops.take q)).1 ⟨k, i, j⟩).2) (cs := [Value.int .i64 (uAns n (uRun n (ops.take q)).1 ⟨k, i, j⟩).2]) (Tx := Nowhere) ?c0 rfl rfl rfl (Sub.nowhere _) (Sub.nowhere _) not_nowhere ?c1 ?c2 ?c3 ?c4 ?_)
                case c0 => exact ⟨rfl, hans.out⟩
                case c1 => simp [Value.oneCell']
                case c2 => rw [HL.out]; simp [maxLen]; omega
                case c3 => rw [HL.out]; omega
                case c4 => exact hgz
                intro v2 w3 ho4 hg4 _
                have hz4 := hg4.size
                have HS4 := Lib.hid (show LRow w.heap.size w3 g n (uRun n (ops.take (q + 1))).1 by
                  rw [HT'.out, uRun_snoc]
                  refine HR3.out.but (But.of_grown hg4) ?_
                  intro e
                  have := (HO3.out.lt _ e).1
                  omega)
                have HO4 := Lib.hid (show OwnI 3 w3 (g + 1) Nowhere (uRun n (ops.take (q + 1))).2 v2 by
                  rw [HT'.out, uRun_snoc]; exact ho4)
                have hb4 : Below w.heap.size w w3 := hb3.grown hg4 hb3.size (fun g' hg => by
                  have := (HO3.out.lt g' hg).1
                  omega)
                clear ho4 hg4 hb3 HO3 HR3 hz3 hz4 HT' HL
                go_wp2
                go_roundw
                case rel => exact ⟨q + 1, by omega, by go_num, HO4.out, HS4, hb4⟩
                case measure => simp [intOf]; omega
        · have hqn : q = ops.length := by omega
          subst hqn
          have HR := Lib.hid (show RdI wr (Plus Nowhere w.heap.size wr.heap.size) (uRun n ops).2 u8 by
            have h := HO.out
            rw [List.take_length] at h
            refine h.toRd (bytes := 8) Flat.keeps (by rw [uRun_len]; omega) (Sub.nowhere _) (fun b h1 h2 => .inr ⟨by omega, h2⟩))
          clear HO HL hr
          go_wp2
          go_ret2
          exact ⟨_, rfl, HR.out, hb⟩
end Go.Proofs.Ytmpononkbdfkmaa
