/- The walk of the reference's SReach. -/
import Derived.Test.YtikjegfjgfhiaaaHb1
import Derived.Test.YtikjegfjgfhiaaaMatB
namespace Go.Proofs.Ytikjegfjgfhiaaa
open Go.RowKit
set_option linter.unusedVariables false
/-- what is ahead of j by way of the events from i on -/
def upH (l : List HEv) (j i : Nat) (k : Nat) : Bool := (List.range j).any fun m => decide (i ≤ m) && (oneH (evAt l m) (evAt l j) && (decide (k = m) || (decide (k < m) && hr l m k)))
theorem upH_iff (l : List HEv) (j i k : Nat) : upH l j i k = true ↔ ∃ m, i ≤ m ∧ m < j ∧ oneH (evAt l m) (evAt l j) = true ∧ (k = m ∨ (k < m ∧ hr l m k = true)) := by
  unfold upH
  rw [List.any_eq_true]
  constructor
  · rintro ⟨m, hm, h⟩
    simp at h
    exact ⟨m, h.1, List.mem_range.1 hm, h.2.1, h.2.2⟩
  · rintro ⟨m, h1, h2, h3, h4⟩
    exact ⟨m, List.mem_range.2 h2, by simp; exact ⟨h1, h3, h4⟩⟩
theorem upH_top (l : List HEv) (j k : Nat) : upH l j j k = false := by
  cases e : upH l j j k
  · rfl
  · obtain ⟨m, h1, h2, _⟩ := (upH_iff l j j k).1 e; omega
theorem upH_all (l : List HEv) (j k : Nat) : upH l j 0 k = hr l j k := by
  rw [Bool.eq_iff_iff, upH_iff, hr_iff]
  constructor
  · rintro ⟨m, _, h⟩; exact ⟨m, h⟩
  · rintro ⟨m, h⟩; exact ⟨m, Nat.zero_le _, h⟩
theorem upH_no {l : List HEv} {j i : Nat} (h : oneH (evAt l i) (evAt l j) = false) (k : Nat) : upH l j (i + 1) k = upH l j i k := by
  rw [Bool.eq_iff_iff, upH_iff, upH_iff]
  constructor
  · rintro ⟨m, h1, h2⟩; exact ⟨m, by omega, h2⟩
  · rintro ⟨m, h1, h2, h3, h4⟩
    rcases Nat.lt_or_ge i m with h5 | h5
    · exact ⟨m, h5, h2, h3, h4⟩
    · have : m = i := by omega
      subst this
      rw [h] at h3; cases h3
theorem upH_yes {l : List HEv} {j i : Nat} (hi : i < j) (h : oneH (evAt l i) (evAt l j) = true) (k : Nat) : (upH l j (i + 1) k || decide (k = i) || (decide (k < i) && hr l i k)) = upH l j i k := by
  rw [Bool.eq_iff_iff, Bool.or_eq_true, Bool.or_eq_true, Bool.and_eq_true, decide_eq_true_eq, decide_eq_true_eq, upH_iff, upH_iff]
  constructor
  · rintro ((⟨m, h1, h2⟩ | h1) | h1)
    · exact ⟨m, by omega, h2⟩
    · exact ⟨i, Nat.le_refl _, hi, h, .inl h1⟩
    · exact ⟨i, Nat.le_refl _, hi, h, .inr h1⟩
  · rintro ⟨m, h1, h2, h3, h4⟩
    rcases Nat.lt_or_ge i m with h5 | h5
    · exact .inl (.inl ⟨m, h5, h2, h3, h4⟩)
    · have : m = i := by omega
      subst this
      rcases h4 with h4 | h4
      · exact .inl (.inr h4)
      · exact .inr h4
theorem hr_none {l : List HEv} {j : Nat} (h : kn (evAt l j).act = false) (k : Nat) : hr l j k = false := by
  cases e : hr l j k
  · rfl
  · have := (hr_kn e).2; rw [h] at this; cases this
/-- row j at work: what event j has so far, with the first p places of row i taken over -/
def stH (l : List HEv) (j i p k : Nat) : Bool := upH l j (i + 1) k || decide (k = i) || (decide (k < p) && hr l i k)
theorem infoB : (Try.prog.info? 4).map (fun i => (i.zero, i.size, i.bytes)) = some (some (.bool false), 1, 1) := by kernel_rfl
theorem infoBs : (Try.prog.info? 68).map (fun i => (i.zero, i.size, i.bytes)) = some (some (.slice none 0 0), 1, 24) := by kernel_rfl
def okCells (l : List HEv) (q : Nat) (k a ot : Int) : Prop := (evAt l q).kind = k ∧ (evAt l q).act = a ∧ (evAt l q).other = ot

set_option maxHeartbeats 2000000 in
set_option maxRecDepth 100000 in
theorem sreach_any (l : List HEv) (w : World) (S : Blocks) (v : Value) (hS : Sub S (Upto w.heap.size)) (r : RdEvs w S l v) :
    Calls Try.prog 28 #[v] w fun e w' => ∃ g gs, e = .returned (.slice (some ⟨g, 0, none⟩) l.length l.length) ∧ gs.length = l.length ∧ MatB w.heap.size w' g l.length gs (hr l) ∧ Below w.heap.size w w' := by
  obtain ⟨A, cap, rfl, hl, hcm, hby⟩ := r.form
  unfold maxLen at hcm
  obtain ⟨i0, hi, hz0, hz1, hz2⟩ := info_parts infoB
  obtain ⟨i1, hj, hy0, hy1, hy2⟩ := info_parts infoBs
  obtain ⟨n, hn⟩ : ∃ n, n = l.length := ⟨_, rfl⟩
  have HNL := Lib.hid hn
  rw [← hn] at hl hby ⊢
  have hmk1 := fun w => run_make1 (P := Try.prog) 66 68 i1 _ Try.underlying66 hj hy0 hy1 rfl n (by rw [hy2]; omega) (by omega) w
  have hmk2 := fun w => run_make1 (P := Try.prog) 68 4 i0 _ Try.underlying68 hi hz0 hz1 rfl n (by rw [hz2]; omega) (by omega) w
  have R := Lib.hid r
  clear r hn
  go_enter Try.func28, Try.ntmps28
  go_wp2
  clear hmk1
  have M0 := Lib.hid (MatB.made (base := w.heap.size) w n 68 (fun i k => hr l i k) (Nat.le_refl _))
  have B0 : Below w.heap.size w (w.alloc (.cells (Array.replicate n (.slice none 0 0)) 68)) := (Below.refl _ _).alloc (Nat.le_refl _) _
  generalize w.alloc (.cells (Array.replicate n (.slice none 0 0)) 68) = W0 at *
  go_loopw [15] (fun t wr => ∃ (j : Nat) (gs : List Nat), j ≤ n ∧ t = .int .i64 j ∧ gs.length = j ∧ Hid (MatB w.heap.size wr w.heap.size n gs (hr l)) ∧ Below w.heap.size w wr) (fun t _ => n - (intOf t).toNat)
  case atStart => exact ⟨0, [], by omega, rfl, rfl, M0, B0⟩
  case round =>
    clear M0 B0
    obtain ⟨j, gs, hjn, rfl, hgl, M, hb⟩ := hrel
    obtain ⟨wo, hwo⟩ : ∃ wo : World, wo = wr := ⟨_, rfl⟩
    subst hwo
    by_cases hlt : j < n
    · have hlt' : j < l.length := by rw [← HNL.out]; exact hlt
      obtain ⟨b, off, rfl, hbS, hok, hc⟩ := RdEvs.at_ R.out hlt'
      rcases hev : evAt l j with ⟨k, a, ot, ce, wt, lb⟩
      rw [hev] at hok hc
      have e0 := (hb.cell (p := ⟨b, off + j * 6, none⟩) (hS _ hbS)).trans (hc 0 _ rfl)
      have e1 := (hb.cell (p := ⟨b, off + j * 6 + 1, none⟩) (hS _ hbS)).trans (hc 1 _ rfl); have e2 := (hb.cell (p := ⟨b, off + j * 6 + 2, none⟩) (hS _ hbS)).trans (hc 2 _ rfl); have e3 := (hb.cell (p := ⟨b, off + j * 6 + 3, none⟩) (hS _ hbS)).trans (hc 3 _ rfl); have e4 := (hb.cell (p := ⟨b, off + j * 6 + 4, none⟩) (hS _ hbS)).trans (hc 4 _ rfl); have e5 := (hb.cell (p := ⟨b, off + j * 6 + 5, none⟩) (hS _ hbS)).trans (hc 5 _ rfl)
      have HE := Lib.hid hev
      have HGL := Lib.hid hgl
      clear hc hev hok hlt' hgl
      -- the event's copy, then the new row
      have M1 := Lib.hid (M.out.below ((Below.refl _ _).alloc (Nat.le_refl _) (.cells #[.int .i64 k, .int .i64 a, .int .i64 ot, .int .i64 ce, .bool wt, .int .i64 lb] 61)))
      have D1 := Lib.hid (Blk.made wo [.int .i64 k, .int .i64 a, .int .i64 ot, .int .i64 ce, .bool wt, .int .i64 lb] 61 (base := 0) (Nat.zero_le _))
      have B1 : Below w.heap.size w (wo.alloc (.cells #[.int .i64 k, .int .i64 a, .int .i64 ot, .int .i64 ce, .bool wt, .int .i64 lb] 61)) := hb.alloc hb.size _
      have hgw := M.out.out.lt
      have hfr := M1.out.out.fr j
      have hcr : (wo.alloc (.cells #[.int .i64 k, .int .i64 a, .int .i64 ot, .int .i64 ce, .bool wt, .int .i64 lb] 61)).cell? ⟨w.heap.size, j, none⟩ = some (.slice none 0 0) := M1.out.out.cell j _ (by
        rw [List.getElem?_append_right (by simp; rw [HGL.out]; exact Nat.le_refl _), List.length_map, HGL.out, Nat.sub_self, List.getElem?_replicate, if_pos (by omega)])
      have hdg : wo.heap.size ≠ w.heap.size := by omega
      clear M hb
      go_upto_region 6 with (fail)
      obtain ⟨d, hd⟩ : ∃ d, d = wo.heap.size := ⟨_, rfl⟩
      obtain ⟨rg, hrg⟩ : ∃ rg, rg = wo.heap.size + 1 := ⟨_, rfl⟩
      have hrg2 : (wo.alloc (.cells #[.int .i64 k, .int .i64 a, .int .i64 ot, .int .i64 ce, .bool wt, .int .i64 lb] 61)).heap.size = rg := by rw [hrg]; simp
      have hle := B1.size
      have hm2 := M1.out.push (by rw [HGL.out]; exact hlt) 4 hle
      have hd2 := (D1.out.but (T := Nowhere) ((But.refl _ _).alloc (.cells (Array.replicate n (.bool false)) 4)) (fun h => h)).other (p := ⟨w.heap.size, j, none⟩) hdg.symm (.slice (some ⟨rg, 0, none⟩) n n)
      have hb2 := (B1.alloc hle (.cells (Array.replicate n (.bool false)) 4)).setCell (p := ⟨w.heap.size, j, none⟩) (Nat.le_refl _) (.slice (some ⟨rg, 0, none⟩) n n)
      rw [hrg2, HGL.out] at hm2
      have hW : ((wo.alloc (.cells #[.int .i64 k, .int .i64 a, .int .i64 ot, .int .i64 ce, .bool wt, .int .i64 lb] 61)).alloc (.cells (Array.replicate n (.bool false)) 4)).setCell ⟨w.heap.size, j, none⟩ (.slice (some ⟨rg, 0, none⟩) n n)
          = ((wo.setCell ⟨w.heap.size, j, none⟩ (.slice (some ⟨rg, 0, none⟩) n n)).alloc (.cells #[.int .i64 k, .int .i64 a, .int .i64 ot, .int .i64 ce, .bool wt, .int .i64 lb] 61)).alloc (.cells (Array.replicate n (.bool false)) 4) := by
        rw [World.setCell_alloc_past _ _ _ _ (by simp; omega), World.setCell_alloc_past _ _ _ _ hgw]
      rw [hW] at hm2 hd2 hb2
      rw [← hrg, ← hd]
      rw [← hd] at hd2
      have hdrg : d ≠ rg := by omega
      have hdg' : d ≠ w.heap.size := by omega
      have hrgg : rg ≠ w.heap.size := by omega
      have HG1 := Lib.hid (show (gs ++ [rg]).length = j + 1 by simp [HGL.out])
      have HG2 := Lib.hid (show (gs ++ [rg])[j]? = some rg by rw [List.getElem?_append_right (by rw [HGL.out]; exact Nat.le_refl _), HGL.out]; simp)
      clear hW hrg2 hrg hd hdg M1 D1 B1 e0 e1 e2 e3 e4 e5 hbS hfr hcr hle hgw
      generalize ((wo.setCell ⟨w.heap.size, j, none⟩ (.slice (some ⟨rg, 0, none⟩) n n)).alloc (.cells #[.int .i64 k, .int .i64 a, .int .i64 ot, .int .i64 ce, .bool wt, .int .i64 lb] 61)).alloc (.cells (Array.replicate n (.bool false)) 4) = W2 at hm2 hd2 hb2 ⊢
      generalize gs ++ [rg] = hs at HG1 HG2 hm2
      have M2 := Lib.hid hm2
      have D2 := Lib.hid hd2
      have c1 := D2.out.cell 1 _ rfl
      clear hm2 hd2 HGL
      go_wp2_with fail
      refine (scount_any a _).mono ?_
      rintro e w' ⟨rfl, rfl⟩
      by_cases hka : kn a = true
      · rw [hka]
        have HKA := Lib.hid hka
        clear hka c1
        go_wp2_with fail
        have M3 := Lib.hid (M2.out.congr (rows' := putR (hr l) j (upH l j j)) (fun i k _ _ => by
          unfold putR
          by_cases e : i = j
          · rw [if_pos e, if_pos e, upH_top]
          · rw [if_neg e, if_neg e]))
        go_loopw [6] (fun t wr => ∃ i1 : Nat, i1 ≤ j ∧ t = .int .i64 ((i1 : Int) - 1) ∧ Hid (MatB w.heap.size wr w.heap.size n hs (putR (hr l) j (upH l j i1))) ∧ Hid (Blk 0 wr d [.int .i64 k, .int .i64 a, .int .i64 ot, .int .i64 ce, .bool wt, .int .i64 lb]) ∧ Below w.heap.size w wr) (fun t _ => (intOf t + 1).toNat)
        case atStart => exact ⟨j, by omega, rfl, M3, D2, hb2⟩
        case round =>
          clear M2 M3 D2 hb2
          obtain ⟨i1, hij, rfl, M, D, hb⟩ := hrel
          obtain ⟨wi, hwi⟩ : ∃ wi : World, wi = wr := ⟨_, rfl⟩
          subst hwi
          by_cases hpos : 0 < i1
          · obtain ⟨i, rfl⟩ : ∃ i, i1 = i + 1 := ⟨i1 - 1, by omega⟩
            have hcast : (((i + 1 : Nat) : Int) - 1) = (i : Int) := by omega
            rw [hcast]
            clear hcast hpos
            have hil : i < l.length := by rw [← HNL.out]; omega
            obtain ⟨b', off', hbo, hbS, hok, hc⟩ := RdEvs.at_ R.out hil
            injection hbo with hbo
            injection hbo with hbo1 hbo2
            subst hbo1 hbo2
            rcases hev : evAt l i with ⟨k', a', ot', ce', wt', lb'⟩
            rw [hev] at hok hc
            have e0 := (hb.cell (p := ⟨b, off + i * 6, none⟩) (hS _ hbS)).trans (hc 0 _ rfl)
            have e1 := (hb.cell (p := ⟨b, off + i * 6 + 1, none⟩) (hS _ hbS)).trans (hc 1 _ rfl); have e2 := (hb.cell (p := ⟨b, off + i * 6 + 2, none⟩) (hS _ hbS)).trans (hc 2 _ rfl); have e3 := (hb.cell (p := ⟨b, off + i * 6 + 3, none⟩) (hS _ hbS)).trans (hc 3 _ rfl); have e4 := (hb.cell (p := ⟨b, off + i * 6 + 4, none⟩) (hS _ hbS)).trans (hc 4 _ rfl); have e5 := (hb.cell (p := ⟨b, off + i * 6 + 5, none⟩) (hS _ hbS)).trans (hc 5 _ rfl)
            have HE' := Lib.hid hev
            have hi0 : (0 : Int) ≤ (i : Int) := by omega
            have hi1 : (i : Int) < (n : Int) := by omega
            clear hc hev hok hil
            have M1 := Lib.hid (M.out.below ((Below.refl _ _).alloc (Nat.le_refl _) (.cells #[.int .i64 k', .int .i64 a', .int .i64 ot', .int .i64 ce', .bool wt', .int .i64 lb'] 61)))
            have D1 := Lib.hid (D.out.but (T := Nowhere) ((But.refl _ _).alloc (.cells #[.int .i64 k', .int .i64 a', .int .i64 ot', .int .i64 ce', .bool wt', .int .i64 lb'] 61)) (fun h => h))
            have D5 := Lib.hid (Blk.made wi [.int .i64 k', .int .i64 a', .int .i64 ot', .int .i64 ce', .bool wt', .int .i64 lb'] 61 (base := 0) (Nat.zero_le _))
            have B1 : Below w.heap.size w (wi.alloc (.cells #[.int .i64 k', .int .i64 a', .int .i64 ot', .int .i64 ce', .bool wt', .int .i64 lb'] 61)) := hb.alloc hb.size _
            obtain ⟨d', hd'⟩ : ∃ d', d' = wi.heap.size := ⟨_, rfl⟩
            go_wp2_with fail
            rw [← hd'] at D5 ⊢
            clear hd' M D hb e0 e1 e2 e3 e4 e5 hbS
            generalize wi.alloc (.cells #[.int .i64 k', .int .i64 a', .int .i64 ot', .int .i64 ce', .bool wt', .int .i64 lb'] 61) = W1 at *
            have c0 := D1.out.cell 0 _ rfl
            have c1 := D1.out.cell 1 _ rfl
            have c2 := D1.out.cell 2 _ rfl
            have c0' := D5.out.cell 0 _ rfl
            have c1' := D5.out.cell 1 _ rfl
            have c2' := D5.out.cell 2 _ rfl
            refine (scount_any a' _).mono ?_
            rintro e w' ⟨rfl, rfl⟩
            by_cases hka' : kn a' = true
            · rw [hka']
              have HKA' := Lib.hid hka'
              clear hka'
              go_upto_region 12 with (fail)
              go_cut [8] (fun x wx => x = .bool (oneH ⟨k', a', ot', ce', wt', lb'⟩ ⟨k, a, ot, ce, wt, lb⟩) ∧ W1 = wx)
              case first =>
                have HB := Lib.hid (show oneH ⟨k', a', ot', ce', wt', lb'⟩ ⟨k, a, ot, ce, wt, lb⟩ = ((a' == a) || ((k' == 2) && (ot' == a)) || ((k == 4) && (ot == a')) || ((k' == 2) && (k == 4) && (ot' == ot) && kn ot')) by
                  unfold oneH
                  simp only [HKA.out, HKA'.out, Bool.true_and]
                  rfl)
                cases h1 : (a' == a)
                · skip
                  cases h2 : (k' == 2)
                  · skip
                    cases h4 : (k == 4)
                    · skip
                      go_wp2_with (go_at_call 29; refine (scount_any ot' _).mono ?_; rintro e w' ⟨rfl, rfl⟩)
                      go_meet
                      exact ⟨by rw [HB.out]; simp [*], rfl⟩
                    · skip
                      cases h5 : (ot == a')
                      · skip
                        go_wp2_with (go_at_call 29; refine (scount_any ot' _).mono ?_; rintro e w' ⟨rfl, rfl⟩)
                        go_meet
                        exact ⟨by rw [HB.out]; simp [*], rfl⟩
                      · skip
                        go_wp2_with (go_at_call 29; refine (scount_any ot' _).mono ?_; rintro e w' ⟨rfl, rfl⟩)
                        go_meet
                        exact ⟨by rw [HB.out]; simp [*], rfl⟩
                  · skip
                    cases h3 : (ot' == a)
                    · skip
                      cases h4 : (k == 4)
                      · skip
                        go_wp2_with (go_at_call 29; refine (scount_any ot' _).mono ?_; rintro e w' ⟨rfl, rfl⟩)
                        go_meet
                        exact ⟨by rw [HB.out]; simp [*], rfl⟩
                      · skip
                        cases h5 : (ot == a')
                        · skip
                          cases h6 : (ot' == ot)
                          · skip
                            go_wp2_with (go_at_call 29; refine (scount_any ot' _).mono ?_; rintro e w' ⟨rfl, rfl⟩)
                            go_meet
                            exact ⟨by rw [HB.out]; simp [*], rfl⟩
                          · skip
                            cases h7 : kn ot'
                            · skip
                              go_wp2_with (go_at_call 29; refine (scount_any ot' _).mono ?_; rintro e w' ⟨rfl, rfl⟩; rw [h7])
                              go_meet
                              exact ⟨by rw [HB.out]; simp [*], rfl⟩
                            · skip
                              go_wp2_with (go_at_call 29; refine (scount_any ot' _).mono ?_; rintro e w' ⟨rfl, rfl⟩; rw [h7])
                              go_meet
                              exact ⟨by rw [HB.out]; simp [*], rfl⟩
                        · skip
                          go_wp2_with (go_at_call 29; refine (scount_any ot' _).mono ?_; rintro e w' ⟨rfl, rfl⟩)
                          go_meet
                          exact ⟨by rw [HB.out]; simp [*], rfl⟩
                    · skip
                      go_wp2_with (go_at_call 29; refine (scount_any ot' _).mono ?_; rintro e w' ⟨rfl, rfl⟩)
                      go_meet
                      exact ⟨by rw [HB.out]; simp [*], rfl⟩
                · skip
                  go_wp2_with (go_at_call 29; refine (scount_any ot' _).mono ?_; rintro e w' ⟨rfl, rfl⟩)
                  go_meet
                  exact ⟨by rw [HB.out]; simp [*], rfl⟩
              case rest =>
                obtain ⟨rfl, rfl⟩ := hcut
                clear c0 c1 c2 c0' c1' c2' D5
                by_cases hone : oneH ⟨k', a', ot', ce', wt', lb'⟩ ⟨k, a, ot, ce, wt, lb⟩ = true
                · have HO := Lib.hid (show oneH (evAt l i) (evAt l j) = true by rw [HE.out, HE'.out]; exact hone)
                  rw [hone]
                  clear hone
                  have hin : i < n := by omega
                  have a0 := M1.out.at_ HG2.out
                  obtain ⟨x, a1⟩ : ∃ x, W1.cell? ⟨rg, i, none⟩ = some (.bool x) := ⟨_, M1.out.at2 HG2.out hin⟩
                  have a2 := (M1.out.row j rg HG2.out).1.fr i
                  have hj0 : (0 : Int) ≤ (j : Int) := by omega
                  have hj1 : (j : Int) < (n : Int) := by omega
                  have hm3 := (M1.out.set HG2.out hin true).congr (rows' := putR (hr l) j (stH l j i 0)) (fun i' k' _ _ => by
                    unfold setR putR stH
                    by_cases e : i' = j
                    · by_cases e2 : k' = i
                      · subst e e2; simp
                      · rw [if_neg (fun h => e2 h.2), if_pos e, if_pos e]; simp [e2]
                    · rw [if_neg (fun h => e h.1), if_neg e, if_neg e])
                  have M3 := Lib.hid hm3
                  have D3 := Lib.hid (D1.out.other (p := ⟨rg, i, none⟩) hdrg.symm (.bool true))
                  have B3 := B1.setCell (p := ⟨rg, i, none⟩) (M1.out.row j rg HG2.out).1.ge (.bool true)
                  clear hm3 M1 D1 B1
                  go_wp2
                  generalize W1.setCell ⟨rg, i, none⟩ (.bool true) = W3 at *
                  clear a0 a1 a2
                  go_loopw [103] (fun t wr => ∃ p : Nat, p ≤ i ∧ t = .int .i64 p ∧ Hid (MatB w.heap.size wr w.heap.size n hs (putR (hr l) j (stH l j i p))) ∧ Hid (Blk 0 wr d [.int .i64 k, .int .i64 a, .int .i64 ot, .int .i64 ce, .bool wt, .int .i64 lb]) ∧ Below w.heap.size w wr) (fun t _ => i - (intOf t).toNat)
                  case atStart => exact ⟨0, by omega, rfl, M3, D3, B3⟩
                  case round =>
                    clear M3 D3 B3
                    obtain ⟨p, hpi, rfl, M, D, hb⟩ := hrel
                    by_cases hlt3 : p < i
                    · have hpn : p < n := by omega
                      obtain ⟨gi, hgi⟩ : ∃ gi, hs[i]? = some gi := ⟨hs[i]'(by have := HG1.out; omega), List.getElem?_eq_getElem _⟩
                      have a0 := M.out.at_ HG2.out
                      have a1 := M.out.at_ hgi
                      have a2 := M.out.at2 HG2.out hpn
                      have a3 := M.out.at2 hgi hpn
                      have a4 := (M.out.row j rg HG2.out).1.fr p
                      have q1 : putR (hr l) j (stH l j i p) j p = stH l j i p p := by unfold putR; rw [if_pos rfl]
                      have q2 : putR (hr l) j (stH l j i p) i p = hr l i p := by unfold putR; rw [if_neg (by omega)]
                      rw [q1] at a2
                      rw [q2] at a3
                      have hp0 : (0 : Int) ≤ (p : Int) := by omega
                      have hp1 : (p : Int) < (n : Int) := by omega
                      have hm3 := (M.out.set HG2.out hpn (stH l j i p p || hr l i p)).congr (rows' := putR (hr l) j (stH l j i (p + 1))) (fun i' k' _ _ => by
                        unfold setR putR
                        by_cases e : i' = j
                        · by_cases e2 : k' = p
                          · subst e e2
                            rw [if_pos ⟨rfl, rfl⟩, if_pos rfl]
                            unfold stH
                            simp
                          · rw [if_neg (fun h => e2 h.2), if_pos e, if_pos e]
                            unfold stH
                            congr 2
                            exact decide_eq_decide.2 (by omega)
                        · rw [if_neg (fun h => e h.1), if_neg e, if_neg e])
                      have M3 := Lib.hid (hm3.drewN 1)
                      have D3 := Lib.hid ((D.out.other (p := ⟨rg, p, none⟩) hdrg.symm (.bool (stH l j i p p || hr l i p))).drewN 1)
                      have B3 := (hb.setCell (p := ⟨rg, p, none⟩) (M.out.row j rg HG2.out).1.ge (.bool (stH l j i p p || hr l i p))).drew
                      have hgr : gi ≠ rg := fun e => absurd (M.out.nd i j rg (by rw [hgi, e]) HG2.out) (by omega)
                      clear hm3 q1 q2 hgi M D hb
                      generalize stH l j i p p = x at *
                      generalize hr l i p = y at *
                      cases x
                      · cases y
                        · go_wp2
                          go_region
                          go_wp2
                          go_roundw
                          case rel => exact ⟨p + 1, by omega, by go_num, M3, D3, B3⟩
                          case measure => simp [intOf]; omega
                        · go_wp2
                          go_region
                          go_wp2
                          go_roundw
                          case rel => exact ⟨p + 1, by omega, by go_num, M3, D3, B3⟩
                          case measure => simp [intOf]; omega
                      · go_wp2
                        go_region
                        go_wp2
                        go_roundw
                        case rel => exact ⟨p + 1, by omega, by go_num, M3, D3, B3⟩
                        case measure => simp [intOf]; omega
                    · have hpe : p = i := by omega
                      subst hpe
                      have M4 := Lib.hid (M.out.congr (rows' := putR (hr l) j (upH l j p)) (fun i' k' _ _ => by
                        unfold putR
                        by_cases e : i' = j
                        · rw [if_pos e, if_pos e]; exact upH_yes (by omega) HO.out k'
                        · rw [if_neg e, if_neg e]))
                      clear M
                      go_wp2
                      go_roundw
                      case rel => exact ⟨p, by omega, rfl, M4, D, hb⟩
                      case measure => simp [intOf]
                · have hone0 : oneH ⟨k', a', ot', ce', wt', lb'⟩ ⟨k, a, ot, ce, wt, lb⟩ = false := by simpa using hone
                  have HO := Lib.hid (show oneH (evAt l i) (evAt l j) = false by rw [HE.out, HE'.out]; exact hone0)
                  rw [hone0]
                  clear hone hone0
                  have M4 := Lib.hid (M1.out.congr (rows' := putR (hr l) j (upH l j i)) (fun i' k' _ _ => by
                    unfold putR
                    by_cases e : i' = j
                    · rw [if_pos e, if_pos e]; exact upH_no HO.out k'
                    · rw [if_neg e, if_neg e]))
                  clear M1
                  go_wp2
                  go_roundw
                  case rel => exact ⟨i, by omega, rfl, M4, D1, B1⟩
                  case measure => simp [intOf]
            · have hka0 : kn a' = false := by simpa using hka'
              have HO := Lib.hid (show oneH (evAt l i) (evAt l j) = false by rw [HE'.out]; unfold oneH; simp [hka0])
              rw [hka0]
              clear hka' hka0 c0 c1 c2 c0' c1' c2' D5
              have M4 := Lib.hid (M1.out.congr (rows' := putR (hr l) j (upH l j i)) (fun i' k' _ _ => by
                unfold putR
                by_cases e : i' = j
                · rw [if_pos e, if_pos e]; exact upH_no HO.out k'
                · rw [if_neg e, if_neg e]))
              clear M1
              go_wp2
              go_roundw
              case rel => exact ⟨i, by omega, rfl, M4, D1, B1⟩
              case measure => simp [intOf]
          · have hi10 : i1 = 0 := by omega
            subst hi10
            have M4 := Lib.hid (M.out.congr (rows' := hr l) (fun i' k' _ _ => by
              unfold putR
              by_cases e : i' = j
              · rw [if_pos e, upH_all, e]
              · rw [if_neg e]))
            clear M
            go_wp2
            go_roundw
            case rel => exact ⟨j + 1, hs, by omega, by go_num, HG1.out, M4, hb⟩
            case measure => simp [intOf]; omega
      · have hka0 : kn a = false := by simpa using hka
        have M3 := Lib.hid (M2.out.congr (rows' := hr l) (fun i k _ _ => by
          unfold putR
          by_cases e : i = j
          · rw [if_pos e, e, hr_none (by rw [HE.out]; exact hka0)]
          · rw [if_neg e]))
        rw [hka0]
        clear hka hka0 c1 M2 D2
        go_wp2_with fail
        go_roundw
        case rel => exact ⟨j + 1, hs, by omega, by go_num, HG1.out, M3, hb2⟩
        case measure => simp [intOf]; omega
    · have hjn' : j = n := by omega
      subst hjn'
      clear hmk2
      have HGL := Lib.hid hgl
      clear hgl
      go_wp2
      go_ret
      exact ⟨_, gs, rfl, HGL.out, M.out, hb⟩
end Go.Proofs.Ytikjegfjgfhiaaa
