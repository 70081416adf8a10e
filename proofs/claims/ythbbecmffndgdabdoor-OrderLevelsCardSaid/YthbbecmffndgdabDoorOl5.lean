/- The walk of the reference's CChain. -/
import Derived.Test.YthbbecmffndgdabDoorOl3
import Derived.Test.YthbbecmffndgdabDoorOlSpec2
import Derived.Test.YthbbecmffndgdabDoorContE
namespace Go.Proofs.YthbbecmffndgdabDoor
open Go.RowKit
set_option linter.unusedVariables false
section
variable {n : Nat} {es : List (Nat × Nat)}
/-- may m be the k-th from the end? -/
def okK (n : Nat) (es : List (Nat × Nat)) (k m : Nat) : Prop := levE n es m + 1 + k = hgtE n es n ∧ (0 < k → (m, chC n es (k - 1)) ∈ es)
theorem okK_c (hl : (takeG n es).length = n) (hv : ∀ a b, (a, b) ∈ es → a < n ∧ b < n) (h0 : 0 < n) {k : Nat} (hk : k < hgtE n es n) : okK n es k (chC n es k) := by
  refine ⟨(chC_is hl hv h0 hk).2, fun hp => ?_⟩
  obtain ⟨j, rfl⟩ : ∃ j, k = j + 1 := ⟨k - 1, by omega⟩
  obtain ⟨h1, h2⟩ := chC_is hl hv h0 (k := j) (by omega)
  exact (preC_is hl hv h1 (by omega)).1.1
theorem okK_uniq (hl : (takeG n es).length = n) (hv : ∀ a b, (a, b) ∈ es → a < n ∧ b < n) (h0 : 0 < n) {k q : Nat} (hk : k < hgtE n es n) (h : okK n es k q) (hm : ∀ m, m < q → ¬ okK n es k m) : q = chC n es k := by
  have hc := okK_c hl hv h0 hk
  have hle : q ≤ chC n es k := by
    apply Nat.le_of_not_lt
    intro hlt
    exact hm _ hlt hc
  cases k with
  | zero =>
    refine topC_uniq h0 (by have := h.1; omega) (fun m hmq he => hm m hmq ⟨by omega, fun h => by omega⟩)
  | succ j =>
    obtain ⟨h1, h2⟩ := chC_is hl hv h0 (k := j) (by omega)
    have he := h.2 (by omega)
    have hp : isPre n es (chC n es j) q := ⟨he, by have := h.1; omega⟩
    have := preC_le hp
    have e : chC n es (j + 1) = preC n es (chC n es j) := rfl
    omega
theorem ce_contains (es : List (Nat × Nat)) (a b : Nat) : (es.map ceE).contains ((a : Int), (b : Int)) = decide ((a, b) ∈ es) := by
  rw [Bool.eq_iff_iff, List.contains_iff_mem, decide_eq_true_eq, List.mem_map]
  constructor
  · rintro ⟨⟨c, d⟩, h, e⟩
    unfold ceE at e
    injection e with e1 e2
    simp only at e1 e2
    have h1 : c = a := by omega
    have h2 : d = b := by omega
    rw [← h1, ← h2]; exact h
  · intro h
    exact ⟨(a, b), h, rfl⟩
/-- the way so far, from its start on -/
def upL (n : Nat) (es : List (Nat × Nat)) (k : Nat) : List Int := castL (chL n es k).reverse
theorem upL_len (k : Nat) : (upL n es k).length = k := by unfold upL; rw [castL_len, List.length_reverse, chL_len]
theorem upL_succ (k : Nat) : upL n es (k + 1) = [(chC n es k : Int)] ++ upL n es k := by
  unfold upL
  rw [chL_succ, List.reverse_append]; rfl
theorem upL_head {k : Nat} (h : 0 < (upL n es k).length) : (upL n es k)[0] = (chC n es (k - 1) : Int) := by
  rw [upL_len] at h
  obtain ⟨j, rfl⟩ : ∃ j, k = j + 1 := ⟨k - 1, by omega⟩
  simp only [upL_succ]
  simp
end
set_option maxHeartbeats 1600000 in
set_option maxRecDepth 100000 in
theorem cchain_any (N : Int) (hNi : inI N) (ps : List (Int × Int)) (w : World) (S : Blocks) (ve : Value) (hS : Sub S (Upto w.heap.size)) (r : RdP w S ps ve) :
    Calls Tryd.prog 21 #[.agg #[.int .i64 N, ve]] w fun e w' => ∃ x, e = .returned (.tuple #[x, .int .i64 (wrongE N ps)]) ∧
      RdI w' (Plus Nowhere w.heap.size w'.heap.size) (if wrongE N ps = 0 then castL (chainE N.toNat (natsP ps)) else []) x ∧ Below w.heap.size w w' := by
  obtain ⟨A, cap, rfl, hl, hcm, hby⟩ := r.form
  unfold maxLen at hcm
  obtain ⟨i0, hi, hz0, hz1, hz2⟩ := info_parts infoCl
  have b0 := Blk.made w [.int .i64 N, .slice A ps.length cap] 24 (base := 0) (Nat.zero_le _)
  have bl : Below w.heap.size w (w.alloc (.cells #[.int .i64 N, .slice A ps.length cap] 24)) := (Below.refl _ _).alloc (Nat.le_refl _) _
  have hsz0 : w.heap.size ≤ ((w.alloc (.cells #[.int .i64 N, .slice A ps.length cap] 24))).heap.size := by rw [World.size_alloc]; omega
  have hsz1 : w.heap.size < ((w.alloc (.cells #[.int .i64 N, .slice A ps.length cap] 24))).heap.size := by rw [World.size_alloc]; omega
  have k0 := b0.cell 0 _ rfl
  have k1 := b0.cell 1 _ rfl
  have HB0 := Lib.hid b0
  have BL := Lib.hid bl
  have HS := Lib.hid hS
  have RA := Lib.hid (r.go Flat.keeps bl hS (Sub.refl _))
  have C1 := Lib.hid (clevels_any N hNi ps (w.alloc (.cells #[.int .i64 N, .slice A ps.length cap] 24)) S _ (hS.trans (Sub.upto hsz0)) (r.go Flat.keeps bl hS (Sub.refl _)))
  clear b0 bl r hS
  go_enter Tryd.func21, Tryd.ntmps21
  go_upto_region 1 with (fail)
  generalize (w.alloc (.cells #[.int .i64 N, .slice A ps.length cap] 24)) = W0 at *
  go_wp2_with fail
  refine C1.out.mono ?_
  rintro e w1 ⟨x, rfl, hso, hsn, hb1⟩
  have BL1 := Lib.hid (BL.out.trans (hb1.mono BL.out.size))
  have HB1 := Lib.hid (HB0.out.below hb1)
  have R1 := Lib.hid (RA.out.go Flat.keeps hb1 (HS.out.trans (Sub.upto BL.out.size)) (Sub.refl _))
  have hw01 := hb1.size
  have HSO := Lib.hid hso
  have HSN := Lib.hid hsn
  have C2 := Lib.hid (cheight_any N hNi ps w1 S _ (HS.out.trans (Sub.upto BL1.out.size)) R1.out)
  clear C1 BL HB0 hb1 k0 k1 hsz0 RA hso hsn
  have k0 := HB1.out.cell 0 _ rfl
  have k1 := HB1.out.cell 1 _ rfl
  go_wp2_with fail
  refine C2.out.mono ?_
  rintro e w2 ⟨rfl, hb2⟩
  have BL2 := Lib.hid (BL1.out.trans (hb2.mono BL1.out.size))
  have HB2 := Lib.hid (HB1.out.below hb2)
  have R2 := Lib.hid (R1.out.go Flat.keeps hb2 (HS.out.trans (Sub.upto BL1.out.size)) (Sub.refl _))
  have HX2 := Lib.hid hb2
  have hw12 := hb2.size
  clear C2 hb2 k0 k1 R1 HB1
  by_cases hw : wrongE N ps = 0
  · skip
    obtain ⟨hn0, hn2, hgd, hrd⟩ := wrongE_zero hw
    obtain ⟨hps, hval⟩ := good_ps hgd
    obtain ⟨n, hnn⟩ : ∃ n : Nat, N = (n : Int) := ⟨N.toNat, by omega⟩
    subst hnn
    obtain ⟨g, rfl, hM⟩ := HSO.out hw
    have hHW : hgtW (n : Int) ps = hgtE n (natsP ps) n := by unfold hgtW; rw [if_neg (by simp [hw]), Int.toNat_natCast]
    rw [Int.toNat_natCast] at hval hrd hM ⊢
    obtain ⟨es, hes⟩ : ∃ es, es = natsP ps := ⟨_, rfl⟩
    have hel : ps.length = es.length := by rw [hes, natsP_len]
    rw [← hes] at hps hval hrd hM hHW
    rw [← hps, List.length_map] at R2
    rw [hel] at hl hby HB2 ⊢
    have hn200 : n ≤ 200 := by omega
    have HFU := Lib.hid (round_full hval hrd)
    have HV := Lib.hid hval
    have HES := Lib.hid hes
    have HW0 := Lib.hid hw
    have M2 := Lib.hid (hM.below HX2.out)
    obtain ⟨H, hH⟩ : ∃ H, H = hgtE n es n := ⟨_, rfl⟩
    rw [hHW, ← hH]
    rw [hw]
    have hH201 : H ≤ 201 := by
      rcases Nat.eq_zero_or_pos n with h0 | h0
      · subst h0; rw [hH]; unfold hgtE; omega
      · obtain ⟨m', _, e⟩ := hgt_at (N := n) (es := es) (k := n) h0
        have := levE_le n es m'
        omega
    have HN0 := Lib.hid (show 0 < H → 0 < n from fun h => by
      rcases Nat.eq_zero_or_pos n with h0 | h0
      · subst h0; rw [hH] at h; unfold hgtE at h; omega
      · exact h0)
    have HHH := Lib.hid hH
    have hSz := Lib.hid (show Sub S (Upto w2.heap.size) from HS.out.trans (Sub.upto BL2.out.size))
    obtain ⟨W2, hW2⟩ : ∃ W2 : World, W2 = w2 := ⟨_, rfl⟩
    subst hW2
    have hwW : w.heap.size ≤ W2.heap.size := BL2.out.size
    have OO := Lib.hid (show OwnI 3 W2 W2.heap.size Nowhere (upL n es 0) (.slice none 0 0) from OwnL.nil _ _ _)
    clear hw hgd hrd hps hval hes hel hn0 hn2 HSO HSN hM hHW hH HX2 BL1
    go_wp2
    go_loopw [8, 9] (fun s t wr => ∃ k : Nat, k ≤ H ∧ t = .int .i64 ((H : Int) - 1 - k) ∧ Hid (OwnI 3 wr W2.heap.size Nowhere (upL n es k) s) ∧ Hid (Below W2.heap.size W2 wr)) (fun _ t _ => (intOf t + 1).toNat)
    case atStart => exact ⟨0, by omega, by congr 1; omega, OO, Lib.hid (Below.refl _ _)⟩
    case round =>
      clear OO
      obtain ⟨k, hk, rfl, O, HB⟩ := hrel
      obtain ⟨Ao, co, rfl⟩ := O.out.form
      rw [upL_len] at O ⊢
      obtain ⟨W3, hW3⟩ : ∃ W3 : World, W3 = wr := ⟨_, rfl⟩
      subst hW3
      by_cases hkH : k < H
      · skip
        obtain ⟨wn, hwn⟩ : ∃ wn : Nat, (wn : Int) = (H : Int) - 1 - k := ⟨H - 1 - k, by omega⟩
        rw [← hwn]
        have HWN := Lib.hid hwn
        have h0 := HN0.out (by omega)
        have HC0 := Lib.hid (okK_c HFU.out HV.out h0 (k := k) (by rw [← HHH.out]; exact hkH))
        have HCN := Lib.hid (chC_is HFU.out HV.out h0 (k := k) (by rw [← HHH.out]; exact hkH)).1
        have HUQ := Lib.hid (fun q h1 h2 => okK_uniq HFU.out HV.out h0 (k := k) (q := q) (by rw [← HHH.out]; exact hkH) h1 h2)
        have hwnb : wn ≤ 200 := by omega
        have hwn0 : (0 : Int) ≤ (wn : Int) := by omega
        clear hwn
        go_wp2
        go_loopw [8, 30] (fun s t wr => ∃ q : Nat, q ≤ n ∧ t = .int .i64 q ∧ s = .slice Ao k co ∧ Hid (∀ m, m < q → ¬ okK n es k m) ∧ Hid (Below W3.heap.size W3 wr)) (fun _ t _ => n - (intOf t).toNat)
        case atStart => exact ⟨0, by omega, rfl, rfl, Lib.hid (fun m h => absurd h (by omega)), Lib.hid (Below.refl _ _)⟩
        case round =>
          obtain ⟨q, hq, rfl, rfl, HNO, HX⟩ := hrel
          by_cases hlt : q < n
          · skip
            have HX1 := Lib.hid (HB.out.trans (HX.out.mono HB.out.size))
            have M4 := Lib.hid (M2.out.below HX1.out)
            have O4 := Lib.hid (O.out.keep Flat.keeps HX.out)
            have HB4 := Lib.hid (HB2.out.below HX1.out)
            have R4 := Lib.hid (R2.out.go Flat.keeps HX1.out hSz.out (Sub.refl _))
            have m0 := M4.out.atN hlt
            have k0 := HB4.out.cell 0 _ rfl
            have k1 := HB4.out.cell 1 _ rfl
            obtain ⟨v, hv⟩ : ∃ v, v = levE n es q := ⟨_, rfl⟩
            rw [← hv] at m0
            have hvb : v ≤ 200 := by rw [hv]; have := levE_le n es q; omega
            have HVV := Lib.hid hv
            have HNS := Lib.hid (show ¬ okK n es k q → ∀ m, m < q + 1 → ¬ okK n es k m from fun h m hm => by
              by_cases e : m = q
              · subst e; exact h
              · exact HNO.out m (by omega))
            clear hv
            by_cases hlv : v = wn
            · skip
              subst hlv
              have hb1 : ((v : Int) == (v : Int)) = true := by simp
              rcases Nat.eq_zero_or_pos k with hk0 | hk0
              · skip
                subst hk0
                have HQC := Lib.hid (HUQ.out q ⟨by have := HWN.out; have := HVV.out; have := HHH.out; omega, fun h => by omega⟩ HNO.out)
                obtain ⟨V, hVV⟩ : ∃ V : World, V = wr := ⟨_, rfl⟩
                subst hVV
                have HXV := HX
                have HAP := Lib.hid (show [(q : Int)] ++ upL n es 0 = upL n es (0 + 1) by rw [upL_succ, ← HQC.out])
                have bo := (Below.refl V.heap.size V).alloc (Nat.le_refl _) (.cells #[.int .i64 (q : Int)] 3)
                have HV1 := Lib.hid (HB.out.trans (HXV.out.mono HB.out.size))
                have hVs : W2.heap.size ≤ V.heap.size := HV1.out.size
                have OW := Lib.hid (show OwnI 3 (V.alloc (.cells #[.int .i64 (q : Int)] 3)) W2.heap.size Nowhere [(q : Int)] (.slice (some ⟨V.heap.size, 0, none⟩) 1 1) from
                  OwnL.made (f := fun (x : Int) => Value.int .i64 x) (ok := inI) (E := 3) (S := Nowhere) (w := V) (base := W2.heap.size) (n := 1) (q : Int) (by unfold inI; omega) hVs (by unfold maxLen; omega))
                have hku := upL_len (n := n) (es := es) 0
                have RDm := Lib.hid (((O.out.toRd (bytes := 8) (S' := Plus Nowhere W2.heap.size W3.heap.size) Flat.keeps (by omega) (Sub.nowhere _) (fun b h1 h2 => .inr ⟨h1, h2⟩)).go Flat.keeps HXV.out plus_upto (Sub.refl _)).go Flat.keeps bo (plus_upto.trans (Sub.upto HXV.out.size)) (Sub.refl _))
                have HKU := Lib.hid hku
                have BO := Lib.hid (HV1.out.alloc hVs (.cells #[.int .i64 (q : Int)] 3))
                have hV2 : W2.heap.size ≤ (V.alloc (.cells #[.int .i64 (q : Int)] 3)).heap.size := by rw [World.size_alloc]; omega
                clear bo hku HNS HUQ
                go_wp2_with (at_builtin; refine wpList_append_list rfl _ _ 30 rfl i0 _ Tryd.underlying30 hi hz0 hz1 hz2 rfl (by decide) Flat.keeps OW.out (RDm.out.bare Nowhere) rfl rfl (Sub.nowhere _) (Sub.nowhere _) not_nowhere oneI ?c3 ?c4 ?c5 ?_)
                case c3 => rw [HKU.out]; simp only [List.length_cons, List.length_nil]; unfold maxLen; omega
                case c4 => rw [HKU.out]; simp only [List.length_cons, List.length_nil]; omega
                try (case c5 => exact hV2)
                intro v3 w3 ho3 hg3 hk3
                have ho4 : OwnI 3 w3 W2.heap.size Nowhere (upL n es (0 + 1)) v3 := by rw [← HAP.out]; exact ho3
                have HO3 := Lib.hid ho4
                have HB3 := Lib.hid (BO.out.grown hg3 hV2 (fun j hj => (OW.out.lt j hj).1))
                clear ho3 ho4 hg3 hk3 OW RDm BO
                go_wp2_with fail
                go_roundw
                case rel => exact ⟨0 + 1, by omega, by have := HWN.out; congr 1; omega, HO3, HB3⟩
                case measure => simp [intOf] <;> omega
              · skip
                have hkl : 0 < (upL n es k).length := by rw [upL_len]; exact hk0
                obtain ⟨go, co', hv, _, hgo, _, _, _, hce⟩ := OwnI.open_ O4.out hkl
                injection hv with hA hn9 hcc
                clear hn9
                subst hA hcc
                have c0 := (hce 0 hkl).2
                rw [upL_head] at c0
                obtain ⟨p, hp⟩ : ∃ p, p = chC n es (k - 1) := ⟨_, rfl⟩
                rw [← hp] at c0
                have HPP := Lib.hid hp
                have hki : (0 : Int) < (k : Int) := by omega
                have hzw : w.heap.size < wr.heap.size := HB4.out.lt
                clear hce hp hkl
                go_upto_region 12 with (fail)
                obtain ⟨V, hVV⟩ : ∃ V : World, V = wr := ⟨_, rfl⟩
                subst hVV
                have HWP := Lib.hid (fun w' h => Stay.size h : ∀ w', Stay V w' → V.heap.size ≤ w'.heap.size)
                have hSV := Lib.hid (show Sub S (Upto V.heap.size) from hSz.out.trans (Sub.upto HX1.out.size))
                go_region_held3 (fun w' => Stay V w') (first | assumption | exact Stay.mk (Kept.start _) | ((refine Stay.mk ?_; (repeat (with_reducible first | refine Kept.set ?_ (by omega) _ | refine Kept.drew ?_ | refine Kept.alloc ?_ _)); first | exact Kept.refl _ | assumption)))
                  (first
                    | ((go_at_call 42; refine (containsE (es.map ceE) (q : Int) (p : Int) _ S _ (hSV.out.trans (Sub.upto (HWP.out _ (by assumption)))) (R4.out.go Flat.keeps (Stay.below (by assumption)) hSV.out (Sub.refl _))).mono ?_; rintro e wa ⟨rfl, hb1⟩; have hst1 : Stay V wa := Stay.step hb1 (by assumption); have hk1 : Kept V wa := Kept.here hst1)))
                have HXV := Lib.hid (HX.out.trans (hst1.below.mono HX.out.size))
                have HCE := Lib.hid (show decide (((q : Int), (p : Int)) ∈ es.map ceE) = decide ((q, p) ∈ es) from by rw [← ce_contains, Bool.eq_iff_iff, List.contains_iff_mem, decide_eq_true_eq])
                rw [HCE.out]
                clear hb1 hst1 hk1 HWP c0 k0 k1 m0 hki
                by_cases hmem : (q, p) ∈ es
                · have HQC := Lib.hid (HUQ.out q ⟨by have := HWN.out; have := HVV.out; have := HHH.out; omega, fun _ => by rw [← HPP.out]; exact hmem⟩ HNO.out)
                  rw [decide_eq_true hmem]
                  clear hmem
                  have HAP := Lib.hid (show [(q : Int)] ++ upL n es k = upL n es (k + 1) by rw [upL_succ, ← HQC.out])
                  have bo := (Below.refl wa.heap.size wa).alloc (Nat.le_refl _) (.cells #[.int .i64 (q : Int)] 3)
                  have HV1 := Lib.hid (HB.out.trans (HXV.out.mono HB.out.size))
                  have hVs : W2.heap.size ≤ wa.heap.size := HV1.out.size
                  have OW := Lib.hid (show OwnI 3 (wa.alloc (.cells #[.int .i64 (q : Int)] 3)) W2.heap.size Nowhere [(q : Int)] (.slice (some ⟨wa.heap.size, 0, none⟩) 1 1) from
                    OwnL.made (f := fun (x : Int) => Value.int .i64 x) (ok := inI) (E := 3) (S := Nowhere) (w := wa) (base := W2.heap.size) (n := 1) (q : Int) (by unfold inI; omega) hVs (by unfold maxLen; omega))
                  have hku := upL_len (n := n) (es := es) k
                  have RDm := Lib.hid (((O.out.toRd (bytes := 8) (S' := Plus Nowhere W2.heap.size W3.heap.size) Flat.keeps (by omega) (Sub.nowhere _) (fun b h1 h2 => .inr ⟨h1, h2⟩)).go Flat.keeps HXV.out plus_upto (Sub.refl _)).go Flat.keeps bo (plus_upto.trans (Sub.upto HXV.out.size)) (Sub.refl _))
                  have HKU := Lib.hid hku
                  have BO := Lib.hid (HV1.out.alloc hVs (.cells #[.int .i64 (q : Int)] 3))
                  have hV2 : W2.heap.size ≤ (wa.alloc (.cells #[.int .i64 (q : Int)] 3)).heap.size := by rw [World.size_alloc]; omega
                  clear bo hku HNS HUQ
                  go_wp2_with (at_builtin; refine wpList_append_list rfl _ _ 30 rfl i0 _ Tryd.underlying30 hi hz0 hz1 hz2 rfl (by decide) Flat.keeps OW.out (RDm.out.bare Nowhere) rfl rfl (Sub.nowhere _) (Sub.nowhere _) not_nowhere oneI ?c3 ?c4 ?c5 ?_)
                  case c3 => rw [HKU.out]; simp only [List.length_cons, List.length_nil]; unfold maxLen; omega
                  case c4 => rw [HKU.out]; simp only [List.length_cons, List.length_nil]; omega
                  try (case c5 => exact hV2)
                  intro v3 w3 ho3 hg3 hk3
                  have ho4 : OwnI 3 w3 W2.heap.size Nowhere (upL n es (k + 1)) v3 := by rw [← HAP.out]; exact ho3
                  have HO3 := Lib.hid ho4
                  have HB3 := Lib.hid (BO.out.grown hg3 hV2 (fun j hj => (OW.out.lt j hj).1))
                  clear ho3 ho4 hg3 hk3 OW RDm BO
                  go_wp2_with fail
                  go_roundw
                  case rel => exact ⟨k + 1, by omega, by have := HWN.out; congr 1; omega, HO3, HB3⟩
                  case measure => simp [intOf] <;> omega
                · have HN2 := Lib.hid (HNS.out (fun h => hmem (by rw [HPP.out]; exact h.2 hk0)))
                  rw [decide_eq_false hmem]
                  clear hmem HNS HUQ
                  go_wp2_with fail
                  go_roundw
                  case rel => exact ⟨q + 1, by omega, by go_num, rfl, HN2, HXV⟩
                  case measure => simp [intOf] <;> omega
            · skip
              have hvi : ¬ (v : Int) = (wn : Int) := by omega
              have hb1 : ((v : Int) == (wn : Int)) = false := by simp [hvi]
              have HN2 := Lib.hid (HNS.out (fun h => by have := h.1; have := HVV.out; have := HWN.out; have := HHH.out; omega))
              clear HNS HUQ
              rcases Nat.eq_zero_or_pos k with hk0 | hk0
              · subst hk0
                go_wp2_with fail
                go_roundw
                case rel => exact ⟨q + 1, by omega, by go_num, rfl, HN2, HX⟩
                case measure => simp [intOf] <;> omega
              · have hki : (0 : Int) < (k : Int) := by omega
                have HX3 := Lib.hid (show Below W3.heap.size W3 wr.drew from HX.out.drew)
                go_wp2
                go_region
                all_goals
                  go_wp2_with fail
                  go_roundw
                  case rel => exact ⟨q + 1, by omega, by go_num, rfl, HN2, HX3⟩
                  case measure => simp [intOf] <;> omega
          · skip
            exact absurd HC0.out (HNO.out _ (by have := HCN.out; omega))
      · skip
        have hke : k = H := by omega
        have hneg : ¬ (0 : Int) ≤ (H : Int) - 1 - k := by omega
        have HEQ := Lib.hid (show upL n es k = castL (chainE n (natsP ps)) by rw [← HES.out, hke, HHH.out]; rfl)
        have HR5 := Lib.hid (O.out.toRd (bytes := 8) (S' := Plus Nowhere w.heap.size W3.heap.size) Flat.keeps (by rw [upL_len]; omega) (Sub.nowhere _) (fun b h1 h2 => .inr ⟨Nat.le_trans hwW h1, h2⟩))
        rw [HEQ.out] at HR5
        have BZ := Lib.hid (BL2.out.trans (HB.out.mono BL2.out.size))
        clear O HB hke
        go_wp2
        go_ret2
        exact ⟨_, rfl, HR5.out, BZ.out⟩
  · have HW := Lib.hid hw
    have hx9 := HSN.out hw
    subst hx9
    have hHW : hgtW N ps = 0 := by unfold hgtW; rw [if_pos hw]
    rw [hHW]
    clear HSO HSN hHW
    obtain ⟨W2, hW2⟩ : ∃ W2 : World, W2 = w2 := ⟨_, rfl⟩
    subst hW2
    go_wp2
    go_loopw [8, 9] (fun s t wr => s = .slice none 0 0 ∧ t = .int .i64 (-1) ∧ W2 = wr) (fun _ _ _ => 0)
    case atStart => exact ⟨rfl, rfl, rfl⟩
    case round =>
      obtain ⟨rfl, rfl, rfl⟩ := hrel
      go_wp2
      go_ret2
      exact ⟨_, rfl, RdL.nil (by unfold maxLen; omega), BL2.out⟩
end Go.Proofs.YthbbecmffndgdabDoor
