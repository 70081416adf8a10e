/- The walk of the reference's BSort. -/
import Derived.Test.YthcafocpifjopaaDoorGr4
import Derived.Test.YthcafocpifjopaaDoorGr6
import Derived.Test.YthcafocpifjopaaDoorIntA
namespace Go.Proofs.YthcafocpifjopaaDoor
open Go.RowKit
set_option linter.unusedVariables false
theorem infoBs9 : (Tryd.prog.info? 3).map (fun i => (i.zero, i.size, i.bytes)) = some (some (.int .i64 0), 1, 8) := by kernel_rfl
theorem castL_has (l : List Nat) (n : Nat) : (castL l).contains (n : Int) = l.contains n := by
  unfold castL
  rw [Bool.eq_iff_iff, List.contains_iff_mem, List.contains_iff_mem, List.mem_map]
  constructor
  · rintro ⟨m, hm, e⟩
    have : m = n := by omega
    rw [← this]; exact hm
  · intro h; exact ⟨n, h, rfl⟩
theorem castL_snoc (l : List Nat) (n : Nat) : castL (l ++ [n]) = castL l ++ [(n : Int)] := by unfold castL; rw [List.map_append]; rfl
/-- the first q edges let n come behind out -/
def rdQ (es : List (Nat × Nat)) (out : List Nat) (n q : Nat) : Bool := !out.contains n && (es.take q).all fun e => decide (e.2 ≠ n) || out.contains e.1
theorem rdQ_zero (es : List (Nat × Nat)) (out : List Nat) (n : Nat) : rdQ es out n 0 = !out.contains n := by simp [rdQ]
theorem rdQ_succ {es : List (Nat × Nat)} (out : List Nat) (n : Nat) {q : Nat} (h : q < es.length) : rdQ es out n (q + 1) = (rdQ es out n q && (decide (es[q].2 ≠ n) || out.contains es[q].1)) := by
  unfold rdQ
  rw [List.take_succ_eq_append_getElem h, List.all_append, Bool.and_assoc]
  simp
theorem rdQ_all (es : List (Nat × Nat)) (out : List Nat) (n : Nat) : rdQ es out n es.length = rdyE es out n := by
  unfold rdQ
  rw [List.take_length, Bool.eq_iff_iff, rdyE_iff, Bool.and_eq_true, List.all_eq_true]
  constructor
  · rintro ⟨h1, h2⟩
    refine ⟨by simpa using h1, fun a ha => ?_⟩
    have := h2 (a, n) ha
    simpa using this
  · rintro ⟨h1, h2⟩
    refine ⟨by simpa using h1, fun e he => ?_⟩
    by_cases e2 : e.2 = n
    · have := h2 e.1 (by rw [← e2]; exact he)
      simp [this]
    · simp [e2]
def lenS : Value → Nat
  | .slice _ n _ => n
  | _ => 0
set_option maxHeartbeats 1600000 in
set_option maxRecDepth 100000 in
theorem bsort_any (N : Int) (hNi : inI N) (ps : List (Int × Int)) (w : World) (S : Blocks) (ve : Value) (hS : Sub S (Upto w.heap.size)) (r : RdP w S ps ve) :
    Calls Tryd.prog 12 #[.agg #[.int .i64 N, ve]] w fun e w' => ∃ x, e = .returned (.tuple #[x, .int .i64 (wrongE N ps)]) ∧
      RdI w' (Plus Nowhere w.heap.size w'.heap.size) (if wrongE N ps = 0 then castL (takeG N.toNat (natsP ps)) else []) x ∧ Below w.heap.size w w' := by
  obtain ⟨A, cap, rfl, hl, hcm, hby⟩ := r.form
  unfold maxLen at hcm
  obtain ⟨i0, hi, hz0, hz1, hz2⟩ := info_parts infoBs9
  have b0 := Blk.made w [.int .i64 N, .slice A ps.length cap] 32 (base := 0) (Nat.zero_le _)
  have bl : Below w.heap.size w (w.alloc (.cells #[.int .i64 N, .slice A ps.length cap] 32)) := (Below.refl _ _).alloc (Nat.le_refl _) _
  have hsz0 : w.heap.size ≤ ((w.alloc (.cells #[.int .i64 N, .slice A ps.length cap] 32))).heap.size := by rw [World.size_alloc]; omega
  have k0 := b0.cell 0 _ rfl
  have k1 := b0.cell 1 _ rfl
  have HB0 := Lib.hid b0
  have BL := Lib.hid bl
  have HS := Lib.hid hS
  have RA := Lib.hid (r.go Flat.keeps bl hS (Sub.refl _))
  have C1 := Lib.hid (bwrong_any N hNi ps (w.alloc (.cells #[.int .i64 N, .slice A ps.length cap] 32)) S _ (hS.trans (Sub.upto hsz0)) (r.go Flat.keeps bl hS (Sub.refl _)))
  clear b0 bl r hS
  go_enter Tryd.func12, Tryd.ntmps12
  go_upto_region 1 with (fail)
  generalize (w.alloc (.cells #[.int .i64 N, .slice A ps.length cap] 32)) = W0 at *
  go_wp2_with fail
  refine C1.out.mono ?_
  rintro e w1 ⟨rfl, hb1⟩
  have BL1 := Lib.hid (BL.out.trans (hb1.mono BL.out.size))
  have HB1 := Lib.hid (HB0.out.below hb1)
  have R1 := Lib.hid (RA.out.go Flat.keeps hb1 (HS.out.trans (Sub.upto BL.out.size)) (Sub.refl _))
  clear C1 BL HB0 hb1 k0 k1 hsz0 RA
  by_cases hw : wrongE N ps = 0
  · skip
    obtain ⟨hn0, hn2, hgd, hrd⟩ := wrongE_zero hw
    obtain ⟨hps, hval⟩ := good_ps hgd
    obtain ⟨n, hnn⟩ : ∃ n : Nat, N = (n : Int) := ⟨N.toNat, by omega⟩
    subst hnn
    rw [Int.toNat_natCast] at hval hrd
    obtain ⟨es, hes⟩ : ∃ es, es = natsP ps := ⟨_, rfl⟩
    have hel : ps.length = es.length := by rw [hes, natsP_len]
    rw [← hes] at hps hval hrd
    rw [← hps, List.length_map] at R1
    rw [hel] at hl hby HB1 ⊢
    have hn200 : n ≤ 200 := by omega
    have HFU := Lib.hid (round_full hval hrd)
    have HV := Lib.hid hval
    have HES := Lib.hid hes
    have HW0 := Lib.hid hw
    rw [hw]
    have hw1 := BL1.out.size
    have hSz := Lib.hid (show Sub S (Upto w1.heap.size) from HS.out.trans (Sub.upto hw1))
    clear hw hgd hrd hps hval hes hel hn0 hn2
    obtain ⟨W1, hW1⟩ : ∃ W1 : World, W1 = w1 := ⟨_, rfl⟩
    subst hW1
    have OO := Lib.hid (show OwnI 3 W1 W1.heap.size Nowhere (castL []) (.slice none 0 0) from OwnL.nil _ _ _)
    go_wp2
    go_loopw [5] (fun o wr => ∃ (out : List Nat), Hid (GO n es out) ∧ Hid (takeL n es (n - out.length) out = takeG n es) ∧ Hid (OwnI 3 wr W1.heap.size Nowhere (castL out) o) ∧ Hid (Below W1.heap.size W1 wr)) (fun o _ => n - lenS o)
    case atStart => exact ⟨[], Lib.hid (GO.nil _ _), Lib.hid rfl, OO, Lib.hid (Below.refl _ _)⟩
    case round =>
      clear OO
      obtain ⟨W2, hW2⟩ : ∃ W2 : World, W2 = wr := ⟨_, rfl⟩
      subst hW2
      obtain ⟨out, HG, HTK, O, HB⟩ := hrel
      obtain ⟨Ao, co, rfl⟩ := O.out.form
      have hol := HG.out.len
      rw [castL_len] at O ⊢
      have HB2 := Lib.hid (HB1.out.below HB.out)
      have k0 := HB2.out.cell 0 _ rfl
      have k1 := HB2.out.cell 1 _ rfl
      by_cases hlt : out.length < n
      · skip
        have HEX := Lib.hid (show leastE n es out ≠ none from fun h => by
          have h1 := takeL_none h (n - out.length)
          rw [HTK.out] at h1
          have h2 := HFU.out
          rw [h1] at h2
          omega)
        have hni : (out.length : Int) < (n : Int) := by omega
        go_wp2
        go_loopw [5, 22] (fun o t wr => ∃ q : Nat, q ≤ n ∧ t = .int .i64 q ∧ o = .slice Ao out.length co ∧ Hid (∀ m, m < q → rdyE es out m = false) ∧ Hid (Below W2.heap.size W2 wr)) (fun _ t _ => n - (intOf t).toNat)
        case atStart => exact ⟨0, by omega, rfl, rfl, Lib.hid (fun m h => absurd h (by omega)), Lib.hid (Below.refl _ _)⟩
        case round =>
          clear k0 k1
          obtain ⟨q, hq, rfl, rfl, HNO, HX⟩ := hrel
          obtain ⟨W3, hW3⟩ : ∃ W3 : World, W3 = wr := ⟨_, rfl⟩
          subst hW3
          have HX1 := Lib.hid (HB.out.trans (HX.out.mono HB.out.size))
          have HB3 := Lib.hid (HB1.out.below HX1.out)
          have k0 := HB3.out.cell 0 _ rfl
          have k1 := HB3.out.cell 1 _ rfl
          by_cases hltq : q < n
          · skip
            have O3 := Lib.hid (O.out.keep Flat.keeps HX.out)
            have HRI := Lib.hid (O3.out.toRd (bytes := 8) (S' := Plus Nowhere W1.heap.size W3.heap.size) Flat.keeps (by rw [castL_len]; omega) (Sub.nowhere _) (fun b h1 h2 => .inr ⟨h1, h2⟩))
            have HC := Lib.hid (containsI (castL out) (q : Int) W3 _ _ HRI.out)
            have R3 := Lib.hid (R1.out.go Flat.keeps HX1.out hSz.out (Sub.refl _))
            have hz1 := HX1.out.size
            go_wp2_with fail
            refine HC.out.mono ?_
            rintro e w' ⟨rfl, rfl⟩
            rw [castL_has, show out.contains q = !(rdQ es out q 0) by rw [rdQ_zero, Bool.not_not]]
            clear HC
            go_wp2
            go_loopw [7, 32] (fun x t wr => ∃ k : Nat, k ≤ es.length ∧ t = .int .i64 k ∧ x = .bool (rdQ es out q k) ∧ Hid (Below W3.heap.size W3 wr)) (fun _ t _ => es.length - (intOf t).toNat)
            case atStart => exact ⟨0, by omega, rfl, by simp, Lib.hid (Below.refl _ _)⟩
            case round =>
              clear k0 k1
              obtain ⟨k, hk, rfl, rfl, HY⟩ := hrel
              by_cases hltk : k < es.length
              · skip
                have hlt2 : k < (es.map ceE).length := by rw [List.length_map]; exact hltk
                obtain ⟨bb, off, rfl, hbS, hok, hc1, hc2⟩ := RdP.at1 (R3.out.go Flat.keeps HY.out (hSz.out.trans (Sub.upto hz1)) (Sub.refl _)) hlt2
                obtain ⟨a, b, hab⟩ : ∃ a b, es[k] = (a, b) := ⟨_, _, rfl⟩
                have hce : (es.map ceE)[k] = ((a : Int), (b : Int)) := by rw [List.getElem_map, hab]; rfl
                rw [hce] at hc1 hc2
                have HOK := Lib.hid (show rdQ es out q (k + 1) = (rdQ es out q k && (decide (b ≠ q) || out.contains a)) by rw [rdQ_succ out q hltk, hab])
                simp only at hc1 hc2
                clear hok hab hlt2 hce
                have hbx := (Below.refl wr.heap.size wr).alloc (Nat.le_refl _) (.cells #[.int .i64 (a : Int), .int .i64 (b : Int)] 53)
                have E1 := Lib.hid (Blk.made wr [.int .i64 (a : Int), .int .i64 (b : Int)] 53 (base := 0) (Nat.zero_le _))
                have HY2 := Lib.hid (HY.out.trans (hbx.mono HY.out.size))
                clear hbx
                go_upto_region 13 with (fail)
                generalize wr.alloc (.cells #[.int .i64 (a : Int), .int .i64 (b : Int)] 53) = W4 at *
                clear hc1 hc2
                have e0 := E1.out.cell 0 _ rfl
                have e1 := E1.out.cell 1 _ rfl
                cases hx : rdQ es out q k with
                | false =>
                  have HO2 := Lib.hid (show rdQ es out q (k + 1) = false by rw [HOK.out, hx]; rfl)
                  clear hx HOK
                  go_wp2
                  go_roundw
                  case rel => exact ⟨k + 1, by omega, by go_num, by rw [HO2.out], HY2⟩
                  case measure => simp [intOf]; omega
                | true =>
                  by_cases hbq : b = q
                  · subst hbq
                    have HC2 := Lib.hid (containsI (castL out) (a : Int) W4 _ _ (HRI.out.go Flat.keeps HY2.out plus_upto (Sub.refl _)))
                    have HO2 := Lib.hid (show rdQ es out b (k + 1) = out.contains a by rw [HOK.out, hx]; simp)
                    have hb1 : ((b : Int) != (b : Int)) = false := by simp
                    clear hx HOK
                    go_wp2_with (go_at_call 24; refine HC2.out.mono ?_; rintro e w' ⟨rfl, rfl⟩; rw [castL_has])
                    go_roundw
                    case rel => exact ⟨k + 1, by omega, by go_num, by rw [HO2.out]; simp, HY2⟩
                    case measure => simp [intOf]; omega
                  · have HO2 := Lib.hid (show rdQ es out q (k + 1) = true by rw [HOK.out, hx, decide_eq_true hbq]; rfl)
                    have hbi : ¬ (b : Int) = (q : Int) := by omega
                    have hb1 : ((b : Int) != (q : Int)) = true := by simp [hbi]
                    clear hx HOK
                    go_wp2
                    go_roundw
                    case rel => exact ⟨k + 1, by omega, by go_num, by rw [HO2.out], HY2⟩
                    case measure => simp [intOf]; omega
              · skip
                have hke : k = es.length := by omega
                subst hke
                rw [rdQ_all]
                have HZ1 := Lib.hid (HX.out.trans (HY.out.mono HX.out.size))
                cases hx : rdyE es out q with
                | false =>
                  have HN2 := Lib.hid (show ∀ m, m < q + 1 → rdyE es out m = false from fun m hm => by
                    by_cases e : m = q
                    · subst e; exact hx
                    · exact HNO.out m (by omega))
                  clear hx
                  go_wp2_with fail
                  go_roundw
                  case rel => exact ⟨q + 1, by omega, by go_num, rfl, HN2, HZ1⟩
                  case measure => simp [intOf]; omega
                | true =>
                  have hls : leastE n es out = some q := by
                    unfold leastE
                    rw [List.find?_range_eq_some]
                    exact ⟨hx, List.mem_range.2 hltq, fun m hm => by rw [HNO.out m hm]; rfl⟩
                  obtain ⟨hts, hol2⟩ := takeL_some HG.out hls
                  have HG2 := Lib.hid (HG.out.snoc hltq hx)
                  have HTK2 := Lib.hid (show takeL n es (n - (out ++ [q]).length) (out ++ [q]) = takeG n es by rw [← hts]; exact HTK.out)
                  have O4 := Lib.hid (O3.out.keep Flat.keeps HY.out)
                  have HB4 := Lib.hid (HX1.out.trans (HY.out.mono HX1.out.size))
                  have hz4 := HB4.out.size
                  have HCS := Lib.hid (castL_snoc out q)
                  have hcl := castL_len out
                  have HCL := Lib.hid hcl
                  clear hx hls hts hcl
                  go_wp2_with (at_builtin; refine wpList_append_one rfl _ _ 22 rfl i0 _ Tryd.underlying22 hi hz0 ‹i0.size = 1› hz2 rfl (by decide) Flat.keeps O4.out (x := (q : Int)) (cs := [Value.int .i64 (q : Int)]) (Tx := Nowhere) ?d0 rfl rfl rfl (Sub.nowhere _) (Sub.nowhere _) not_nowhere ?d1 ?d2 ?d3 ?d4 ?_)
                  case d0 => exact ⟨rfl, by unfold inI; omega⟩
                  case d1 => simp [Value.oneCell']
                  case d2 => rw [HCL.out]; unfold maxLen; omega
                  case d3 => rw [HCL.out]; omega
                  try (case d4 => exact hz4)
                  intro v5 w5 ho5 hg5 _
                  rw [← HCS.out] at ho5
                  obtain ⟨A5, c5, hv5⟩ := ho5.form
                  rw [castL_len, List.length_append] at hv5
                  simp only [List.length_cons, List.length_nil] at hv5
                  subst hv5
                  have HO5 := Lib.hid ho5
                  have HB5 := Lib.hid (HB4.out.grown hg5 hz4 (fun g hg => (O4.out.lt g hg).1))
                  clear ho5 hg5
                  go_wp2_with fail
                  go_roundw
                  case rel => exact ⟨out ++ [q], HG2, HTK2, HO5, HB5⟩
                  case measure => simp [lenS]; omega
          · skip
            exact absurd (show leastE n es out = none by
              unfold leastE
              rw [List.find?_eq_none]
              intro m hm
              rw [HNO.out m (by have := List.mem_range.1 hm; omega)]
              simp) HEX.out
      · skip
        have hle : out.length = n := by omega
        have hni : ¬ (out.length : Int) < (n : Int) := by omega
        have HEQ := Lib.hid (show castL out = castL (takeG n (natsP ps)) by
          rw [← HES.out, ← HTK.out, hle, Nat.sub_self]; rfl)
        have HR5 := Lib.hid (O.out.toRd (bytes := 8) (S' := Plus Nowhere w.heap.size W2.heap.size) Flat.keeps (by rw [castL_len]; omega) (Sub.nowhere _) (fun b h1 h2 => .inr ⟨Nat.le_trans hw1 h1, h2⟩))
        rw [HEQ.out] at HR5
        have BZ := Lib.hid (BL1.out.trans (HB.out.mono hw1))
        clear O HB hle
        go_wp2
        go_ret2
        exact ⟨_, rfl, HR5.out, BZ.out⟩
  · have HW := Lib.hid hw
    go_wp2_with fail
    go_ret2
    exact ⟨_, rfl, RdL.nil (by unfold maxLen; omega), BL1.out⟩
end Go.Proofs.YthcafocpifjopaaDoor
