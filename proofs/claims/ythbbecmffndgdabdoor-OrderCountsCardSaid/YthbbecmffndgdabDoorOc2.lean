/- The walk of the reference's ccount: with a memory. -/
import Derived.Test.YthbbecmffndgdabDoorOcSpec
import Derived.Test.YthbbecmffndgdabDoorMapO
import Derived.Test.YthbbecmffndgdabDoorBlk
import Derived.Test.YthbbecmffndgdabDoorPairRow
namespace Go.Proofs.YthbbecmffndgdabDoor
open Go.RowKit
set_option linter.unusedVariables false
theorem zeroU64 (w : World) : (zeroValue 25).run Tryd.prog w = .ok (.int .u64 0) w := by kernel_rfl
/-- how many of the first m have something -/
def hadN (f : Int → Option Value) (m : Nat) : Nat := (List.range m).countP fun (t : Nat) => (f (t : Int)).isSome
theorem hadN_le (f : Int → Option Value) (m : Nat) : hadN f m ≤ m := by
  unfold hadN
  have := List.countP_le_length (p := fun (t : Nat) => (f (t : Int)).isSome) (l := List.range m)
  simpa using this
theorem hadN_out (f : Int → Option Value) (s : Nat) (v : Value) : ∀ {m : Nat}, m ≤ s → hadN (setO f s v) m = hadN f m
  | 0, _ => by simp [hadN]
  | m + 1, h => by
    have ih := hadN_out f s v (m := m) (by omega)
    have e : setO f s v (m : Int) = f (m : Int) := by unfold setO; rw [if_neg (by omega)]
    unfold hadN at *
    rw [List.range_succ, List.countP_append, List.countP_append, ih]
    simp [e]
theorem hadN_put (f : Int → Option Value) {s : Nat} (v : Value) (hf : f s = none) : ∀ {m : Nat}, s < m → hadN (setO f s v) m = hadN f m + 1
  | 0, h => by omega
  | m + 1, h => by
    by_cases hm : s = m
    · subst hm
      have ih := hadN_out f s v (m := s) (Nat.le_refl _)
      have e : setO f s v (s : Int) = some v := by unfold setO; rw [if_pos rfl]
      unfold hadN at *
      rw [List.range_succ, List.countP_append, List.countP_append, ih]
      simp [e, hf]
    · have ih := hadN_put f v hf (m := m) (by omega)
      have e : setO f s v (m : Int) = f (m : Int) := by unfold setO; rw [if_neg (by omega)]
      unfold hadN at *
      rw [List.range_succ, List.countP_append, List.countP_append, ih]
      simp [e]
      omega
/-- the memory: what it has is right -/
structure HadC (w : World) (b n : Nat) (es : List (Nat × Nat)) (f : Int → Option Value) : Prop where
  ex : ∃ k, k ≤ hadN f (2 ^ n) ∧ OwnO Tryd.prog w 3 b k f
  ok : ∀ (t : Nat) v, f (t : Int) = some v → t < 2 ^ n → v = .int .u64 (cC n es t : Int)
theorem HadC.but {w w' : World} {b n : Nat} {es : List (Nat × Nat)} {f : Int → Option Value} {T : Blocks} (h : HadC w b n es f) (hb : But T w w') (ht : ¬ T b) : HadC w' b n es f := by
  obtain ⟨k, hk, ho⟩ := h.ex
  exact ⟨⟨k, hk, ho.but hb ht⟩, h.ok⟩
theorem HadC.lt {w : World} {b n : Nat} {es : List (Nat × Nat)} {f : Int → Option Value} (h : HadC w b n es f) : b < w.heap.size := by
  obtain ⟨k, hk, ho⟩ := h.ex
  exact ho.lt
/-- the first q edges let n come behind s -/
def okQ (es : List (Nat × Nat)) (s n q : Nat) : Bool := !s.testBit n && (es.take q).all fun e => decide (e.2 ≠ n) || s.testBit e.1
theorem okQ_zero (es : List (Nat × Nat)) (s n : Nat) : okQ es s n 0 = !s.testBit n := by simp [okQ]
theorem okQ_all (es : List (Nat × Nat)) (s n : Nat) : okQ es s n es.length = okC es s n := by unfold okQ okC; rw [List.take_length]
theorem okQ_succ {es : List (Nat × Nat)} (s n : Nat) {q : Nat} (h : q < es.length) : okQ es s n (q + 1) = (okQ es s n q && (decide (es[q].2 ≠ n) || s.testBit es[q].1)) := by
  unfold okQ
  rw [List.take_succ_eq_append_getElem h, List.all_append, Bool.and_assoc]
  simp
set_option maxHeartbeats 1600000 in
set_option maxRecDepth 100000 in
theorem ccount_any (n : Nat) (hn : n ≤ 14) (es : List (Nat × Nat)) (hv : ∀ a b, (a, b) ∈ es → a < n ∧ b < n) : ∀ (d s : Nat) (w : World) (S : Blocks) (ve : Value) (hb : Nat) (f : Int → Option Value), s < 2 ^ n → 2 ^ n - s ≤ d → Sub S (Upto w.heap.size) → ¬ S hb → RdP w S (es.map ceE) ve → HadC w hb n es f →
    Calls Tryd.prog 28 #[.agg #[.int .i64 (n : Int), ve], .map (some hb), .int .i64 (s : Int)] w fun e w' => e = .returned (.int .u64 (cC n es s : Int)) ∧ ∃ f', HadC w' hb n es f' ∧ (∀ t : Nat, t < s → f' t = f t) ∧ But (Is hb) w w' := by
  intro d
  induction d with
  | zero => intro s w S ve hb f hs hd; omega
  | succ d ih =>
    intro s w S ve hb f hs hd hS hSb r hM
    obtain ⟨A, cap, rfl, hl, hcm, hby⟩ := r.form
    unfold maxLen at hcm
    rw [List.length_map] at r hl hby ⊢
    have R := Lib.hid r
    have HS := Lib.hid hS
    have HM := Lib.hid hM
    have IH := Lib.hid ih
    have hbl := hM.lt
    have HD := Lib.hid hd
    clear r hS hM ih hd
    obtain ⟨q2, hq2⟩ : ∃ q2, q2 = 2 ^ n := ⟨_, rfl⟩
    have hq3 : q2 ≤ 16384 := by rw [hq2]; exact Nat.pow_le_pow_right (n := 2) (by omega) hn
    have hsh : IntKind.i64.wrap ((2 : Int) ^ n) = (q2 : Int) := by
      rw [hq2, Int.natCast_pow]; exact IntWalk.i64_in _ (by rw [show ((2 : Int) ^ n) = ((2 ^ n : Nat) : Int) by rw [Int.natCast_pow]; rfl, ← hq2]; omega)
    have HQ2 := Lib.hid hq2
    have hsq : s < q2 := by rw [hq2]; exact hs
    have HSS := Lib.hid hs
    clear hq2 hs
    go_enter Tryd.func28, Tryd.ntmps28
    have b0 := Blk.made w [.int .i64 (n : Int), .slice A es.length cap] 24 (base := 0) (Nat.zero_le _)
    have bl : Below w.heap.size w (w.alloc (.cells #[.int .i64 (n : Int), .slice A es.length cap] 24)) := (Below.refl _ _).alloc (Nat.le_refl _) _
    have k0 := b0.cell 0 _ rfl
    have k1 := b0.cell 1 _ rfl
    have B0 := Lib.hid b0
    have M0 := Lib.hid (HM.out.but (T := Nowhere) (But.of_below bl) (fun h => h))
    have BT0 := Lib.hid (show But (Is hb) w (w.alloc (.cells #[.int .i64 (n : Int), .slice A es.length cap] 24)) from But.of_below bl)
    have hzw : w.heap.size < ((w.alloc (.cells #[.int .i64 (n : Int), .slice A es.length cap] 24))).heap.size := by rw [World.size_alloc]; omega
    clear b0 bl
    go_upto_region 1 with (fail)
    generalize (w.alloc (.cells #[.int .i64 (n : Int), .slice A es.length cap] 24)) = W0 at *
    by_cases hfull : s = q2 - 1
    · have hf2 : (s : Int) = (q2 : Int) - 1 := by omega
      have HC := Lib.hid (show cC n es s = 1 by rw [hfull, HQ2.out, cC_full])
      clear hfull
      go_wp2
      go_ret
      exact ⟨by rw [HC.out]; rfl, f, M0.out, fun _ _ => rfl, BT0.out⟩
    · skip
      have hf2 : ¬ (s : Int) = (q2 : Int) - 1 := by omega
      have hI : inI (s : Int) := by unfold inI; omega
      have hnz : (0 : Int) ≤ (s : Int) := by omega
      cases hfs : f (s : Int) with
      | some v =>
        have HC := Lib.hid (HM.out.ok s v hfs HSS.out)
        obtain ⟨kk, _, ho⟩ := M0.out.ex
        have HO := Lib.hid ho
        have HF := Lib.hid hfs
        clear hfs ho
        go_wp2_with (at_lookup; refine wpList_lookO_some rfl _ _ 51 rfl 25 (s : Int) Tryd.underlying3 Tryd.underlying51 (zeroU64 _) rfl HO.out rfl hI HF.out ?_)
        go_ret
        exact ⟨by rw [HC.out]; rfl, f, M0.out, fun _ _ => rfl, BT0.out⟩
      | none =>
        have HCS := Lib.hid (cC_step es HSS.out (by rw [← HQ2.out]; exact hfull))
        obtain ⟨kk, _, ho⟩ := M0.out.ex
        have HO := Lib.hid ho
        have HF := Lib.hid hfs
        clear hfs ho hfull
        go_wp2_with (at_lookup; refine wpList_lookO_none rfl _ _ 51 rfl 25 (s : Int) Tryd.underlying3 Tryd.underlying51 (zeroU64 _) rfl HO.out rfl hI HF.out ?_)
        have FX0 := Lib.hid (show ∀ t : Nat, t < s + 1 → f t = f t from fun _ _ => rfl)
        clear hsh HO k0 k1 hzw
        go_loopw [9, 30] (fun x t wr => ∃ (k : Nat) (f' : Int → Option Value), k ≤ n ∧ t = .int .i64 k ∧ x = .int .u64 ((sumC (fun j => cC n es (s + 2 ^ j)) (okC es s) k : Nat) : Int) ∧ Hid (HadC wr hb n es f') ∧ Hid (∀ t : Nat, t < s + 1 → f' t = f t) ∧ Hid (But (Is hb) w wr) ∧ Hid (Blk 0 wr w.heap.size [.int .i64 (n : Int), .slice A es.length cap])) (fun _ t _ => n - (intOf t).toNat)
        case atStart => exact ⟨0, f, by omega, rfl, rfl, M0, FX0, BT0, B0⟩
        case round =>
          clear M0 FX0 BT0 B0
          obtain ⟨k, f', hk, rfl, rfl, M, FX, BT, B⟩ := hrel
          have k0 := B.out.cell 0 _ rfl
          have k1 := B.out.cell 1 _ rfl
          by_cases hlt : k < n
          · skip
            obtain ⟨z, hz⟩ : ∃ z, z = s / 2 ^ k := ⟨_, rfl⟩
            have hzl : z ≤ s := by rw [hz]; exact Nat.div_le_self _ _
            have hz1 : (s : Int) / (2 : Int) ^ k = (z : Int) := by rw [hz, Int.natCast_ediv, Int.natCast_pow]; rfl
            have HZ3 := Lib.hid (show s.testBit k = decide (z % 2 = 1) by rw [hz, Nat.testBit_eq_decide_div_mod_eq])
            obtain ⟨S1, hS1⟩ : ∃ x, x = sumC (fun j => cC n es (s + 2 ^ j)) (okC es s) k := ⟨_, rfl⟩
            rw [← hS1]
            have hS1l : S1 < 18446744073709551616 := by rw [hS1]; exact sumC_lt _ _ _
            have HS1 := Lib.hid hS1
            clear hz hS1
            have HBB : ((z : Int) % 2 == 0) = okQ es s k 0 := by
              rw [okQ_zero, HZ3.out, Bool.eq_iff_iff]
              simp
              omega
            go_upto_region 11 with (fail)
            clear HBB hz1 HZ3
            go_wp2
            go_loopw [11, 41] (fun x t wr => ∃ q : Nat, q ≤ es.length ∧ t = .int .i64 q ∧ x = .bool (okQ es s k q) ∧ Hid (HadC wr hb n es f') ∧ Hid (But (Is hb) w wr) ∧ Hid (Blk 0 wr w.heap.size [.int .i64 (n : Int), .slice A es.length cap])) (fun _ t _ => es.length - (intOf t).toNat)
            case atStart => exact ⟨0, by omega, rfl, rfl, M, BT, B⟩
            case round =>
              clear M BT B k0 k1
              obtain ⟨q, hq, rfl, rfl, M, BT, B⟩ := hrel
              have k0 := B.out.cell 0 _ rfl
              have k1 := B.out.cell 1 _ rfl
              by_cases hltq : q < es.length
              · skip
                have hlt2 : q < (es.map ceE).length := by rw [List.length_map]; exact hltq
                obtain ⟨bb, off, rfl, hbS, hok, hc1, hc2⟩ := RdP.at1 (R.out.keep Flat.keeps (Sub.refl _) (BT.out.same HS.out (fun j hj e => hSb (by rw [← show j = hb from e]; exact hj)))) hlt2
                obtain ⟨a, b, hab⟩ : ∃ a b, es[q] = (a, b) := ⟨_, _, rfl⟩
                have hce : (es.map ceE)[q] = ((a : Int), (b : Int)) := by rw [List.getElem_map, hab]; rfl
                rw [hce] at hc1 hc2
                have hmem : (a, b) ∈ es := by rw [← hab]; exact List.getElem_mem hltq
                have haN := (hv a b hmem).1
                have hbN := (hv a b hmem).2
                have HOK := Lib.hid (show okQ es s k (q + 1) = (okQ es s k q && (decide (b ≠ k) || s.testBit a)) by rw [okQ_succ s k hltq, hab])
                simp only at hc1 hc2
                clear hok hab hmem hlt2 hce
                have hbx := (Below.refl wr.heap.size wr).alloc (Nat.le_refl _) (.cells #[.int .i64 (a : Int), .int .i64 (b : Int)] 48)
                have E1 := Lib.hid (Blk.made wr [.int .i64 (a : Int), .int .i64 (b : Int)] 48 (base := 0) (Nat.zero_le _))
                have M2 := Lib.hid (M.out.but (T := Nowhere) (But.of_below hbx) (fun h => h))
                have B2 := Lib.hid (B.out.below hbx)
                have BT2 := Lib.hid (BT.out.trans (But.of_below hbx))
                clear hbx M B BT
                go_upto_region 14 with (fail)
                generalize wr.alloc (.cells #[.int .i64 (a : Int), .int .i64 (b : Int)] 48) = W1 at *
                clear hc1 hc2 k0 k1
                have e0 := E1.out.cell 0 _ rfl
                have e1 := E1.out.cell 1 _ rfl
                cases hx : okQ es s k q with
                | false =>
                  have HO2 := Lib.hid (show okQ es s k (q + 1) = false by rw [HOK.out, hx]; rfl)
                  clear hx HOK
                  go_wp2
                  go_roundw
                  case rel => exact ⟨q + 1, by omega, by go_num, by rw [HO2.out], M2, BT2, B2⟩
                  case measure => simp [intOf]; omega
                | true =>
                  by_cases hbk : b = k
                  · subst hbk
                    obtain ⟨z, hz⟩ : ∃ z, z = s / 2 ^ a := ⟨_, rfl⟩
                    have hzl : z ≤ s := by rw [hz]; exact Nat.div_le_self _ _
                    have hz1 : (s : Int) / (2 : Int) ^ a = (z : Int) := by rw [hz, Int.natCast_ediv, Int.natCast_pow]; rfl
                    have HO2 := Lib.hid (show okQ es s b (q + 1) = ((z : Int) % 2 == 1) by
                      rw [HOK.out, hx, hz, Nat.testBit_eq_decide_div_mod_eq, Bool.eq_iff_iff]
                      simp
                      omega)
                    clear hz hx HOK
                    go_wp2
                    go_roundw
                    case rel => exact ⟨q + 1, by omega, by go_num, by rw [HO2.out], M2, BT2, B2⟩
                    case measure => simp [intOf]; omega
                  · have HO2 := Lib.hid (show okQ es s k (q + 1) = true by rw [HOK.out, hx, decide_eq_true hbk]; rfl)
                    have hbi : ¬ (b : Int) = (k : Int) := by omega
                    have hbb : ((b : Int) != (k : Int)) = true := by simp [hbi]
                    clear hx HOK
                    go_wp2
                    go_roundw
                    case rel => exact ⟨q + 1, by omega, by go_num, by rw [HO2.out], M2, BT2, B2⟩
                    case measure => simp [intOf]; omega
              · skip
                have hqe : q = es.length := by omega
                subst hqe
                rw [okQ_all]
                cases hx : okC es s k with
                | false =>
                  have HO2 := Lib.hid (show S1 = sumC (fun j => cC n es (s + 2 ^ j)) (okC es s) (k + 1) by conv => rhs; unfold sumC; rw [hx, ← HS1.out]; simp)
                  clear hx hltq
                  go_wp2_with fail
                  go_roundw
                  case rel => exact ⟨k + 1, f', by omega, by go_num, by rw [← HO2.out], M, FX, BT, B⟩
                  case measure => simp [intOf]; omega
                | true =>
                  have HO2 := Lib.hid (show (S1 + cC n es (s + 2 ^ k)) % 18446744073709551616 = sumC (fun j => cC n es (s + 2 ^ j)) (okC es s) (k + 1) by conv => rhs; unfold sumC; rw [hx, ← HS1.out]; simp)
                  have hbit := okC_bit hx
                  have hlt3 := add_bit_lt hbit HSS.out hlt
                  have hpos : 0 < 2 ^ k := Nat.two_pow_pos k
                  have hbd : Below wr.heap.size wr wr.drew := (Below.refl _ _).drew
                  have hC := IH.out (s + 2 ^ k) wr.drew S (.slice A es.length cap) hb f' hlt3 (by have := HD.out; omega) (HS.out.trans (Sub.upto BT.out.size)) hSb (R.out.keep Flat.keeps (Sub.refl _) ((BT.out.trans (But.of_below hbd)).same HS.out (fun j hj e => hSb (by rw [← show j = hb from e]; exact hj)))) (M.out.but (T := Nowhere) (But.of_below hbd) (fun h => h))
                  have B4 := Lib.hid (B.out.below hbd)
                  have BT4 := Lib.hid (BT.out.trans (But.of_below (T := Is hb) hbd))
                  obtain ⟨y, hy⟩ : ∃ y, y = cC n es (s + 2 ^ k) := ⟨_, rfl⟩
                  have hyl : y < 18446744073709551616 := by rw [hy]; exact cC_lt es hlt3
                  rw [← hy] at hC HO2
                  obtain ⟨p, hp⟩ : ∃ p, p = 2 ^ k := ⟨_, rfl⟩
                  rw [← hp] at hC hlt3 hpos
                  have HPOS := Lib.hid hpos
                  rw [← HQ2.out] at hlt3
                  have hps : ((s + p : Nat) : Int) = (s : Int) + (p : Int) := by omega
                  rw [hps] at hC
                  have hp1 : IntKind.i64.wrap ((2 : Int) ^ k) = (p : Int) := by
                    rw [hp, Int.natCast_pow]; exact IntWalk.i64_in _ (by rw [show ((2 : Int) ^ k) = ((2 ^ k : Nat) : Int) by rw [Int.natCast_pow]; rfl, ← hp]; omega)
                  have hw9 : IntKind.u64.wrap ((S1 : Int) + (y : Int)) = (((S1 + y) % 18446744073709551616 : Nat) : Int) := by rw [IntKind.wrap_u64]; omega
                  have HC := Lib.hid hC
                  have d0 : wr.drew.cell? ⟨w.heap.size, 0, none⟩ = some (.int .i64 (n : Int)) := B4.out.cell 0 _ rfl
                  have d1 : wr.drew.cell? ⟨w.heap.size, 1, none⟩ = some (.slice A es.length cap) := B4.out.cell 1 _ rfl
                  generalize (S1 + y) % 18446744073709551616 = g at *
                  clear hx hltq hbit hy hp hps hC B M BT hpos
                  go_upto_region 17 with (fail)
                  have hws : IntKind.i64.wrap ((s : Int) + (p : Int)) = (s : Int) + (p : Int) := IntWalk.i64_in _ (by omega)
                  go_region_with (go_at_call 28; refine HC.out.mono ?_; rintro e w' ⟨rfl, f2, hM2, hF2, hB2⟩)
                  have BT5 := Lib.hid (BT4.out.trans hB2)
                  have B5 := Lib.hid (B4.out.but hB2 (by unfold Is; omega))
                  have FX5 := Lib.hid (show ∀ t : Nat, t < s + 1 → f2 t = f t from fun t ht => by rw [hF2 t (by have := HPOS.out; omega)]; exact FX.out t ht)
                  have M5 := Lib.hid hM2
                  clear hM2 hF2 hB2 BT4 B4 hp1 hw9 hws FX d0 d1
                  go_wp2_with fail
                  go_roundw
                  case rel => exact ⟨k + 1, f2, by omega, by go_num, by rw [← HO2.out], M5, FX5, BT5, B5⟩
                  case measure => simp [intOf]; omega
          · skip
            have hke : k = n := by omega
            subst hke
            rw [← HCS.out]
            obtain ⟨kk, hkk, ho⟩ := M.out.ex
            have hfs : f' (s : Int) = none := by rw [FX.out s (by omega)]; exact HF.out
            have hn9 : kk < maxLen := by have := hadN_le f' (2 ^ k); have := HQ2.out; unfold maxLen; omega
            have HO := Lib.hid ho
            have HFS := Lib.hid hfs
            have HKK := Lib.hid hkk
            clear hfs ho hkk
            go_wp2_with (at_mapUpdate; refine wpList_putO rfl _ _ _ 51 rfl 25 (s : Int) (.int .u64 (cC k es s : Int)) Tryd.underlying3 Tryd.underlying51 rfl HO.out rfl rfl hI hn9 ?_)
            intro w9 ho9 hg9
            have HO9 := Lib.hid ho9
            have HG9 := Lib.hid hg9
            clear ho9 hg9
            go_wp2
            go_ret
            refine ⟨rfl, setO f' s (.int .u64 (cC k es s : Int)), ⟨⟨kk + 1, by rw [hadN_put f' _ HFS.out HSS.out]; have := HKK.out; omega, HO9.out⟩, fun t v hv2 ht => ?_⟩, fun t ht => ?_, BT.out.trans ((But.of_grown HG9.out).sub (fun j e => (Option.some.inj e).symm))⟩
            · unfold setO at hv2
              by_cases e : (t : Int) = (s : Int)
              · rw [if_pos e] at hv2
                have : t = s := by omega
                rw [this]; exact (Option.some.inj hv2).symm
              · rw [if_neg e] at hv2
                exact M.out.ok t v hv2 ht
            · unfold setO
              rw [if_neg (by omega)]
              exact FX.out t (by omega)
end Go.Proofs.YthbbecmffndgdabDoor
