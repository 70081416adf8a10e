/- Walks of vector.Tick and Join. -/
import Derived.Test.YtikjegfjgfhiaaaVecA
namespace Go.Proofs.Ytikjegfjgfhiaaa
open Go.RowKit
set_option linter.unusedVariables false

theorem set_pad (l : List Nat) (k q : Nat) (h1 : l.length + k ≤ q + 1 ∨ k = 0) (h2 : q < l.length + k) : (l ++ List.replicate k 0).set q ((hand l q + 1) % 18446744073709551616) = (padL l (q + 1)).set q ((hand l q + 1) % 18446744073709551616) := by
  rcases h1 with h1 | h1
  · have : k = q + 1 - l.length := by omega
    rw [this, padL]
  · subst h1
    simp [padL, show q + 1 - l.length = 0 by omega]
theorem pad_at (l : List Nat) (k q : Nat) (h : q < (l ++ List.replicate k 0).length) : (l ++ List.replicate k 0)[q] = hand l q := by
  rcases Nat.lt_or_ge q l.length with h1 | h1
  · rw [List.getElem_append_left h1, hand_lt h1]
  · rw [List.getElem_append_right h1, hand_ge h1]; simp

set_option maxHeartbeats 600000 in
set_option maxRecDepth 100000 in
theorem tick_any (l : List Nat) (i : Int) (w : World) (S : Blocks) (v : Value) (hS : Sub S (Upto w.heap.size)) (r : RdU w S l v) :
    Calls Try.prog 40 #[v, .int .i64 i] w fun e w' => ∃ u, e = .returned u ∧ RdU w' (Plus Nowhere w.heap.size w'.heap.size) (tickL l i) u ∧ Below w.heap.size w w' := by
  obtain ⟨A, cap, rfl, hl, hcm, hby⟩ := r.form
  unfold maxLen at hcm
  obtain ⟨i0, hi, hz0, hz1, hz2⟩ := info_parts infoU
  have R := Lib.hid r
  clear r
  by_cases hin : inTick i = true
  · have h2 : 0 ≤ i ∧ i ≤ 65535 := by simpa [inTick] using hin
    obtain ⟨q, rfl⟩ := Int.eq_ofNat_of_zero_le h2.1
    have hq6 : (q : Int) ≤ 65535 := h2.2
    have HT := Lib.hid (show tickL l q = trimL ((padL l (q + 1)).set q ((hand l q + 1) % 18446744073709551616)) by unfold tickL; rw [if_pos hin]; rfl)
    clear hin h2
    go_enter Try.func40, Try.ntmps40
    go_wp2_with (go_at_call 42; refine (cloneU l _ S _ hS R.out).mono ?_; rintro e w1 ⟨v1, rfl, ho1, hb1⟩)
    go_loopw [5] (fun o wr => ∃ (k : Nat) (A : Option Addr) (c : Nat), o = .slice A (l.length + k) c ∧ OwnU 63 wr w.heap.size Nowhere (l ++ List.replicate k 0) o ∧ Below w.heap.size w wr ∧ (l.length + k ≤ q + 1 ∨ k = 0))
      (fun o _ => match o with | .slice _ n _ => q + 1 - n | _ => 0)
    case atStart =>
      obtain ⟨A1, c1, rfl⟩ := ho1.form
      exact ⟨0, A1, c1, rfl, by simpa using ho1, hb1, .inr rfl⟩
    case round =>
      obtain ⟨k, A1, c1, rfl, ho, hb, hk⟩ := hrel
      have HO := Lib.hid ho
      clear ho ho1 hb1
      by_cases hlt : l.length + k ≤ q
      · have hsz := hb.size
        go_wp2_with (at_builtin; refine wpList_append_one rfl _ _ 65 rfl i0 _ Try.underlying65 hi hz0 hz1 hz2 rfl (by decide) Flat.keeps HO.out (x := (0 : Nat)) (cs := [Value.int .u64 0]) (Tx := Nowhere) ?c0 rfl rfl rfl (Sub.nowhere _) (Sub.nowhere _) not_nowhere ?c1 ?c2 ?c3 ?c4 ?_)
        case c0 => exact ⟨rfl, by unfold okU; omega⟩
        case c1 => simp [Value.oneCell']
        case c2 => simp [maxLen]; omega
        case c3 => simp; omega
        case c4 => exact hsz
        intro v2 w2 ho2 hg2 _
        have hb2 : Below w.heap.size w w2 := hb.grown hg2 hsz (fun g hg => (HO.out.lt g hg).1)
        have ho3 : OwnU 63 w2 w.heap.size Nowhere (l ++ List.replicate (k + 1) 0) v2 := by rw [List.replicate_succ']; simpa using ho2
        clear ho2 hg2
        obtain ⟨A2, c2, hv2⟩ := ho3.form
        simp only [List.length_append, List.length_replicate] at hv2
        subst hv2
        go_wp2
        go_roundw
        case rel => exact ⟨k + 1, A2, c2, rfl, ho3, hb2, .inl (by omega)⟩
        case measure => simp; omega
      · have hq1 : q < (l ++ List.replicate k 0).length := by simp; omega
        obtain ⟨g, cap2, hv, hg1, hg2, hg3, hg4, hfr, hcell⟩ := HO.out.open_ (by omega)
        injection hv with e1 e2 e3
        clear e2
        subst e1 e3
        have hok := (hcell q hq1).1
        have hc := (hcell q hq1).2
        rw [pad_at l k q hq1] at hok hc
        have hf0 := hfr q
        have hset := OwnU.set_ HO.out hq1 ((hand l q + 1) % 18446744073709551616) (Nat.mod_lt _ (by decide))
        rw [set_pad l k q hk (by omega)] at hset
        have hlen : ((padL l (q + 1)).set q ((hand l q + 1) % 18446744073709551616)).length * 8 ≤ 140737488355328 := by simp [padL]; omega
        have hbs : Below w.heap.size w (wr.setCell ⟨g, q, none⟩ (.int .u64 (((hand l q + 1) % 18446744073709551616 : Nat) : Int))) := hb.setCell hg1 _
        have hrd := hset.toRd (bytes := 8) (S' := Plus Nowhere w.heap.size wr.heap.size) Flat.keeps hlen (Sub.nowhere _) (fun b h1 h2 => .inr ⟨h1, by simpa [World.setCell] using h2⟩)
        have HS := Lib.hid hrd
        have HB := Lib.hid hbs
        have hwr : IntKind.u64.wrap ((hand l q : Int) + 1) = (((hand l q + 1) % 18446744073709551616 : Nat) : Int) := by rw [IntKind.wrap_u64]; omega
        clear hset hcell hfr hrd hbs hlen HO
        go_wp2_with (go_at_call 53; refine (trim_any _ _ (Plus Nowhere w.heap.size wr.heap.size) _ HS.out).mono ?_; rintro e w' ⟨⟨u, rfl, hu⟩, rfl⟩)
        go_ret
        exact ⟨u, rfl, by rw [HT.out, size_setCell]; exact hu, HB.out⟩
  · have HT := Lib.hid (show tickL l i = trimL l by unfold tickL; rw [if_neg hin])
    have h2 : i < 0 ∨ 65535 < i := by
      rcases Classical.em (0 ≤ i) with h | h
      · rcases Classical.em (i ≤ 65535) with h' | h'
        · exact absurd (by simp [inTick, h, h']) hin
        · exact .inr (by omega)
      · exact .inl (by omega)
    clear hin
    rcases h2 with h2 | h2
    all_goals
      go_enter Try.func40, Try.ntmps40
      go_wp2_with (first
        | (go_at_call 42; refine (cloneU l _ S _ hS R.out).mono ?_; rintro e w1 ⟨v1, rfl, ho1, hb1⟩)
        | (go_at_call 53; refine (trim_any l _ (Plus Nowhere w.heap.size w1.heap.size) _ (ho1.toRd (bytes := 8) Flat.keeps (by omega) (Sub.nowhere _) (fun b h1 h2 => .inr ⟨h1, h2⟩))).mono ?_; rintro e w' ⟨⟨u, rfl, hu⟩, rfl⟩))
      go_ret
      exact ⟨u, rfl, by rw [HT.out]; exact hu, hb1⟩

set_option maxHeartbeats 600000 in
set_option maxRecDepth 100000 in
theorem join_any (l m : List Nat) (w : World) (S T : Blocks) (v u : Value) (hS : Sub S (Upto w.heap.size)) (hT : Sub T (Upto w.heap.size)) (r : RdU w S l v) (r' : RdU w T m u) :
    Calls Try.prog 41 #[v, u] w fun e w' => ∃ x, e = .returned x ∧ RdU w' (Plus Nowhere w.heap.size w'.heap.size) (joinL l m) x ∧ Below w.heap.size w w' := by
  obtain ⟨A, cap, rfl, hl, hcm, hby⟩ := r.form
  obtain ⟨A', cap', rfl, hl', hcm', hby'⟩ := r'.form
  unfold maxLen at hcm hcm'
  obtain ⟨i0, hi, hz0, hz1, hz2⟩ := info_parts infoU
  obtain ⟨n, hn⟩ : ∃ n, n = max l.length m.length := ⟨_, rfl⟩
  have hn8 : n * 8 ≤ 140737488355328 := by omega
  have hmk := fun w => run_make1 (P := Try.prog) 65 63 i0 _ Try.underlying65 hi hz0 hz1 rfl n (by rw [hz2]; omega) (by omega) w
  have HN := Lib.hid hn
  have R := Lib.hid r
  have R' := Lib.hid r'
  clear hn r r'
  go_enter Try.func41, Try.ntmps41
  go_upto_region 1 with (fail)
  go_cut [5] (fun x wx => x = .slice (some ⟨w.heap.size, 0, none⟩) n n ∧ wx = w.alloc (.cells (Array.replicate n (.int .u64 0)) 63))
  case first =>
    rcases Nat.lt_trichotomy l.length m.length with h | h | h
    · have hn : n = m.length := by rw [HN.out]; omega
      subst hn
      have hd : decide ((l.length : Int) < (m.length : Int)) = true := by simp; omega
      go_wp2
      go_meet
      exact ⟨rfl, rfl⟩
    · have hn : n = l.length := by rw [HN.out]; omega
      subst hn
      have h1 : l.length ≤ m.length := by omega
      have h2 : m.length ≤ l.length := by omega
      clear h
      go_wp2
      go_meet
      exact ⟨rfl, rfl⟩
    · have hn : n = l.length := by rw [HN.out]; omega
      subst hn
      have hd : decide ((l.length : Int) < (m.length : Int)) = false := by simp; omega
      have hd2 : decide ((m.length : Int) < (l.length : Int)) = true := by simp; omega
      go_wp2
      go_meet
      exact ⟨rfl, rfl⟩
  case rest =>
    obtain ⟨rfl, rfl⟩ := hcut
    clear hmk
    go_wp2
    go_loopw [15] (fun t wr => ∃ q : Nat, q ≤ n ∧ t = .int .i64 q ∧ Below w.heap.size w wr ∧ w.heap.size < wr.heap.size ∧ OwnU 63 wr w.heap.size Nowhere ((List.range n).map fun (k : Nat) => if k < q then max (hand l k) (hand m k) else 0) (.slice (some ⟨w.heap.size, 0, none⟩) n n)) (fun t _ => n - (intOf t).toNat)
    case atStart =>
      refine ⟨0, by omega, rfl, (Below.refl _ _).alloc (Nat.le_refl _) _, by simp, ?_⟩
      have e : ((List.range n).map fun (k : Nat) => if k < 0 then max (hand l k) (hand m k) else 0) = List.replicate n 0 := by
        apply List.ext_getElem <;> simp
      rw [e]
      exact OwnL.made (f := fun (x : Nat) => Value.int .u64 (x : Int)) (ok := okU) 0 (by unfold okU; omega) (Nat.le_refl _) (by unfold maxLen; omega)
    case round =>
      obtain ⟨q, hq, rfl, hbel, hsz, ho⟩ := hrel
      by_cases hlt : q < n
      · have HO := Lib.hid ho
        have r1 := Lib.hid (R.out.go Flat.keeps hbel hS (Sub.refl _))
        have r2 := Lib.hid (R'.out.go Flat.keeps hbel hT (Sub.refl _))
        obtain ⟨g, cap2, hv, _, hg2, _, _, hfr, hcell⟩ := ho.open_ (by simp; omega)
        simp only [Value.slice.injEq, Option.some.injEq, Addr.mk.injEq, and_true] at hv
        obtain ⟨hgw, -, -⟩ := hv
        subst hgw
        have hf0 := hfr q
        have hc := (hcell q (by simp; omega)).2
        simp only [List.getElem_map, List.getElem_range, Nat.lt_irrefl, if_false] at hc
        have hwlt : q < w.heap.size + q + 1 := by omega
        have hok := hand_ok R.out.oks q
        have hok' := hand_ok R'.out.oks q
        have hset := OwnU.set_ ho (q := q) (by simp; omega) (max (hand l q) (hand m q)) (by unfold okU at hok hok'; omega)
        have e : (((List.range n).map fun (k : Nat) => if k < q then max (hand l k) (hand m k) else 0).set q (max (hand l q) (hand m q))) = ((List.range n).map fun (k : Nat) => if k < q + 1 then max (hand l k) (hand m k) else 0) := by
          apply List.ext_getElem
          · simp
          · intro k h1 h2
            simp only [List.getElem_set, List.getElem_map, List.getElem_range]
            by_cases hk : q = k
            · subst hk; simp
            · rw [if_neg hk]
              by_cases hk2 : k < q
              · rw [if_pos hk2, if_pos (by omega)]
              · rw [if_neg hk2, if_neg (by omega)]
        rw [e] at hset
        have HS := Lib.hid hset
        have hbs := hbel.setCell (p := ⟨w.heap.size, q, none⟩) (Nat.le_refl _) (.int .u64 ((max (hand l q) (hand m q) : Nat) : Int))
        clear hset e ho hcell hfr hok hok' hwlt
        rcases Nat.lt_trichotomy (hand l q) (hand m q) with h | h | h
        · have hd : decide ((hand l q : Int) < (hand m q : Int)) = true := by simp; omega
          have hm := Lib.hid (show max (hand l q) (hand m q) = hand m q by omega)
          rw [hm.out] at HS hbs
          go_wp2_with fail
          refine (at_any l q _ S _ r1.out).mono ?_
          rintro e w' ⟨rfl, rfl⟩
          go_wp2_with fail
          refine (at_any m q _ T _ r2.out).mono ?_
          rintro e w' ⟨rfl, rfl⟩
          go_wp2_with fail
          go_roundw
          case rel => exact ⟨q + 1, by omega, by go_num, hbs, by rw [size_setCell]; exact hsz, HS.out⟩
          case measure => simp [intOf]; omega
        · have hd : ¬ hand l q < hand m q := by omega
          have hm := Lib.hid (show max (hand l q) (hand m q) = hand l q by omega)
          rw [hm.out] at HS hbs
          clear h
          go_wp2_with fail
          refine (at_any l q _ S _ r1.out).mono ?_
          rintro e w' ⟨rfl, rfl⟩
          go_wp2_with fail
          refine (at_any m q _ T _ r2.out).mono ?_
          rintro e w' ⟨rfl, rfl⟩
          go_wp2_with fail
          go_roundw
          case rel => exact ⟨q + 1, by omega, by go_num, hbs, by rw [size_setCell]; exact hsz, HS.out⟩
          case measure => simp [intOf]; omega
        · have hd : decide ((hand l q : Int) < (hand m q : Int)) = false := by simp; omega
          have hd2 : decide ((hand m q : Int) < (hand l q : Int)) = true := by simp; omega
          have hm := Lib.hid (show max (hand l q) (hand m q) = hand l q by omega)
          rw [hm.out] at HS hbs
          go_wp2_with fail
          refine (at_any l q _ S _ r1.out).mono ?_
          rintro e w' ⟨rfl, rfl⟩
          go_wp2_with fail
          refine (at_any m q _ T _ r2.out).mono ?_
          rintro e w' ⟨rfl, rfl⟩
          go_wp2_with fail
          go_roundw
          case rel => exact ⟨q + 1, by omega, by go_num, hbs, by rw [size_setCell]; exact hsz, HS.out⟩
          case measure => simp [intOf]; omega
      · have e : ((List.range n).map fun (k : Nat) => if k < q then max (hand l k) (hand m k) else 0) = (List.range n).map fun (k : Nat) => max (hand l k) (hand m k) := by
          apply List.map_congr_left
          intro k hk
          rw [if_pos (by simp at hk; omega)]
        rw [e] at ho
        have HR := Lib.hid (ho.toRd (bytes := 8) (S' := Plus Nowhere w.heap.size wr.heap.size) Flat.keeps (by simp; omega) (Sub.nowhere _) (fun b h1 h2 => .inr ⟨h1, h2⟩))
        have HJ := Lib.hid (show joinL l m = trimL ((List.range n).map fun (k : Nat) => max (hand l k) (hand m k)) by rw [HN.out]; rfl)
        clear e ho
        go_wp2_with (go_at_call 53; refine (trim_any _ _ (Plus Nowhere w.heap.size wr.heap.size) _ HR.out).mono ?_; rintro e w' ⟨⟨x, rfl, hx⟩, rfl⟩)
        go_ret
        exact ⟨x, rfl, by rw [HJ.out]; exact hx, hbel⟩
end Go.Proofs.Ytikjegfjgfhiaaa
