/- Walks of package bitset's small functions: trimming, word by word. -/
import Derived.Test.YtknaoianhjeccaaDoorVecSpec
import Derived.Test.YtknaoianhjeccaaDoorInfoU
import Derived.Test.YtknaoianhjeccaaDoorBsSpec
namespace Go.Proofs.YtknaoianhjeccaaDoor
open Go.RowKit
set_option linter.unusedVariables false

set_option maxHeartbeats 400000 in
theorem bs_trim_any (l : List Nat) (w : World) (S : Blocks) (v : Value) (r : RdU w S l v) :
    Calls Tryd.prog 40 #[v] w fun e w' => (∃ u, e = .returned u ∧ RdU w S (trimL l) u) ∧ w = w' := by
  obtain ⟨A, cap, rfl, hl, hcm, hby⟩ := r.form
  unfold maxLen at hcm
  go_enter Tryd.func40, Tryd.ntmps40
  go_wp2
  go_loop [0] (fun t => ∃ n : Nat, n ≤ l.length ∧ t = .slice A n cap ∧ trimL (l.take n) = trimL l) (fun t => match t with | .slice _ n _ => n | _ => 0)
  case atStart => exact ⟨l.length, Nat.le_refl _, rfl, by rw [List.take_length]⟩
  case round =>
    obtain ⟨n, hn, rfl, ht⟩ := hrel
    have HT := Lib.hid ht
    clear ht
    match n, hn, HT with
    | 0, hn, HT =>
      have H0 := Lib.hid (show trimL l = [] by have := HT.out; simpa [trimL] using this.symm)
      go_wp2
      go_ret
      exact ⟨⟨_, rfl, by rw [H0.out]; exact RdL.nil (by unfold maxLen; omega)⟩, rfl⟩
    | m + 1, hn, HT =>
      obtain ⟨b, off, rfl, _, hok, hc⟩ := RdU.at1 r (q := m) (by omega)
      have htk : l.take (m + 1) = l.take m ++ [l[m]] := by rw [List.take_succ_eq_append_getElem (by omega)]
      by_cases hz : l[m] = 0
      · have hz' : ((l[m] : Nat) : Int) = 0 := by omega
        rw [hz'] at hc
        have H2 := Lib.hid (show trimL (l.take m) = trimL l by rw [← HT.out, htk, trimL_snoc, if_pos hz])
        clear hz hz' htk
        go_wp2
        go_round
        case rel => exact ⟨m, by omega, by simp, H2.out⟩
        case measure => simp
      · have hz' : (((l[m] : Nat) : Int) == 0) = false := by simp; omega
        have H2 := Lib.hid (show trimL l = l.take (m + 1) by rw [← HT.out, htk, trimL_snoc, if_neg hz])
        clear hz htk
        go_wp2
        go_ret
        exact ⟨⟨_, rfl, by rw [H2.out]; exact r.take hn⟩, rfl⟩

set_option maxHeartbeats 400000 in
theorem bs_at_any (l : List Nat) (q : Nat) (w : World) (S : Blocks) (v : Value) (r : RdU w S l v) :
    Calls Tryd.prog 39 #[v, .int .i64 q] w fun e w' => e = .returned (.int .u64 (hand l q)) ∧ w = w' := by
  obtain ⟨A, cap, rfl, hl, hcm, hby⟩ := r.form
  unfold maxLen at hcm
  by_cases hq : q < l.length
  · obtain ⟨b, off, rfl, _, hok, hc⟩ := RdU.at1 r hq
    have hh := hand_lt hq
    have HH := Lib.hid hh
    clear hh r
    go_enter Tryd.func39, Tryd.ntmps39
    go_wp2
    go_ret
    exact ⟨by rw [HH.out]; rfl, rfl⟩
  · have hh := hand_ge (l := l) (q := q) (by omega)
    have HH := Lib.hid hh
    clear hh r
    go_enter Tryd.func39, Tryd.ntmps39
    go_wp2
    go_ret
    exact ⟨by rw [HH.out]; rfl, rfl⟩

theorem zip_hand (f : Nat → Nat → Nat) (l m : List Nat) : zipB f l m = trimL ((List.range (max l.length m.length)).map fun (k : Nat) => f (hand l k) (hand m k)) := by
  unfold zipB
  congr 1

set_option maxHeartbeats 600000 in
set_option maxRecDepth 100000 in
theorem zip_any (F : FuncId) (f : Nat → Nat → Nat) (hf : ∀ a b, okU a → okU b → okU (f a b))
    (hF : ∀ (args : Array Value) (w : World), (callFunc F args).run Tryd.prog w = .ok (.enter F args) w)
    (H : ∀ (a b : Nat) (w : World), okU a → okU b → Calls Tryd.prog F #[.int .u64 (a : Int), .int .u64 (b : Int)] w fun e w' => e = .returned (.int .u64 ((f a b : Nat) : Int)) ∧ w = w')
    (l m : List Nat) (w : World) (S T : Blocks) (v u : Value) (hS : Sub S (Upto w.heap.size)) (hT : Sub T (Upto w.heap.size)) (r : RdU w S l v) (r' : RdU w T m u) :
    Calls Tryd.prog 32 #[v, u, .func (.func F) #[] #[]] w fun e w' => ∃ x, e = .returned x ∧ RdU w' (Plus Nowhere w.heap.size w'.heap.size) (zipB f l m) x ∧ Below w.heap.size w w' := by
  obtain ⟨A, cap, rfl, hl, hcm, hby⟩ := r.form
  obtain ⟨A', cap', rfl, hl', hcm', hby'⟩ := r'.form
  unfold maxLen at hcm hcm'
  obtain ⟨i0, hi, hz0, hz1, hz2⟩ := info_parts infoU
  obtain ⟨n, hn⟩ : ∃ n, n = max l.length m.length := ⟨_, rfl⟩
  have hn8 : n * 8 ≤ 140737488355328 := by omega
  have hmk := fun w => run_make1 (P := Tryd.prog) 53 37 i0 _ Tryd.underlying53 hi hz0 hz1 rfl n (by rw [hz2]; omega) (by omega) w
  have HN := Lib.hid hn
  have R := Lib.hid r
  have R' := Lib.hid r'
  have HH := Lib.hid H
  clear hn r r' H
  go_enter Tryd.func32, Tryd.ntmps32
  go_upto_region 1 with (fail)
  go_cut [7] (fun x wx => x = .slice (some ⟨w.heap.size, 0, none⟩) n n ∧ wx = w.alloc (.cells (Array.replicate n (.int .u64 0)) 37))
  case first =>
    rcases Nat.lt_trichotomy l.length m.length with h | h | h
    · have hn : n = m.length := by rw [HN.out]; omega
      subst hn
      have hd : decide ((l.length : Int) < (m.length : Int)) = true := by simp; omega
      go_wp2
      go_meet
      exact ⟨rfl, rfl⟩
    · have hn : n = l.length := by rw [HN.out]; omega
      subst hn
      have h1 : l.length ≤ m.length := by omega
      have h2 : m.length ≤ l.length := by omega
      clear h
      go_wp2
      go_meet
      exact ⟨rfl, rfl⟩
    · have hn : n = l.length := by rw [HN.out]; omega
      subst hn
      have hd : decide ((l.length : Int) < (m.length : Int)) = false := by simp; omega
      have hd2 : decide ((m.length : Int) < (l.length : Int)) = true := by simp; omega
      go_wp2
      go_meet
      exact ⟨rfl, rfl⟩
  case rest =>
    obtain ⟨rfl, rfl⟩ := hcut
    clear hmk
    go_wp2
    go_loopw [18] (fun t wr => ∃ q : Nat, q ≤ n ∧ t = .int .i64 q ∧ Below w.heap.size w wr ∧ w.heap.size < wr.heap.size ∧ OwnU 37 wr w.heap.size Nowhere ((List.range n).map fun (k : Nat) => if k < q then f (hand l k) (hand m k) else 0) (.slice (some ⟨w.heap.size, 0, none⟩) n n)) (fun t _ => n - (intOf t).toNat)
    case atStart =>
      refine ⟨0, by omega, rfl, (Below.refl _ _).alloc (Nat.le_refl _) _, by simp, ?_⟩
      have e : ((List.range n).map fun (k : Nat) => if k < 0 then f (hand l k) (hand m k) else 0) = List.replicate n 0 := by
        apply List.ext_getElem <;> simp
      rw [e]
      exact OwnL.made (f := fun (x : Nat) => Value.int .u64 (x : Int)) (ok := okU) 0 (by unfold okU; omega) (Nat.le_refl _) (by unfold maxLen; omega)
    case round =>
      obtain ⟨q, hq, rfl, hbel, hsz, ho⟩ := hrel
      by_cases hlt : q < n
      · have HO := Lib.hid ho
        have r1 := Lib.hid (R.out.go Flat.keeps hbel hS (Sub.refl _))
        have r2 := Lib.hid (R'.out.go Flat.keeps hbel hT (Sub.refl _))
        obtain ⟨g, cap2, hv, _, hg2, _, _, hfr, hcell⟩ := ho.open_ (by simp; omega)
        simp only [Value.slice.injEq, Option.some.injEq, Addr.mk.injEq, and_true] at hv
        obtain ⟨hgw, -, -⟩ := hv
        subst hgw
        have hf0 := hfr q
        have hc := (hcell q (by simp; omega)).2
        simp only [List.getElem_map, List.getElem_range, Nat.lt_irrefl, if_false] at hc
        have hok := hand_ok R.out.oks q
        have hok' := hand_ok R'.out.oks q
        have hset := OwnU.set_ ho (q := q) (by simp; omega) (f (hand l q) (hand m q)) (hf _ _ hok hok')
        have e : (((List.range n).map fun (k : Nat) => if k < q then f (hand l k) (hand m k) else 0).set q (f (hand l q) (hand m q))) = ((List.range n).map fun (k : Nat) => if k < q + 1 then f (hand l k) (hand m k) else 0) := by
          apply List.ext_getElem
          · simp
          · intro k h1 h2
            simp only [List.getElem_set, List.getElem_map, List.getElem_range]
            by_cases hk : q = k
            · subst hk; simp
            · rw [if_neg hk]
              by_cases hk2 : k < q
              · rw [if_pos hk2, if_pos (by omega)]
              · rw [if_neg hk2, if_neg (by omega)]
        rw [e] at hset
        have HS := Lib.hid hset
        have hbs := hbel.setCell (p := ⟨w.heap.size, q, none⟩) (Nat.le_refl _) (.int .u64 ((f (hand l q) (hand m q) : Nat) : Int))
        clear hset e ho hcell hfr
        go_wp2_with fail
        refine (bs_at_any l q _ S _ r1.out).mono ?_
        rintro e w' ⟨rfl, rfl⟩
        go_wp2_with fail
        refine (bs_at_any m q _ T _ r2.out).mono ?_
        rintro e w' ⟨rfl, rfl⟩
        go_wp2_with fail
        refine (HH.out _ _ _ hok hok').mono ?_
        rintro e w' ⟨rfl, rfl⟩
        go_wp2_with fail
        go_roundw
        case rel => exact ⟨q + 1, by omega, by go_num, hbs, by rw [size_setCell]; exact hsz, HS.out⟩
        case measure => simp [intOf]; omega
      · have e : ((List.range n).map fun (k : Nat) => if k < q then f (hand l k) (hand m k) else 0) = (List.range n).map fun (k : Nat) => f (hand l k) (hand m k) := by
          apply List.map_congr_left
          intro k hk
          rw [if_pos (by simp at hk; omega)]
        rw [e] at ho
        have HR := Lib.hid (ho.toRd (bytes := 8) (S' := Plus Nowhere w.heap.size wr.heap.size) Flat.keeps (by simp; omega) (Sub.nowhere _) (fun b h1 h2 => .inr ⟨h1, h2⟩))
        have HJ := Lib.hid (show zipB f l m = trimL ((List.range n).map fun (k : Nat) => f (hand l k) (hand m k)) by rw [HN.out, zip_hand])
        clear e ho
        go_wp2_with (go_at_call 40; refine (bs_trim_any _ _ (Plus Nowhere w.heap.size wr.heap.size) _ HR.out).mono ?_; rintro e w' ⟨⟨x, rfl, hx⟩, rfl⟩)
        go_ret
        exact ⟨x, rfl, by rw [HJ.out]; exact hx, hbel⟩
end Go.Proofs.YtknaoianhjeccaaDoor
