/- Texts merged: Bs1, Gs1, TzLib. -/
import Derived.Test.YtnpgpcnkdocknaaDoorGSetSpec
import Derived.Test.YtnpgpcnkdocknaaDoorGInfoU
import Derived.Test.YtnpgpcnkdocknaaDoorGScW
import Derived.Laws.CopyOwn
import Derived.Laws.BitsAllLaws
import Derived.Laws.Bits64b
import Derived.Shelf.Spec.TrailingZeros
import Derived.Test.YtnpgpcnkdocknaaDoorBase
namespace Go.Proofs.YtnpgpcnkdocknaaDoor
open Go.RowKit
set_option linter.unusedVariables false

set_option maxHeartbeats 400000 in
theorem bs_trim_any (l : List Nat) (w : World) (S : Blocks) (v : Value) (r : RdU w S l v) :
    Calls Tryd.prog 47 #[v] w fun e w' => (∃ u, e = .returned u ∧ RdU w S (trimL l) u) ∧ w = w' := by
  obtain ⟨A, cap, rfl, hl, hcm, hby⟩ := r.form
  unfold maxLen at hcm
  go_enter Tryd.func47, Tryd.ntmps47
  go_wp2
  go_loop [0] (fun t => ∃ n : Nat, n ≤ l.length ∧ t = .slice A n cap ∧ trimL (l.take n) = trimL l) (fun t => match t with | .slice _ n _ => n | _ => 0)
  case atStart => exact ⟨l.length, Nat.le_refl _, rfl, by rw [List.take_length]⟩
  case round =>
    obtain ⟨n, hn, rfl, ht⟩ := hrel
    have HT := Lib.hid ht
    clear ht
    match n, hn, HT with
    | 0, hn, HT =>
      have H0 := Lib.hid (show trimL l = [] by have := HT.out; simpa [trimL] using this.symm)
      go_wp2
      go_ret
      exact ⟨⟨_, rfl, by rw [H0.out]; exact RdL.nil (by unfold maxLen; omega)⟩, rfl⟩
    | m + 1, hn, HT =>
      obtain ⟨b, off, rfl, _, hok, hc⟩ := RdU.at1 r (q := m) (by omega)
      have htk : l.take (m + 1) = l.take m ++ [l[m]] := by rw [List.take_succ_eq_append_getElem (by omega)]
      by_cases hz : l[m] = 0
      · have hz' : ((l[m] : Nat) : Int) = 0 := by omega
        rw [hz'] at hc
        have H2 := Lib.hid (show trimL (l.take m) = trimL l by rw [← HT.out, htk, trimL_snoc, if_pos hz])
        clear hz hz' htk
        go_wp2
        go_round
        case rel => exact ⟨m, by omega, by simp, H2.out⟩
        case measure => simp
      · have hz' : (((l[m] : Nat) : Int) == 0) = false := by simp; omega
        have H2 := Lib.hid (show trimL l = l.take (m + 1) by rw [← HT.out, htk, trimL_snoc, if_neg hz])
        clear hz htk
        go_wp2
        go_ret
        exact ⟨⟨_, rfl, by rw [H2.out]; exact r.take hn⟩, rfl⟩

set_option maxHeartbeats 400000 in
theorem bs_at_any (l : List Nat) (q : Nat) (w : World) (S : Blocks) (v : Value) (r : RdU w S l v) :
    Calls Tryd.prog 46 #[v, .int .i64 q] w fun e w' => e = .returned (.int .u64 (hand l q)) ∧ w = w' := by
  obtain ⟨A, cap, rfl, hl, hcm, hby⟩ := r.form
  unfold maxLen at hcm
  by_cases hq : q < l.length
  · obtain ⟨b, off, rfl, _, hok, hc⟩ := RdU.at1 r hq
    have hh := hand_lt hq
    have HH := Lib.hid hh
    clear hh r
    go_enter Tryd.func46, Tryd.ntmps46
    go_wp2
    go_ret
    exact ⟨by rw [HH.out]; rfl, rfl⟩
  · have hh := hand_ge (l := l) (q := q) (by omega)
    have HH := Lib.hid hh
    clear hh r
    go_enter Tryd.func46, Tryd.ntmps46
    go_wp2
    go_ret
    exact ⟨by rw [HH.out]; rfl, rfl⟩

theorem zip_hand (f : Nat → Nat → Nat) (l m : List Nat) : zipB f l m = trimL ((List.range (max l.length m.length)).map fun (k : Nat) => f (hand l k) (hand m k)) := by
  unfold zipB
  congr 1

set_option maxHeartbeats 600000 in
set_option maxRecDepth 100000 in
theorem zip_any (F : FuncId) (f : Nat → Nat → Nat) (hf : ∀ a b, okU a → okU b → okU (f a b))
    (hF : ∀ (args : Array Value) (w : World), (callFunc F args).run Tryd.prog w = .ok (.enter F args) w)
    (H : ∀ (a b : Nat) (w : World), okU a → okU b → Calls Tryd.prog F #[.int .u64 (a : Int), .int .u64 (b : Int)] w fun e w' => e = .returned (.int .u64 ((f a b : Nat) : Int)) ∧ w = w')
    (l m : List Nat) (w : World) (S T : Blocks) (v u : Value) (hS : Sub S (Upto w.heap.size)) (hT : Sub T (Upto w.heap.size)) (r : RdU w S l v) (r' : RdU w T m u) :
    Calls Tryd.prog 31 #[v, u, .func (.func F) #[] #[]] w fun e w' => ∃ x, e = .returned x ∧ RdU w' (Plus Nowhere w.heap.size w'.heap.size) (zipB f l m) x ∧ Below w.heap.size w w' := by
  obtain ⟨A, cap, rfl, hl, hcm, hby⟩ := r.form
  obtain ⟨A', cap', rfl, hl', hcm', hby'⟩ := r'.form
  unfold maxLen at hcm hcm'
  obtain ⟨i0, hi, hz0, hz1, hz2⟩ := info_parts infoU
  obtain ⟨n, hn⟩ : ∃ n, n = max l.length m.length := ⟨_, rfl⟩
  have hn8 : n * 8 ≤ 140737488355328 := by omega
  have hmk := fun w => run_make1 (P := Tryd.prog) 45 60 i0 _ Tryd.underlying45 hi hz0 hz1 rfl n (by rw [hz2]; omega) (by omega) w
  have HN := Lib.hid hn
  have R := Lib.hid r
  have R' := Lib.hid r'
  have HH := Lib.hid H
  clear hn r r' H
  go_enter Tryd.func31, Tryd.ntmps31
  go_upto_region 1 with (fail)
  go_cut [7] (fun x wx => x = .slice (some ⟨w.heap.size, 0, none⟩) n n ∧ wx = w.alloc (.cells (Array.replicate n (.int .u64 0)) 60))
  case first =>
    rcases Nat.lt_trichotomy l.length m.length with h | h | h
    · have hn : n = m.length := by rw [HN.out]; omega
      subst hn
      have hd : decide ((l.length : Int) < (m.length : Int)) = true := by simp; omega
      go_wp2
      go_meet
      exact ⟨rfl, rfl⟩
    · have hn : n = l.length := by rw [HN.out]; omega
      subst hn
      have h1 : l.length ≤ m.length := by omega
      have h2 : m.length ≤ l.length := by omega
      clear h
      go_wp2
      go_meet
      exact ⟨rfl, rfl⟩
    · have hn : n = l.length := by rw [HN.out]; omega
      subst hn
      have hd : decide ((l.length : Int) < (m.length : Int)) = false := by simp; omega
      have hd2 : decide ((m.length : Int) < (l.length : Int)) = true := by simp; omega
      go_wp2
      go_meet
      exact ⟨rfl, rfl⟩
  case rest =>
    obtain ⟨rfl, rfl⟩ := hcut
    clear hmk
    go_wp2
    go_loopw [18] (fun t wr => ∃ q : Nat, q ≤ n ∧ t = .int .i64 q ∧ Below w.heap.size w wr ∧ w.heap.size < wr.heap.size ∧ OwnU 60 wr w.heap.size Nowhere ((List.range n).map fun (k : Nat) => if k < q then f (hand l k) (hand m k) else 0) (.slice (some ⟨w.heap.size, 0, none⟩) n n)) (fun t _ => n - (intOf t).toNat)
    case atStart =>
      refine ⟨0, by omega, rfl, (Below.refl _ _).alloc (Nat.le_refl _) _, by simp, ?_⟩
      have e : ((List.range n).map fun (k : Nat) => if k < 0 then f (hand l k) (hand m k) else 0) = List.replicate n 0 := by
        apply List.ext_getElem <;> simp
      rw [e]
      exact OwnL.made (f := fun (x : Nat) => Value.int .u64 (x : Int)) (ok := okU) 0 (by unfold okU; omega) (Nat.le_refl _) (by unfold maxLen; omega)
    case round =>
      obtain ⟨q, hq, rfl, hbel, hsz, ho⟩ := hrel
      by_cases hlt : q < n
      · have HO := Lib.hid ho
        have r1 := Lib.hid (R.out.go Flat.keeps hbel hS (Sub.refl _))
        have r2 := Lib.hid (R'.out.go Flat.keeps hbel hT (Sub.refl _))
        obtain ⟨g, cap2, hv, _, hg2, _, _, hfr, hcell⟩ := ho.open_ (by simp; omega)
        simp only [Value.slice.injEq, Option.some.injEq, Addr.mk.injEq, and_true] at hv
        obtain ⟨hgw, -, -⟩ := hv
        subst hgw
        have hf0 := hfr q
        have hc := (hcell q (by simp; omega)).2
        simp only [List.getElem_map, List.getElem_range, Nat.lt_irrefl, if_false] at hc
        have hok := hand_ok R.out.oks q
        have hok' := hand_ok R'.out.oks q
        have hset := OwnU.set_ ho (q := q) (by simp; omega) (f (hand l q) (hand m q)) (hf _ _ hok hok')
        have e : (((List.range n).map fun (k : Nat) => if k < q then f (hand l k) (hand m k) else 0).set q (f (hand l q) (hand m q))) = ((List.range n).map fun (k : Nat) => if k < q + 1 then f (hand l k) (hand m k) else 0) := by
          apply List.ext_getElem
          · simp
          · intro k h1 h2
            simp only [List.getElem_set, List.getElem_map, List.getElem_range]
            by_cases hk : q = k
            · subst hk; simp
            · rw [if_neg hk]
              by_cases hk2 : k < q
              · rw [if_pos hk2, if_pos (by omega)]
              · rw [if_neg hk2, if_neg (by omega)]
        rw [e] at hset
        have HS := Lib.hid hset
        have hbs := hbel.setCell (p := ⟨w.heap.size, q, none⟩) (Nat.le_refl _) (.int .u64 ((f (hand l q) (hand m q) : Nat) : Int))
        clear hset e ho hcell hfr
        go_wp2_with fail
        refine (bs_at_any l q _ S _ r1.out).mono ?_
        rintro e w' ⟨rfl, rfl⟩
        go_wp2_with fail
        refine (bs_at_any m q _ T _ r2.out).mono ?_
        rintro e w' ⟨rfl, rfl⟩
        go_wp2_with fail
        refine (HH.out _ _ _ hok hok').mono ?_
        rintro e w' ⟨rfl, rfl⟩
        go_wp2_with fail
        go_roundw
        case rel => exact ⟨q + 1, by omega, by go_num, hbs, by rw [size_setCell]; exact hsz, HS.out⟩
        case measure => simp [intOf]; omega
      · have e : ((List.range n).map fun (k : Nat) => if k < q then f (hand l k) (hand m k) else 0) = (List.range n).map fun (k : Nat) => f (hand l k) (hand m k) := by
          apply List.map_congr_left
          intro k hk
          rw [if_pos (by simp at hk; omega)]
        rw [e] at ho
        have HR := Lib.hid (ho.toRd (bytes := 8) (S' := Plus Nowhere w.heap.size wr.heap.size) Flat.keeps (by simp; omega) (Sub.nowhere _) (fun b h1 h2 => .inr ⟨h1, h2⟩))
        have HJ := Lib.hid (show zipB f l m = trimL ((List.range n).map fun (k : Nat) => f (hand l k) (hand m k)) by rw [HN.out, zip_hand])
        clear e ho
        go_wp2_with (go_at_call 47; refine (bs_trim_any _ _ (Plus Nowhere w.heap.size wr.heap.size) _ HR.out).mono ?_; rintro e w' ⟨⟨x, rfl, hx⟩, rfl⟩)
        go_ret
        exact ⟨x, rfl, by rw [HJ.out]; exact hx, hbel⟩
theorem splice_pad (l : List Nat) (n : Nat) (h : l.length ≤ n) : splice (List.replicate n (Value.int .u64 0)) 0 (l.map fun (x : Nat) => Value.int .u64 (x : Int)) = (padL l n).map fun (x : Nat) => Value.int .u64 (x : Int) := by
  unfold splice padL
  simp
/-- a fresh row of words, out of its cells -/
theorem ownU_heap {w : World} {g base n : Nat} {E : TypeId} {l : List Nat} (hl : l.length = n) (hok : ∀ x ∈ l, okU x) (h : w.heap[g]? = some (.cells (l.map fun (x : Nat) => Value.int .u64 (x : Int)).toArray E (0, 0))) (hb : base ≤ g) (hn : n ≤ maxLen) :
    OwnU E w base Nowhere l (.slice (some ⟨g, 0, none⟩) n n) := by
  subst hl
  exact OwnL.of_cells (f := fun (x : Nat) => Value.int .u64 (x : Int)) ⟨by simp, .inr ⟨g, _, _, rfl, hb, h, Nat.le_refl _, hn, by simp, by simp; exact List.take_of_length_le (by simp)⟩⟩ hok
/-- what Add makes -/
def addL (l : List Nat) (n : Int) : List Nat := if inTick n then orB l n.toNat else l
theorem sub_plus (S : Blocks) (n m : Nat) : Sub S (Plus S n m) := fun b h => .inl h
set_option maxHeartbeats 600000 in
set_option maxRecDepth 100000 in
theorem add_any (l : List Nat) (n : Int) (w : World) (S : Blocks) (v : Value) (hS : Sub S (Upto w.heap.size)) (r : RdU w S l v) :
    Calls Tryd.prog 30 #[v, .int .i64 n] w fun e w' => ∃ u, e = .returned u ∧ RdU w' (Plus S w.heap.size w'.heap.size) (addL l n) u ∧ Below w.heap.size w w' := by
  obtain ⟨A, cap, rfl, hl, hcm, hby⟩ := r.form
  unfold maxLen at hcm
  obtain ⟨i0, hi, hz0, hz1, hz2⟩ := info_parts infoU
  by_cases hin : inTick n = true
  · have h2 : 0 ≤ n ∧ n ≤ 65535 := by simpa [inTick] using hin
    obtain ⟨q, rfl⟩ := Int.eq_ofNat_of_zero_le h2.1
    have hq6 : (q : Int) ≤ 65535 := h2.2
    obtain ⟨k, hk⟩ : ∃ k, k = max l.length (q / 64 + 1) := ⟨_, rfl⟩
    have hpl : (padL l k).length = k := by rw [padL_length]; omega
    have hpk : padL l k = padL l (q / 64 + 1) := by unfold padL; rw [hk]; congr 2; omega
    have HA := Lib.hid (show addL l q = (padL l k).set (q / 64) ((l[q / 64]?).getD 0 ||| 2 ^ (q % 64)) by unfold addL orB; rw [if_pos hin, hpk]; rfl)
    have hk8 : k * 8 ≤ 140737488355328 := by omega
    have hkq : q / 64 < k := by omega
    have hlk : l.length ≤ k := by omega
    have hmk := fun w => run_make1 (P := Tryd.prog) 45 60 i0 _ Tryd.underlying45 hi hz0 hz1 rfl k (by rw [hz2]; omega) (by omega) w
    obtain ⟨cs, hcs⟩ : ∃ cs, cs = l.map fun (x : Nat) => Value.int .u64 (x : Int) := ⟨_, rfl⟩
    have HK := Lib.hid hk
    have HCS := Lib.hid hcs
    have hcl : cs.length = l.length := by rw [hcs]; simp
    have R := Lib.hid r
    clear hin h2 hk hcs r hpk
    go_enter Tryd.func30, Tryd.ntmps30
    go_upto_region 3 with (fail)
    go_cut [5] (fun x wx => x = .slice (some ⟨w.heap.size, 0, none⟩) k k ∧ wx = w.alloc (.cells (Array.replicate k (.int .u64 0)) 60))
    case first =>
      rcases Nat.lt_or_ge l.length (q / 64 + 1) with h | h
      · have hn : (k : Int) = (q : Int) / 64 + 1 := by have := HK.out; omega
        simp only [hn] at hmk
        clear HK hn
        go_wp2
        all_goals (go_meet; exact ⟨rfl, rfl⟩)
      · have hn : k = l.length := by rw [HK.out]; omega
        subst hn
        clear HK
        go_wp2
        all_goals (go_meet; exact ⟨rfl, rfl⟩)
    case rest =>
      obtain ⟨rfl, rfl⟩ := hcut
      clear hmk
      go_wp2_with (refine wpList_copy_splice rfl _ _ 45 45 rfl 60 Tryd.underlying45 (by kernel_rfl) _ _ _ _ _ _ rfl rfl w.heap.size 0 (List.replicate k (.int .u64 0)) 60 ?c0 cs ?c1 ?c2 ?c3 ?c4 w.heap.size w ?c5 (Nat.le_refl _) ?_)
      case c0 => rw [List.toArray_replicate]; exact heap_alloc_new w _
      case c1 => rw [hcl]; exact (Nat.min_eq_left hlk).symm
      case c2 =>
        intro hp
        obtain ⟨b, off, rfl, hb, _, _⟩ := RdU.at1 R.out (q := 0) (by omega)
        refine ⟨_, rfl, fun j v hj => ?_⟩
        rw [HCS.out, List.getElem?_map] at hj
        obtain ⟨x, hx, rfl⟩ := Option.map_eq_some_iff.1 hj
        obtain ⟨hjl, hx⟩ := List.getElem?_eq_some_iff.1 hx
        obtain ⟨b', off', e, hb', _, hc⟩ := RdU.at1 R.out (q := j) hjl
        cases e
        have hadd : (⟨b, off, none⟩ : Addr).add j = ⟨b, off + j, none⟩ := by unfold Addr.add; split <;> simp_all
        rw [hadd, ← hx]
        exact ((Below.refl w.heap.size w).alloc (Nat.le_refl _) _).cell (hS _ hb') |>.trans hc
      case c3 => simp; omega
      case c4 => intro u hu; rw [HCS.out] at hu; obtain ⟨x, _, rfl⟩ := List.mem_map.1 hu; rfl
      case c5 => exact (Below.refl _ _).alloc (Nat.le_refl _) _
      intro w2 hg2 hb2
      have hh := hg2
      unfold Hid at hh
      rw [HCS.out, splice_pad l k hlk] at hh
      have hoks : ∀ x ∈ padL l k, okU x := by
        intro x hx
        unfold padL at hx
        rcases List.mem_append.1 hx with hx | hx
        · exact R.out.oks x hx
        · rw [(List.mem_replicate.1 hx).2]; simp [okU]
      have ho := ownU_heap (base := w.heap.size) hpl hoks hh (Nat.le_refl _) (by unfold maxLen; omega)
      obtain ⟨gb, cap2, hv, hg1, hgs, hg3, hg4, hfr, hcell⟩ := ho.open_ (by omega)
      injection hv with e1 e2 e3
      injection e1 with e1
      injection e1 with e1
      subst e1
      obtain ⟨x, hx⟩ : ∃ x : Nat, x = (l[q / 64]?).getD 0 := ⟨_, rfl⟩
      have hc : w2.cell? ⟨w.heap.size, q / 64, none⟩ = some (.int .u64 (x : Int)) := by
        have h := (hcell (q / 64) (by omega)).2
        have e : (padL l k)[q / 64]'(by omega) = x := by
          rw [hx, ← padL_get l k, List.getElem?_eq_getElem (by omega)]; rfl
        rw [e] at h
        exact h
      have hf0 := hfr (q / 64)
      have hxo : okU x := by rw [hx]; exact hand_word R.out.oks _
      have hor := u64_or_nat x (2 ^ (q % 64)) hxo (pow_word (Nat.mod_lt _ (by decide)))
      have hyo : okU (x ||| 2 ^ (q % 64)) := word_or hxo (pow_word (Nat.mod_lt _ (by decide)))
      have hw1 : IntKind.u64.wrap ((2 : Int) ^ (q % 64)) = ((2 ^ (q % 64) : Nat) : Int) := by
        have e : ((2 : Int) ^ (q % 64)) = ((2 ^ (q % 64) : Nat) : Int) := by simp
        have := pow_word (j := q % 64) (Nat.mod_lt _ (by decide))
        have h0 := Nat.two_pow_pos (q % 64)
        unfold okU at this
        rw [e, IntKind.wrap_u64]; omega
      have hset := OwnU.set_ ho (q := q / 64) (by omega) (x ||| 2 ^ (q % 64)) hyo
      rw [hx, ← HA.out, ← hx] at hset
      have hlen : (addL l q).length = k := by rw [HA.out, List.length_set, hpl]
      have hrd := hset.toRd (bytes := 8) (S' := Plus S w.heap.size (w2.setCell ⟨w.heap.size, q / 64, none⟩ (.int .u64 ((x ||| 2 ^ (q % 64) : Nat) : Int))).heap.size) Flat.keeps (by rw [hlen]; exact hk8) (Sub.nowhere _) (fun b h1 h2 => .inr ⟨h1, h2⟩)
      have hbs := hb2.setCell (p := ⟨w.heap.size, q / 64, none⟩) (Nat.le_refl _) (.int .u64 ((x ||| 2 ^ (q % 64) : Nat) : Int))
      obtain ⟨y, hy⟩ : ∃ y, y = x ||| 2 ^ (q % 64) := ⟨_, rfl⟩
      obtain ⟨z, hz⟩ : ∃ z, z = 2 ^ (q % 64) := ⟨_, rfl⟩
      rw [← hy] at hrd hbs hor
      rw [← hz] at hor hw1
      have HRD := Lib.hid hrd
      have HBS := Lib.hid hbs
      have HOR := Lib.hid hor
      have HW1 := Lib.hid hw1
      clear hg2 hh hoks ho hfr hcell hx hxo hyo hor hw1 hset hlen hrd hbs hy hz hcl HA HCS HK hpl e2 e3
      go_wp2_with fail
      go_region
      rw [HW1.out, HOR.out]
      go_wp2
      go_ret
      exact ⟨_, rfl, HRD.out, HBS.out.drew⟩
  · have HA := Lib.hid (show addL l n = l by unfold addL; rw [if_neg hin])
    have h2 : n < 0 ∨ 65535 < n := by
      rcases Classical.em (0 ≤ n) with h | h
      · rcases Classical.em (n ≤ 65535) with h' | h'
        · exact absurd (by simp [inTick, h, h']) hin
        · exact .inr (by omega)
      · exact .inl (by omega)
    have R := Lib.hid (r.keep Flat.keeps (sub_plus S w.heap.size w.heap.size) (Same.refl _ _))
    clear hin r
    rcases h2 with h2 | h2
    all_goals
      go_enter Tryd.func30, Tryd.ntmps30
      go_wp2
      go_ret
      exact ⟨_, rfl, by rw [HA.out]; exact R.out, Below.refl _ _⟩
end Go.Proofs.YtnpgpcnkdocknaaDoor
namespace Go.Proofs.YtnpgpcnkdocknaaDoor
open Go.Shelf Go.RowKit
set_option linter.unusedVariables false
def lays729_ren : Go.Shelf.Ren := ⟨fun | 29 => 24 | n => n, fun | 22 => 60 | 3 => 3 | 4 => 4 | 25 => 67 | 54 => 71 | 0 => 0 | 5 => 5 | n => n, fun | 1 => 0 | n => n⟩
theorem lays729 : Go.Proofs.Lays7.n29 Tryd.prog lays729_ren where
  mixed := by kernel_rfl
  f29 := Tryd.func24.trans (congrArg some (by kernel_rfl))
  t0 := Tryd.underlying0
  a0 := Tryd.isAgg0
  z0 := Tryd.sizeOf0
  v0 := Tryd.zeroValue0
  i0 := by kernel_rfl
  t3 := Tryd.underlying3
  a3 := Tryd.isAgg3
  z3 := Tryd.sizeOf3
  v3 := Tryd.zeroValue3
  i3 := by kernel_rfl
  t4 := Tryd.underlying4
  a4 := Tryd.isAgg4
  z4 := Tryd.sizeOf4
  v4 := Tryd.zeroValue4
  i4 := by kernel_rfl
  t5 := Tryd.underlying5
  a5 := Tryd.isAgg5
  z5 := Tryd.sizeOf5
  v5 := Tryd.zeroValue5
  i5 := by kernel_rfl
  t22 := Tryd.underlying60
  a22 := Tryd.isAgg60
  z22 := Tryd.sizeOf60
  v22 := Tryd.zeroValue60
  i22 := by kernel_rfl
  t25 := Tryd.underlying67
  a25 := Tryd.isAgg67
  z25 := Tryd.sizeOf67
  v25 := Tryd.zeroValue67
  i25 := by kernel_rfl
  t54 := Tryd.underlying71
  a54 := Tryd.isAgg71
  z54 := Tryd.sizeOf71
  g1 := by kernel_rfl
/-- the library's table lies in its variable -/
def Tab (w : World) : Prop := TabAt 0 Lib.deBruijn64tab w ∧ 0 < w.heap.size
theorem Tab.below {w w' : World} {B : Nat} (h : Tab w) (hb : Below B w w') (hB : 0 < B) : Tab w' :=
  ⟨fun j hj => (hb.cell (p := ⟨0, j, none⟩) hB).trans (h.1 j hj), Nat.lt_of_lt_of_le h.2 hb.size⟩
theorem Tab.go {w w' : World} (h : Tab w) (hb : Below w.heap.size w w') : Tab w' := h.below hb h.2
theorem tz_n (x : Nat) (hx : x < 18446744073709551616) (w : World) (hT : Tab w) : Calls Tryd.prog 24 #[.int .u64 x] w fun e w' => e = .returned (.int .i64 (Lib.ctz 64 x)) ∧ w = w' :=
  (Any7.bits_TrailingZeros64 lays729 x hx w (fun _ => hT.1)).mono fun _ _ h => ⟨h.1, h.2.symm⟩
end Go.Proofs.YtnpgpcnkdocknaaDoor
