/- Walks of bitset's Add and Of. -/
import Derived.Test.YtknaoianhjeccaaDoorBs1
import Derived.Test.YtknaoianhjeccaaDoorSetSpec
import Derived.Test.YtknaoianhjeccaaDoorBlk
import Derived.Laws.CopyOwn
import Derived.Laws.BitsAllLaws
import Derived.Laws.Bits64b
namespace Go.Proofs.YtknaoianhjeccaaDoor
open Go.RowKit
set_option linter.unusedVariables false
theorem splice_pad (l : List Nat) (n : Nat) (h : l.length ≤ n) : splice (List.replicate n (Value.int .u64 0)) 0 (l.map fun (x : Nat) => Value.int .u64 (x : Int)) = (padL l n).map fun (x : Nat) => Value.int .u64 (x : Int) := by
  unfold splice padL
  simp
/-- a fresh row of words, out of its cells -/
theorem ownU_heap {w : World} {g base n : Nat} {E : TypeId} {l : List Nat} (hl : l.length = n) (hok : ∀ x ∈ l, okU x) (h : w.heap[g]? = some (.cells (l.map fun (x : Nat) => Value.int .u64 (x : Int)).toArray E (0, 0))) (hb : base ≤ g) (hn : n ≤ maxLen) :
    OwnU E w base Nowhere l (.slice (some ⟨g, 0, none⟩) n n) := by
  subst hl
  exact OwnL.of_cells (f := fun (x : Nat) => Value.int .u64 (x : Int)) ⟨by simp, .inr ⟨g, _, _, rfl, hb, h, Nat.le_refl _, hn, by simp, by simp; exact List.take_of_length_le (by simp)⟩⟩ hok
/-- what Add makes -/
def addL (l : List Nat) (n : Int) : List Nat := if inTick n then orB l n.toNat else l
theorem sub_plus (S : Blocks) (n m : Nat) : Sub S (Plus S n m) := fun b h => .inl h
set_option maxHeartbeats 600000 in
set_option maxRecDepth 100000 in
theorem add_any (l : List Nat) (n : Int) (w : World) (S : Blocks) (v : Value) (hS : Sub S (Upto w.heap.size)) (r : RdU w S l v) :
    Calls Tryd.prog 28 #[v, .int .i64 n] w fun e w' => ∃ u, e = .returned u ∧ RdU w' (Plus S w.heap.size w'.heap.size) (addL l n) u ∧ Below w.heap.size w w' := by
  obtain ⟨A, cap, rfl, hl, hcm, hby⟩ := r.form
  unfold maxLen at hcm
  obtain ⟨i0, hi, hz0, hz1, hz2⟩ := info_parts infoU
  by_cases hin : inTick n = true
  · have h2 : 0 ≤ n ∧ n ≤ 65535 := by simpa [inTick] using hin
    obtain ⟨q, rfl⟩ := Int.eq_ofNat_of_zero_le h2.1
    have hq6 : (q : Int) ≤ 65535 := h2.2
    obtain ⟨k, hk⟩ : ∃ k, k = max l.length (q / 64 + 1) := ⟨_, rfl⟩
    have hpl : (padL l k).length = k := by rw [padL_length]; omega
    have hpk : padL l k = padL l (q / 64 + 1) := by unfold padL; rw [hk]; congr 2; omega
    have HA := Lib.hid (show addL l q = (padL l k).set (q / 64) ((l[q / 64]?).getD 0 ||| 2 ^ (q % 64)) by unfold addL orB; rw [if_pos hin, hpk]; rfl)
    have hk8 : k * 8 ≤ 140737488355328 := by omega
    have hkq : q / 64 < k := by omega
    have hlk : l.length ≤ k := by omega
    have hmk := fun w => run_make1 (P := Tryd.prog) 53 37 i0 _ Tryd.underlying53 hi hz0 hz1 rfl k (by rw [hz2]; omega) (by omega) w
    obtain ⟨cs, hcs⟩ : ∃ cs, cs = l.map fun (x : Nat) => Value.int .u64 (x : Int) := ⟨_, rfl⟩
    have HK := Lib.hid hk
    have HCS := Lib.hid hcs
    have hcl : cs.length = l.length := by rw [hcs]; simp
    have R := Lib.hid r
    clear hin h2 hk hcs r hpk
    go_enter Tryd.func28, Tryd.ntmps28
    go_upto_region 3 with (fail)
    go_cut [5] (fun x wx => x = .slice (some ⟨w.heap.size, 0, none⟩) k k ∧ wx = w.alloc (.cells (Array.replicate k (.int .u64 0)) 37))
    case first =>
      rcases Nat.lt_or_ge l.length (q / 64 + 1) with h | h
      · have hn : (k : Int) = (q : Int) / 64 + 1 := by have := HK.out; omega
        simp only [hn] at hmk
        clear HK hn
        go_wp2
        all_goals (go_meet; exact ⟨rfl, rfl⟩)
      · have hn : k = l.length := by rw [HK.out]; omega
        subst hn
        clear HK
        go_wp2
        all_goals (go_meet; exact ⟨rfl, rfl⟩)
    case rest =>
      obtain ⟨rfl, rfl⟩ := hcut
      clear hmk
      go_wp2_with (refine wpList_copy_splice rfl _ _ 53 53 rfl 37 Tryd.underlying53 (by kernel_rfl) _ _ _ _ _ _ rfl rfl w.heap.size 0 (List.replicate k (.int .u64 0)) 37 ?c0 cs ?c1 ?c2 ?c3 ?c4 w.heap.size w ?c5 (Nat.le_refl _) ?_)
      case c0 => rw [List.toArray_replicate]; exact heap_alloc_new w _
      case c1 => rw [hcl]; exact (Nat.min_eq_left hlk).symm
      case c2 =>
        intro hp
        obtain ⟨b, off, rfl, hb, _, _⟩ := RdU.at1 R.out (q := 0) (by omega)
        refine ⟨_, rfl, fun j v hj => ?_⟩
        rw [HCS.out, List.getElem?_map] at hj
        obtain ⟨x, hx, rfl⟩ := Option.map_eq_some_iff.1 hj
        obtain ⟨hjl, hx⟩ := List.getElem?_eq_some_iff.1 hx
        obtain ⟨b', off', e, hb', _, hc⟩ := RdU.at1 R.out (q := j) hjl
        cases e
        have hadd : (⟨b, off, none⟩ : Addr).add j = ⟨b, off + j, none⟩ := by unfold Addr.add; split <;> simp_all
        rw [hadd, ← hx]
        exact ((Below.refl w.heap.size w).alloc (Nat.le_refl _) _).cell (hS _ hb') |>.trans hc
      case c3 => simp; omega
      case c4 => intro u hu; rw [HCS.out] at hu; obtain ⟨x, _, rfl⟩ := List.mem_map.1 hu; rfl
      case c5 => exact (Below.refl _ _).alloc (Nat.le_refl _) _
      intro w2 hg2 hb2
      have hh := hg2
      unfold Hid at hh
      rw [HCS.out, splice_pad l k hlk] at hh
      have hoks : ∀ x ∈ padL l k, okU x := by
        intro x hx
        unfold padL at hx
        rcases List.mem_append.1 hx with hx | hx
        · exact R.out.oks x hx
        · rw [(List.mem_replicate.1 hx).2]; simp [okU]
      have ho := ownU_heap (base := w.heap.size) hpl hoks hh (Nat.le_refl _) (by unfold maxLen; omega)
      obtain ⟨gb, cap2, hv, hg1, hgs, hg3, hg4, hfr, hcell⟩ := ho.open_ (by omega)
      injection hv with e1 e2 e3
      injection e1 with e1
      injection e1 with e1
      subst e1
      obtain ⟨x, hx⟩ : ∃ x : Nat, x = (l[q / 64]?).getD 0 := ⟨_, rfl⟩
      have hc : w2.cell? ⟨w.heap.size, q / 64, none⟩ = some (.int .u64 (x : Int)) := by
        have h := (hcell (q / 64) (by omega)).2
        have e : (padL l k)[q / 64]'(by omega) = x := by
          rw [hx, ← padL_get l k, List.getElem?_eq_getElem (by omega)]; rfl
        rw [e] at h
        exact h
      have hf0 := hfr (q / 64)
      have hxo : okU x := by rw [hx]; exact hand_word R.out.oks _
      have hor := u64_or_nat x (2 ^ (q % 64)) hxo (pow_word (Nat.mod_lt _ (by decide)))
      have hyo : okU (x ||| 2 ^ (q % 64)) := word_or hxo (pow_word (Nat.mod_lt _ (by decide)))
      have hw1 : IntKind.u64.wrap ((2 : Int) ^ (q % 64)) = ((2 ^ (q % 64) : Nat) : Int) := by
        have e : ((2 : Int) ^ (q % 64)) = ((2 ^ (q % 64) : Nat) : Int) := by simp
        have := pow_word (j := q % 64) (Nat.mod_lt _ (by decide))
        have h0 := Nat.two_pow_pos (q % 64)
        unfold okU at this
        rw [e, IntKind.wrap_u64]; omega
      have hset := OwnU.set_ ho (q := q / 64) (by omega) (x ||| 2 ^ (q % 64)) hyo
      rw [hx, ← HA.out, ← hx] at hset
      have hlen : (addL l q).length = k := by rw [HA.out, List.length_set, hpl]
      have hrd := hset.toRd (bytes := 8) (S' := Plus S w.heap.size (w2.setCell ⟨w.heap.size, q / 64, none⟩ (.int .u64 ((x ||| 2 ^ (q % 64) : Nat) : Int))).heap.size) Flat.keeps (by rw [hlen]; exact hk8) (Sub.nowhere _) (fun b h1 h2 => .inr ⟨h1, h2⟩)
      have hbs := hb2.setCell (p := ⟨w.heap.size, q / 64, none⟩) (Nat.le_refl _) (.int .u64 ((x ||| 2 ^ (q % 64) : Nat) : Int))
      obtain ⟨y, hy⟩ : ∃ y, y = x ||| 2 ^ (q % 64) := ⟨_, rfl⟩
      obtain ⟨z, hz⟩ : ∃ z, z = 2 ^ (q % 64) := ⟨_, rfl⟩
      rw [← hy] at hrd hbs hor
      rw [← hz] at hor hw1
      have HRD := Lib.hid hrd
      have HBS := Lib.hid hbs
      have HOR := Lib.hid hor
      have HW1 := Lib.hid hw1
      clear hg2 hh hoks ho hfr hcell hx hxo hyo hor hw1 hset hlen hrd hbs hy hz hcl HA HCS HK hpl e2 e3
      go_wp2_with fail
      go_region
      rw [HW1.out, HOR.out]
      go_wp2
      go_ret
      exact ⟨_, rfl, HRD.out, HBS.out.drew⟩
  · have HA := Lib.hid (show addL l n = l by unfold addL; rw [if_neg hin])
    have h2 : n < 0 ∨ 65535 < n := by
      rcases Classical.em (0 ≤ n) with h | h
      · rcases Classical.em (n ≤ 65535) with h' | h'
        · exact absurd (by simp [inTick, h, h']) hin
        · exact .inr (by omega)
      · exact .inl (by omega)
    have R := Lib.hid (r.keep Flat.keeps (sub_plus S w.heap.size w.heap.size) (Same.refl _ _))
    clear hin r
    rcases h2 with h2 | h2
    all_goals
      go_enter Tryd.func28, Tryd.ntmps28
      go_wp2
      go_ret
      exact ⟨_, rfl, by rw [HA.out]; exact R.out, Below.refl _ _⟩
end Go.Proofs.YtknaoianhjeccaaDoor
