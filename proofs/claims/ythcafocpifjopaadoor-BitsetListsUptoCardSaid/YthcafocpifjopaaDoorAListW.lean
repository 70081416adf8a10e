/- Walks of the reference's ABit and AList. -/
import Derived.Test.YthcafocpifjopaaDoorBs1
import Derived.Test.YthcafocpifjopaaDoorPopFold
namespace Go.Proofs.YthcafocpifjopaaDoor
open Go.RowKit
set_option linter.unusedVariables false
theorem bs_infoI : (Tryd.prog.info? 3).map (fun i => (i.zero, i.size, i.bytes)) = some (some (.int .i64 0), 1, 8) := by kernel_rfl
theorem half_pow (x i : Nat) : x / 2 ^ i / 2 = x / 2 ^ (i + 1) := by rw [Nat.div_div_eq_div_mul, Nat.pow_succ]

set_option maxHeartbeats 400000 in
theorem abit_any (l : List Nat) (n : Nat) (hn : n ≤ 9223372036854775807) (w : World) (S : Blocks) (v : Value) (r : RdU w S l v) :
    Calls Tryd.prog 20 #[v, .int .i64 n] w fun e w' => e = .returned (.bool (bitB l n)) ∧ w = w' := by
  obtain ⟨A, cap, rfl, hl, hcm, hby⟩ := r.form
  unfold maxLen at hcm
  by_cases hq : n / 64 < l.length
  · obtain ⟨b, off, rfl, _, hok, hc⟩ := RdU.at1 r hq
    obtain ⟨x, hx⟩ : ∃ x, x = l[n/64] := ⟨_, rfl⟩
    rw [← hx] at hok hc
    have HB := Lib.hid (show bitB l n = decide (x / 2 ^ (n % 64) % 2 = 1) by unfold bitB; rw [List.getElem?_eq_getElem hq, Option.getD_some, hx, Nat.testBit_eq_decide_div_mod_eq])
    clear hx r
    go_enter Tryd.func20, Tryd.ntmps20
    go_wp2
    go_loop [5, 18] (fun t i => ∃ k : Nat, k ≤ n % 64 ∧ i = .int .i64 k ∧ t = .int .u64 ((x / 2 ^ k : Nat) : Int)) (fun _ i => n % 64 - (intOf i).toNat)
    case atStart => exact ⟨0, by omega, rfl, by simp⟩
    case round =>
      obtain ⟨k, hk, rfl, rfl⟩ := hrel
      have hy : x / 2 ^ k < 18446744073709551616 := Nat.lt_of_le_of_lt (Nat.div_le_self _ _) hok
      by_cases hlt : k < n % 64
      · have HH := Lib.hid (half_pow x k)
        generalize x / 2 ^ k = y at hy HH ⊢
        go_wp2
        go_round
        case rel => exact ⟨k + 1, by omega, by go_num, by rw [← HH.out]; rfl⟩
        case measure => simp [intOf]; omega
      · have hkn : k = n % 64 := by omega
        rw [← hkn] at HB
        generalize x / 2 ^ k = y at hy HB ⊢
        clear hkn
        go_wp2
        go_ret
        refine ⟨?_, rfl⟩
        rw [HB.out]
        have e : (((y : Nat) : Int) % 2 == 1) = decide (y % 2 = 1) := by
          rw [Bool.eq_iff_iff]; simp; omega
        first | (rw [e]; rfl) | (simp; omega)
  · have HB := Lib.hid (show bitB l n = false by unfold bitB; rw [List.getElem?_eq_none (by omega)]; simp)
    clear r
    go_enter Tryd.func20, Tryd.ntmps20
    go_wp2
    go_ret
    exact ⟨by rw [HB.out]; rfl, rfl⟩

set_option maxHeartbeats 600000 in
set_option maxRecDepth 100000 in
theorem alist_any (l : List Nat) (hsm : l.length ≤ 1048576) (w : World) (S : Blocks) (v : Value) (hS : Sub S (Upto w.heap.size)) (r : RdU w S l v) :
    Calls Tryd.prog 10 #[v] w fun e w' => ∃ x, e = .returned x ∧ RdI w' (Plus Nowhere w.heap.size w'.heap.size) (listB (bitB l) (64 * l.length)) x ∧ Below w.heap.size w w' := by
  obtain ⟨A, cap, rfl, hl, hcm, hby⟩ := r.form
  unfold maxLen at hcm
  obtain ⟨i0, hi, hz0, hz1, hz2⟩ := info_parts bs_infoI
  have R := Lib.hid r
  clear r
  go_enter Tryd.func10, Tryd.ntmps10
  go_wp2
  go_loopw [3, 8] (fun o t wr => ∃ q : Nat, q ≤ 64 * l.length ∧ t = .int .i64 q ∧ OwnI 3 wr w.heap.size Nowhere (listB (bitB l) q) o ∧ Below w.heap.size w wr) (fun _ t _ => 64 * l.length - (intOf t).toNat)
  case atStart => exact ⟨0, by omega, rfl, OwnL.nil _ _ _, Below.refl _ _⟩
  case round =>
    obtain ⟨q, hq, rfl, ho, hb⟩ := hrel
    have hlen := listB_length (bitB l) q
    have hle := cntB_le (bitB l) q
    have hlen2 : (listB (bitB l) q).length ≤ q := by omega
    clear hlen hle
    have HO := Lib.hid ho
    have hsz := hb.size
    have r1 := Lib.hid (R.out.go Flat.keeps hb hS (Sub.refl _))
    clear ho
    by_cases hlt : q < 64 * l.length
    · by_cases hp : bitB l q = true
      · have HC := Lib.hid (show listB (bitB l) (q + 1) = listB (bitB l) q ++ [(q : Int)] by conv => lhs; unfold listB; rw [if_pos hp])
        go_wp2_with fail
        refine (abit_any l q (by omega) _ S _ r1.out).mono ?_
        rintro e w' ⟨rfl, rfl⟩
        rw [hp]
        clear hp
        go_wp2_with (at_builtin; refine wpList_append_one rfl _ _ 22 rfl i0 _ Tryd.underlying22 hi hz0 hz1 hz2 rfl (by decide) Flat.keeps HO.out (x := (q : Int)) (cs := [Value.int .i64 (q : Int)]) (Tx := Nowhere) ?c0 rfl rfl rfl (Sub.nowhere _) (Sub.nowhere _) not_nowhere ?c1 ?c2 ?c3 ?c4 ?_)
        case c0 => exact ⟨rfl, by unfold inI; omega⟩
        case c1 => simp [Value.oneCell']
        case c2 => unfold maxLen; omega
        case c3 => omega
        case c4 => exact hsz
        intro v2 w2 ho2 hg2 _
        have hb2 : Below w.heap.size w w2 := hb.grown hg2 hsz (fun g hg => (HO.out.lt g hg).1)
        rw [← HC.out] at ho2
        have HO2 := Lib.hid ho2
        clear ho2 hg2
        go_wp2
        go_roundw
        case rel => exact ⟨q + 1, by omega, by go_num, HO2.out, hb2⟩
        case measure => simp [intOf]; omega
      · have hp0 : bitB l q = false := by simpa using hp
        have HC := Lib.hid (show listB (bitB l) (q + 1) = listB (bitB l) q by conv => lhs; unfold listB; rw [if_neg hp])
        clear hp
        go_wp2_with fail
        refine (abit_any l q (by omega) _ S _ r1.out).mono ?_
        rintro e w' ⟨rfl, rfl⟩
        rw [hp0]
        clear hp0
        go_wp2
        go_roundw
        case rel => exact ⟨q + 1, by omega, by go_num, by rw [HC.out]; exact HO.out, hb⟩
        case measure => simp [intOf]; omega
    · have hqn : q = 64 * l.length := by omega
      have hR := HO.out.toRd (bytes := 8) (S' := Plus Nowhere w.heap.size wr.heap.size) Flat.keeps (by omega) (Sub.nowhere _) (fun b h1 h2 => .inr ⟨h1, h2⟩)
      rw [hqn] at hR
      have HR := Lib.hid hR
      clear hR hqn
      go_wp2
      go_ret
      exact ⟨_, rfl, HR.out, hb⟩
end Go.Proofs.YthcafocpifjopaaDoor
