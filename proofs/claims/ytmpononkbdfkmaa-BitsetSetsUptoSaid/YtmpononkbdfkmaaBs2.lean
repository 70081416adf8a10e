/- Walks of the reference's ABit, AWhere and AList. -/
import Derived.Test.YtmpononkbdfkmaaBs1
namespace Go.Proofs.Ytmpononkbdfkmaa
open Go.RowKit
set_option linter.unusedVariables false
theorem bs_infoI : (Try.prog.info? 3).map (fun i => (i.zero, i.size, i.bytes)) = some (some (.int .i64 0), 1, 8) := by kernel_rfl
theorem half_pow (x i : Nat) : x / 2 ^ i / 2 = x / 2 ^ (i + 1) := by rw [Nat.div_div_eq_div_mul, Nat.pow_succ]

set_option maxHeartbeats 400000 in
theorem abit_any (l : List Nat) (n : Nat) (hn : n ≤ 9223372036854775807) (w : World) (S : Blocks) (v : Value) (r : RdU w S l v) :
    Calls Try.prog 82 #[v, .int .i64 n] w fun e w' => e = .returned (.bool (bitB l n)) ∧ w = w' := by
  obtain ⟨A, cap, rfl, hl, hcm, hby⟩ := r.form
  unfold maxLen at hcm
  by_cases hq : n / 64 < l.length
  · obtain ⟨b, off, rfl, _, hok, hc⟩ := RdU.at1 r hq
    obtain ⟨x, hx⟩ : ∃ x, x = l[n/64] := ⟨_, rfl⟩
    rw [← hx] at hok hc
    have HB := Lib.hid (show bitB l n = decide (x / 2 ^ (n % 64) % 2 = 1) by unfold bitB; rw [List.getElem?_eq_getElem hq, Option.getD_some, hx, Nat.testBit_eq_decide_div_mod_eq])
    clear hx r
    go_enter Try.func82, Try.ntmps82
    go_wp2
    go_loop [5, 18] (fun t i => ∃ k : Nat, k ≤ n % 64 ∧ i = .int .i64 k ∧ t = .int .u64 ((x / 2 ^ k : Nat) : Int)) (fun _ i => n % 64 - (intOf i).toNat)
    case atStart => exact ⟨0, by omega, rfl, by simp⟩
    case round =>
      obtain ⟨k, hk, rfl, rfl⟩ := hrel
      have hy : x / 2 ^ k < 18446744073709551616 := Nat.lt_of_le_of_lt (Nat.div_le_self _ _) hok
      by_cases hlt : k < n % 64
      · have HH := Lib.hid (half_pow x k)
        generalize x / 2 ^ k = y at hy HH ⊢
        go_wp2
        go_round
        case rel => exact ⟨k + 1, by omega, by go_num, by rw [← HH.out]; rfl⟩
        case measure => simp [intOf]; omega
      · have hkn : k = n % 64 := by omega
        rw [← hkn] at HB
        generalize x / 2 ^ k = y at hy HB ⊢
        clear hkn
        go_wp2
        go_ret
        refine ⟨?_, rfl⟩
        rw [HB.out]
        have e : (((y : Nat) : Int) % 2 == 1) = decide (y % 2 = 1) := by
          rw [Bool.eq_iff_iff]; simp; omega
        first | (rw [e]; rfl) | (simp; omega)
  · have HB := Lib.hid (show bitB l n = false by unfold bitB; rw [List.getElem?_eq_none (by omega)]; simp)
    clear r
    go_enter Try.func82, Try.ntmps82
    go_wp2
    go_ret
    exact ⟨by rw [HB.out]; rfl, rfl⟩

theorem setB_t {P : Nat → Bool} {n : Nat} (h : P n = true) : setB P (n + 1) = addB (setB P n) n := by
  conv => lhs; unfold setB
  rw [if_pos h]
theorem setB_f {P : Nat → Bool} {n : Nat} (h : P n = false) : setB P (n + 1) = setB P n := by
  conv => lhs; unfold setB
  rw [if_neg (by rw [h]; simp)]
theorem setB_sum {P : Nat → Bool} {n : Nat} (h : P n = true) : ((setB P n)[n / 64]?).getD 0 + 2 ^ (n % 64) < 18446744073709551616 := by
  have := setB_word P (n + 1) (n / 64)
  rw [setB_t h, addB_get, if_pos rfl] at this
  exact this

set_option maxHeartbeats 1000000 in
set_option maxRecDepth 100000 in
theorem awhere_any (F : FuncId) (g : Bool → Bool → Bool)
    (hF : ∀ (args : Array Value) (w : World), (callFunc F args).run Try.prog w = .ok (.enter F args) w)
    (H : ∀ (a b : Bool) (w : World), Calls Try.prog F #[.bool a, .bool b] w fun e w' => e = .returned (.bool (g a b)) ∧ w = w')
    (l m : List Nat) (w : World) (S T : Blocks) (v u : Value) (hS : Sub S (Upto w.heap.size)) (hT : Sub T (Upto w.heap.size)) (r : RdU w S l v) (r' : RdU w T m u) :
    Calls Try.prog 39 #[v, u, .func (.func F) #[] #[]] w fun e w' => ∃ x, e = .returned x ∧ RdU w' (Plus Nowhere w.heap.size w'.heap.size) (setB (fun n => g (bitB l n) (bitB m n)) (64 * max l.length m.length)) x ∧ Below w.heap.size w w' := by
  obtain ⟨A, cap, rfl, hl, hcm, hby⟩ := r.form
  obtain ⟨A', cap', rfl, hl', hcm', hby'⟩ := r'.form
  unfold maxLen at hcm hcm'
  obtain ⟨i0, hi, hz0, hz1, hz2⟩ := info_parts infoU
  obtain ⟨N, hN⟩ : ∃ N, N = 64 * max l.length m.length := ⟨_, rfl⟩
  obtain ⟨P, hP⟩ : ∃ P : Nat → Bool, P = fun n => g (bitB l n) (bitB m n) := ⟨_, rfl⟩
  rw [← hN, ← hP]
  have HPg := Lib.hid (fun n => show P n = g (bitB l n) (bitB m n) by rw [hP])
  have hN8 : N ≤ 1125899906842624 := by omega
  have HN := Lib.hid hN
  have R := Lib.hid r
  have R' := Lib.hid r'
  have HH := Lib.hid H
  clear hN r r' H hP
  go_enter Try.func39, Try.ntmps39
  go_upto_region 2 with (fail)
  go_cut [14, 15] (fun x y wx => x = .int .i64 (N : Int) ∧ y = .int .i64 0 ∧ w = wx)
  case first =>
    rcases Nat.lt_or_ge l.length m.length with h | h
    · have hn : (N : Int) = 64 * (m.length : Int) := by rw [HN.out]; omega
      have hn2 := Lib.hid hn
      clear hn
      have hd : decide ((l.length : Int) < (m.length : Int)) = true := by simp; omega
      go_wp2
      go_meet
      exact ⟨by rw [hn2.out], rfl, rfl⟩
    · have hn : (N : Int) = 64 * (l.length : Int) := by rw [HN.out]; omega
      have hn2 := Lib.hid hn
      clear hn
      go_wp2
      all_goals go_meet
      all_goals exact ⟨by rw [hn2.out], rfl, rfl⟩
  case rest =>
    obtain ⟨rfl, rfl, rfl⟩ := hcut
    go_wp2
    go_loopw [7, 15] (fun o t wr => ∃ q : Nat, q ≤ N ∧ t = .int .i64 q ∧ OwnU 28 wr w.heap.size Nowhere (setB P q) o ∧ Below w.heap.size w wr) (fun _ t _ => N - (intOf t).toNat)
    case atStart => exact ⟨0, by omega, rfl, OwnL.nil _ _ _, Below.refl _ _⟩
    case round =>
      obtain ⟨q, hq, rfl, ho, hb⟩ := hrel
      obtain ⟨wo, hwo⟩ : ∃ wo : World, wo = wr := ⟨_, rfl⟩
      subst hwo
      by_cases hlt : q < N
      · have HO := Lib.hid ho
        have r1 := Lib.hid (R.out.go Flat.keeps hb hS (Sub.refl _))
        have r2 := Lib.hid (R'.out.go Flat.keeps hb hT (Sub.refl _))
        have hcl := setB_length P q
        by_cases hp : P q = true
        · have hg : g (bitB l q) (bitB m q) = true := by rw [← HPg.out]; exact hp
          have HC := Lib.hid (show setB P (q + 1) = (padL (setB P q) (q / 64 + 1)).set (q / 64) (((setB P q)[q / 64]?).getD 0 + 2 ^ (q % 64)) from setB_t hp)
          have HSU := Lib.hid (setB_sum hp)
          clear ho hp
          go_wp2_with fail
          refine (abit_any l q (by omega) _ S _ r1.out).mono ?_
          rintro e w' ⟨rfl, rfl⟩
          go_wp2_with fail
          refine (abit_any m q (by omega) _ T _ r2.out).mono ?_
          rintro e w' ⟨rfl, rfl⟩
          go_wp2_with fail
          refine (HH.out _ _ _).mono ?_
          rintro e w' ⟨rfl, rfl⟩
          rw [hg]
          clear hg
          go_wp2_with fail
          go_loopw [7] (fun o wr => ∃ (k : Nat) (A : Option Addr) (c : Nat), o = .slice A ((setB P q).length + k) c ∧ OwnU 28 wr w.heap.size Nowhere (setB P q ++ List.replicate k 0) o ∧ Below w.heap.size w wr ∧ (setB P q).length + k ≤ q / 64 + 1)
            (fun o _ => match o with | .slice _ n _ => q / 64 + 1 - n | _ => 0)
          case atStart =>
            have ho1 := HO.out
            obtain ⟨A1, c1, rfl⟩ := ho1.form
            exact ⟨0, A1, c1, rfl, by simpa using ho1, hb, by omega⟩
          case round =>
            obtain ⟨k, A1, c1, rfl, ho, hb2, hk⟩ := hrel
            have HO := Lib.hid ho
            clear ho hb
            by_cases hlt2 : (setB P q).length + k ≤ q / 64
            · have hsz := hb2.size
              go_wp2_with (at_builtin; refine wpList_append_one rfl _ _ 27 rfl i0 _ Try.underlying27 hi hz0 hz1 hz2 rfl (by decide) Flat.keeps HO.out (x := (0 : Nat)) (cs := [Value.int .u64 0]) (Tx := Nowhere) ?c0 rfl rfl rfl (Sub.nowhere _) (Sub.nowhere _) not_nowhere ?c1 ?c2 ?c3 ?c4 ?_)
              case c0 => exact ⟨rfl, by unfold okU; omega⟩
              case c1 => simp [Value.oneCell']
              case c2 => simp [maxLen]; omega
              case c3 => simp; omega
              case c4 => exact hsz
              intro v2 w2 ho2 hg2 _
              have hb3 : Below w.heap.size w w2 := hb2.grown hg2 hsz (fun g hg => (HO.out.lt g hg).1)
              have ho3 : OwnU 28 w2 w.heap.size Nowhere (setB P q ++ List.replicate (k + 1) 0) v2 := by rw [List.replicate_succ']; simpa using ho2
              clear ho2 hg2
              obtain ⟨A2, c2, hv2⟩ := ho3.form
              simp only [List.length_append, List.length_replicate] at hv2
              subst hv2
              go_wp2
              go_roundw
              case rel => exact ⟨k + 1, A2, c2, rfl, ho3, hb3, by omega⟩
              case measure => simp; omega
            · have hkq : k = q / 64 + 1 - (setB P q).length := by omega
              have hp : setB P q ++ List.replicate k 0 = padL (setB P q) (q / 64 + 1) := by rw [hkq]; rfl
              have ho4 := HO.out
              rw [hp] at ho4
              have hpl : (padL (setB P q) (q / 64 + 1)).length = q / 64 + 1 := by rw [padL_length]; omega
              obtain ⟨gb, cap2, hv, hg1, hg2, hg3, hg4, hfr, hcell⟩ := ho4.open_ (by omega)
              injection hv with e1 e2 e3
              clear e2
              subst e1 e3
              obtain ⟨x, hx⟩ : ∃ x : Nat, x = ((setB P q)[q / 64]?).getD 0 := ⟨_, rfl⟩
              have hc : wr.cell? ⟨gb, q / 64, none⟩ = some (.int .u64 (x : Int)) := by
                have h := (hcell (q / 64) (by omega)).2
                have e : (padL (setB P q) (q / 64 + 1))[q / 64]'(by omega) = x := by
                  rw [hx, ← padL_get (setB P q) (q / 64 + 1), List.getElem?_eq_getElem (by omega)]; rfl
                rw [e] at h
                exact h
              have hsum := HSU.out
              rw [← hx] at hsum
              have hf0 := hfr (q / 64)
              have hset := OwnU.set_ ho4 (q := q / 64) (by omega) (x + 2 ^ (q % 64)) hsum
              have hbs := hb2.setCell (p := ⟨gb, q / 64, none⟩) hg1 (.int .u64 ((x + 2 ^ (q % 64) : Nat) : Int))
              rw [hx, ← HC.out, ← hx] at hset
              have HS := Lib.hid (hset.keep Flat.keeps (Below.refl _ _).drew)
              have HBS := Lib.hid hbs.drew
              clear hset hbs hx hpl hp hkq ho4 hfr hcell HO HC HSU
              go_wp2
              go_region
              have hp64 := Nat.two_pow_pos (q % 64)
              have hw1 : IntKind.u64.wrap ((2 : Int) ^ (q % 64)) = ((2 ^ (q % 64) : Nat) : Int) := by
                have e : ((2 : Int) ^ (q % 64)) = ((2 ^ (q % 64) : Nat) : Int) := by simp
                rw [e, IntKind.wrap_u64]; omega
              have hw2 : IntKind.u64.wrap ((x : Int) + ((2 ^ (q % 64) : Nat) : Int)) = ((x + 2 ^ (q % 64) : Nat) : Int) := by
                rw [IntKind.wrap_u64]; omega
              rw [hw1, hw2]
              clear hw1 hw2 hp64
              have HS2 := HS.out
              have HBS2 := HBS.out
              generalize (wr.setCell ⟨gb, q / 64, none⟩ (.int .u64 ((x + 2 ^ (q % 64) : Nat) : Int))).drew = W2 at HS2 HBS2 ⊢
              clear HS HBS hc hf0 hg1 hg2 hg3 hb2
              have HS3 := Lib.hid HS2
              clear HS2
              go_wp2
              go_roundw
              case rel => exact ⟨q + 1, by omega, by go_num, HS3.out, HBS2⟩
              case measure => simp [intOf]; omega
        · have hp0 : P q = false := by simpa using hp
          have hg : g (bitB l q) (bitB m q) = false := by rw [← HPg.out]; exact hp0
          have HC := Lib.hid (show setB P (q + 1) = setB P q from setB_f hp0)
          clear ho hp hp0
          go_wp2_with fail
          refine (abit_any l q (by omega) _ S _ r1.out).mono ?_
          rintro e w' ⟨rfl, rfl⟩
          go_wp2_with fail
          refine (abit_any m q (by omega) _ T _ r2.out).mono ?_
          rintro e w' ⟨rfl, rfl⟩
          go_wp2_with fail
          refine (HH.out _ _ _).mono ?_
          rintro e w' ⟨rfl, rfl⟩
          rw [hg]
          clear hg
          go_wp2_with fail
          go_roundw
          case rel => exact ⟨q + 1, by omega, by go_num, by rw [HC.out]; exact HO.out, hb⟩
          case measure => simp [intOf]; omega
      · have hqn : q = N := by omega
        subst hqn
        have HR := Lib.hid (ho.toRd (bytes := 8) (S' := Plus Nowhere w.heap.size wo.heap.size) Flat.keeps (by have := setB_length P q; omega) (Sub.nowhere _) (fun b h1 h2 => .inr ⟨h1, h2⟩))
        clear ho
        go_wp2
        go_ret
        exact ⟨_, rfl, HR.out, hb⟩


set_option maxHeartbeats 600000 in
set_option maxRecDepth 100000 in
theorem alist_any (l : List Nat) (hsm : l.length ≤ 1048576) (w : World) (S : Blocks) (v : Value) (hS : Sub S (Upto w.heap.size)) (r : RdU w S l v) :
    Calls Try.prog 47 #[v] w fun e w' => ∃ x, e = .returned x ∧ RdI w' (Plus Nowhere w.heap.size w'.heap.size) (listB (bitB l) (64 * l.length)) x ∧ Below w.heap.size w w' := by
  obtain ⟨A, cap, rfl, hl, hcm, hby⟩ := r.form
  unfold maxLen at hcm
  obtain ⟨i0, hi, hz0, hz1, hz2⟩ := info_parts bs_infoI
  have R := Lib.hid r
  clear r
  go_enter Try.func47, Try.ntmps47
  go_wp2
  go_loopw [3, 8] (fun o t wr => ∃ q : Nat, q ≤ 64 * l.length ∧ t = .int .i64 q ∧ OwnI 3 wr w.heap.size Nowhere (listB (bitB l) q) o ∧ Below w.heap.size w wr) (fun _ t _ => 64 * l.length - (intOf t).toNat)
  case atStart => exact ⟨0, by omega, rfl, OwnL.nil _ _ _, Below.refl _ _⟩
  case round =>
    obtain ⟨q, hq, rfl, ho, hb⟩ := hrel
    have hlen := listB_length (bitB l) q
    have hle := cntB_le (bitB l) q
    have hlen2 : (listB (bitB l) q).length ≤ q := by omega
    clear hlen hle
    have HO := Lib.hid ho
    have hsz := hb.size
    have r1 := Lib.hid (R.out.go Flat.keeps hb hS (Sub.refl _))
    clear ho
    by_cases hlt : q < 64 * l.length
    · by_cases hp : bitB l q = true
      · have HC := Lib.hid (show listB (bitB l) (q + 1) = listB (bitB l) q ++ [(q : Int)] by conv => lhs; unfold listB; rw [if_pos hp])
        go_wp2_with fail
        refine (abit_any l q (by omega) _ S _ r1.out).mono ?_
        rintro e w' ⟨rfl, rfl⟩
        rw [hp]
        clear hp
        go_wp2_with (at_builtin; refine wpList_append_one rfl _ _ 37 rfl i0 _ Try.underlying37 hi hz0 hz1 hz2 rfl (by decide) Flat.keeps HO.out (x := (q : Int)) (cs := [Value.int .i64 (q : Int)]) (Tx := Nowhere) ?c0 rfl rfl rfl (Sub.nowhere _) (Sub.nowhere _) not_nowhere ?c1 ?c2 ?c3 ?c4 ?_)
        case c0 => exact ⟨rfl, by unfold inI; omega⟩
        case c1 => simp [Value.oneCell']
        case c2 => unfold maxLen; omega
        case c3 => omega
        case c4 => exact hsz
        intro v2 w2 ho2 hg2 _
        have hb2 : Below w.heap.size w w2 := hb.grown hg2 hsz (fun g hg => (HO.out.lt g hg).1)
        rw [← HC.out] at ho2
        have HO2 := Lib.hid ho2
        clear ho2 hg2
        go_wp2
        go_roundw
        case rel => exact ⟨q + 1, by omega, by go_num, HO2.out, hb2⟩
        case measure => simp [intOf]; omega
      · have hp0 : bitB l q = false := by simpa using hp
        have HC := Lib.hid (show listB (bitB l) (q + 1) = listB (bitB l) q by conv => lhs; unfold listB; rw [if_neg hp])
        clear hp
        go_wp2_with fail
        refine (abit_any l q (by omega) _ S _ r1.out).mono ?_
        rintro e w' ⟨rfl, rfl⟩
        rw [hp0]
        clear hp0
        go_wp2
        go_roundw
        case rel => exact ⟨q + 1, by omega, by go_num, by rw [HC.out]; exact HO.out, hb⟩
        case measure => simp [intOf]; omega
    · have hqn : q = 64 * l.length := by omega
      have hR := HO.out.toRd (bytes := 8) (S' := Plus Nowhere w.heap.size wr.heap.size) Flat.keeps (by omega) (Sub.nowhere _) (fun b h1 h2 => .inr ⟨h1, h2⟩)
      rw [hqn] at hR
      have HR := Lib.hid hR
      clear hR hqn
      go_wp2
      go_ret
      exact ⟨_, rfl, HR.out, hb⟩
end Go.Proofs.Ytmpononkbdfkmaa
