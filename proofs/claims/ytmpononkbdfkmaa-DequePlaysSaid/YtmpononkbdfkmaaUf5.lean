/- The walk of ufind.Play. -/
import Derived.Test.YtmpononkbdfkmaaUf4
namespace Go.Proofs.Ytmpononkbdfkmaa
open Go.RowKit
set_option linter.unusedVariables false
abbrev RdO := RdL (Flat encUOp okUOp) 3 24
theorem But.of_grown {w w' : World} {row : Option Nat} (h : w.grownBy w' row) : But (fun k => row = some k) w w' :=
  ⟨h.os, h.tape, h.output, h.size, fun k hk ht => h.block k hk (fun e => ht e.symm)⟩
theorem RdO.at1 {w : World} {S : Blocks} {l : List UOp} {A : Option Addr} {n cap : Nat} (h : RdO w S l (.slice A n cap)) {q : Nat} (hq : q < l.length) :
    ∃ b off, A = some ⟨b, off, none⟩ ∧ S b ∧ okUOp l[q] ∧ w.cell? ⟨b, off + q * 3, none⟩ = some (.int .i64 l[q].k) ∧ w.cell? ⟨b, off + q * 3 + 1, none⟩ = some (.int .i64 l[q].i) ∧ w.cell? ⟨b, off + q * 3 + 2, none⟩ = some (.int .i64 l[q].j) := by
  obtain ⟨b, off, hA, hb, hok, hc⟩ := RdL.flat h hq
  exact ⟨b, off, hA, hb, hok, hc 0 _ rfl, by rw [Nat.add_assoc]; exact hc 1 _ rfl, by rw [Nat.add_assoc]; exact hc 2 _ rfl⟩

theorem uAns_ok (n : Nat) (hn : n ≤ 200) (s : Nat → Nat) (o : UOp) : inI (uAns n s o).2 := by
  unfold uAns inI
  have := cntL_le n s (s o.i.toNat)
  repeat' split
  all_goals (dsimp only; omega)

set_option maxHeartbeats 1000000 in
set_option maxRecDepth 100000 in
theorem uplay_any (n : Nat) (hn : n ≤ 200) (ops : List UOp) (w : World) (S : Blocks) (hS : Sub S (Upto w.heap.size)) (v : Value) (r : RdO w S ops v) :
    Calls Try.prog 37 #[.int .i64 (n : Int), v] w fun e w' => ∃ x, e = .returned (.tuple #[x, .int .i64 0]) ∧ RdI w' (Plus Nowhere w.heap.size w'.heap.size) (uRun n ops).2 x ∧ Below w.heap.size w w' := by
  obtain ⟨i0, hi, hz0, hz1, hz2⟩ := info_parts infoI
  obtain ⟨A, cap, rfl, hl, hcm, hby⟩ := r.form
  unfold maxLen at hcm
  have R := Lib.hid r
  clear r
  have hn0 : ¬ (n : Int) < 0 := by omega
  have hn1 : ¬ 200 < n := by omega
  go_enter Try.func37, Try.ntmps37
  go_wp2_with fail
  refine (new_any n hn _).mono ?_
  rintro e w1 ⟨b, gu, gs, rfl, hf, hb1⟩
  have hS1 := Lib.hid (show SetsAt w.heap.size n w1 b gu gs (uRun n (ops.take 0)).1 from ⟨_, _, _, _, hf, Good.start n, fun i j _ _ => Iff.rfl⟩)
  have hbb := hf.b2
  have hbu := hf.u2
  have hbs := hf.s2
  clear hf
  go_wp2_with fail
  go_loopw [7, 20] (fun o t wr => ∃ q : Nat, q ≤ ops.length ∧ t = .int .i64 (q : Int) ∧ OwnI 3 wr w1.heap.size Nowhere (uRun n (ops.take q)).2 o ∧ Hid (SetsAt w.heap.size n wr b gu gs (uRun n (ops.take q)).1) ∧ w1.heap.size ≤ wr.heap.size ∧ Below w.heap.size w wr) (fun _ t _ => ops.length - (intOf t).toNat)
  case atStart => exact ⟨0, by omega, rfl, OwnL.nil _ _ _, hS1, Nat.le_refl _, hb1⟩
  case round =>
    clear hS1
    obtain ⟨q, hq, rfl, ho, hs, hsz, hb⟩ := hrel
    have HO := Lib.hid ho
    clear ho
    have hlen := uRun_len n (ops.take q)
    have hlen2 : (uRun n (ops.take q)).2.length = q := by rw [hlen]; simp; omega
    have HL := Lib.hid hlen2
    clear hlen hlen2
    by_cases hlt : q < ops.length
    · have HT := Lib.hid (show ops.take (q + 1) = ops.take q ++ [ops[q]] by rw [List.take_succ_eq_append_getElem hlt])
      obtain ⟨b0, off, rfl, hsb, hok, c0, c1, c2⟩ := RdO.at1 (R.out.go Flat.keeps hb hS (Sub.refl _)) hlt
      generalize hoq : ops[q] = o at *
      have HT' := HT
      clear hoq HT
      obtain ⟨k, i, j⟩ := o
      dsimp only at c0 c1 c2
      have hb2 := hb.alloc hb.size (.cells #[.int .i64 k, .int .i64 i, .int .i64 j] 108)
      have hs2 : SetsAt w.heap.size n (wr.alloc (.cells #[.int .i64 k, .int .i64 i, .int .i64 j] 108)) b gu gs (uRun n (ops.take q)).1 :=
        hs.out.but (T := Nowhere) ((But.refl _ _).alloc _) (fun h => h) (fun h => h) (fun h => h)
      have HO2 := Lib.hid (HO.out.keep Flat.keeps ((Below.refl wr.heap.size wr).alloc (Nat.le_refl _) (.cells #[.int .i64 k, .int .i64 i, .int .i64 j] 108)))
      have HS2 := Lib.hid hs2
      clear hs2 hs HO
      go_wp2_with fail
      refine (do_any HS2.out k i j).mono ?_
      rintro e w2 ⟨rfl, hs3, hk3⟩
      have hz3 := hk3.size
      simp at hz3
      have ho3 := HO2.out.but hk3 (fun g hg e => by
        have := (HO2.out.lt g hg).1
        rcases e with e | e <;> omega)
      have HO3 := Lib.hid ho3
      have HS3 := Lib.hid hs3
      have hb3 : Below w.heap.size w w2 := hb2.trans (hk3.below hb2.size (fun g e => by
        obtain ⟨up, sz, rt, h, f, _, _⟩ := HS2.out
        rcases e with e | e
        · rw [e]; exact f.u1
        · rw [e]; exact f.s1))
      have hans := Lib.hid (uAns_ok n hn (uRun n (ops.take q)).1 ⟨k, i, j⟩)
      clear ho3 hs3 hk3 HO2 HS2 hb2 c0 c1 c2
      have hw1w2 : w1.heap.size ≤ w2.heap.size := by omega
      go_wp2_with (at_builtin; refine wpList_append_one rfl _ _ 37 rfl i0 _ Try.underlying37 hi hz0 hz1 hz2 rfl (by decide) Flat.keeps HO3.out (x := (uAns n (uRun n (ops.take q)).1 ⟨k, i, j⟩).2) (cs := [Value.int .i64 (uAns n (uRun n (ops.take q)).1 ⟨k, i, j⟩).2]) (Tx := Nowhere) ?c0 rfl rfl rfl (Sub.nowhere _) (Sub.nowhere _) not_nowhere ?c1 ?c2 ?c3 ?c4 ?_)
      case c0 => exact ⟨rfl, hans.out⟩
      case c1 => simp [Value.oneCell']
      case c2 => rw [HL.out]; simp [maxLen]; omega
      case c3 => rw [HL.out]; omega
      case c4 => exact hw1w2
      intro v2 w3 ho4 hg4 _
      have hz4 := hg4.size
      have HS4 := Lib.hid (show SetsAt w.heap.size n w3 b gu gs (uRun n (ops.take (q + 1))).1 by
        rw [HT'.out, uRun_snoc]
        refine HS3.out.but (But.of_grown hg4) ?_ ?_ ?_
        all_goals
          intro e
          have := (HO3.out.lt _ e).1
          omega)
      have HO4 := Lib.hid (show OwnI 3 w3 w1.heap.size Nowhere (uRun n (ops.take (q + 1))).2 v2 by
        rw [HT'.out, uRun_snoc]; exact ho4)
      have hb4 : Below w.heap.size w w3 := hb3.grown hg4 hb3.size (fun g hg => by
        have := (HO3.out.lt g hg).1
        have := hb1.size
        omega)
      have hw1w3 : w1.heap.size ≤ w3.heap.size := by omega
      clear ho4 hg4 hb3 HO3 HS3 hz3 hz4 HT' HL
      go_wp2
      go_roundw
      case rel => exact ⟨q + 1, by omega, by go_num, HO4.out, HS4, hw1w3, hb4⟩
      case measure => simp [intOf]; omega
    · have hqn : q = ops.length := by omega
      subst hqn
      have HR := Lib.hid (show RdI wr (Plus Nowhere w.heap.size wr.heap.size) (uRun n ops).2 u7 by
        have h := HO.out
        rw [List.take_length] at h
        refine h.toRd (bytes := 8) Flat.keeps (by rw [uRun_len]; omega) (Sub.nowhere _) (fun b h1 h2 => .inr ⟨by have := hb1.size; omega, h2⟩))
      clear HO HL hs
      go_wp2
      go_ret2
      exact ⟨_, rfl, HR.out, hb⟩
end Go.Proofs.Ytmpononkbdfkmaa
