/- The walk of deque.Play. -/
import Derived.Test.YtmpononkbdfkmaaDq3
import Derived.Test.YtmpononkbdfkmaaUf5
namespace Go.Proofs.Ytmpononkbdfkmaa
open Go.RowKit
set_option linter.unusedVariables false
def encP (x : Int × Int) : List Value := [.int .i64 x.1, .int .i64 x.2]
def okPr (x : Int × Int) : Prop := inI x.1 ∧ inI x.2
abbrev RdP := RdL (Flat encP okPr) 2 16
abbrev OwnP := OwnL (Flat encP okPr) 2
def encD (x : DOp) : List Value := [.int .i64 x.k, .int .i64 x.n]
def okD (x : DOp) : Prop := inI x.k ∧ inI x.n
abbrev RdD := RdL (Flat encD okD) 2 16
theorem RdP.at1 {w : World} {S : Blocks} {l : List (Int × Int)} {A : Option Addr} {n cap : Nat} (h : RdP w S l (.slice A n cap)) {q : Nat} (hq : q < l.length) :
    ∃ b off, A = some ⟨b, off, none⟩ ∧ S b ∧ okPr l[q] ∧ w.cell? ⟨b, off + q * 2, none⟩ = some (.int .i64 l[q].1) ∧ w.cell? ⟨b, off + q * 2 + 1, none⟩ = some (.int .i64 l[q].2) := by
  obtain ⟨b, off, hA, hb, hok, hc⟩ := RdL.flat h hq
  exact ⟨b, off, hA, hb, hok, hc 0 _ rfl, by rw [Nat.add_assoc]; exact hc 1 _ rfl⟩
theorem RdD.at1 {w : World} {S : Blocks} {l : List DOp} {A : Option Addr} {n cap : Nat} (h : RdD w S l (.slice A n cap)) {q : Nat} (hq : q < l.length) :
    ∃ b off, A = some ⟨b, off, none⟩ ∧ S b ∧ okD l[q] ∧ w.cell? ⟨b, off + q * 2, none⟩ = some (.int .i64 l[q].k) ∧ w.cell? ⟨b, off + q * 2 + 1, none⟩ = some (.int .i64 l[q].n) := by
  obtain ⟨b, off, hA, hb, hok, hc⟩ := RdL.flat h hq
  exact ⟨b, off, hA, hb, hok, hc 0 _ rfl, by rw [Nat.add_assoc]; exact hc 1 _ rfl⟩
theorem infoA : (Try.prog.info? 43).map (fun i => (i.zero, i.size, i.bytes)) = some (some (.agg #[.int .i64 0, .int .i64 0]), 2, 16) := by kernel_rfl
theorem dRun_ok (ops : List DOp) (h : ∀ o ∈ ops, okD o) : okDq (dRun ops).1 ∧ ∀ x ∈ (dRun ops).2, okPr x := by
  suffices ∀ x : List Int × List (Int × Int), okDq x.1 → (∀ y ∈ x.2, okPr y) → okDq (ops.foldl (fun x o => ((dAns x.1 o).1, x.2 ++ [(dAns x.1 o).2])) x).1 ∧ ∀ y ∈ (ops.foldl (fun x o => ((dAns x.1 o).1, x.2 ++ [(dAns x.1 o).2])) x).2, okPr y by
    exact this ([], []) (fun _ h => by cases h) (fun _ h => by cases h)
  induction ops with
  | nil => intro x h1 h2; exact ⟨h1, h2⟩
  | cons o r ih =>
    intro x h1 h2
    have ho := dAns_ok h1 (h o (by simp)).2
    refine ih (fun o ho => h o (by simp [ho])) _ ho.1 (fun y hy => ?_)
    rcases List.mem_append.1 hy with hy | hy
    · exact h2 y hy
    · simp at hy; subst hy; exact ⟨ho.2.1, ho.2.2⟩

set_option maxHeartbeats 1000000 in
set_option maxRecDepth 100000 in
theorem dqplay_any (ops : List DOp) (w : World) (S : Blocks) (hS : Sub S (Upto w.heap.size)) (v : Value) (r : RdD w S ops v) :
    Calls Try.prog 33 #[v] w fun e w' => ∃ x y, e = .returned (.tuple #[x, y]) ∧ RdP w' (Plus Nowhere w.heap.size w'.heap.size) (dRun ops).2 x ∧ RdI w' (Plus Nowhere w.heap.size w'.heap.size) (dRun ops).1 y ∧ Below w.heap.size w w' := by
  obtain ⟨i0, hi, hz0, hz1, hz2⟩ := info_parts infoA
  obtain ⟨i1, hj, hy0, hy1, hy2⟩ := info_parts infoI
  obtain ⟨A, cap, rfl, hl, hcm, hby⟩ := r.form
  unfold maxLen at hcm
  have hall := r.oks
  have R := Lib.hid r
  have HAll := Lib.hid hall
  clear r hall
  go_enter Try.func33, Try.ntmps33
  go_wp2_with fail
  have B0 := Blk.made w [.slice none 0 0, .int .i64 0, .int .i64 0] 97 (Nat.le_refl _)
  have hb0 : Below w.heap.size w (w.alloc (.cells #[.slice none 0 0, .int .i64 0, .int .i64 0] 97)) := (Below.refl _ _).alloc (Nat.le_refl _) _
  have D0 := Lib.hid (show DqAt w.heap.size (w.alloc (.cells #[.slice none 0 0, .int .i64 0, .int .i64 0] 97)) w.heap.size (Is w.heap.size) ops.length (dRun (ops.take 0)).1 from
    ⟨none, 0, 0, [], B0, Ring.empty, by omega, rfl, fun b hb => by unfold Is at hb; subst hb; simp, .inl ⟨rfl, rfl⟩⟩)
  clear B0
  generalize w.alloc (.cells #[.slice none 0 0, .int .i64 0, .int .i64 0] 97) = W0 at *
  obtain ⟨d, hd⟩ : ∃ d, d = w.heap.size := ⟨_, rfl⟩
  have HD := Lib.hid hd
  have D1 := Lib.hid (show DqAt w.heap.size W0 d (Is d) ops.length (dRun (ops.take 0)).1 by rw [hd]; exact D0.out)
  rw [← hd]
  clear hd D0
  go_loopw [5, 13] (fun o t wr => ∃ (q : Nat) (X : Blocks), q ≤ ops.length ∧ t = .int .i64 (q : Int) ∧ OwnP 43 wr w.heap.size Nowhere (dRun (ops.take q)).2 o ∧ Hid (DqAt w.heap.size wr d X ops.length (dRun (ops.take q)).1) ∧ Hid (∀ k, o.ownBlock = some k → ¬ X k) ∧ Below w.heap.size w wr) (fun _ t _ => ops.length - (intOf t).toNat)
  case atStart => exact ⟨0, _, by omega, rfl, OwnL.nil _ _ _, D1, Lib.hid (fun k hk => by cases hk), hb0⟩
  case round =>
    clear D1 hb0
    obtain ⟨q, X, hq, rfl, ho, hD, hX, hb⟩ := hrel
    have HO := Lib.hid ho
    clear ho
    have HL := Lib.hid (show (dRun (ops.take q)).2.length = q by rw [dRun_len]; simp; omega)
    by_cases hlt : q < ops.length
    · have HT := Lib.hid (show ops.take (q + 1) = ops.take q ++ [ops[q]] by rw [List.take_succ_eq_append_getElem hlt])
      have HOK := Lib.hid (show okDq (dRun (ops.take q)).1 from (dRun_ok _ (fun o h => HAll.out o (List.mem_of_mem_take h))).1)
      have hlN := Lib.hid (show (dRun (ops.take q)).1.length < ops.length by have := dRun_le (ops.take q); simp at this; omega)
      obtain ⟨b0, off, rfl, hsb, hok, c0, c1⟩ := RdD.at1 (R.out.go Flat.keeps hb hS (Sub.refl _)) hlt
      generalize hoq : ops[q] = o at *
      have HT' := HT
      clear hoq HT
      obtain ⟨k, n⟩ := o
      dsimp only at c0 c1
      have hbe : Below wr.heap.size wr (wr.alloc (.cells #[.int .i64 k, .int .i64 n] 99)) := (Below.refl _ _).alloc (Nat.le_refl _) _
      have hb2 := hb.alloc hb.size (.cells #[.int .i64 k, .int .i64 n] 99)
      have hD2 := Lib.hid (hD.out.but (T := Nowhere) ((But.refl _ _).alloc (.cells #[.int .i64 k, .int .i64 n] 99)) (fun _ _ h => h))
      have HO2 := Lib.hid (HO.out.keep Flat.keeps hbe)
      have hrs := hb.size
      clear hbe hD
      go_wp2_with fail
      refine (dqdo_any hD2.out (by omega) hlN.out k n).mono ?_
      rintro e w2 ⟨rfl, X', hd, hs, hbu⟩
      have hz3 := hbu.size
      simp at hz3
      have HX2 := Lib.hid (show ∀ k, u5.ownBlock = some k → ¬ X' k from fun g hg hx => by
        rcases hs g hx with h | h
        · exact hX.out g hg h
        · have := (HO.out.lt g hg).2
          simp at h; omega)
      have hXb : ∀ b, X b → w.heap.size ≤ b := by obtain ⟨_, _, _, _, _, _, _, _, h5, _⟩ := hD2.out; exact fun b hb => (h5 b hb).1
      have HO3 := Lib.hid (HO2.out.but hbu (fun g hg => hX.out g hg))
      have HD3 := Lib.hid hd
      have hb3 := Lib.hid (hb2.trans (hbu.below hb2.size hXb))
      have hans := Lib.hid (dAns_ok (o := ⟨k, n⟩) HOK.out hok.2)
      have hws : w.heap.size ≤ w2.heap.size := by omega
      clear hd hs hbu hz3 HO HO2 hb2 hD2 c0 c1 hXb hX hb
      go_wp2_with (at_builtin; refine wpList_append_one rfl _ _ 36 rfl i0 _ Try.underlying36 hi hz0 hz1 hz2 rfl (by decide) Flat.keeps HO3.out (x := (dAns (dRun (ops.take q)).1 ⟨k, n⟩).2) (cs := [Value.int .i64 (dAns (dRun (ops.take q)).1 ⟨k, n⟩).2.1, Value.int .i64 (dAns (dRun (ops.take q)).1 ⟨k, n⟩).2.2]) (Tx := Nowhere) ?c0 rfl rfl rfl (Sub.nowhere _) (Sub.nowhere _) not_nowhere ?c1 ?c2 ?c3 ?c4 ?_)
      case c0 => exact ⟨rfl, hans.out.2.1, hans.out.2.2⟩
      case c1 => simp [Value.oneCell']
      case c2 => rw [HL.out]; simp [maxLen]; omega
      case c3 => rw [HL.out]; omega
      case c4 => exact hws
      intro v2 w3 ho4 hg4 hown
      have HD4 := Lib.hid (show DqAt w.heap.size w3 d X' ops.length (dRun (ops.take (q + 1))).1 by
        rw [HT'.out, dRun_snoc]
        exact HD3.out.but (But.of_grown hg4) (fun b hx e => HX2.out b e hx))
      have HO4 := Lib.hid (show OwnP 43 w3 w.heap.size Nowhere (dRun (ops.take (q + 1))).2 v2 by
        rw [HT'.out, dRun_snoc]; exact ho4)
      have HX4 := Lib.hid (show ∀ k, v2.ownBlock = some k → ¬ X' k from fun g hg hx => by
        rcases hown with h | h
        · rw [h] at hg; exact HX2.out g hg hx
        · rw [h] at hg
          injection hg with hg
          obtain ⟨_, _, _, _, _, _, _, _, h5, _⟩ := HD3.out
          have := (h5 g hx).2
          omega)
      have hb4 : Below w.heap.size w w3 := hb3.out.grown hg4 hb3.out.size (fun g hg => (HO3.out.lt g hg).1)
      clear ho4 hg4 hown hb3 HO3 HD3 HX2 HT' HL
      go_wp2
      go_roundw
      case rel => exact ⟨q + 1, X', by omega, by go_num, HO4.out, HD4, HX4, hb4⟩
      case measure => simp [intOf]; omega
    · have hqn : q = ops.length := by omega
      subst hqn
      have hrs := hb.size
      have htk : ops.take ops.length = ops := List.take_length
      have hD1 := hD.out
      have hO1 := HO.out
      rw [htk] at hD1 hO1
      have HOK := Lib.hid (show okDq (dRun ops).1 from (dRun_ok _ HAll.out).1)
      have HLE := Lib.hid (dRun_le ops)
      have HLD := Lib.hid (dRun_len ops)
      have D1 := Lib.hid hD1
      have O1 := Lib.hid hO1
      clear hD hD1 hO1 htk HL HO
      obtain ⟨dr, hdr0⟩ : ∃ dr, dr = dRun ops := ⟨_, rfl⟩
      rw [← hdr0] at D1 O1 HOK HLE HLD
      have HDR := Lib.hid hdr0
      clear hdr0
      obtain ⟨z0, hz00⟩ : ∃ z0, z0 = wr.heap.size := ⟨_, rfl⟩
      have HU := Lib.hid (fun k hk => by rw [hz00]; exact (O1.out.lt k hk).2 : ∀ k, u5.ownBlock = some k → k < z0)
      have hz01 := Nat.le_of_eq hz00
      have hz02 := Nat.le_of_eq hz00.symm
      clear hz00
      go_wp2_with fail
      go_loopw [8] (fun o ws => ∃ (done rest : List Int) (X : Blocks), Hid (done ++ rest = dr.1) ∧ OwnI 3 ws z0 Nowhere done o ∧ Hid (DqAt w.heap.size ws d X ops.length rest) ∧ Hid (OwnP 43 ws w.heap.size Nowhere dr.2 u5) ∧ Hid (∀ k, u5.ownBlock = some k → ¬ X k) ∧ Hid (∀ k, o.ownBlock = some k → ¬ X k) ∧ Below w.heap.size w ws ∧ z0 ≤ ws.heap.size) (fun o _ => dr.1.length - (match o with | .slice _ n _ => n | _ => 0))
      case atStart => exact ⟨[], dr.1, X, Lib.hid rfl, OwnL.nil _ _ _, D1, O1, hX, Lib.hid (fun k hk => by cases hk), hb, hz01⟩
      case round =>
        clear D1 O1 hX hb
        obtain ⟨done, rest, X, hdr, hl, D1, O1, hX, hXl, hb, hwz⟩ := hrel
        obtain ⟨A8, c8, rfl⟩ := hl.form
        have HL8 := Lib.hid hl
        clear hl
        rcases rest with _ | ⟨x, rest⟩
        · have hdl : done = dr.1 := by have := hdr.out; simpa using this
          subst hdl
          have hlen := len_any D1.out
          rw [List.length_nil] at hlen
          go_wp2_with ((with_reducible refine hlen.mono ?_); rintro e w' ⟨rfl, rfl⟩)
          go_ret2
          have hz := hb.size
          rw [← HDR.out]
          refine ⟨_, _, rfl, O1.out.toRd (bytes := 16) Flat.keeps ?_ (Sub.nowhere _) (fun b h1 h2 => .inr ⟨h1, h2⟩), HL8.out.toRd (bytes := 8) Flat.keeps ?_ (Sub.nowhere _) (fun b h1 h2 => .inr ⟨by omega, h2⟩), hb⟩
          · have := HLD.out; omega
          · have := HLE.out; omega
        · have hlen := len_any D1.out
          have hlc : ((x :: rest).length : Int) = (rest.length : Int) + 1 := by simp
          rw [hlc] at hlen
          have hdl : done.length + 1 ≤ dr.1.length := by rw [← hdr.out]; simp
          have hxo := Lib.hid (HOK.out x (by rw [← hdr.out]; simp))
          clear hlc
          go_wp2_with ((with_reducible refine hlen.mono ?_); rintro e w' ⟨rfl, rfl⟩)
          refine (steal_cons D1.out (by omega)).mono ?_
          rintro e w2 ⟨rfl, hD2, hbu⟩
          have hz := hbu.size
          have hz0 := hb.size
          have hXb : ∀ b, X b → w.heap.size ≤ b := by obtain ⟨_, _, _, _, _, _, _, _, h5, _⟩ := D1.out; exact fun b hb => (h5 b hb).1
          have L2 := Lib.hid (HL8.out.but hbu (fun g hg => hXl.out g hg))
          have D2 := Lib.hid hD2
          have O2 := Lib.hid (O1.out.but hbu (fun g hg => hX.out g hg))
          have hb2 := Lib.hid (hb.trans (hbu.below hz0 hXb))
          have hwz2 : z0 ≤ w2.heap.size := by omega
          clear hD2 hbu hb hXb HL8 D1 O1 hwz hlen
          go_wp2_with (at_builtin; refine wpList_append_one rfl _ _ 37 rfl i1 _ Try.underlying37 hj hy0 hy1 hy2 rfl (by decide) Flat.keeps L2.out (x := x) (cs := [Value.int .i64 x]) (Tx := Nowhere) ?c0 rfl rfl rfl (Sub.nowhere _) (Sub.nowhere _) not_nowhere ?c1 ?c2 ?c3 ?c4 ?_)
          case c0 => exact ⟨rfl, hxo.out⟩
          case c1 => simp [Value.oneCell']
          case c2 => have := HLE.out; simp [maxLen]; omega
          case c3 => have := HLE.out; omega
          case c4 => exact hwz2
          intro v2 w3 ho4 hg4 hown
          obtain ⟨A9, c9, hv9⟩ := ho4.form
          rw [List.length_append, List.length_singleton] at hv9
          have hz4 := hg4.size
          have D4 := Lib.hid (D2.out.but (But.of_grown hg4) (fun b hx e => hXl.out b e hx))
          have O4 := Lib.hid (O2.out.but (But.of_grown hg4) (fun g hg e => by
            have h1 := HU.out g hg
            have h2 := (L2.out.lt g e).1
            omega))
          have L4 := Lib.hid ho4
          have X4 := Lib.hid (show ∀ k, v2.ownBlock = some k → ¬ X k from fun g hg hx => by
            rcases hown with h | h
            · rw [h] at hg; exact hXl.out g hg hx
            · rw [h] at hg
              injection hg with hg
              obtain ⟨_, _, _, _, _, _, _, _, h5, _⟩ := D2.out
              have := (h5 g hx).2
              omega)
          have hb4 : Below w.heap.size w w3 := hb2.out.grown hg4 hb2.out.size (fun g hg => by have := (L2.out.lt g hg).1; omega)
          have hdr2 := Lib.hid (show (done ++ [x]) ++ rest = dr.1 by rw [List.append_assoc]; exact hdr.out)
          have hwz3 : z0 ≤ w3.heap.size := by omega
          clear ho4 hg4 hown hb2 L2 D2 O2 hXl hz4 hz hwz2
          subst hv9
          go_wp2
          go_roundw
          case rel => exact ⟨done ++ [x], rest, X, hdr2, L4.out, D4, O4, hX, X4, hb4, hwz3⟩
          case measure => simp; omega
end Go.Proofs.Ytmpononkbdfkmaa
