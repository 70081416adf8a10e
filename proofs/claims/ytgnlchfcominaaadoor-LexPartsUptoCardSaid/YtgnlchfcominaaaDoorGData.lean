/- Texts merged: Jj2, EqTok, LpLaw, Data. -/
import Derived.Test.YtgnlchfcominaaaDoorGJj1
import Derived.Test.YtgnlchfcominaaaDoorLex3
import Derived.WalkSmall
import Derived.BigQuiet
import Derived.Test.YtgnlchfcominaaaDoorJt2
import Derived.Test.YtgnlchfcominaaaDoorBase
/- The walk of lex.Join. -/
namespace Go.Proofs.YtgnlchfcominaaaDoor
open Go.RowKit
set_option linter.unusedVariables false
set_option maxHeartbeats 1000000 in
set_option maxRecDepth 100000 in
theorem join_n (l : List ATok) (w : World) (S : Blocks) (v : Value) (hS : Sub S (Upto w.heap.size)) (r : RdATs w S l v) (hT : textsL l ≤ 140737488355000) :
    Calls Tryd.prog 9 #[v] w fun e w' => e = .returned (.string ⟨(jnF l l.length).toArray⟩) ∧ Below w.heap.size w w' := by
  obtain ⟨A, cap, rfl, hl, hcm, hby⟩ := r.form
  unfold maxLen at hcm
  have R := Lib.hid r
  clear r
  have HLEN := Lib.hid (fun q (h : q ≤ l.length) => Nat.le_trans (jnF_len l q h) (textsL_take l q))
  obtain ⟨n, hn⟩ : ∃ n, n = l.length := ⟨_, rfl⟩
  have HN := Lib.hid hn
  rw [← hn] at hl hby ⊢
  clear hn
  have I0 := Lib.hid (isB_fresh w)
  have hb0 : Below w.heap.size w (w.alloc (.cells #[.pointer none, .slice none 0 0] 48)) := (Below.refl _ _).alloc (Nat.le_refl _) _
  have hlt0 : w.heap.size < (w.alloc (.cells #[.pointer none, .slice none 0 0] 48)).heap.size := (Array.getElem?_eq_some_iff.1 (heap_alloc_new w _)).1
  go_enter Tryd.func9, Tryd.ntmps9
  go_wp2_with fail
  generalize w.alloc (.cells #[.pointer none, .slice none 0 0] 48) = W1 at *
  go_loopw [8] (fun u wr => ∃ q : Nat, q ≤ n ∧ u = .int .i64 (q : Int) ∧ Hid (IsB w.heap.size w.heap.size (jnF l q) wr) ∧ w.heap.size < wr.heap.size ∧ Below w.heap.size w wr) (fun u _ => n - (intOf u).toNat)
  case atStart => exact ⟨0, Nat.zero_le _, rfl, I0, hlt0, hb0⟩
  case round =>
    clear I0 hb0
    obtain ⟨q, hq, rfl, HI, hlw, hb⟩ := hrel
    have hsz := hb.size
    have HSZ := Lib.hid hlw
    clear hlw
    by_cases hlt : q < n
    · obtain ⟨b, off, rfl, hbS, hok, e0, e1, e2⟩ := toks_at R.out (q := q) (by rw [← HN.out]; exact hlt)
      have hbw : b < w.heap.size := hS b hbS
      replace e0 := (hb.cell (p := ⟨b, off + q * 3, none⟩) hbw).trans e0
      replace e1 := (hb.cell (p := ⟨b, off + q * 3 + 1, none⟩) hbw).trans e1
      replace e2 := (hb.cell (p := ⟨b, off + q * 3 + 2, none⟩) hbw).trans e2
      have HQ := Lib.hid (show l[q]? = some (l[q]'(by rw [← HN.out]; exact hlt)) from List.getElem?_eq_getElem _)
      obtain ⟨t, ht⟩ : ∃ t, t = l[q]'(by rw [← HN.out]; exact hlt) := ⟨_, rfl⟩
      rw [← ht] at e0 e1 e2 HQ
      clear ht hok
      obtain ⟨y, hy⟩ : ∃ y : ByteArray, y = ⟨t.text.toArray⟩ := ⟨_, rfl⟩
      have HY := Lib.hid (show y.data.toList = t.text by rw [hy])
      rw [← hy] at e2
      clear hy
      have q0 : (0 : Int) ≤ (q : Int) := by omega
      have q1 : (q : Int) < (n : Int) := by omega
      have hqw2 : wrap64 ((q : Int) + 1) = (q : Int) + 1 := IntWalk.wrap64_in _ (by omega)
      have D := Lib.hid (Blk.made wr [.int .i64 t.kind, .int .i64 (t.pos : Int), .string y] 28 (base := 0) (Nat.zero_le _))
      have hbel : Below wr.heap.size wr (wr.alloc (.cells #[.int .i64 t.kind, .int .i64 (t.pos : Int), .string y] 28)) := (Below.refl _ _).alloc (Nat.le_refl _) _
      have B2 := hb.trans (hbel.mono hsz)
      have I2 := Lib.hid (HI.out.go hbel)
      have hs2 := B2.size
      have HL := Lib.hid (show (jnF l q).length + 1 + y.size ≤ 140737488355328 from by
        have h1 := HLEN.out q (by rw [← HN.out]; omega)
        have h2 := HLEN.out (q + 1) (by rw [← HN.out]; omega)
        rw [Lib.size_eq y, HY.out]
        unfold jnF at h2
        rw [HQ.out] at h2
        simp only [List.length_append, Option.map_some, Option.getD_some] at h2
        omega)
      have hsw := hbel.size
      clear hb HI hbel
      by_cases h0 : 0 < q
      · have HX := Lib.hid (show (jnF l q ++ [32]) ++ y.data.toList = jnF l (q + 1) from by
          conv => rhs; unfold jnF
          rw [HQ.out, if_neg (by omega), HY.out]; rfl)
        go_wp2_with (go_at_call 21; refine (wb_n w.heap.size w.heap.size (jnF l q) 32 _ I2.out (by have := HL.out; omega) hs2).mono ?_)
        rintro e w3 ⟨rfl, I3, hb3, hk3⟩
        have hz3 := hb3.size
        have c2 := kept_cell hk3 (g := wr.heap.size) (cs := #[.int .i64 t.kind, .int .i64 (t.pos : Int), .string y]) (E := 28) (fz := (0, 0)) (heap_alloc_new wr _) (by have := HSZ.out; omega) (by decide) 2
        replace c2 : w3.cell? ⟨wr.heap.size, 2, none⟩ = some (.string y) := c2
        have B3 := B2.trans hb3
        have hs3 := B3.size
        have I3 := Lib.hid I3
        clear hk3 hb3 I2
        go_wp2_with (go_at_call 22; refine (ws_n w.heap.size w.heap.size (jnF l q ++ [32]) y _ I3.out (by have := HL.out; simp only [List.length_append, List.length_singleton]; omega) hs3).mono ?_)
        rintro e w4 ⟨rfl, I4, hb4⟩
        have hz4 := hb4.size
        rw [HX.out] at I4
        have I4 := Lib.hid I4
        have B4 := B3.trans hb4
        clear I3 hb4 B2 B3 c2
        go_wp2_with fail
        go_roundw
        case rel => exact ⟨q + 1, by omega, by go_num, I4, Nat.lt_of_lt_of_le HSZ.out (Nat.le_trans hsw (Nat.le_trans hz3 hz4)), B4⟩
        case measure => simp [intOf]; omega
      · have HX := Lib.hid (show jnF l q ++ y.data.toList = jnF l (q + 1) from by
          conv => rhs; unfold jnF
          rw [HQ.out, if_pos (by omega), HY.out, List.append_nil]; rfl)
        have c2 := D.out.cell 2 _ rfl
        go_wp2_with (go_at_call 22; refine (ws_n w.heap.size w.heap.size (jnF l q) y _ I2.out (by have := HL.out; omega) hs2).mono ?_)
        rintro e w3 ⟨rfl, I3, hb3⟩
        have hz3 := hb3.size
        rw [HX.out] at I3
        have I4 := Lib.hid I3
        have B3 := B2.trans hb3
        clear I3 hb3 B2
        go_wp2_with fail
        go_roundw
        case rel => exact ⟨q + 1, by omega, by go_num, I4, Nat.lt_of_lt_of_le HSZ.out (Nat.le_trans hsw hz3), B3⟩
        case measure => simp [intOf]; omega
    · have hqn : q = n := by omega
      subst hqn
      go_wp2_with (go_at_call 23; refine (bs_n w.heap.size w.heap.size (jnF l q) _ HI.out hsz).mono ?_; rintro e w3 ⟨rfl, hb3⟩)
      go_ret
      exact ⟨rfl, hb.trans hb3⟩
end Go.Proofs.YtgnlchfcominaaaDoor
/- slices.Equal at tokens. -/
namespace Go.Proofs.YtgnlchfcominaaaDoor
open Go.RowKit
set_option linter.unusedVariables false
set_option maxHeartbeats 1000000 in
theorem equalTok (l : List LTok) (w : World) (S T : Blocks) (v u : Value) (hS : Sub S (Upto w.heap.size)) (hT : Sub T (Upto w.heap.size)) (r : RdToks w S l v) (r' : RdToks w T l u) :
    Calls Tryd.prog 8 #[v, u] w fun e w' => e = .returned (.bool true) ∧ Below w.heap.size w w' := by
  obtain ⟨A, cap, rfl, hl, hcm, hby⟩ := r.form
  obtain ⟨A', cap', rfl, hl', hcm', _⟩ := r'.form
  unfold maxLen at hcm hcm'
  go_enter Tryd.func8, Tryd.ntmps8
  go_wp2
  go_loopw [13] (fun t wr => ∃ q : Nat, q ≤ l.length ∧ t = .int .i64 q ∧ Below w.heap.size w wr) (fun t _ => l.length - (intOf t).toNat)
  case atStart => exact ⟨0, by omega, rfl, Below.refl _ _⟩
  case round =>
    obtain ⟨q, hq, rfl, hbel⟩ := hrel
    by_cases hlt : q < l.length
    · obtain ⟨b, off, rfl, hb, hok, hc⟩ := r.flat hlt
      obtain ⟨b', off', rfl, hb', hok', hc'⟩ := r'.flat hlt
      have e0 := (hbel.cell (p := ⟨b, off + q * 3, none⟩) (hS _ hb)).trans (hc 0 _ rfl)
      have e1 := (hbel.cell (p := ⟨b', off' + q * 3, none⟩) (hT _ hb')).trans (hc' 0 _ rfl)
      have f0 := (hbel.cell (p := ⟨b, off + q * 3 + 1, none⟩) (hS _ hb)).trans (hc 1 _ rfl)
      have f1 := (hbel.cell (p := ⟨b', off' + q * 3 + 1, none⟩) (hT _ hb')).trans (hc' 1 _ rfl)
      have g0 := (hbel.cell (p := ⟨b, off + q * 3 + 2, none⟩) (hS _ hb)).trans (hc 2 _ rfl)
      have g1 := (hbel.cell (p := ⟨b', off' + q * 3 + 2, none⟩) (hT _ hb')).trans (hc' 2 _ rfl)
      have hq1 : (q : Int) < (l.length : Int) := by omega
      have hq0 : (0 : Int) ≤ (q : Int) := by omega
      generalize (⟨l[q].text.toArray⟩ : ByteArray) = y at g0 g1
      generalize l[q].kind = k at e0 e1
      generalize l[q].pos = p at f0 f1
      clear r r' hc hc' hok hok'
      go_wp2
      all_goals (try go_quiet (fail))
      all_goals (try go_wp2)
      go_roundw
      case rel => exact ⟨q + 1, by omega, by go_num, hbel.trans ⟨rfl, rfl, rfl, Nat.le_refl _, fun _ _ => rfl⟩⟩
      case measure => simp [intOf]; omega
    · go_wp2
      go_ret
      exact ⟨rfl, hbel⟩
end Go.Proofs.YtgnlchfcominaaaDoor
/- The walk of forkwrightlaw.LexParts. -/
namespace Go.Proofs.YtgnlchfcominaaaDoor
open Go.RowKit
set_option linter.unusedVariables false
set_option maxHeartbeats 2000000 in
set_option maxRecDepth 100000 in
theorem lexParts_walk (s : ByteArray) (hs : s.size ≤ 4398046511103) (l : List ATok) (w : World) (v : Value) (r : RdATs w (Upto w.heap.size) l v) (hT : textsL l ≤ 140737488355000) (hN : Nums w) :
    Calls Tryd.prog 3 #[.string s, v] w fun e w' => e = .returned (.bool true) ∧ Below w.heap.size w w' := by
  have HA := Lib.hid (fun W => tokens_any s hs W)
  have HB := Lib.hid (fun W (h : Nums W) => jtokens_lex s hs W h)
  have HN := Lib.hid hN
  have R := Lib.hid r
  clear hN r
  generalize lexR s.data.toList = Z at HA HB
  obtain ⟨L, n, er⟩ := Z
  unfold TokOut at HA HB
  simp only at HA HB
  go_enter Tryd.func3, Tryd.ntmps3
  go_wp2_with (go_at_call 6; refine (HA.out _).mono ?_)
  rintro e w1 ⟨x, rfl, hx, hb1⟩
  have N1 := Lib.hid (HN.out.go hb1)
  have X1 := Lib.hid hx
  clear hx
  go_wp2_with (go_at_call 7; refine (HB.out _ N1.out).mono ?_)
  rintro e w2 ⟨y, rfl, hy, hb2⟩
  have B2 := hb1.trans (hb2.mono hb1.size)
  have T1 : Sub (Plus Nowhere w.heap.size w1.heap.size) (Upto w1.heap.size) := Sub.plus_to (Sub.nowhere _) hb1.size (Nat.le_refl _)
  have T2 : Sub (Plus Nowhere w1.heap.size w2.heap.size) (Upto w2.heap.size) := Sub.plus_to (Sub.nowhere _) hb2.size (Nat.le_refl _)
  have HE := Lib.hid (equalTok L w2 _ _ x y (T1.lift hb2.size) T2 (X1.out.go Flat.keeps hb2 T1 (Sub.refl _)) hy)
  have hz2 := B2.size
  clear hy X1 N1 hb1 hb2 HA HB T1 T2
  go_wp2_with (first
    | (go_at_call 8; refine HE.out.mono ?_; rintro e w3 ⟨rfl, hb3⟩; have B3 := B2.trans (hb3.mono hz2); have R3 := Lib.hid (R.out.go Flat.keeps B3 (Sub.refl _) (Sub.refl _)); have S3 := Sub.lift (Sub.refl (Upto w.heap.size)) B3.size)
    | (go_at_call 9; refine (join_n l _ _ v S3 R3.out hT).mono ?_; rintro e w4 ⟨rfl, hb4⟩; have B4 := B3.trans (hb4.mono B3.size); have R4 := Lib.hid (R.out.go Flat.keeps B4 (Sub.refl _) (Sub.refl _)); have S4 := Sub.lift (Sub.refl (Upto w.heap.size)) B4.size)
    | (go_at_call 10; refine (jjoin_any l _ _ v S4 R4.out hT).mono ?_; rintro e w5 ⟨rfl, hb5⟩; have B5 := B4.trans (hb5.mono B4.size)))
  go_ret
  exact ⟨rfl, B5⟩
end Go.Proofs.YtgnlchfcominaaaDoor
/- The recursive data of the program as plain Lean data, and what it means that cells read as such data. -/
namespace Go.Proofs.YtgnlchfcominaaaDoor
open Go.RowKit
set_option linter.unusedVariables false

inductive Ex where
  | mk (kind n : Int) (name : ByteArray) (args : List Ex)
inductive St where
  | mk (kind : Int) (name : ByteArray) (a b : Ex) (body els : List St)
inductive Tm where
  | mk (kind cell : Int) (write : Bool) (label : Int) (kids : List Tm)

def Ex.kind : Ex → Int | .mk k _ _ _ => k
def Ex.num : Ex → Int | .mk _ n _ _ => n
def Ex.name : Ex → ByteArray | .mk _ _ s _ => s
def Ex.args : Ex → List Ex | .mk _ _ _ a => a

inductive RdEx (w : World) (S : Blocks) : Ex → List Value → Prop
  | mk (k n : Int) (s : ByteArray) (args : List Ex) (A : Option Addr) (cap : Nat) (css : List (List Value)) (hk : inI k) (hn : inI n) (hs : s.size ≤ 140737488355328)
      (hl : args.length ≤ cap) (hm : cap ≤ maxLen) (hc : args.length * 56 ≤ 140737488355328) (hcl : css.length = args.length) (ha : Arr w S 4 A css) (hr : ∀ (i : Nat) e cs, args[i]? = some e → css[i]? = some cs → RdEx w S e cs) :
      RdEx w S (.mk k n s args) [.int .i64 k, .int .i64 n, .string s, .slice A args.length cap]
abbrev RdExs := RdL RdEx 4 56
theorem RdEx.keeps : Keeps RdEx := by
  intro w w' S S' x cs hB hk h
  induction h with
  | mk k n s args A cap css hkk hn hs hl hm hc hcl ha hr ih => exact .mk k n s args A cap css hkk hn hs hl hm hc hcl (ha.keep hB hk) ih
theorem RdEx.len {w : World} {S : Blocks} {e : Ex} {cs : List Value} (h : RdEx w S e cs) : cs.length = 4 := by cases h; rfl
theorem RdEx.open_ {w : World} {S : Blocks} {k n : Int} {s : ByteArray} {args : List Ex} {cs : List Value} (h : RdEx w S (.mk k n s args) cs) :
    inI k ∧ inI n ∧ s.size ≤ 140737488355328 ∧ ∃ v, cs = [.int .i64 k, .int .i64 n, .string s, v] ∧ RdExs w S args v := by
  cases h with
  | mk _ _ _ _ A cap css hkk hn hs hl hm hc hcl ha hr => exact ⟨hkk, hn, hs, _, rfl, A, cap, css, rfl, hl, hm, hc, hcl, ha, hr⟩
theorem RdEx.shut {w : World} {S : Blocks} {k n : Int} {s : ByteArray} {args : List Ex} {v : Value} (hk : inI k) (hn : inI n) (hs : s.size ≤ 140737488355328) (h : RdExs w S args v) :
    RdEx w S (.mk k n s args) [.int .i64 k, .int .i64 n, .string s, v] := by
  obtain ⟨A, cap, css, rfl, hl, hm, hc, hcl, ha, hr⟩ := h
  exact .mk k n s args A cap css hk hn hs hl hm hc hcl ha hr

theorem RdEx.cells {w : World} {S : Blocks} {e : Ex} {cs : List Value} (h : RdEx w S e cs) : ∃ k n s A c c', cs = [.int .i64 k, .int .i64 n, .string s, .slice A c c'] := by
  cases h with
  | mk k n s args A cap css _ _ _ _ _ _ _ _ _ => exact ⟨k, n, s, A, _, cap, rfl⟩

inductive RdSt (w : World) (S : Blocks) : St → List Value → Prop
  | mk (k : Int) (s : ByteArray) (a b : Ex) (body els : List St) (a0 a1 a2 a3 b0 b1 b2 b3 : Value) (A A' : Option Addr) (cap cap' : Nat) (css css' : List (List Value)) (hk : inI k) (hs : s.size ≤ 140737488355328)
      (h1 : RdEx w S a [a0, a1, a2, a3]) (h2 : RdEx w S b [b0, b1, b2, b3])
      (hl : body.length ≤ cap) (hm : cap ≤ maxLen) (hc : body.length * 184 ≤ 140737488355328) (hcl : css.length = body.length) (ha : Arr w S 12 A css) (hr : ∀ (i : Nat) e cs, body[i]? = some e → css[i]? = some cs → RdSt w S e cs)
      (hl' : els.length ≤ cap') (hm' : cap' ≤ maxLen) (hc' : els.length * 184 ≤ 140737488355328) (hcl' : css'.length = els.length) (ha' : Arr w S 12 A' css') (hr' : ∀ (i : Nat) e cs, els[i]? = some e → css'[i]? = some cs → RdSt w S e cs) :
      RdSt w S (.mk k s a b body els) [.int .i64 k, .string s, a0, a1, a2, a3, b0, b1, b2, b3, .slice A body.length cap, .slice A' els.length cap']
abbrev RdSts := RdL RdSt 12 184
theorem RdSt.keeps : Keeps RdSt := by
  intro w w' S S' x cs hB hk h
  induction h with
  | mk k s a b body els a0 a1 a2 a3 b0 b1 b2 b3 A A' cap cap' css css' hkk hs h1 h2 hl hm hc hcl ha hr hl' hm' hc' hcl' ha' hr' ih ih' =>
    exact .mk k s a b body els a0 a1 a2 a3 b0 b1 b2 b3 A A' cap cap' css css' hkk hs (RdEx.keeps _ _ _ _ _ _ hB hk h1) (RdEx.keeps _ _ _ _ _ _ hB hk h2) hl hm hc hcl (ha.keep hB hk) ih hl' hm' hc' hcl' (ha'.keep hB hk) ih'
theorem RdSt.open_ {w : World} {S : Blocks} {k : Int} {s : ByteArray} {a b : Ex} {body els : List St} {cs : List Value} (h : RdSt w S (.mk k s a b body els) cs) :
    inI k ∧ s.size ≤ 140737488355328 ∧ ∃ a0 a1 a2 a3 b0 b1 b2 b3 v v', cs = [.int .i64 k, .string s, a0, a1, a2, a3, b0, b1, b2, b3, v, v'] ∧ RdEx w S a [a0, a1, a2, a3] ∧ RdEx w S b [b0, b1, b2, b3] ∧ RdSts w S body v ∧ RdSts w S els v' := by
  cases h with
  | mk _ _ _ _ _ _ a0 a1 a2 a3 b0 b1 b2 b3 A A' cap cap' css css' hkk hs h1 h2 hl hm hc hcl ha hr hl' hm' hc' hcl' ha' hr' =>
    exact ⟨hkk, hs, a0, a1, a2, a3, b0, b1, b2, b3, _, _, rfl, h1, h2, ⟨A, cap, css, rfl, hl, hm, hc, hcl, ha, hr⟩, ⟨A', cap', css', rfl, hl', hm', hc', hcl', ha', hr'⟩⟩
/-- every cell of a statement written out -/
theorem RdSt.cells {w : World} {S : Blocks} {k : Int} {s : ByteArray} {a b : Ex} {body els : List St} {cs : List Value} (h : RdSt w S (.mk k s a b body els) cs) :
    ∃ k1 n1 s1 A1 c1 m1 k2 n2 s2 A2 c2 m2 A3 m3 A4 m4, cs = [.int .i64 k, .string s, .int .i64 k1, .int .i64 n1, .string s1, .slice A1 c1 m1, .int .i64 k2, .int .i64 n2, .string s2, .slice A2 c2 m2, .slice A3 body.length m3, .slice A4 els.length m4] ∧
      inI k ∧ s.size ≤ 140737488355328 ∧ RdEx w S a [.int .i64 k1, .int .i64 n1, .string s1, .slice A1 c1 m1] ∧ RdEx w S b [.int .i64 k2, .int .i64 n2, .string s2, .slice A2 c2 m2] ∧
      RdSts w S body (.slice A3 body.length m3) ∧ RdSts w S els (.slice A4 els.length m4) := by
  obtain ⟨hk, hs, a0, a1, a2, a3, b0, b1, b2, b3, v, v', rfl, h1, h2, h3, h4⟩ := h.open_
  obtain ⟨k1, n1, s1, A1, c1, m1, e1⟩ := h1.cells
  obtain ⟨k2, n2, s2, A2, c2, m2, e2⟩ := h2.cells
  obtain ⟨A3, m3, rfl, _, _⟩ := h3.form
  obtain ⟨A4, m4, rfl, _, _⟩ := h4.form
  simp only [List.cons.injEq, and_true] at e1 e2
  obtain ⟨rfl, rfl, rfl, rfl⟩ := e1
  obtain ⟨rfl, rfl, rfl, rfl⟩ := e2
  exact ⟨k1, n1, s1, A1, c1, m1, k2, n2, s2, A2, c2, m2, A3, m3, A4, m4, rfl, hk, hs, h1, h2, h3, h4⟩
theorem RdSt.shut {w : World} {S : Blocks} {k : Int} {s : ByteArray} {a b : Ex} {body els : List St} {a0 a1 a2 a3 b0 b1 b2 b3 v v' : Value} (hk : inI k) (hs : s.size ≤ 140737488355328)
    (h1 : RdEx w S a [a0, a1, a2, a3]) (h2 : RdEx w S b [b0, b1, b2, b3]) (h3 : RdSts w S body v) (h4 : RdSts w S els v') :
    RdSt w S (.mk k s a b body els) [.int .i64 k, .string s, a0, a1, a2, a3, b0, b1, b2, b3, v, v'] := by
  obtain ⟨A, cap, css, rfl, hl, hm, hc, hcl, ha, hr⟩ := h3
  obtain ⟨A', cap', css', rfl, hl', hm', hc', hcl', ha', hr'⟩ := h4
  exact .mk k s a b body els a0 a1 a2 a3 b0 b1 b2 b3 A A' cap cap' css css' hk hs h1 h2 hl hm hc hcl ha hr hl' hm' hc' hcl' ha' hr'

inductive RdTm (w : World) (S : Blocks) : Tm → List Value → Prop
  | mk (k c : Int) (wr : Bool) (lb : Int) (kids : List Tm) (A : Option Addr) (cap : Nat) (css : List (List Value)) (hk : inI k) (hn : inI c) (hs : inI lb)
      (hl : kids.length ≤ cap) (hm : cap ≤ maxLen) (hc : kids.length * 56 ≤ 140737488355328) (hcl : css.length = kids.length) (ha : Arr w S 5 A css) (hr : ∀ (i : Nat) e cs, kids[i]? = some e → css[i]? = some cs → RdTm w S e cs) :
      RdTm w S (.mk k c wr lb kids) [.int .i64 k, .int .i64 c, .bool wr, .int .i64 lb, .slice A kids.length cap]
abbrev RdTms := RdL RdTm 5 56
theorem RdTm.keeps : Keeps RdTm := by
  intro w w' S S' x cs hB hk h
  induction h with
  | mk k n s lb args A cap css hkk hn hs hl hm hc hcl ha hr ih => exact .mk k n s lb args A cap css hkk hn hs hl hm hc hcl (ha.keep hB hk) ih
theorem RdTm.open_ {w : World} {S : Blocks} {k c : Int} {wr : Bool} {lb : Int} {kids : List Tm} {cs : List Value} (h : RdTm w S (.mk k c wr lb kids) cs) :
    inI k ∧ inI c ∧ inI lb ∧ ∃ v, cs = [.int .i64 k, .int .i64 c, .bool wr, .int .i64 lb, v] ∧ RdTms w S kids v := by
  cases h with
  | mk _ _ _ _ _ A cap css hkk hn hs hl hm hc hcl ha hr => exact ⟨hkk, hn, hs, _, rfl, A, cap, css, rfl, hl, hm, hc, hcl, ha, hr⟩
theorem RdTm.shut {w : World} {S : Blocks} {k c : Int} {wr : Bool} {lb : Int} {kids : List Tm} {v : Value} (hk : inI k) (hn : inI c) (hs : inI lb) (h : RdTms w S kids v) :
    RdTm w S (.mk k c wr lb kids) [.int .i64 k, .int .i64 c, .bool wr, .int .i64 lb, v] := by
  obtain ⟨A, cap, css, rfl, hl, hm, hc, hcl, ha, hr⟩ := h
  exact .mk k c wr lb kids A cap css hk hn hs hl hm hc hcl ha hr

theorem one_size {α : Type} [SizeOf α] {l : List α} {q : Nat} (hq : q < l.length) : SizeOf.sizeOf l[q] < SizeOf.sizeOf l := List.sizeOf_lt_of_mem (List.getElem_mem hq)
end Go.Proofs.YtgnlchfcominaaaDoor
