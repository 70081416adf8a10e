/- Texts merged: Sr2, Sm1, Ex6. -/
import Derived.Test.YtdelngmbpjgphaaSr1
import Derived.Test.YtdelngmbpjgphaaGExMul
import Derived.Test.YtdelngmbpjgphaaEx10
import Derived.Test.YtdelngmbpjgphaaSc9
import Derived.Test.YtdelngmbpjgphaaGSc6
import Derived.Test.YtdelngmbpjgphaaAppZ
import Derived.Test.YtdelngmbpjgphaaGEx8
/- Words for the rounds of the runner; Clip; Eval in a world where a runner works; the labels of one statement. -/
namespace Go.Proofs.Ytdelngmbpjgphaa
open Go.RowKit
set_option linter.unusedVariables false
/-- the binds lie where the runner does not write -/
def FrX (X : Blocks) (w : World) (env : List Bd) (ve : Value) : Prop := ∃ T, Sub T (Upto w.heap.size) ∧ (∀ k, T k → ¬ X k) ∧ RdBds w T env ve
section
variable {X X' : Blocks} {w w' : World} {env : List Bd} {ve : Value}
theorem FrX.below (h : FrX X w env ve) (hb : Below w.heap.size w w') : FrX X w' env ve := by
  obtain ⟨T, h1, h2, h3⟩ := h
  exact ⟨T, h1.trans (Sub.upto hb.size), h2, h3.keep Flat.keeps (Sub.refl _) (same_of_below hb h1)⟩
theorem FrX.drew (h : FrX X w env ve) : FrX X w.drew env ve := h
theorem FrX.alloc (h : FrX X w env ve) (o : Obj) : FrX X (w.alloc o) env ve := h.below ((Below.refl _ _).alloc (Nat.le_refl _) _)
theorem FrX.step (h : FrX X w env ve) (hb : But X w w') (hs : Sub X' (Plus X w.heap.size w'.heap.size)) : FrX X' w' env ve := by
  obtain ⟨T, h1, h2, h3⟩ := h
  refine ⟨T, h1.trans (Sub.upto hb.size), fun k hk hx => ?_, h3.keep Flat.keeps (Sub.refl _) (hb.same h1 h2)⟩
  rcases hs k hx with e | e
  · exact h2 k hk e
  · have := h1 k hk; simp only [Upto] at this; omega
theorem FrX.form (h : FrX X w env ve) : ∃ A c, ve = .slice A env.length c ∧ env.length ≤ c ∧ c ≤ maxLen := by
  obtain ⟨T, h1, h2, h3⟩ := h
  obtain ⟨A, c, e, hc, hm, _⟩ := h3.form
  exact ⟨A, c, e, hc, hm⟩
theorem FrX.fr (h : FrX X w env ve) : Fr encBd okBd 2 24 w env ve := by
  obtain ⟨T, h1, h2, h3⟩ := h
  exact ⟨T, h1, h3⟩
theorem FrX.clip {A : Option Addr} {c : Nat} (h : FrX X w env (.slice A env.length c)) : FrX X w env (.slice A env.length env.length) := by
  obtain ⟨T, h1, h2, A', cap, css, e, g1, g2, g3, g4⟩ := h
  injection e with e1 e2 e3
  subst e1 e3
  exact ⟨T, h1, h2, A, env.length, css, rfl, Nat.le_refl _, Nat.le_trans g1 g2, g3, g4⟩
theorem FrX.own {n : Nat} {l : List Bd} {v : Value} (h : OwnL (Flat encBd okBd) 2 123 w n Nowhere l v) (hl : l.length ≤ 2001) (hX : ∀ k, X k → k < n) : FrX X w l v :=
  ⟨Plus Nowhere n w.heap.size, fun k hk => hk.elim (fun e => e.elim) (fun e => e.2), fun k hk hx => hk.elim (fun e => e.elim) (fun e => by have := hX k hx; omega), h.toRd (bytes := 24) Flat.keeps (by omega) (Sub.nowhere _) (fun b h1 h2 => .inr ⟨h1, h2⟩)⟩
theorem FrX.nil {A : Option Addr} {c : Nat} (hc : c ≤ maxLen) : FrX X w [] (.slice A 0 c) := ⟨Nowhere, Sub.nowhere _, fun _ h => h.elim, RdL.nil hc⟩
end
theorem infoBd : (Try.prog.info? 123).map (fun i => (i.zero, i.size, i.bytes)) = some (some (.agg #[.string .empty, .int .i64 0]), 2, 24) := by kernel_rfl
theorem encBd_len (y : Bd) : (encBd y).length = 2 := rfl
theorem oneBd : ∀ e : Bd, okBd e → ∀ u ∈ encBd e, u.oneCell' = true := by
  rintro e _ u hu
  simp only [encBd, List.mem_cons, List.not_mem_nil, or_false] at hu
  rcases hu with rfl | rfl <;> rfl
theorem clip_any (A : Option Addr) (n c : Nat) (hc : n ≤ c) (hm : c ≤ maxLen) (w : World) : Calls Try.prog 61 #[.slice A n c] w fun e w' => e = .returned (.slice A n n) ∧ w = w' := by
  unfold maxLen at hm
  have h1 : (n : Int) ≤ (c : Int) := by omega
  have h2 : (c : Int) ≤ 9223372036854775807 := by omega
  go_enter Try.func61, Try.ntmps61
  go_wp2
  go_ret
  exact ⟨rfl, rfl⟩
theorem eval_fx (env : List Bd) (t : Ex) (w : World) (S X : Blocks) (V ve : Value) (hS : Sub S (Upto w.heap.size)) (r : RdE w S t V) (f : FrX X w env ve) :
    Calls Try.prog 42 #[V, ve] w fun e w' => e = .returned (vI (t.worth env)) ∧ inI (t.worth env) ∧ Below w.heap.size w w' := by
  obtain ⟨T, h1, h2, h3⟩ := f
  exact mev_all env t w (Both S T) V ve (Sub.both hS h1) (r.keep (Sub.left _ _) (Same.refl _ _)) (h3.keep Flat.keeps (Sub.right _ _) (Same.refl _ _))
theorem labelsL_take (l : List St) : ∀ n, labelsL (l.take n) ≤ labelsL l := by
  induction l with
  | nil => intro n; simp
  | cons s r ih =>
    intro n
    cases n with
    | zero => rw [List.take_zero, labelsL]; exact Nat.zero_le _
    | succ n => rw [List.take_succ_cons, labelsL, labelsL]; have := ih n; omega
/-- a list of one statement, laid in a block of its own -/
theorem rdSt_one {w : World} {S : Blocks} {g : Nat} {st : St} {cs : List Value} (h : RdSt w S st cs) (hl : cs.length = 12) (hc : ∀ (j : Nat) v, cs[j]? = some v → w.cell? ⟨g, j, none⟩ = some v) (hg : S g) : RdSts w S [st] (.slice (some ⟨g, 0, none⟩) 1 1) :=
  ⟨_, 1, [cs], rfl, Nat.le_refl _, by simp [maxLen], by simp, rfl, ⟨by simpa using hl, fun _ => ⟨g, 0, rfl, hg, fun i c hi j v hv => by
    match i, hi with
    | 0, hi => simp at hi; subst hi; simpa using hc j v hv⟩⟩, fun i e c hi hc => by
    match i, hi, hc with
    | 0, hi, hc => simp at hi hc; subst hi hc; exact h⟩
/-- the labels of one statement, laid in a block of its own -/
theorem labelsOf_one {w wr : World} {S : Blocks} {g : Nat} {st : St} {cs : List Value} (h : RdSt wr S st cs) (hk : Same S wr w) (hS : Sub S (Upto w.heap.size)) (hl : cs.length = 12) (hw : St.wts [st] ≤ 1048576) (hg : w.heap.size = g) :
    Calls Try.prog 38 #[.slice (some ⟨g, 0, none⟩) 1 1] (w.alloc (.cells cs.toArray 112)) fun e w' => e = .returned (vI (labelsL [st] : Int)) ∧ Below w.heap.size w w' := by
  subst hg
  have hb : Below w.heap.size w (w.alloc (.cells cs.toArray 112)) := (Below.refl _ _).alloc (Nat.le_refl _) _
  have h2 : RdSt (w.alloc (.cells cs.toArray 112)) (Both S (Is w.heap.size)) st cs := RdSt.keeps _ _ _ _ _ _ (Sub.left _ _) (hk.trans (same_of_below hb hS)) h
  have B := Blk.made w cs 112 (base := 0) (Nat.zero_le _)
  have hs : Sub (Both S (Is w.heap.size)) (Upto (w.alloc (.cells cs.toArray 112)).heap.size) := Sub.both (hS.trans (Sub.upto hb.size)) (fun k hk => by have e : k = w.heap.size := hk; simp only [Upto, World.size_alloc]; omega)
  refine ((labs_all _ [st] (Nat.le_refl _)).1 _ (Both S (Is w.heap.size)) _ hs (rdSt_one h2 hl B.cell (.inr rfl)) hw).mono ?_
  rintro e w' ⟨rfl, h⟩
  exact ⟨rfl, hb.trans (h.mono hb.size)⟩
theorem But.transNew' {T U : Blocks} {a b c : World} (h : But T a b) (k : But U b c) (hU : Sub U (Plus T a.heap.size b.heap.size)) : But T a c :=
  ⟨k.os.trans h.os, k.tape.trans h.tape, k.output.trans h.output, Nat.le_trans h.size k.size, fun i hi ht => (k.block i (Nat.lt_of_lt_of_le hi h.size) (fun e => (hU i e).elim ht (fun e => by omega))).trans (h.block i hi ht)⟩
/-- a round of the runner, in a world: from w0 on, where its blocks were X0 -/
structure SRn (base d F : Nat) (S : Blocks) (y : Nat) (cs : List Value) (a b : Ex) (VA VB : Value) (body els : List St) (v1 v2 : Value) (w0 : World) (X0 : Blocks) (W : World) (X : Blocks) (m : MS) (env : List Bd) (ve : Value) : Prop where
  at_ : RnAt base W d X F m
  env : FrX X W env ve
  rn : Rnd base S y cs a b VA VB body els v1 v2 W
  nd : ¬ X y
  but : But X0 w0 W
  sub : Sub X (Plus X0 w0.heap.size W.heap.size)
  hS : Sub S (Upto base)
section
variable {base d F y : Nat} {S X0 X X' : Blocks} {cs : List Value} {a b : Ex} {VA VB : Value} {body els : List St} {v1 v2 : Value} {w0 W W' : World} {m m' : MS} {env env' : List Bd} {ve ve' : Value}
theorem SRn.step (h : SRn base d F S y cs a b VA VB body els v1 v2 w0 X0 W X m env ve) (hb : But X W W') (hr : RnAt base W' d X' F m') (hs : Sub X' (Plus X W.heap.size W'.heap.size)) : SRn base d F S y cs a b VA VB body els v1 v2 w0 X0 W' X' m' env ve :=
  ⟨hr, h.env.step hb hs, h.rn.but hb (fun k hk => (h.at_.1.bd k hk).1) h.nd h.hS, fun e => by
    rcases hs y e with e | e
    · exact h.nd e
    · have := h.rn.bd.lt; omega,
   h.but.transNew' hb h.sub, fun k hk => by
    rcases hs k hk with e | e
    · rcases h.sub k e with e | e
      · exact .inl e
      · exact .inr ⟨e.1, Nat.lt_of_lt_of_le e.2 hb.size⟩
    · exact .inr ⟨Nat.le_trans h.but.size e.1, e.2⟩, h.hS⟩
theorem SRn.below (h : SRn base d F S y cs a b VA VB body els v1 v2 w0 X0 W X m env ve) (hb : Below W.heap.size W W') : SRn base d F S y cs a b VA VB body els v1 v2 w0 X0 W' X m env ve :=
  h.step (But.of_below hb) ⟨h.at_.1.below hb, h.at_.2⟩ (Sub.plus _ _ _)
theorem SRn.env_ (h : SRn base d F S y cs a b VA VB body els v1 v2 w0 X0 W X m env ve) (f : FrX X W env' ve') : SRn base d F S y cs a b VA VB body els v1 v2 w0 X0 W X m env' ve' := ⟨h.at_, f, h.rn, h.nd, h.but, h.sub, h.hS⟩
theorem SRn.same {wr : World} (h : SRn base d F S y cs a b VA VB body els v1 v2 w0 X0 W X m env ve) (hX0 : ∀ k, X0 k → base ≤ k) (hbs : base ≤ w0.heap.size) (hs : Same S w0 wr) : Same S wr W := fun p hp =>
  ((h.but.same (h.hS.trans (Sub.upto hbs)) (fun k hk ht => by have := hX0 k ht; have := h.hS k hk; unfold Upto at this; omega)) p hp).trans (hs p hp).symm
theorem SRn.sW (h : SRn base d F S y cs a b VA VB body els v1 v2 w0 X0 W X m env ve) : Sub S (Upto W.heap.size) := h.hS.trans (Sub.upto (Nat.le_trans h.rn.bd.ge (Nat.le_of_lt h.rn.bd.lt)))
end
end Go.Proofs.Ytdelngmbpjgphaa
/- The reference's with: binds and one more. -/
namespace Go.Proofs.Ytdelngmbpjgphaa
open Go.RowKit
set_option linter.unusedVariables false
theorem FrX.app {X : Blocks} {w : World} {n : Nat} {l : List Bd} {v : Value} (h : AppL encBd okBd 2 123 w n l v) (hl : l.length ≤ 2001) (hX : ∀ k, X k → k < n) : FrX X w l v := by
  rcases h with h | ⟨rfl, A, rfl⟩
  · exact FrX.own h hl hX
  · exact FrX.nil (by simp [maxLen])
theorem frB_new (w : World) {s : ByteArray} {v : Int} (hok : okBd ⟨s, v⟩) {g : Nat} (hg : w.heap.size = g) : Fr encBd okBd 2 24 (w.alloc (.cells #[.string s, vI v] 123)) [⟨s, v⟩] (.slice (some ⟨g, 0, none⟩) 1 1) := by
  subst hg
  have B := Blk.made w [.string s, vI v] 123 (base := 0) (Nat.zero_le _)
  refine ⟨Is w.heap.size, fun b hb => by unfold Is at hb; subst hb; simp [Upto], _, 1, [[.string s, vI v]], rfl, Nat.le_refl _, by simp [maxLen], by simp, rfl, ⟨by simp, fun _ => ⟨w.heap.size, 0, rfl, rfl, fun i c hi j v hv => by
    match i, hi with
    | 0, hi => simp at hi; subst hi; simpa using B.cell j v hv⟩⟩, fun i e c hi hc => by
    match i, hi, hc with
    | 0, hi, hc => simp at hi hc; subst hi hc; exact ⟨rfl, hok⟩⟩
set_option maxHeartbeats 1000000 in
set_option maxRecDepth 100000 in
theorem with_any (env : List Bd) (hlen : env.length ≤ 2000) (s : ByteArray) (hs : s.size ≤ 140737488355328) (v : Int) (hv : inI v) (w : World) (X : Blocks) (ve : Value) (g y : Nat) (cs : List Value) (hX : ∀ k, X k → k < w.heap.size) (hf : FrX X w env ve) (hg : w.cell? ⟨g, 0, none⟩ = some ve) (hy : w.cell? ⟨y, 1, none⟩ = some (.string s)) :
    Calls Try.prog 54 #[vI v, .pointer (some ⟨g, 0, none⟩), .pointer (some ⟨y, 0, none⟩)] w fun e w' => (∃ x, e = .returned x ∧ FrX X w' (env ++ [⟨s, v⟩]) x) ∧ Below w.heap.size w w' := by
  obtain ⟨i0, hi, hz0, hz1', hz2⟩ := info_parts infoBd
  obtain ⟨A, c, rfl, hc1, hc2⟩ := hf.form
  have hgl : g < w.heap.size := World.block_lt_of_cell? w _ hg
  have hyl : y < w.heap.size := World.block_lt_of_cell? w _ hy
  have HFR := Lib.hid hf.fr
  have HX := Lib.hid hX
  have HWP := Lib.hid (fun w' h => Stay.size h : ∀ w', Stay w w' → w.heap.size ≤ w'.heap.size)
  have HOK := Lib.hid (show okBd ⟨s, v⟩ from ⟨hs, hv⟩)
  have mb1 := Lib.hid (show (env.length + [(⟨s, v⟩ : Bd)].length) * 24 ≤ 140737488355328 by simp; omega)
  have mb2 := Lib.hid (show env.length + [(⟨s, v⟩ : Bd)].length ≤ maxLen by unfold maxLen; simp; omega)
  have hst0 : Stay w w := Stay.of (Below.refl _ _)
  clear hf hX
  go_enter Try.func54, Try.ntmps54
  go_upto_region 1 with (fail)
  go_region_held3 (fun w' => Stay w w') (first | assumption | exact Stay.mk (Kept.start _) | ((refine Stay.mk ?_; (repeat (with_reducible first | refine Kept.set ?_ (by omega) _ | refine Kept.drew ?_ | refine Kept.alloc ?_ _)); first | exact Kept.refl _ | assumption)))
    (first
      | ((refine step_append_zero (by rfl) (.tmp 5) (.tmp 6) 106 (by rfl) _ (by rfl) (by rfl) i0 _ Try.underlying106 hi hz0 hz1' hz2 rfl (by decide) (enc := encBd) (ok := okBd) (m := env) (base := w.heap.size) oneBd ?_ (HWP.out _ (by assumption)) ?_; (repeat (with_reducible first | exact HFR.out | refine Fr.drew ?_ | refine Fr.alloc ?_)); intro v1 w1 ho1 hb1; have hst1 : Stay w w1 := Stay.of ((Stay.below (by assumption)).trans (hb1.mono (HWP.out _ (by assumption)))); have hk1 : Kept w w1 := Kept.here hst1))
      | ((refine step_append_app (by rfl) (.tmp 7) (.tmp 12) 106 (by rfl) (by rfl) (by rfl) i0 _ Try.underlying106 hi hz0 hz1' hz2 rfl (by decide) (enc := encBd) (ok := okBd) (l := env) (m := [⟨s, v⟩]) (base := w.heap.size) oneBd ?_ ?_ (HWP.out _ (by assumption)) mb1.out mb2.out ?_; (first | exact frB_new _ HOK.out rfl | (refine Fr.via hb1 ?_; refine Fr.drew ?_; refine frB_new _ HOK.out ?_; (first | rfl | simp only [World.size_alloc])) | (refine Fr.via hb1 ?_; refine Fr.drew ?_; refine Fr.alloc ?_; refine frB_new _ HOK.out ?_; rfl)); (change AppL encBd okBd 2 123 _ w.heap.size env v1); (repeat (with_reducible first | exact ho1 | refine AppL.drew ?_ | refine AppL.alloc ?_)); intro v2 w2 ho2 hb2; have hst2 : Stay w w2 := Stay.of ((Stay.below (by assumption)).trans (hb2.mono (HWP.out _ (by assumption)))); have hk2 : Kept w w2 := Kept.here hst2)))
  all_goals go_wp2_with fail
  all_goals go_ret
  all_goals exact ⟨⟨_, rfl, FrX.app (by assumption) (by simp; omega) HX.out⟩, Stay.below (by assumption)⟩
end Go.Proofs.Ytdelngmbpjgphaa
/- The walk of the reference's EEval, at what has two. -/
namespace Go.Proofs.Ytdelngmbpjgphaa
open Go.RowKit
set_option linter.unusedVariables false
theorem reckon_b (k x y : Int) (hx : inI x) (hy : inI y) (w : World) : Calls Try.prog 64 #[.int .i64 k, .int .i64 x, .int .i64 y] w fun e w' =>
    e = .returned (.int .i64 (doE k x y)) ∧ Below w.heap.size w w' := by
  refine (reckon_e k x y hx hy w).mono ?_
  rintro e w' ⟨rfl, n, rfl⟩
  exact ⟨rfl, below_drewN (Below.refl _ _) _⟩
set_option maxHeartbeats 1600000 in
set_option maxRecDepth 100000 in
theorem eev_two (env : List Bd) (t a b : Ex) (ht : t.two = some (a, b)) (iha : EEv env a) (ihb : EEv env b) : EEv env t := by
  intro w S V Ve hS r re
  obtain ⟨k, c, s, args, v, rfl, rfl, hk, hc, hs, hargs⟩ := id r
  obtain ⟨hkk, r', hr'⟩ := Ex.two_kind ht
  simp only [Ex.kind, Ex.args] at hkk hr'
  subst hr'
  obtain ⟨A, cap, rfl, hcl, hcm, _⟩ := hargs.form
  obtain ⟨Ae, cape, rfl, hel, hem, _⟩ := re.form
  obtain ⟨b0, off, k0, c0, s0, v0, rfl, hsb, x0, x1, x2, x3, ra⟩ := RdExs.arg hargs (q := 0) (by simp)
  obtain ⟨b0', off', k1, c1, s1, v1, hA, hsb', y0, y1, y2, y3, rb⟩ := RdExs.arg hargs (q := 1) (by simp)
  injection hA with hA
  injection hA with e1 e2
  subst e1 e2
  simp only [List.getElem_cons_zero, List.getElem_cons_succ] at ra rb
  rw [Nat.zero_mul, Nat.add_zero] at x0 x1 x2 x3
  rw [Nat.one_mul] at y0 y1 y2 y3
  have hl2 : 2 ≤ (a :: b :: r').length := by simp
  have bel : Below w.heap.size w (w.alloc (.cells #[.int .i64 k, .int .i64 c, .string s, .slice (some ⟨b0, off, none⟩) (a :: b :: r').length cap] 110)) := (Below.refl _ _).alloc (Nat.le_refl _) _
  have RA := Lib.hid (r.go bel hS)
  have BEL := Lib.hid bel
  have HT := Lib.hid ht
  have HW := Lib.hid (Ex.worth_two env ht)
  have HBX := Lib.hid (Blk.made w [.int .i64 k, .int .i64 c, .string s, .slice (some ⟨b0, off, none⟩) (a :: b :: r').length cap] 110 (base := 0) (Nat.zero_le _))
  have HS := Lib.hid hS
  have RE := Lib.hid re
  have RVa := Lib.hid ra
  have RVb := Lib.hid rb
  have IHa := Lib.hid iha
  have IHb := Lib.hid ihb
  have hb0 : b0 < w.heap.size := hS _ hsb
  obtain ⟨A1, m1, n1, rfl⟩ := ra.slice
  obtain ⟨A2, m2, n2, rfl⟩ := rb.slice
  unfold maxLen at hem hcm
  unfold exV
  clear hargs r bel re hk hc hs hS ra rb iha ihb
  generalize hn : (a :: b :: r').length = n at *
  have HT' := HT
  go_enter Try.func49, Try.ntmps49
  go_wp2_with fail
  refine (etwo_yes _ a b HT.out _ S _ RA.out).mono ?_
  rintro e w1 ⟨rfl, bb1⟩
  have BX1 := HBX.out.below bb1
  have hz1 := BEL.out.size
  have hz2 := bb1.size
  rw [World.size_alloc] at hz1 hz2
  have kx0 := BX1.cell 0 _ rfl
  have kx3 := BX1.cell 3 _ rfl
  have BEL1 := Lib.hid (BEL.out.trans (bb1.mono (by simp)))
  have REW := Lib.hid (RE.out.keep Flat.keeps (Sub.refl _) (same_of_below BEL1.out HS.out))
  have WRa := Lib.hid (RVa.out.go BEL1.out HS.out)
  have WRb := Lib.hid (RVb.out.go BEL1.out HS.out)
  have f0 := (BEL1.out.cell (p := ⟨b0, off, none⟩) hb0).trans x0
  have f1 := (BEL1.out.cell (p := ⟨b0, off + 1, none⟩) hb0).trans x1
  have f2 := (BEL1.out.cell (p := ⟨b0, off + 2, none⟩) hb0).trans x2
  have f3 := (BEL1.out.cell (p := ⟨b0, off + 3, none⟩) hb0).trans x3
  have f4 := (BEL1.out.cell (p := ⟨b0, off + 4, none⟩) hb0).trans y0
  have f5 := (BEL1.out.cell (p := ⟨b0, off + 4 + 1, none⟩) hb0).trans y1
  have f6 := (BEL1.out.cell (p := ⟨b0, off + 4 + 2, none⟩) hb0).trans y2
  have f7 := (BEL1.out.cell (p := ⟨b0, off + 4 + 3, none⟩) hb0).trans y3
  have hzl : w.heap.size < w1.heap.size := by omega
  have hbl : b0 < w1.heap.size := by omega
  have HSW := Lib.hid (HS.out.trans (Sub.upto (show w.heap.size ≤ w1.heap.size by omega)))
  clear bb1 BEL RA HBX BX1 RE RVa RVb x0 x1 x2 x3 y0 y1 y2 y3
  have BELw := BEL1
  obtain ⟨z, hz⟩ : ∃ z, z = w.heap.size := ⟨_, rfl⟩
  rw [← hz]
  rw [← hz] at kx0 kx3 hzl
  clear hz hz1 hz2 hb0 BEL1
  have hn0 : (0 : Int) < (n : Int) := by omega
  have hn00 : 0 < n := by omega
  have hn1 : (1 : Int) < (n : Int) := by omega
  have hn2 : 1 < n := by omega
  have HWP := Lib.hid (fun w' h => Stay.size h : ∀ w', Stay w1 w' → w1.heap.size ≤ w'.heap.size)
  go_upto_region 12 with (fail)
  go_region_held3 (fun w' => Stay w1 w') (first | assumption | exact Stay.mk (Kept.start _) | ((refine Stay.mk ?_; (repeat (with_reducible first | refine Kept.set ?_ (by omega) _ | refine Kept.drew ?_ | refine Kept.alloc ?_ _)); first | exact Kept.refl _ | assumption)))
    (first
      | ((go_at_call_of 49 (Value.agg #[.int .i64 k0, .int .i64 c0, .string s0, .slice A1 m1 n1]); refine (IHa.out _ S _ _ (HSW.out.trans (Sub.upto (HWP.out _ (by assumption)))) (WRa.out.keep (Sub.refl _) (Same.sub (Stay.same (by assumption)) HSW.out)) (REW.out.keep Flat.keeps (Sub.refl _) (Same.sub (Stay.same (by assumption)) HSW.out))).mono ?_; rintro e wa1 ⟨rfl, hia, hb1⟩; have hst1 : Stay w1 wa1 := Stay.step hb1 (by assumption); have hk1 : Kept w1 wa1 := Kept.here hst1))
      | ((go_at_call_of 49 (Value.agg #[.int .i64 k1, .int .i64 c1, .string s1, .slice A2 m2 n2]); refine (IHb.out _ S _ _ (HSW.out.trans (Sub.upto (HWP.out _ (by assumption)))) (WRb.out.keep (Sub.refl _) (Same.sub (Stay.same (by assumption)) HSW.out)) (REW.out.keep Flat.keeps (Sub.refl _) (Same.sub (Stay.same (by assumption)) HSW.out))).mono ?_; rintro e wb1 ⟨rfl, hib, hb2⟩; have hst2 : Stay w1 wb1 := Stay.step hb2 (by assumption); have hk2 : Kept w1 wb1 := Kept.here hst2))
      | ((go_at_call 64; refine (reckon_b k (a.worth env) (b.worth env) (by assumption) (by assumption) _).mono ?_; rintro e wc1 ⟨rfl, hb3⟩; have hst3 : Stay w1 wc1 := Stay.step hb3 (by assumption); have hk3 : Kept w1 wc1 := Kept.here hst3)))
  go_wp2
  go_ret
  exact ⟨by rw [HW.out]; rfl, by rw [HW.out]; exact doE_in _ _ _ hia hib, BELw.out.trans (hst3.below.mono BELw.out.size)⟩
theorem eev_all (env : List Bd) (t : Ex) : EEv env t := Ex.ind (eev_one env) (eev_two env) t
end Go.Proofs.Ytdelngmbpjgphaa
