/- Words for the rounds of the runner; Clip; Eval in a world where a runner works; the labels of one statement. -/
import Derived.Test.YtdelngmbpjgphaaSr1
import Derived.Test.YtdelngmbpjgphaaGExMul
import Derived.Test.YtdelngmbpjgphaaEx10
import Derived.Test.YtdelngmbpjgphaaSc9
import Derived.Test.YtdelngmbpjgphaaGSc6
namespace Go.Proofs.Ytdelngmbpjgphaa
open Go.RowKit
set_option linter.unusedVariables false
/-- the binds lie where the runner does not write -/
def FrX (X : Blocks) (w : World) (env : List Bd) (ve : Value) : Prop := ∃ T, Sub T (Upto w.heap.size) ∧ (∀ k, T k → ¬ X k) ∧ RdBds w T env ve
section
variable {X X' : Blocks} {w w' : World} {env : List Bd} {ve : Value}
theorem FrX.below (h : FrX X w env ve) (hb : Below w.heap.size w w') : FrX X w' env ve := by
  obtain ⟨T, h1, h2, h3⟩ := h
  exact ⟨T, h1.trans (Sub.upto hb.size), h2, h3.keep Flat.keeps (Sub.refl _) (same_of_below hb h1)⟩
theorem FrX.drew (h : FrX X w env ve) : FrX X w.drew env ve := h
theorem FrX.alloc (h : FrX X w env ve) (o : Obj) : FrX X (w.alloc o) env ve := h.below ((Below.refl _ _).alloc (Nat.le_refl _) _)
theorem FrX.step (h : FrX X w env ve) (hb : But X w w') (hs : Sub X' (Plus X w.heap.size w'.heap.size)) : FrX X' w' env ve := by
  obtain ⟨T, h1, h2, h3⟩ := h
  refine ⟨T, h1.trans (Sub.upto hb.size), fun k hk hx => ?_, h3.keep Flat.keeps (Sub.refl _) (hb.same h1 h2)⟩
  rcases hs k hx with e | e
  · exact h2 k hk e
  · have := h1 k hk; simp only [Upto] at this; omega
theorem FrX.form (h : FrX X w env ve) : ∃ A c, ve = .slice A env.length c ∧ env.length ≤ c ∧ c ≤ maxLen := by
  obtain ⟨T, h1, h2, h3⟩ := h
  obtain ⟨A, c, e, hc, hm, _⟩ := h3.form
  exact ⟨A, c, e, hc, hm⟩
theorem FrX.fr (h : FrX X w env ve) : Fr encBd okBd 2 24 w env ve := by
  obtain ⟨T, h1, h2, h3⟩ := h
  exact ⟨T, h1, h3⟩
theorem FrX.clip {A : Option Addr} {c : Nat} (h : FrX X w env (.slice A env.length c)) : FrX X w env (.slice A env.length env.length) := by
  obtain ⟨T, h1, h2, A', cap, css, e, g1, g2, g3, g4⟩ := h
  injection e with e1 e2 e3
  subst e1 e3
  exact ⟨T, h1, h2, A, env.length, css, rfl, Nat.le_refl _, Nat.le_trans g1 g2, g3, g4⟩
theorem FrX.own {n : Nat} {l : List Bd} {v : Value} (h : OwnL (Flat encBd okBd) 2 123 w n Nowhere l v) (hl : l.length ≤ 2001) (hX : ∀ k, X k → k < n) : FrX X w l v :=
  ⟨Plus Nowhere n w.heap.size, fun k hk => hk.elim (fun e => e.elim) (fun e => e.2), fun k hk hx => hk.elim (fun e => e.elim) (fun e => by have := hX k hx; omega), h.toRd (bytes := 24) Flat.keeps (by omega) (Sub.nowhere _) (fun b h1 h2 => .inr ⟨h1, h2⟩)⟩
theorem FrX.nil {A : Option Addr} {c : Nat} (hc : c ≤ maxLen) : FrX X w [] (.slice A 0 c) := ⟨Nowhere, Sub.nowhere _, fun _ h => h.elim, RdL.nil hc⟩
end
theorem infoBd : (Try.prog.info? 123).map (fun i => (i.zero, i.size, i.bytes)) = some (some (.agg #[.string .empty, .int .i64 0]), 2, 24) := by kernel_rfl
theorem encBd_len (y : Bd) : (encBd y).length = 2 := rfl
theorem oneBd : ∀ e : Bd, okBd e → ∀ u ∈ encBd e, u.oneCell' = true := by
  rintro e _ u hu
  simp only [encBd, List.mem_cons, List.not_mem_nil, or_false] at hu
  rcases hu with rfl | rfl <;> rfl
theorem clip_any (A : Option Addr) (n c : Nat) (hc : n ≤ c) (hm : c ≤ maxLen) (w : World) : Calls Try.prog 61 #[.slice A n c] w fun e w' => e = .returned (.slice A n n) ∧ w = w' := by
  unfold maxLen at hm
  have h1 : (n : Int) ≤ (c : Int) := by omega
  have h2 : (c : Int) ≤ 9223372036854775807 := by omega
  go_enter Try.func61, Try.ntmps61
  go_wp2
  go_ret
  exact ⟨rfl, rfl⟩
theorem eval_fx (env : List Bd) (t : Ex) (w : World) (S X : Blocks) (V ve : Value) (hS : Sub S (Upto w.heap.size)) (r : RdE w S t V) (f : FrX X w env ve) :
    Calls Try.prog 42 #[V, ve] w fun e w' => e = .returned (vI (t.worth env)) ∧ inI (t.worth env) ∧ Below w.heap.size w w' := by
  obtain ⟨T, h1, h2, h3⟩ := f
  exact mev_all env t w (Both S T) V ve (Sub.both hS h1) (r.keep (Sub.left _ _) (Same.refl _ _)) (h3.keep Flat.keeps (Sub.right _ _) (Same.refl _ _))
theorem labelsL_take (l : List St) : ∀ n, labelsL (l.take n) ≤ labelsL l := by
  induction l with
  | nil => intro n; simp
  | cons s r ih =>
    intro n
    cases n with
    | zero => rw [List.take_zero, labelsL]; exact Nat.zero_le _
    | succ n => rw [List.take_succ_cons, labelsL, labelsL]; have := ih n; omega
/-- a list of one statement, laid in a block of its own -/
theorem rdSt_one {w : World} {S : Blocks} {g : Nat} {st : St} {cs : List Value} (h : RdSt w S st cs) (hl : cs.length = 12) (hc : ∀ (j : Nat) v, cs[j]? = some v → w.cell? ⟨g, j, none⟩ = some v) (hg : S g) : RdSts w S [st] (.slice (some ⟨g, 0, none⟩) 1 1) :=
  ⟨_, 1, [cs], rfl, Nat.le_refl _, by simp [maxLen], by simp, rfl, ⟨by simpa using hl, fun _ => ⟨g, 0, rfl, hg, fun i c hi j v hv => by
    match i, hi with
    | 0, hi => simp at hi; subst hi; simpa using hc j v hv⟩⟩, fun i e c hi hc => by
    match i, hi, hc with
    | 0, hi, hc => simp at hi hc; subst hi hc; exact h⟩
/-- the labels of one statement, laid in a block of its own -/
theorem labelsOf_one {w wr : World} {S : Blocks} {g : Nat} {st : St} {cs : List Value} (h : RdSt wr S st cs) (hk : Same S wr w) (hS : Sub S (Upto w.heap.size)) (hl : cs.length = 12) (hw : St.wts [st] ≤ 1048576) (hg : w.heap.size = g) :
    Calls Try.prog 38 #[.slice (some ⟨g, 0, none⟩) 1 1] (w.alloc (.cells cs.toArray 112)) fun e w' => e = .returned (vI (labelsL [st] : Int)) ∧ Below w.heap.size w w' := by
  subst hg
  have hb : Below w.heap.size w (w.alloc (.cells cs.toArray 112)) := (Below.refl _ _).alloc (Nat.le_refl _) _
  have h2 : RdSt (w.alloc (.cells cs.toArray 112)) (Both S (Is w.heap.size)) st cs := RdSt.keeps _ _ _ _ _ _ (Sub.left _ _) (hk.trans (same_of_below hb hS)) h
  have B := Blk.made w cs 112 (base := 0) (Nat.zero_le _)
  have hs : Sub (Both S (Is w.heap.size)) (Upto (w.alloc (.cells cs.toArray 112)).heap.size) := Sub.both (hS.trans (Sub.upto hb.size)) (fun k hk => by have e : k = w.heap.size := hk; simp only [Upto, World.size_alloc]; omega)
  refine ((labs_all _ [st] (Nat.le_refl _)).1 _ (Both S (Is w.heap.size)) _ hs (rdSt_one h2 hl B.cell (.inr rfl)) hw).mono ?_
  rintro e w' ⟨rfl, h⟩
  exact ⟨rfl, hb.trans (h.mono hb.size)⟩
theorem But.transNew' {T U : Blocks} {a b c : World} (h : But T a b) (k : But U b c) (hU : Sub U (Plus T a.heap.size b.heap.size)) : But T a c :=
  ⟨k.os.trans h.os, k.tape.trans h.tape, k.output.trans h.output, Nat.le_trans h.size k.size, fun i hi ht => (k.block i (Nat.lt_of_lt_of_le hi h.size) (fun e => (hU i e).elim ht (fun e => by omega))).trans (h.block i hi ht)⟩
/-- a round of the runner, in a world: from w0 on, where its blocks were X0 -/
structure SRn (base d F : Nat) (S : Blocks) (y : Nat) (cs : List Value) (a b : Ex) (VA VB : Value) (body els : List St) (v1 v2 : Value) (w0 : World) (X0 : Blocks) (W : World) (X : Blocks) (m : MS) (env : List Bd) (ve : Value) : Prop where
  at_ : RnAt base W d X F m
  env : FrX X W env ve
  rn : Rnd base S y cs a b VA VB body els v1 v2 W
  nd : ¬ X y
  but : But X0 w0 W
  sub : Sub X (Plus X0 w0.heap.size W.heap.size)
  hS : Sub S (Upto base)
section
variable {base d F y : Nat} {S X0 X X' : Blocks} {cs : List Value} {a b : Ex} {VA VB : Value} {body els : List St} {v1 v2 : Value} {w0 W W' : World} {m m' : MS} {env env' : List Bd} {ve ve' : Value}
theorem SRn.step (h : SRn base d F S y cs a b VA VB body els v1 v2 w0 X0 W X m env ve) (hb : But X W W') (hr : RnAt base W' d X' F m') (hs : Sub X' (Plus X W.heap.size W'.heap.size)) : SRn base d F S y cs a b VA VB body els v1 v2 w0 X0 W' X' m' env ve :=
  ⟨hr, h.env.step hb hs, h.rn.but hb (fun k hk => (h.at_.1.bd k hk).1) h.nd h.hS, fun e => by
    rcases hs y e with e | e
    · exact h.nd e
    · have := h.rn.bd.lt; omega,
   h.but.transNew' hb h.sub, fun k hk => by
    rcases hs k hk with e | e
    · rcases h.sub k e with e | e
      · exact .inl e
      · exact .inr ⟨e.1, Nat.lt_of_lt_of_le e.2 hb.size⟩
    · exact .inr ⟨Nat.le_trans h.but.size e.1, e.2⟩, h.hS⟩
theorem SRn.below (h : SRn base d F S y cs a b VA VB body els v1 v2 w0 X0 W X m env ve) (hb : Below W.heap.size W W') : SRn base d F S y cs a b VA VB body els v1 v2 w0 X0 W' X m env ve :=
  h.step (But.of_below hb) ⟨h.at_.1.below hb, h.at_.2⟩ (Sub.plus _ _ _)
theorem SRn.env_ (h : SRn base d F S y cs a b VA VB body els v1 v2 w0 X0 W X m env ve) (f : FrX X W env' ve') : SRn base d F S y cs a b VA VB body els v1 v2 w0 X0 W X m env' ve' := ⟨h.at_, f, h.rn, h.nd, h.but, h.sub, h.hS⟩
theorem SRn.same {wr : World} (h : SRn base d F S y cs a b VA VB body els v1 v2 w0 X0 W X m env ve) (hX0 : ∀ k, X0 k → base ≤ k) (hbs : base ≤ w0.heap.size) (hs : Same S w0 wr) : Same S wr W := fun p hp =>
  ((h.but.same (h.hS.trans (Sub.upto hbs)) (fun k hk ht => by have := hX0 k ht; have := h.hS k hk; unfold Upto at this; omega)) p hp).trans (hs p hp).symm
theorem SRn.sW (h : SRn base d F S y cs a b VA VB body els v1 v2 w0 X0 W X m env ve) : Sub S (Upto W.heap.size) := h.hS.trans (Sub.upto (Nat.le_trans h.rn.bd.ge (Nat.le_of_lt h.rn.bd.lt)))
end
end Go.Proofs.Ytdelngmbpjgphaa
