/- Words for the walk of the reference's mblock. -/
import Derived.Test.YtdelngmbpjgphaaGUn2
import Derived.Test.YtdelngmbpjgphaaGEx6
import Derived.Deep.MidRow
namespace Go.Proofs.Ytdelngmbpjgphaa
open Go.RowKit
set_option linter.unusedVariables false
def MnAt (base : Nat) (w : World) (d : Nat) (X : Blocks) (F : Nat) (m : MS) : Prop := HpAt base w d X [vI (m.st : Int)] m.h m.tr ∧ m.tr.length ≤ m.st ∧ m.st ≤ F ∧ F ≤ 2000
theorem MnAt.lt {base : Nat} {w : World} {d : Nat} {X : Blocks} {F : Nat} {m : MS} (h : MnAt base w d X F m) : ∀ k, X k → k < w.heap.size := fun k hk => (h.1.bd k hk).2
theorem MnAt.step {base : Nat} {w : World} {d : Nat} {X : Blocks} {F : Nat} {m : MS} (h : MnAt base w d X F m) (hf : m.st < F) : MnAt base (w.setCell ⟨d, 8, none⟩ (vI ((m.st : Int) + 1))) d X F m.step ∧ But X w (w.setCell ⟨d, 8, none⟩ (vI ((m.st : Int) + 1))) := by
  obtain ⟨q1, q2⟩ := HpAt.setMid h.1 (n := 0) (by simp) (vI ((m.st : Int) + 1))
  have hc : ((m.step.st : Nat) : Int) = (m.st : Int) + 1 := by simp [MS.step]
  have h2 := h.2.1
  have h3 := h.2.2.2
  refine ⟨⟨?_, by simp only [MS.step]; omega, by simp only [MS.step]; omega, h3⟩, q2⟩
  rw [hc]
  exact q1
theorem MnAt.spent {base : Nat} {w : World} {d : Nat} {X : Blocks} {F : Nat} {m : MS} (h : MnAt base w d X F m) (v : Value) : But X w (w.setCell ⟨d, 8, none⟩ v) := (HpAt.setMid h.1 (n := 0) (by simp) v).2
/-- what a run of the reference comes to -/
def OutM (base d F : Nat) (w : World) (X : Blocks) : Option MS → Ending → World → Prop
  | some m', e, w' => e = .returned (.bool true) ∧ (∃ X', MnAt base w' d X' F m' ∧ Sub X' (Plus X w.heap.size w'.heap.size)) ∧ But X w w'
  | none, e, w' => e = .returned (.bool false) ∧ But X w w'
def PMk (F : Nat) (l : List St) : Prop := ∀ (base : Nat) (w : World) (d : Nat) (X : Blocks) (m : MS) (env : List Bd) (lab : Nat) (S : Blocks) (v ve : Value), MnAt base w d X F m → Sub S (Upto base) → RdSts w S l v → FrX X w env ve → env.length ≤ m.st → lab + labelsL l ≤ 1048576 → St.wts l ≤ 1048576 →
  ∀ r, blR F l env lab m = r → Calls Try.prog 31 #[.pointer (some ⟨d, 0, none⟩), v, vI (lab : Int), ve, vI (F : Int)] w (OutM base d F w X r)
/-- the frame of a walk of mblock: from w0 on, where its blocks were X0; box y: the statement; box g: the binds -/
structure SMn (base d F : Nat) (S : Blocks) (y g : Nat) (cs : List Value) (a b : Ex) (VA VB : Value) (body els : List St) (v1 v2 : Value) (w0 : World) (X0 : Blocks) (W : World) (X : Blocks) (m : MS) (env : List Bd) (ve : Value) : Prop where
  at_ : MnAt base W d X F m
  env : FrX (Both X (Is g)) W env ve
  rn : Rnd base S y cs a b VA VB body els v1 v2 W
  nd : ¬ X y
  gb : Blk base W g [ve]
  ng : ¬ X g
  yg : y ≠ g
  g0 : w0.heap.size ≤ g
  but : But X0 w0 W
  sub : Sub X (Plus X0 w0.heap.size W.heap.size)
  hS : Sub S (Upto base)
/-- the boxes y and g are as they were -/
abbrev Same2 (y g : Nat) (w1 w' : World) : Prop := ∀ p : Addr, (p.block = y ∨ p.block = g) → w'.cell? p = w1.cell? p
theorem Same2.refl (y g : Nat) (w : World) : Same2 y g w w := fun _ _ => rfl
theorem Same2.drew {y g : Nat} {w w' : World} (h : Same2 y g w w') : Same2 y g w w'.drew := h
theorem Same2.trans {y g : Nat} {a b c : World} (h : Same2 y g a b) (k : Same2 y g b c) : Same2 y g a c := fun p hp => (k p hp).trans (h p hp)
theorem FrX.fewer {X X' : Blocks} {w : World} {env : List Bd} {ve : Value} (h : FrX X w env ve) (hs : Sub X' X) : FrX X' w env ve := by
  obtain ⟨T, h1, h2, h3⟩ := h
  exact ⟨T, h1, fun k hk e => h2 k hk (hs k e), h3⟩
section
variable {base d F y g : Nat} {S X0 X X' : Blocks} {cs : List Value} {a b : Ex} {VA VB : Value} {body els : List St} {v1 v2 : Value} {w0 W W' : World} {m m' : MS} {env env' : List Bd} {ve ve' : Value}
theorem SMn.lt (h : SMn base d F S y g cs a b VA VB body els v1 v2 w0 X0 W X m env ve) : y < W.heap.size ∧ g < W.heap.size := ⟨h.rn.bd.lt, h.gb.lt⟩
theorem SMn.step (h : SMn base d F S y g cs a b VA VB body els v1 v2 w0 X0 W X m env ve) (hb : But X W W') (hr : MnAt base W' d X' F m') (hs : Sub X' (Plus X W.heap.size W'.heap.size)) : SMn base d F S y g cs a b VA VB body els v1 v2 w0 X0 W' X' m' env ve := by
  have hny : ¬ X' y := fun e => by
    rcases hs y e with e | e
    · exact h.nd e
    · have := h.rn.bd.lt; omega
  have hng : ¬ X' g := fun e => by
    rcases hs g e with e | e
    · exact h.ng e
    · have := h.gb.lt; omega
  refine ⟨hr, h.env.step (X' := Both X' (Is g)) (hb.sub (fun k hk => .inl hk)) (fun k hk => ?_), h.rn.but hb (fun k hk => (h.at_.1.bd k hk).1) h.nd h.hS, hny, h.gb.but hb h.ng, hng, h.yg, h.g0, h.but.transNew' hb h.sub, fun k hk => ?_, h.hS⟩
  · rcases hk with hk | hk
    · rcases hs k hk with e | e
      · exact .inl (.inl e)
      · exact .inr e
    · exact .inl (.inr hk)
  · rcases hs k hk with e | e
    · rcases h.sub k e with e | e
      · exact .inl e
      · exact .inr ⟨e.1, Nat.lt_of_lt_of_le e.2 hb.size⟩
    · exact .inr ⟨Nat.le_trans h.but.size e.1, e.2⟩
theorem SMn.below (h : SMn base d F S y g cs a b VA VB body els v1 v2 w0 X0 W X m env ve) (hb : Below W.heap.size W W') : SMn base d F S y g cs a b VA VB body els v1 v2 w0 X0 W' X m env ve :=
  h.step (But.of_below hb) ⟨h.at_.1.below hb, h.at_.2⟩ (Sub.plus _ _ _)
theorem SMn.same2 (h : SMn base d F S y g cs a b VA VB body els v1 v2 w0 X0 W X m env ve) (hb : But X W W') : Same2 y g W W' := fun p hp => by
  rcases hp with hp | hp
  · exact World.cell?_of_block (hb.block _ (by rw [hp]; exact h.lt.1) (by rw [hp]; exact h.nd))
  · exact World.cell?_of_block (hb.block _ (by rw [hp]; exact h.lt.2) (by rw [hp]; exact h.ng))
theorem SMn.put (h : SMn base d F S y g cs a b VA VB body els v1 v2 w0 X0 W X m env ve) (f : FrX (Both X (Is g)) W env' ve') : SMn base d F S y g cs a b VA VB body els v1 v2 w0 X0 (W.setCell ⟨g, 0, none⟩ ve') X m env' ve' := by
  have hb : But (Is g) W (W.setCell ⟨g, 0, none⟩ ve') := (But.refl (Is g) W).setCell (p := ⟨g, 0, none⟩) (show Is g g from rfl) ve'
  have hg : ∀ k, Is g k → base ≤ k := fun k hk => by have e : k = g := hk; have := h.gb.ge; omega
  refine ⟨⟨h.at_.1.but hb (fun k hk e => h.ng (by have e : k = g := e; rwa [← e])), h.at_.2⟩, f.step (hb.sub (fun k hk => .inr hk)) (Sub.plus _ _ _), h.rn.but hb hg (fun e => h.yg e) h.hS, h.nd, h.gb.set (i := 0) (by simp) ve', h.ng, h.yg, h.g0, h.but.transNew' hb (fun k hk => by have e : k = g := hk; have := h.gb.lt; have := h.g0; exact .inr (by omega)), fun k hk => (h.sub k hk).imp id (fun e => by rw [size_setCell]; exact e), h.hS⟩
theorem SMn.out {r : Option MS} {e : Ending} (h : SMn base d F S y g cs a b VA VB body els v1 v2 w0 X0 W X m env ve) (ho : OutM base d F W X r e W') : OutM base d F w0 X0 r e W' := by
  cases r with
  | none => exact ⟨ho.1, h.but.transNew' ho.2 h.sub⟩
  | some m' =>
    obtain ⟨h1, ⟨X', h2, h3⟩, h4⟩ := ho
    refine ⟨h1, ⟨X', h2, fun k hk => ?_⟩, h.but.transNew' h4 h.sub⟩
    rcases h3 k hk with e | e
    · rcases h.sub k e with e | e
      · exact .inl e
      · exact .inr ⟨e.1, Nat.lt_of_lt_of_le e.2 h4.size⟩
    · exact .inr ⟨Nat.le_trans h.but.size e.1, e.2⟩
theorem SMn.sW (h : SMn base d F S y g cs a b VA VB body els v1 v2 w0 X0 W X m env ve) : Sub S (Upto W.heap.size) := h.hS.trans (Sub.upto (Nat.le_trans h.rn.bd.ge (Nat.le_of_lt h.rn.bd.lt)))
theorem SMn.same {wr : World} (h : SMn base d F S y g cs a b VA VB body els v1 v2 w0 X0 W X m env ve) (hX0 : ∀ k, X0 k → base ≤ k) (hbs : base ≤ w0.heap.size) (hs : Same S w0 wr) : Same S wr W := fun p hp =>
  ((h.but.same (h.hS.trans (Sub.upto hbs)) (fun k hk ht => by have := hX0 k ht; have := h.hS k hk; unfold Upto at this; omega)) p hp).trans (hs p hp).symm
end
theorem but_setCells (b : Nat) : ∀ (vs : List Value) (o : Nat) (w : World), But (Is b) w (w.setCells b o vs)
  | [], o, w => by rw [World.setCells]; exact But.refl _ _
  | v :: r, o, w => by
    rw [World.setCells]
    exact ((But.refl (Is b) w).setCell (p := ⟨b, o, none⟩) (show Is b b from rfl) v).trans (but_setCells b r (o + 1) _)
theorem wp_store_run {P : Program} {op : Oper} {a : Act} {w wf : World} {K : Act → World → Prop} {Q : Exit → Act → World → Prop} (ty : TypeId) (x y : Operand) (ho : op.op = .store ty x y) (p v : Value) (hx : a.eval x = p) (hy : a.eval y = v)
    (hr : (Instr.storeAt ty p v).run P w = .ok () wf) (h : K (a.put op.dst undef) wf) : op.wp P a w K Q := by
  unfold Oper.wp execOp
  simp only [ho, hx, hy, Sem.run_bind, Sem.run_pure, Result.andThen_ok, hr]
  exact h
/-- a whole struct is stored into a box of its own -/
theorem storeAt_blk {P : Program} {ty : TypeId} {w : World} {b base : Nat} {zs cs : List Value} (B : Blk base w b zs) (hl : zs.length = cs.length) (hi : (P.info? ty).map (·.size) = some cs.length) (h1 : cs.toArray.all (·.oneCell') = true) :
    (Instr.storeAt ty (.pointer (some ⟨b, 0, none⟩)) (.agg cs.toArray)).run P w = .ok () (w.setCells b 0 cs) ∧ Blk base (w.setCells b 0 cs) b cs ∧ But (Is b) w (w.setCells b 0 cs) := by
  have ht : w.there b 0 cs.length := fun j hj => ⟨by rw [Nat.zero_add, B.cell j (zs[j]'(by omega)) (List.getElem?_eq_getElem _)]; rfl, B.fr _⟩
  have hr := World.rangeAt_setCells_same w b 0 cs ht
  refine ⟨by have := run_storeAt_mid (P := P) w b 0 ty cs.toArray (by simpa using ht) (by simpa using hi) h1; simpa using this, ⟨B.ge, Nat.lt_of_lt_of_le B.lt (but_setCells b _ 0 w).size, fun j v hv => by have := hr j v hv; rwa [Nat.zero_add] at this, fun o => by rw [World.frozen?_setCells]; exact B.fr o⟩, but_setCells b _ 0 w⟩
theorem eev_fx (env : List Bd) (t : Ex) (w : World) (S X : Blocks) (V ve : Value) (hS : Sub S (Upto w.heap.size)) (r : RdE w S t V) (f : FrX X w env ve) :
    Calls Try.prog 49 #[V, ve] w fun e w' => e = .returned (vI (t.worth env)) ∧ inI (t.worth env) ∧ Below w.heap.size w w' := by
  obtain ⟨T, h1, h2, h3⟩ := f
  exact eev_all env t w (Both S T) V ve (Sub.both hS h1) (r.keep (Sub.left _ _) (Same.refl _ _)) (h3.keep Flat.keeps (Sub.right _ _) (Same.refl _ _))
set_option maxHeartbeats 1000000 in
set_option maxRecDepth 100000 in
theorem pmk_nil (F : Nat) : PMk F [] := by
  intro base w d X m env lab S v ve hat hS r hfx hel hlab hwl res hres
  rw [blR_nil] at hres
  subst hres
  obtain ⟨A, cap, rfl, _⟩ := r.form
  obtain ⟨Ae, ce, rfl, _⟩ := hfx.form
  have hbel : But X w (w.alloc (.cells #[.slice Ae env.length ce] 106)) := But.of_below ((Below.refl _ _).alloc (Nat.le_refl _) _)
  have HAT := Lib.hid hat
  have hb1 : Below w.heap.size w (w.alloc (.cells #[.slice Ae env.length ce] 106)) := (Below.refl _ _).alloc (Nat.le_refl _) _
  clear r hfx hat
  go_enter Try.func31, Try.ntmps31
  go_wp2
  go_ret
  exact ⟨rfl, ⟨X, ⟨HAT.out.1.below hb1, HAT.out.2⟩, Sub.plus _ _ _⟩, hbel⟩
end Go.Proofs.Ytdelngmbpjgphaa
