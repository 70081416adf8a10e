/- The frame of the walk of the reference's nstate.block. -/
import Derived.Test.YtdelngmbpjgphaaUn6
import Derived.Test.YtdelngmbpjgphaaGEx6
import Derived.Test.YtdelngmbpjgphaaSm3
import Derived.Test.YtdelngmbpjgphaaRegPre
namespace Go.Proofs.Ytdelngmbpjgphaa
open Go.RowKit
set_option linter.unusedVariables false
/-- the frame of a walk of nstate.block: from w0 on, where its blocks were X0; box y: the statement; box g: the binds -/
structure SNn (base d F : Nat) (S : Blocks) (y g : Nat) (cs : List Value) (a b : Ex) (VA VB : Value) (body els : List St) (v1 v2 : Value) (w0 : World) (X0 : Blocks) (W : World) (X : Blocks) (e : Nat) (m : US) (ms : List NM) (env : List Bd) (ve : Value) : Prop where
  at_ : NnAt base W d X F e m ms
  env : FrX (Both X (Is g)) W env ve
  rn : Rnd base S y cs a b VA VB body els v1 v2 W
  nd : ¬ X y
  gb : Blk base W g [ve]
  ng : ¬ X g
  yg : y ≠ g
  g0 : w0.heap.size ≤ g
  but : But X0 w0 W
  sub : Sub X (Plus X0 w0.heap.size W.heap.size)
  hS : Sub S (Upto base)
section
variable {base d F y g : Nat} {S X0 X X' : Blocks} {cs : List Value} {a b : Ex} {VA VB : Value} {body els : List St} {v1 v2 : Value} {w0 W W' : World} {e e' : Nat} {m m' : US} {ms ms' : List NM} {env env' : List Bd} {ve ve' : Value}
theorem SNn.lt (h : SNn base d F S y g cs a b VA VB body els v1 v2 w0 X0 W X e m ms env ve) : y < W.heap.size ∧ g < W.heap.size := ⟨h.rn.bd.lt, h.gb.lt⟩
theorem SNn.step (h : SNn base d F S y g cs a b VA VB body els v1 v2 w0 X0 W X e m ms env ve) (hb : But X W W') (hr : NnAt base W' d X' F e' m' ms') (hs : Sub X' (Plus X W.heap.size W'.heap.size)) : SNn base d F S y g cs a b VA VB body els v1 v2 w0 X0 W' X' e' m' ms' env ve := by
  have hny : ¬ X' y := fun e => by
    rcases hs y e with e | e
    · exact h.nd e
    · have := h.rn.bd.lt; omega
  have hng : ¬ X' g := fun e => by
    rcases hs g e with e | e
    · exact h.ng e
    · have := h.gb.lt; omega
  refine ⟨hr, h.env.step (X' := Both X' (Is g)) (hb.sub (fun k hk => .inl hk)) (fun k hk => ?_), h.rn.but hb (fun k hk => (h.at_.1.bd k hk).1) h.nd h.hS, hny, h.gb.but hb h.ng, hng, h.yg, h.g0, h.but.transNew' hb h.sub, fun k hk => ?_, h.hS⟩
  · rcases hk with hk | hk
    · rcases hs k hk with e | e
      · exact .inl (.inl e)
      · exact .inr e
    · exact .inl (.inr hk)
  · rcases hs k hk with e | e
    · rcases h.sub k e with e | e
      · exact .inl e
      · exact .inr ⟨e.1, Nat.lt_of_lt_of_le e.2 hb.size⟩
    · exact .inr ⟨Nat.le_trans h.but.size e.1, e.2⟩
theorem SNn.below (h : SNn base d F S y g cs a b VA VB body els v1 v2 w0 X0 W X e m ms env ve) (hb : Below W.heap.size W W') : SNn base d F S y g cs a b VA VB body els v1 v2 w0 X0 W' X e m ms env ve :=
  h.step (But.of_below hb) ⟨h.at_.1.below hb, h.at_.2⟩ (Sub.plus _ _ _)
theorem SNn.same2 (h : SNn base d F S y g cs a b VA VB body els v1 v2 w0 X0 W X e m ms env ve) (hb : But X W W') : Same2 y g W W' := fun p hp => by
  rcases hp with hp | hp
  · exact World.cell?_of_block (hb.block _ (by rw [hp]; exact h.lt.1) (by rw [hp]; exact h.nd))
  · exact World.cell?_of_block (hb.block _ (by rw [hp]; exact h.lt.2) (by rw [hp]; exact h.ng))
theorem SNn.put (h : SNn base d F S y g cs a b VA VB body els v1 v2 w0 X0 W X e m ms env ve) (f : FrX (Both X (Is g)) W env' ve') : SNn base d F S y g cs a b VA VB body els v1 v2 w0 X0 (W.setCell ⟨g, 0, none⟩ ve') X e m ms env' ve' := by
  have hb : But (Is g) W (W.setCell ⟨g, 0, none⟩ ve') := (But.refl (Is g) W).setCell (p := ⟨g, 0, none⟩) (show Is g g from rfl) ve'
  have hg : ∀ k, Is g k → base ≤ k := fun k hk => by have e : k = g := hk; have := h.gb.ge; omega
  refine ⟨⟨h.at_.1.but hb (fun k hk e => h.ng (by have e : k = g := e; rwa [← e])), h.at_.2⟩, f.step (hb.sub (fun k hk => .inr hk)) (Sub.plus _ _ _), h.rn.but hb hg (fun e => h.yg e) h.hS, h.nd, h.gb.set (i := 0) (by simp) ve', h.ng, h.yg, h.g0, h.but.transNew' hb (fun k hk => by have e : k = g := hk; have := h.gb.lt; have := h.g0; exact .inr (by omega)), fun k hk => (h.sub k hk).imp id (fun e => by rw [size_setCell]; exact e), h.hS⟩
theorem SNn.sW (h : SNn base d F S y g cs a b VA VB body els v1 v2 w0 X0 W X e m ms env ve) : Sub S (Upto W.heap.size) := h.hS.trans (Sub.upto (Nat.le_trans h.rn.bd.ge (Nat.le_of_lt h.rn.bd.lt)))
theorem SNn.same {wr : World} (h : SNn base d F S y g cs a b VA VB body els v1 v2 w0 X0 W X e m ms env ve) (hX0 : ∀ k, X0 k → base ≤ k) (hbs : base ≤ w0.heap.size) (hs : Same S w0 wr) : Same S wr W := fun p hp =>
  ((h.but.same (h.hS.trans (Sub.upto hbs)) (fun k hk ht => by have := hX0 k ht; have := h.hS k hk; unfold Upto at this; omega)) p hp).trans (hs p hp).symm
end
theorem Same2.ofBut {T : Blocks} {y g : Nat} {w w' : World} (hb : But T w w') (hy : y < w.heap.size) (hg : g < w.heap.size) (ny : ¬ T y) (ng : ¬ T g) : Same2 y g w w' := fun p hp => by
  rcases hp with hp | hp
  · exact World.cell?_of_block (hb.block _ (by rw [hp]; exact hy) (by rw [hp]; exact ny))
  · exact World.cell?_of_block (hb.block _ (by rw [hp]; exact hg) (by rw [hp]; exact ng))
/-- what the switch leaves: on with it, or no fuel; sr: what the statement does -/
def SwN (base d F : Nat) (S : Blocks) (y g : Nat) (cs : List Value) (a b : Ex) (VA VB : Value) (body els : List St) (v1 v2 : Value) (w0 : World) (X0 : Blocks) (e : Nat) (ms : List NM) (sr : Option (List Mk × US × List Bd)) (x : Value) (wx : World) : Prop :=
  (∃ (m1 : US) (x1 : List Mk) (X1 : Blocks) (env1 : List Bd) (ve1 : Value), sr = some (x1, m1, env1) ∧ x = .bool true ∧ SNn base d F S y g cs a b VA VB body els v1 v2 w0 X0 wx X1 e m1 (ms ++ flatL x1) env1 ve1 ∧ env1.length ≤ m1.st) ∨ (sr = none ∧ x = .bool false ∧ (∃ X1, NnEnd base wx d X1 F e ∧ Sub X1 (Plus X0 w0.heap.size wx.heap.size)) ∧ But X0 w0 wx)
section
variable {base d F y g e : Nat} {S X0 X : Blocks} {cs : List Value} {a b : Ex} {VA VB : Value} {body els : List St} {v1 v2 : Value} {w0 W : World} {m1 : US} {ms ms1 : List NM} {x1 : List Mk} {env1 : List Bd} {ve1 : Value} {sr : Option (List Mk × US × List Bd)}
theorem SwN.on (hs : sr = some (x1, m1, env1)) (hm : ms1 = ms ++ flatL x1) (h : SNn base d F S y g cs a b VA VB body els v1 v2 w0 X0 W X e m1 ms1 env1 ve1) (hl : env1.length ≤ m1.st) : SwN base d F S y g cs a b VA VB body els v1 v2 w0 X0 e ms sr (.bool true) W := by
  subst hm
  exact .inl ⟨m1, x1, X, env1, ve1, hs, rfl, h, hl⟩
theorem SwN.off (hs : sr = none) (he : NnEnd base W d X F e) (hX : Sub X (Plus X0 w0.heap.size W.heap.size)) (hb : But X0 w0 W) : SwN base d F S y g cs a b VA VB body els v1 v2 w0 X0 e ms sr (.bool false) W := .inr ⟨hs, rfl, ⟨X, he, hX⟩, hb⟩
end
theorem Sub.plusTrans {X0 X X1 : Blocks} {n0 n1 n2 : Nat} (h1 : Sub X (Plus X0 n0 n1)) (h2 : Sub X1 (Plus X n1 n2)) (h01 : n0 ≤ n1) (h12 : n1 ≤ n2) : Sub X1 (Plus X0 n0 n2) := fun k hk => by
  rcases h2 k hk with e | e
  · rcases h1 k e with e | e
    · exact .inl e
    · exact .inr ⟨e.1, Nat.lt_of_lt_of_le e.2 h12⟩
  · exact .inr ⟨Nat.le_trans h01 e.1, e.2⟩
/-- the labels of one statement, laid in a block of its own, by the reference -/
theorem llabelsOf_one {w wr : World} {S : Blocks} {g : Nat} {st : St} {cs : List Value} (h : RdSt wr S st cs) (hk : Same S wr w) (hS : Sub S (Upto w.heap.size)) (hl : cs.length = 12) (hw : St.wts [st] ≤ 1048576) (hg : w.heap.size = g) :
    Calls Try.prog 48 #[.slice (some ⟨g, 0, none⟩) 1 1] (w.alloc (.cells cs.toArray 112)) fun e w' => e = .returned (vI (labelsL [st] : Int)) ∧ Below w.heap.size w w' := by
  subst hg
  have hb : Below w.heap.size w (w.alloc (.cells cs.toArray 112)) := (Below.refl _ _).alloc (Nat.le_refl _) _
  have h2 : RdSt (w.alloc (.cells cs.toArray 112)) (Both S (Is w.heap.size)) st cs := RdSt.keeps _ _ _ _ _ _ (Sub.left _ _) (hk.trans (same_of_below hb hS)) h
  have B := Blk.made w cs 112 (base := 0) (Nat.zero_le _)
  have hs : Sub (Both S (Is w.heap.size)) (Upto (w.alloc (.cells cs.toArray 112)).heap.size) := Sub.both (hS.trans (Sub.upto hb.size)) (fun k hk => by have e : k = w.heap.size := hk; simp only [Upto, World.size_alloc]; omega)
  refine ((labs_all _ [st] (Nat.le_refl _)).2 _ (Both S (Is w.heap.size)) _ hs (rdSt_one h2 hl B.cell (.inr rfl)) hw).mono ?_
  rintro e w' ⟨rfl, h⟩
  exact ⟨rfl, hb.trans (h.mono hb.size)⟩
end Go.Proofs.Ytdelngmbpjgphaa
