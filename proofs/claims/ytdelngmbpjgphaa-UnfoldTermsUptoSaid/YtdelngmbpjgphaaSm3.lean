/- Words for the walk of the reference's mblock, at a list with a first one. -/
import Derived.Test.YtdelngmbpjgphaaSm2
import Derived.Deep.CutBlock
namespace Go.Proofs.Ytdelngmbpjgphaa
open Go.RowKit
set_option linter.unusedVariables false
theorem take_at {P : Program} {md : _} {ops : Array Oper} {Q : Exit → Act → World → Prop} {i : Nat} {oi : Oper} {v : Value} {fuel : Nat} {listed : Array Bool} {a : Act} {w : World} (dst : Option Tmp) (hi : ops[i]? = some oi) (hd : oi.dst = dst) (hs : Region.noSelect ops = true) (hf : Region.free md ops listed i = true) (hr : (Region.ready md ops listed).contains i = true) (hQ : ∀ c a w, Q (.panic c) (a.put dst v) w → Q (.panic c) a w) (hy : Yields P ops oi v a) (h : wpAny P md ops Q fuel (listed.setIfInBounds i true) (a.put dst v) w) : wpAny P md ops Q (fuel + 1) listed a w := by
  subst hd
  exact wpAny_take hi hs hf hr hQ hy h
theorem Same2.at2 {y g : Nat} {w w' : World} (h : Same2 y g w w') : Same2 y y w w' := fun p hp => h p (.inl (hp.elim id id))
theorem Same2.set {y g d o : Nat} {w w' : World} (h1 : y ≠ d) (h2 : g ≠ d) (h : Same2 y g w w') (u : Value) : Same2 y g w (w'.setCell ⟨d, o, none⟩ u) := fun p hp => (World.cell?_setCell_other w' ⟨d, o, none⟩ p u (fun e => hp.elim (fun hp => h1 (by rw [← hp, ← e])) (fun hp => h2 (by rw [← hp, ← e])))).trans (h p hp)
/-- what the switch leaves: on with it, or no fuel -/
def SwR (base d F : Nat) (S : Blocks) (y g : Nat) (cs : List Value) (a b : Ex) (VA VB : Value) (body els : List St) (v1 v2 : Value) (w0 : World) (X0 : Blocks) (rest : List St) (lab : Nat) (res : Option MS) (x : Value) (wx : World) : Prop :=
  (∃ (m : MS) (X : Blocks) (env : List Bd) (ve : Value), x = .bool true ∧ SMn base d F S y g cs a b VA VB body els v1 v2 w0 X0 wx X m env ve ∧ env.length ≤ m.st ∧ blR F rest env lab m = res) ∨ (x = .bool false ∧ res = none ∧ But X0 w0 wx)
section
variable {base d F y g : Nat} {S X0 X : Blocks} {cs : List Value} {a b : Ex} {VA VB : Value} {body els : List St} {v1 v2 : Value} {w0 W : World} {m : MS} {env : List Bd} {ve : Value} {rest : List St} {lab : Nat} {res : Option MS}
theorem SwR.on (h : SMn base d F S y g cs a b VA VB body els v1 v2 w0 X0 W X m env ve) (hl : env.length ≤ m.st) (hr : blR F rest env lab m = res) : SwR base d F S y g cs a b VA VB body els v1 v2 w0 X0 rest lab res (.bool true) W := .inl ⟨m, X, env, ve, rfl, h, hl, hr⟩
theorem SwR.off (hr : res = none) (hb : But X0 w0 W) : SwR base d F S y g cs a b VA VB body els v1 v2 w0 X0 rest lab res (.bool false) W := .inr ⟨rfl, hr, hb⟩
end
end Go.Proofs.Ytdelngmbpjgphaa
