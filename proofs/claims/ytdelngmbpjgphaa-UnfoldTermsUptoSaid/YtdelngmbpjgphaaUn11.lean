/- The frame of the walk of the builder's block. -/
import Derived.Test.YtdelngmbpjgphaaUn10
import Derived.Test.YtdelngmbpjgphaaSm2
namespace Go.Proofs.Ytdelngmbpjgphaa
open Go.RowKit
set_option linter.unusedVariables false
/-- the frame: from w0 on; boxes g, g + 1, g + 2: the builder, the statements, what is left; g + 3: the result; y: the statement; z: the label behind it -/
structure SUb (base d F : Nat) (S : Blocks) (g y z : Nat) (cs : List Value) (s : St) (a b : Ex) (VA VB : Value) (body els : List St) (v1 v2 : Value) (rest : List St) (A : Option Addr) (cap : Nat) (env : List Bd) (ve : Value) (lab' : Nat) (tv : Value) (k : UK) (n : Nat) (w0 W : World) : Prop where
  rn : Rnd base S y cs a b VA VB body els v1 v2 W
  bb : Blk base W g [.pointer (some ⟨d, 0, none⟩)]
  bl : Blk base W (g + 1) [.slice A (rest.length + 1) cap]
  bt : Blk base W (g + 2) [tv]
  bg : Blk base W (g + 3) [.int .i64 0, .int .i64 0, .bool false, .int .i64 0, .slice none 0 0]
  bz : Blk base W z [vI (lab' : Int)]
  rs : RdSts W S (s :: rest) (.slice A (rest.length + 1) cap)
  fx : FrX (Is d) W env ve
  th : ThenOk F d n W tv k
  but : But (Is d) w0 W
  dw : d < w0.heap.size
  bd : base ≤ d
  g0 : w0.heap.size ≤ g
  y0 : w0.heap.size ≤ y
  z0 : w0.heap.size ≤ z
  hS : Sub S (Upto base)
  el : env.length ≤ n
  hl : lab' + labelsL rest ≤ 1048576
  hw : St.wts rest ≤ 1048576
section
variable {base d F : Nat} {S : Blocks} {g y z : Nat} {cs : List Value} {s : St} {a b : Ex} {VA VB : Value} {body els : List St} {v1 v2 : Value} {rest : List St} {A : Option Addr} {cap : Nat} {env : List Bd} {ve : Value} {lab' : Nat} {tv : Value} {k : UK} {n n' : Nat} {w0 W W' : World}
theorem SUb.but_ (h : SUb base d F S g y z cs s a b VA VB body els v1 v2 rest A cap env ve lab' tv k n w0 W) (hb : But (Is d) W W') (hn : n ≤ n') : SUb base d F S g y z cs s a b VA VB body els v1 v2 rest A cap env ve lab' tv k n' w0 W' := by
  have hd := h.dw
  have h1 := h.g0
  have h2 := h.y0
  have h3 := h.z0
  have nd : ∀ x, w0.heap.size ≤ x → ¬ Is d x := fun x hx e => by have e : x = d := e; omega
  have hbw : base ≤ W.heap.size := by have := h.bd; have := h.but.size; omega
  have hs : Same S W W' := hb.same (h.hS.trans (Sub.upto hbw)) (fun q hq e => by have e : q = d := e; have := h.hS q hq; have := h.bd; unfold Upto at *; omega)
  exact ⟨h.rn.but hb (fun q hq => by have e : q = d := hq; have := h.bd; omega) (nd _ h2) h.hS, h.bb.but hb (nd _ (by omega)), h.bl.but hb (nd _ (by omega)), h.bt.but hb (nd _ (by omega)), h.bg.but hb (nd _ (by omega)), h.bz.but hb (nd _ h3),
    h.rs.keep RdSt.keeps (Sub.refl _) hs, h.fx.step hb (Sub.plus _ _ _), h.th.but hb hn, h.but.trans hb, hd, h.bd, h1, h2, h3, h.hS, Nat.le_trans h.el hn, h.hl, h.hw⟩
theorem SUb.below (h : SUb base d F S g y z cs s a b VA VB body els v1 v2 rest A cap env ve lab' tv k n w0 W) (hb : Below W.heap.size W W') : SUb base d F S g y z cs s a b VA VB body els v1 v2 rest A cap env ve lab' tv k n w0 W' := h.but_ (But.of_below hb) (Nat.le_refl _)
theorem SUb.nd (h : SUb base d F S g y z cs s a b VA VB body els v1 v2 rest A cap env ve lab' tv k n w0 W) {x : Nat} (hx : w0.heap.size ≤ x) : ¬ Is d x := fun e => by have e : x = d := e; have := h.dw; omega
theorem SUb.same3 (h : SUb base d F S g y z cs s a b VA VB body els v1 v2 rest A cap env ve lab' tv k n w0 W) (hb : But (Is d) W W') : Same3 g y y W W' :=
  Same3.of_but hb h.bb.lt h.rn.bd.lt h.rn.bd.lt (h.nd h.g0) (h.nd h.y0) (h.nd h.y0)
theorem SUb.sW (h : SUb base d F S g y z cs s a b VA VB body els v1 v2 rest A cap env ve lab' tv k n w0 W) : Sub S (Upto W.heap.size) := h.hS.trans (Sub.upto (by have := h.bd; have := h.dw; have := h.but.size; omega))
theorem SUb.env_ {env' : List Bd} {ve' : Value} (h : SUb base d F S g y z cs s a b VA VB body els v1 v2 rest A cap env ve lab' tv k n w0 W) (hf : FrX (Is d) W env' ve') (hl : env'.length ≤ n) : SUb base d F S g y z cs s a b VA VB body els v1 v2 rest A cap env' ve' lab' tv k n w0 W :=
  ⟨h.rn, h.bb, h.bl, h.bt, h.bg, h.bz, h.rs, hf, h.th, h.but, h.dw, h.bd, h.g0, h.y0, h.z0, h.hS, hl, h.hl, h.hw⟩
/-- what is left behind the statement -/
theorem SUb.on {Ae : Option Addr} {ce : Nat} (h : SUb base d F S g y z cs s a b VA VB body els v1 v2 rest A cap env (.slice Ae env.length ce) lab' tv k n w0 W) (hrest : PBu F rest) :
    ThenOk F d n (W.alloc (.cells #[.slice Ae env.length ce] 106)) (.func (.func 40) #[] #[.pointer (some ⟨g, 0, none⟩), .pointer (some ⟨g + 1, 0, none⟩), .pointer (some ⟨W.heap.size, 0, none⟩), .pointer (some ⟨z, 0, none⟩), .pointer (some ⟨g + 2, 0, none⟩)]) (fun m => blU F rest env lab' k m) := by
  have hb : Below W.heap.size W (W.alloc (.cells #[.slice Ae env.length ce] 106)) := (Below.refl _ _).alloc (Nat.le_refl _) _
  have B := Blk.made W [.slice Ae env.length ce] 106 (base := 0) (Nat.zero_le _)
  have h' := h.below hb
  have hz := h.but.size
  have h1 := h.g0
  exact onThen hrest h'.bd h'.hS (by have := h'.bd; have := h'.dw; have := h'.but.size; omega) (h'.bb.cell 0 _ rfl) (h'.bl.cell 0 _ rfl) (B.cell 0 _ rfl) (h'.bz.cell 0 _ rfl) (h'.bt.cell 0 _ rfl) (h'.nd (by omega)) (h'.nd (by omega)) (h'.nd hz) (h'.nd h'.z0) (h'.nd (by omega)) h'.rs h'.fx h'.el h'.hl h'.hw h'.th
end
theorem ThenOk.run {F d n K : Nat} {w : World} {caps : Array Value} {k : UK} (h : ThenOk F d n w (.func (.func K) #[] caps) k) : ∀ (w' : World) (m : US), But (Is d) w w' → BdAt w' d F m → n ≤ m.st → ∀ r, k m = r → Calls Try.prog K caps w' (OutU d F m.st w' r) := by
  obtain ⟨K', caps', e, _, h3⟩ := h
  injection e with e1 e2 e3
  injection e1 with e1
  subst e1
  subst e3
  exact h3
section
variable {F : Nat} {k : Int} {s : ByteArray} {a b : Ex} {body els : List St} {env : List Bd} {lab : Nat} {m : US} {on : List Bd → UK}
theorem stU_other (h : k < 1 ∨ 7 < k) : stU F (.mk k s a b body els) env lab on m = on env m := by rw [stU, if_pos h]
theorem stU_none (h : ¬ (k < 1 ∨ 7 < k)) (hf : ¬ m.st < F) : stU F (.mk k s a b body els) env lab on m = none := by rw [stU, if_neg h, if_pos hf]
theorem stU_let (hf : m.st < F) : stU F (.mk 1 s a b body els) env lab on m = on (env ++ [⟨s, a.worth env⟩]) m.step := by
  rw [stU, if_neg (by omega), if_neg (by simpa using hf), if_pos rfl]
theorem stU_load (hf : m.st < F) : stU F (.mk 2 s a b body els) env lab on m = oneK (accU (a.worth env) false lab) (on (env ++ [⟨s, m.get (a.worth env)⟩]) m.step) := by
  rw [stU, if_neg (by omega), if_neg (by simpa using hf), if_neg (by omega), if_pos rfl]
theorem stU_store (hf : m.st < F) : stU F (.mk 3 s a b body els) env lab on m = oneK (accU (a.worth env) true lab) (on env (m.step.put (a.worth env) (b.worth env))) := by
  rw [stU, if_neg (by omega), if_neg (by simpa using hf), if_neg (by omega), if_neg (by omega), if_pos rfl]
theorem stU_par (hf : m.st < F) : stU F (.mk 4 s a b body els) env lab on m = pairU 3 (blU F body env lab (fun m => some (zeroT, m)) m.step) (on env) := by
  rw [stU, if_neg (by omega), if_neg (by simpa using hf), if_neg (by omega), if_neg (by omega), if_neg (by omega), if_pos rfl]
theorem stU_fin (hf : m.st < F) : stU F (.mk 5 s a b body els) env lab on m = pairU 2 (blU F body env lab (fun m => some (zeroT, m)) m.step) (on env) := by
  rw [stU, if_neg (by omega), if_neg (by simpa using hf), if_neg (by omega), if_neg (by omega), if_neg (by omega), if_neg (by omega), if_pos rfl]
theorem stU_then (hf : m.st < F) (hw : ¬ a.worth env = 0) : stU F (.mk 6 s a b body els) env lab on m = blU F body env lab (on env) m.step := by
  rw [stU, if_neg (by omega), if_neg (by simpa using hf), if_neg (by omega), if_neg (by omega), if_neg (by omega), if_neg (by omega), if_neg (by omega), if_pos rfl, if_neg hw]
theorem stU_else (hf : m.st < F) (hw : a.worth env = 0) : stU F (.mk 6 s a b body els) env lab on m = blU F els env (lab + labelsL body) (on env) m.step := by
  rw [stU, if_neg (by omega), if_neg (by simpa using hf), if_neg (by omega), if_neg (by omega), if_neg (by omega), if_neg (by omega), if_neg (by omega), if_pos rfl, if_pos hw]
theorem stU_for (hf : m.st < F) : stU F (.mk 7 s a b body els) env lab on m = loopU F (b.worth env) (fun i K m => blU F body (env ++ [⟨s, i⟩]) lab K m) (F + 1) (a.worth env) (on env) m.step := by
  rw [stU, if_neg (by omega), if_neg (by simpa using hf), if_neg (by omega), if_neg (by omega), if_neg (by omega), if_neg (by omega), if_neg (by omega), if_neg (by omega)]
end
def PLu (F : Nat) (s : ByteArray) (a b : Ex) (body els : List St) : Prop := ∀ (N base : Nat) (w : World) (d : Nat) (m : US) (env : List Bd) (lab : Nat) (S : Blocks) (ve tv : Value) (k : UK) (i tz : Int) (k1 n1 : Int) (s1 : ByteArray) (A1 : Option Addr) (m1 p1 : Nat) (k2 n2 : Int) (s2 : ByteArray) (A2 : Option Addr) (m2 p2 : Nat) (A3 : Option Addr) (p3 : Nat) (A4 : Option Addr) (p4 : Nat),
  BdAt w d F m → base ≤ d → Sub S (Upto base) → s.size ≤ 140737488355328 → RdSts w S body (.slice A3 body.length p3) → FrX (Is d) w env ve → env.length < m.st → ThenOk F d m.st w tv k → lab + labelsL body ≤ 1048576 → St.wts body ≤ 1048576 → inI i → inI tz → F < N + m.st →
  ∀ r, loopU F tz (fun i K m => blU F body (env ++ [⟨s, i⟩]) lab K m) N i k m = r →
  Calls Try.prog 47 #[.pointer (some ⟨d, 0, none⟩), .agg #[.int .i64 7, .string s, .int .i64 k1, .int .i64 n1, .string s1, .slice A1 m1 p1, .int .i64 k2, .int .i64 n2, .string s2, .slice A2 m2 p2, .slice A3 body.length p3, .slice A4 els.length p4], ve, vI (lab : Int), vI i, vI tz, tv] w (OutU d F m.st w r)
end Go.Proofs.Ytdelngmbpjgphaa
