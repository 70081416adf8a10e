/- The renamer's rows of statements: what is made anew and stays; a round's bundle. -/
import Derived.Test.YtoijobnpfibboaaDoorRn4
import Derived.Test.YtoijobnpfibboaaDoorScW
namespace Go.Proofs.YtoijobnpfibboaaDoor
open Go.RowKit
set_option linter.unusedVariables false
section
variable {α : Type} {rd : World → Blocks → α → List Value → Prop} {size bytes : Nat} {E : TypeId} {w w' : World} {base : Nat} {S S' T : Blocks} {l : List α} {v : Value}
theorem OwnL.butG (h : OwnL rd size E w base S l v) (hr : Keeps rd) (hb : But T w w') (hv : ∀ k, v.ownBlock = some k → ¬ T k) (hS : ∀ k, S k → ¬ T k) : OwnL rd size E w' base S l v := by
  obtain ⟨U, css, t1, t2, t3, h1, h2, h3, h4⟩ := h
  refine ⟨U, css, t1, t2.lift hb.size, t3, h1, h2, ?_, fun i e cs a b => hr _ _ _ _ _ _ (Sub.refl _) (hb.same t2 (fun k hk => hS k (t1 k hk))) (h4 i e cs a b)⟩
  obtain ⟨e, h3⟩ := h3
  refine ⟨e, ?_⟩
  rcases h3 with h3 | ⟨g, cap, cur, rfl, hbg, hg, hn, hcap, hsz, htake⟩
  · exact .inl h3
  · refine .inr ⟨g, cap, cur, rfl, hbg, ?_, hn, hcap, hsz, htake⟩
    rw [hb.block g (Array.getElem?_eq_some_iff.1 hg).1 (hv g rfl)]; exact hg
theorem OwnL.toRdB (h : OwnL rd size E w base S l v) (hr : Keeps rd) (hb : l.length * bytes ≤ 140737488355328) (hS : Sub S S') (hB : ∀ k, v.ownBlock = some k → S' k) : RdL rd size bytes w S' l v := by
  obtain ⟨T, css, t1, _, _, h1, h2, h3, h4⟩ := h
  rcases h3.2 with ⟨rfl, h0⟩ | ⟨g, cap, cur, rfl, hbg, hg, hn, hcap, hsz, htake⟩
  · have hl : l = [] := List.eq_nil_of_length_eq_zero h0
    subst hl
    exact RdL.nil (by simp [maxLen])
  · refine ⟨_, cap, css, rfl, hn, hcap, hb, h1, ⟨h2, fun _ => ⟨g, 0, rfl, hB g rfl, fun i cs hi j v hv => ?_⟩⟩, fun i e cs a b => hr _ _ _ _ _ _ (t1.trans hS) (Same.refl _ _) (h4 i e cs a b)⟩
    have h := h3.cells (g := g) rfl (i * size + j) v (flatten_at h2 hi hv)
    have hadd : (⟨g, 0, none⟩ : Addr).add (i * size + j) = ⟨g, 0 + (i * size + j), none⟩ := by unfold Addr.add; split <;> simp_all
    rwa [hadd] at h
end
/-- the renamer's calls one behind the other -/
theorem Two.trans {base z : Nat} {w0 w w2 : World} {lo ln lo2 ln2 : List Str} {uo un vo vn vo2 vn2 x0 x1 y0 y1 : Value} {c c2 : Int} (h : Two base z w0 uo un w lo ln vo vn x0 x1 c) (k : Two base z w vo vn w2 lo2 ln2 vo2 vn2 y0 y1 c2) : Two base z w0 uo un w2 lo2 ln2 vo2 vn2 y0 y1 c2 := by
  have hs := h.but.size
  refine ⟨k.bl, h.zl, k.oo, k.on, k.no, k.nn, k.di, fun i hi => ?_, fun i hi => ?_, but_then h.but k.but (fun i hi => ?_)⟩
  · rcases k.fo i hi with e | e
    · exact h.fo i e
    · exact .inr (by omega)
  · rcases k.fn i hi with e | e
    · exact h.fn i e
    · exact .inr (by omega)
  · rcases hi with hi | hi | hi
    · exact .inl (.inl hi)
    · rcases h.fo i hi with e | e
      · exact .inl (.inr (.inl e))
      · exact .inr e
    · rcases h.fn i hi with e | e
      · exact .inl (.inr (.inr e))
      · exact .inr e
theorem Two.now {base z : Nat} {w0 w : World} {lo ln : List Str} {uo un vo vn x0 x1 : Value} {c : Int} (h : Two base z w0 uo un w lo ln vo vn x0 x1 c) : Two base z w vo vn w lo ln vo vn x0 x1 c :=
  ⟨h.bl, h.bl.lt, h.oo, h.on, h.no, h.nn, h.di, fun k hk => .inl hk, fun k hk => .inl hk, But.refl _ _⟩
theorem Two.other {base z y : Nat} {w0 w : World} {lo ln : List Str} {uo un vo vn x0 x1 : Value} {c : Int} (h : Two base z w0 uo un w lo ln vo vn x0 x1 c) (hy : w0.heap.size ≤ y) (ho : vo.ownBlock ≠ some y) (hn : vn.ownBlock ≠ some y) {o : Nat} (u : Value) : Two base z w0 uo un (w.setCell ⟨y, o, none⟩ u) lo ln vo vn x0 x1 c := by
  have hset := (But.refl (Is y) w).setCell (p := ⟨y, o, none⟩) rfl u
  have hz := h.zl
  refine ⟨h.bl.but hset (fun e => by have e : z = y := e; omega), h.zl, h.oo.but hset (fun k hk e => ho (by rw [hk, show k = y from e])), h.on.but hset (fun k hk e => hn (by rw [hk, show k = y from e])), h.no, h.nn, h.di, h.fo, h.fn, h.but.setNew (p := ⟨y, o, none⟩) (.inr hy) u⟩
theorem Two.lts {base z : Nat} {w0 w : World} {lo ln : List Str} {uo un vo vn x0 x1 : Value} {c : Int} (h : Two base z w0 uo un w lo ln vo vn x0 x1 c) : ∀ k, RT z vo vn k → base ≤ k ∧ k < w.heap.size := fun k hk => by
  rcases hk with rfl | hk | hk
  · exact ⟨h.bl.ge, h.bl.lt⟩
  · exact h.oo.lt k hk
  · exact h.on.lt k hk
/-- new blocks from n on, none of them a row of the renamer's -/
def Nw (n M : Nat) (vo vn : Value) (T : Blocks) : Prop := ∀ k, T k → n ≤ k ∧ k < M ∧ vo.ownBlock ≠ some k ∧ vn.ownBlock ≠ some k
section
variable {base z n M : Nat} {w0 w w2 : World} {lo ln lo2 ln2 : List Str} {uo un vo vn vo2 vn2 x0 x1 : Value} {c c2 : Int} {T T' : Blocks}
theorem Nw.upto (h : Nw n M vo vn T) (hM : M ≤ w.heap.size) : Sub T (Upto w.heap.size) := fun k hk => Nat.lt_of_lt_of_le (h k hk).2.1 hM
theorem Nw.up {M' : Nat} (h : Nw n M vo vn T) (hM : M ≤ M') : Nw n M' vo vn T := fun k hk => ⟨(h k hk).1, Nat.lt_of_lt_of_le (h k hk).2.1 hM, (h k hk).2.2⟩
theorem Nw.low {n' : Nat} (h : Nw n M vo vn T) (hn : n' ≤ n) : Nw n' M vo vn T := fun k hk => ⟨Nat.le_trans hn (h k hk).1, (h k hk).2⟩
theorem Nw.or (h : Nw n M vo vn T) (h' : Nw n M vo vn T') : Nw n M vo vn (Both T T') := fun k hk => hk.elim (h k) (h' k)
theorem Nw.step (h : Nw n M vo vn T) (hM : M ≤ w.heap.size) (k : Two base z w vo vn w2 lo2 ln2 vo2 vn2 x0 x1 c2) : Nw n M vo2 vn2 T := fun i hi => by
  obtain ⟨h1, h2, h3, h4⟩ := h i hi
  refine ⟨h1, h2, fun e => ?_, fun e => ?_⟩
  · rcases k.fo i e with e | e
    · exact h3 e
    · omega
  · rcases k.fn i e with e | e
    · exact h4 e
    · omega
theorem Nw.notRT (h : Nw n M vo vn T) (hz : z < n) : ∀ k, T k → ¬ RT z vo vn k := fun k hk e => by
  obtain ⟨h1, h2, h3, h4⟩ := h k hk
  rcases e with e | e | e
  · omega
  · exact h3 e
  · exact h4 e
theorem Nw.same (h : Nw n M vo vn T) (hM : M ≤ w.heap.size) (hz : z < n) (k : Two base z w vo vn w2 lo2 ln2 vo2 vn2 x0 x1 c2) : Same T w w2 := k.but.same (h.upto hM) (h.notRT hz)
theorem Nw.fresh {m : Nat} (h : Two base z w0 uo un w lo ln vo vn x0 x1 c) (hm : w.heap.size ≤ m) (hn : n ≤ m) (M : Nat) : Nw n M vo vn (Plus Nowhere m M) := fun k hk => by
  have hk : m ≤ k ∧ k < M := hk.elim (fun h => h.elim) id
  exact ⟨by omega, hk.2, fun e => by have := (h.oo.lt k e).2; omega, fun e => by have := (h.on.lt k e).2; omega⟩
end
def ExR (n : Nat) (vo vn : Value) (w : World) (t : Ex) (U : Value) : Prop := ∃ T, Nw n w.heap.size vo vn T ∧ RdE w T t U
def StR (n : Nat) (vo vn : Value) (w : World) (l : List St) (x : Value) : Prop := ∃ T, Nw n w.heap.size vo vn T ∧ RdSts w T l x
section
variable {base z n y : Nat} {w0 w w2 : World} {lo ln lo2 ln2 : List Str} {uo un vo vn vo2 vn2 x0 x1 : Value} {c c2 : Int} {t : Ex} {U x : Value} {l : List St}
theorem ExR.step (h : ExR n vo vn w t U) (hz : z < n) (k : Two base z w vo vn w2 lo2 ln2 vo2 vn2 x0 x1 c2) : ExR n vo2 vn2 w2 t U := by
  obtain ⟨T, hT, r⟩ := h
  exact ⟨T, (hT.step (Nat.le_refl _) k).up k.but.size, r.keep (Sub.refl _) (hT.same (Nat.le_refl _) hz k)⟩
theorem ExR.below (h : ExR n vo vn w t U) (hb : Below w.heap.size w w2) : ExR n vo vn w2 t U := by
  obtain ⟨T, hT, r⟩ := h
  exact ⟨T, hT.up hb.size, r.keep (Sub.refl _) (same_of_below hb (hT.upto (Nat.le_refl _)))⟩
theorem ExR.set (h : ExR n vo vn w t U) (hy : y < n) {o : Nat} (u : Value) : ExR n vo vn (w.setCell ⟨y, o, none⟩ u) t U := by
  obtain ⟨T, hT, r⟩ := h
  exact ⟨T, by rw [size_setCell]; exact hT, r.keep (Sub.refl _) (same_setCell (fun e => by have := (hT _ e).1; simp at this; omega) u)⟩
theorem StR.step (h : StR n vo vn w l x) (hz : z < n) (k : Two base z w vo vn w2 lo2 ln2 vo2 vn2 x0 x1 c2) : StR n vo2 vn2 w2 l x := by
  obtain ⟨T, hT, r⟩ := h
  exact ⟨T, (hT.step (Nat.le_refl _) k).up k.but.size, r.keep RdSt.keeps (Sub.refl _) (hT.same (Nat.le_refl _) hz k)⟩
theorem StR.below (h : StR n vo vn w l x) (hb : Below w.heap.size w w2) : StR n vo vn w2 l x := by
  obtain ⟨T, hT, r⟩ := h
  exact ⟨T, hT.up hb.size, r.keep RdSt.keeps (Sub.refl _) (same_of_below hb (hT.upto (Nat.le_refl _)))⟩
theorem StR.set (h : StR n vo vn w l x) (hy : y < n) {o : Nat} (u : Value) : StR n vo vn (w.setCell ⟨y, o, none⟩ u) l x := by
  obtain ⟨T, hT, r⟩ := h
  exact ⟨T, by rw [size_setCell]; exact hT, r.keep RdSt.keeps (Sub.refl _) (same_setCell (fun e => by have := (hT _ e).1; simp at this; omega) u)⟩
theorem StR.low {n' : Nat} (h : StR n vo vn w l x) (hn : n' ≤ n) : StR n' vo vn w l x := by
  obtain ⟨T, hT, r⟩ := h
  exact ⟨T, hT.low hn, r⟩
theorem StR.nil (n : Nat) (vo vn : Value) (w : World) : StR n vo vn w [] (.slice none 0 0) := ⟨Nowhere, fun _ h => h.elim, RdL.nil (by simp [maxLen])⟩
theorem ExR.zero (n : Nat) (vo vn : Value) (w : World) : ExR n vo vn w exZ (.agg #[.int .i64 0, .int .i64 0, .string noS, .slice none 0 0]) := ⟨Nowhere, fun _ h => h.elim, RdE.leaf _ _ (by decide) (by decide) (by decide)⟩
theorem ExR.form (h : ExR n vo vn w t U) : ∃ A cap, U = .agg #[.int .i64 t.kind, .int .i64 t.num, .string t.name, .slice A t.args.length cap] := by
  obtain ⟨T, _, r⟩ := h
  exact r.form
theorem StR.form (h : StR n vo vn w l x) : ∃ A cap, x = .slice A l.length cap := by
  obtain ⟨T, _, r⟩ := h
  obtain ⟨A, cap, e, _⟩ := r.form
  exact ⟨A, cap, e⟩
end
/-- the row of what was told so far -/
def OutG (n M : Nat) (vo vn : Value) (w : World) (out : List St) (v : Value) : Prop := ∃ T, Nw n M vo vn T ∧ Nw n M vo vn (fun k => v.ownBlock = some k) ∧ OwnL RdSt 12 31 w n T out v
section
variable {base z n M y : Nat} {w0 w w2 : World} {lo ln lo2 ln2 : List Str} {uo un vo vn vo2 vn2 x0 x1 : Value} {c c2 : Int} {out : List St} {v : Value}
theorem OutG.nil (n : Nat) (vo vn : Value) (w : World) : OutG n M vo vn w [] (.slice none 0 0) := ⟨Nowhere, fun _ h => h.elim, (fun _ h => by simp [Value.ownBlock] at h), OwnL.nil _ _ _⟩
theorem OutG.step (h : OutG n M vo vn w out v) (hM : M ≤ w.heap.size) (hz : z < n) (k : Two base z w vo vn w2 lo2 ln2 vo2 vn2 x0 x1 c2) : OutG n M vo2 vn2 w2 out v := by
  obtain ⟨T, h1, h2, r⟩ := h
  exact ⟨T, h1.step hM k, h2.step hM k, r.butG RdSt.keeps k.but (h2.notRT hz) (h1.notRT hz)⟩
theorem OutG.below (h : OutG n M vo vn w out v) (hM : M ≤ w.heap.size) (hb : Below w.heap.size w w2) : OutG n M vo vn w2 out v := by
  obtain ⟨T, h1, h2, r⟩ := h
  exact ⟨T, h1, h2, r.keep RdSt.keeps hb⟩
theorem OutG.set (h : OutG n M vo vn w out v) (hy : M ≤ y) {o : Nat} (u : Value) : OutG n M vo vn (w.setCell ⟨y, o, none⟩ u) out v := by
  obtain ⟨T, h1, h2, r⟩ := h
  have hset := (But.refl (Is y) w).setCell (p := ⟨y, o, none⟩) rfl u
  exact ⟨T, h1, h2, r.butG RdSt.keeps hset (fun k hk e => by have := (h2 k hk).2.1; have e : k = y := e; omega) (fun k hk e => by have := (h1 k hk).2.1; have e : k = y := e; omega)⟩
theorem OutG.up {M' : Nat} (h : OutG n M vo vn w out v) (hM : M ≤ M') : OutG n M' vo vn w out v := by
  obtain ⟨T, h1, h2, r⟩ := h
  exact ⟨T, h1.up hM, h2.up hM, r⟩
theorem OutG.toR (h : OutG n M vo vn w out v) (hM : M ≤ w.heap.size) (hl : out.length ≤ 1073741824) : StR n vo vn w out v := by
  obtain ⟨T, h1, h2, r⟩ := h
  exact ⟨Both T (fun k => v.ownBlock = some k), (h1.or h2).up hM, r.toRdB RdSt.keeps (by omega) (Sub.left _ _) (fun k hk => .inr hk)⟩
theorem OutG.form (h : OutG n M vo vn w out v) : ∃ A cap, v = .slice A out.length cap := by
  obtain ⟨T, h1, h2, r⟩ := h
  exact r.form
end
/-- a round: the statement's block d, the block y of what is told of it, the row so far -/
structure RS (base z d y M : Nat) (S : Blocks) (w0 : World) (uo un : Value) (a b : Ex) (VA VB : Value) (body els : List St) (v1 v2 : Value) (cs : List Value) (out : List St) (v5 : Value) (W : World) (lo ln : List Str) (vo vn : Value) (c : Int) (ys : List Value) : Prop where
  tw : Two base z w0 uo un W lo ln vo vn vo vn c
  og : OutG w0.heap.size M vo vn W out v5
  rn : Rnd base S d cs a b VA VB body els v1 v2 W
  yb : Blk base W y ys
  dy : d < y
  hM : M ≤ d
  h0 : w0.heap.size ≤ M
  hb : base ≤ w0.heap.size
  sS : Sub S (Upto base)
  nd : ∀ k, RT z vo vn k → k ≠ d ∧ k ≠ y
section
variable {base z d y M : Nat} {S : Blocks} {w0 : World} {uo un : Value} {a b : Ex} {VA VB : Value} {body els : List St} {v1 v2 : Value} {cs : List Value} {out : List St} {v5 : Value} {W W2 : World} {lo ln lo2 ln2 : List Str} {vo vn vo2 vn2 : Value} {c c2 : Int} {ys : List Value}
theorem RS.step (h : RS base z d y M S w0 uo un a b VA VB body els v1 v2 cs out v5 W lo ln vo vn c ys) (k : Two base z W vo vn W2 lo2 ln2 vo2 vn2 vo2 vn2 c2) : RS base z d y M S w0 uo un a b VA VB body els v1 v2 cs out v5 W2 lo2 ln2 vo2 vn2 c2 ys := by
  have h1 := h.yb.lt
  have h2 := h.dy
  have h3 := h.hM
  have h4 := h.h0
  refine ⟨h.tw.trans k, h.og.step (by omega) (by have := h.tw.zl; omega) k, h.rn.but k.but (fun i hi => (h.tw.lts i hi).1) (fun e => (h.nd d e).1 rfl) h.sS, h.yb.but k.but (fun e => (h.nd y e).2 rfl), h.dy, h.hM, h.h0, h.hb, h.sS, fun i hi => ?_⟩
  rcases hi with rfl | hi | hi
  · exact h.nd _ (.inl rfl)
  · rcases k.fo i hi with e | e
    · exact h.nd _ (.inr (.inl e))
    · omega
  · rcases k.fn i hi with e | e
    · exact h.nd _ (.inr (.inr e))
    · omega
theorem RS.below (h : RS base z d y M S w0 uo un a b VA VB body els v1 v2 cs out v5 W lo ln vo vn c ys) (hb : Below W.heap.size W W2) : RS base z d y M S w0 uo un a b VA VB body els v1 v2 cs out v5 W2 lo ln vo vn c ys := h.step (h.tw.now.below hb)
theorem RS.set (h : RS base z d y M S w0 uo un a b VA VB body els v1 v2 cs out v5 W lo ln vo vn c ys) {i : Nat} (hi : i < ys.length) (u : Value) : RS base z d y M S w0 uo un a b VA VB body els v1 v2 cs out v5 (W.setCell ⟨y, i, none⟩ u) lo ln vo vn c (ys.set i u) := by
  have h2 := h.dy
  have h3 := h.hM
  have h4 := h.h0
  refine ⟨h.tw.other (by omega) (fun e => (h.nd y (.inr (.inl e))).2 rfl) (fun e => (h.nd y (.inr (.inr e))).2 rfl) u, h.og.set (by omega) u, ?_, h.yb.set hi u, h.dy, h.hM, h.h0, h.hb, h.sS, h.nd⟩
  have hset := (But.refl (Is y) W).setCell (p := ⟨y, i, none⟩) rfl u
  have hyb := h.yb.ge
  exact h.rn.but hset (fun k hk => by have hk : k = y := hk; omega) (fun e => by have e : d = y := e; omega) h.sS
end
end Go.Proofs.YtoijobnpfibboaaDoor
