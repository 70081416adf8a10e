/- The renamer in memory: two rows of strings and a count; a step that appends to either of them in a drawn region; the walk of bind. -/
import Derived.Test.YtoijobnpfibboaaDoorStrB
import Derived.Test.YtoijobnpfibboaaDoorAppZ
import Derived.Test.YtoijobnpfibboaaDoorRnSpec
import Derived.Test.YtoijobnpfibboaaDoorItoaLib
namespace Go.Proofs.YtoijobnpfibboaaDoor
open Go.RowKit
set_option linter.unusedVariables false
theorem but_then {T U : Blocks} {a b c : World} (h : But T a b) (k : But U b c) (hU : ∀ i, U i → T i ∨ a.heap.size ≤ i) : But T a c :=
  ⟨k.os.trans h.os, k.tape.trans h.tape, k.output.trans h.output, Nat.le_trans h.size k.size, fun i hi ht => (k.block i (Nat.lt_of_lt_of_le hi h.size) (fun e => (hU i e).elim ht (by omega))).trans (h.block i hi ht)⟩
abbrev FrS := Fr encS okS 1 16
theorem own_of {v v2 : Value} {n : Nat} {m : Nat} (h : v2.ownBlock = v.ownBlock ∨ v2.ownBlock = some n) (hn : m ≤ n) : ∀ k, v2.ownBlock = some k → v.ownBlock = some k ∨ m ≤ k := fun k hk => by
  rcases h with h | h
  · exact .inl (h ▸ hk)
  · rw [h] at hk; injection hk with hk; exact .inr (by omega)
/-- what a renamer's call may write: its block, its two rows -/
def RT (z : Nat) (vo vn : Value) : Blocks := fun k => k = z ∨ vo.ownBlock = some k ∨ vn.ownBlock = some k
/-- ahead (w0) the rows were uo and un; now they are vo and vn; block z holds x0, x1 and c -/
structure Two (base z : Nat) (w0 : World) (uo un : Value) (w : World) (lo ln : List Str) (vo vn x0 x1 : Value) (c : Int) : Prop where
  bl : Blk base w z [x0, x1, .int .i64 c]
  zl : z < w0.heap.size
  oo : OwnSs 9 w base Nowhere lo vo
  on : OwnSs 9 w base Nowhere ln vn
  no : ∀ k, vo.ownBlock = some k → k ≠ z
  nn : ∀ k, vn.ownBlock = some k → k ≠ z
  di : ∀ k, vo.ownBlock = some k → vn.ownBlock ≠ some k
  fo : ∀ k, vo.ownBlock = some k → uo.ownBlock = some k ∨ w0.heap.size ≤ k
  fn : ∀ k, vn.ownBlock = some k → un.ownBlock = some k ∨ w0.heap.size ≤ k
  but : But (RT z uo un) w0 w
section
variable {base z : Nat} {w0 w w' : World} {lo ln : List Str} {uo un vo vn x0 x1 : Value} {c : Int}
theorem Two.below (h : Two base z w0 uo un w lo ln vo vn x0 x1 c) (hb : Below w.heap.size w w') : Two base z w0 uo un w' lo ln vo vn x0 x1 c :=
  ⟨h.bl.below hb, h.zl, h.oo.keep Flat.keeps hb, h.on.keep Flat.keeps hb, h.no, h.nn, h.di, h.fo, h.fn, h.but.trans (But.of_below hb)⟩
theorem Two.drew (h : Two base z w0 uo un w lo ln vo vn x0 x1 c) : Two base z w0 uo un w.drew lo ln vo vn x0 x1 c := h.below (Below.refl _ _).drew
theorem Two.alloc {o : Obj} (h : Two base z w0 uo un w lo ln vo vn x0 x1 c) : Two base z w0 uo un (w.alloc o) lo ln vo vn x0 x1 c := h.below ((Below.refl _ _).alloc (Nat.le_refl _) _)
theorem Two.set (h : Two base z w0 uo un w lo ln vo vn x0 x1 c) {i : Nat} (hi : i < 3) (u y0 y1 : Value) (d : Int) (he : [x0, x1, .int .i64 c].set i u = [y0, y1, .int .i64 d]) : Two base z w0 uo un (w.setCell ⟨z, i, none⟩ u) lo ln vo vn y0 y1 d := by
  have hset := (But.refl (Is z) w).setCell (p := ⟨z, i, none⟩) rfl u
  refine ⟨by rw [← he]; exact h.bl.set (i := i) (by simpa using hi) u, h.zl, h.oo.but hset (fun k hk e => h.no k hk e), h.on.but hset (fun k hk e => h.nn k hk e), h.no, h.nn, h.di, h.fo, h.fn, h.but.setCell (p := ⟨z, i, none⟩) (.inl rfl) u⟩
theorem Two.growO {l2 : List Str} {v2 : Value} (h : Two base z w0 uo un w lo ln vo vn x0 x1 c) (hg : w.grownBy w' vo.ownBlock) (ho : OwnSs 9 w' base Nowhere l2 v2) (hn : v2.ownBlock = vo.ownBlock ∨ v2.ownBlock = some w.heap.size) : Two base z w0 uo un w' l2 ln v2 vn x0 x1 c := by
  have hbut := But.of_grown hg
  have hs := h.but.size
  have hc := own_of hn (Nat.le_refl w.heap.size)
  refine ⟨h.bl.but hbut (fun e => h.no z e rfl), h.zl, ho, h.on.but hbut (fun k hk e => h.di k e hk), fun k hk => ?_, h.nn, fun k hk e => ?_, fun k hk => ?_, h.fn, but_then h.but hbut (fun k hk => ?_)⟩
  · rcases hc k hk with e | e
    · exact h.no k e
    · have := h.bl.lt; omega
  · rcases hc k hk with e' | e'
    · exact h.di k e' e
    · have := (h.on.lt k e).2; omega
  · rcases hc k hk with e | e
    · exact h.fo k e
    · exact .inr (by omega)
  · rcases h.fo k hk with e | e
    · exact .inl (.inr (.inl e))
    · exact .inr e
theorem Two.growN {l2 : List Str} {v2 : Value} (h : Two base z w0 uo un w lo ln vo vn x0 x1 c) (hg : w.grownBy w' vn.ownBlock) (ho : OwnSs 9 w' base Nowhere l2 v2) (hn : v2.ownBlock = vn.ownBlock ∨ v2.ownBlock = some w.heap.size) : Two base z w0 uo un w' lo l2 vo v2 x0 x1 c := by
  have hbut := But.of_grown hg
  have hs := h.but.size
  have hc := own_of hn (Nat.le_refl w.heap.size)
  refine ⟨h.bl.but hbut (fun e => h.nn z e rfl), h.zl, h.oo.but hbut (fun k hk e => h.di k hk e), ho, h.no, fun k hk => ?_, fun k hk e => ?_, h.fo, fun k hk => ?_, but_then h.but hbut (fun k hk => ?_)⟩
  · rcases hc k hk with e | e
    · exact h.nn k e
    · have := h.bl.lt; omega
  · rcases hc k e with e' | e'
    · exact h.di k hk e'
    · have := (h.oo.lt k hk).2; omega
  · rcases hc k hk with e | e
    · exact h.fn k e
    · exact .inr (by omega)
  · rcases h.fn k hk with e | e
    · exact .inl (.inr (.inr e))
    · exact .inr e
theorem frS_lit (w : World) {s : Str} (hs : okS s) {g : Nat} (hg : w.heap.size = g) : FrS (w.alloc (.cells #[.string s] 9)) [s] (.slice (some ⟨g, 0, none⟩) 1 1) := by
  subst hg
  refine ⟨Is w.heap.size, fun b hb => by unfold Is at hb; subst hb; simp [Upto], ?_⟩
  exact rd_one (enc := encS) (x := s) rfl (fun j v hj => by
    have := cells_newAt w [.string s] 9 rfl j v hj
    exact this) hs rfl (by decide)
/-- x reads as m, in blocks that are not the two rows' -/
def FrN (vo vn : Value) (w : World) (m : List Str) (x : Value) : Prop := ∃ T, Sub T (Upto w.heap.size) ∧ (∀ k, T k → vo.ownBlock ≠ some k ∧ vn.ownBlock ≠ some k) ∧ RdSs w T m x
theorem FrN.fr {m : List Str} {x : Value} (h : FrN vo vn w m x) : FrS w m x := by
  obtain ⟨T, hT, _, r⟩ := h
  exact ⟨T, hT, r⟩
theorem FrN.drew {m : List Str} {x : Value} (h : FrN vo vn w m x) : FrN vo vn w.drew m x := h
theorem FrN.alloc {o : Obj} {m : List Str} {x : Value} (h : FrN vo vn w m x) : FrN vo vn (w.alloc o) m x := by
  obtain ⟨T, hT, hn, r⟩ := h
  exact ⟨T, hT.trans (Sub.upto (by simp)), hn, r.keep Flat.keeps (Sub.refl _) ((Same.refl _ _).alloc hT o)⟩
theorem frN_lit (h : Two base z w0 uo un w lo ln vo vn x0 x1 c) {s : Str} (hs : okS s) {g : Nat} (hg : w.heap.size = g) : FrN vo vn (w.alloc (.cells #[.string s] 9)) [s] (.slice (some ⟨g, 0, none⟩) 1 1) := by
  subst hg
  refine ⟨Is w.heap.size, fun b hb => by unfold Is at hb; subst hb; simp [Upto], fun k hk => ⟨fun e => ?_, fun e => ?_⟩, ?_⟩
  · unfold Is at hk; have := (h.oo.lt k e).2; omega
  · unfold Is at hk; have := (h.on.lt k e).2; omega
  · exact rd_one (enc := encS) (x := s) rfl (fun j v hj => cells_newAt w [.string s] 9 rfl j v hj) hs rfl (by decide)
theorem FrN.growO {m : List Str} {x v2 : Value} (h : FrN vo vn w m x) (hg : w.grownBy w' vo.ownBlock) (hn : v2.ownBlock = vo.ownBlock ∨ v2.ownBlock = some w.heap.size) : FrN v2 vn w' m x := by
  obtain ⟨T, hT, hk, r⟩ := h
  have hbut := But.of_grown hg
  refine ⟨T, hT.trans (Sub.upto hbut.size), fun k hk' => ⟨fun e => ?_, (hk k hk').2⟩, r.keep Flat.keeps (Sub.refl _) (hbut.same hT (fun k hk' e => (hk k hk').1 e))⟩
  rcases hn with hn | hn
  · exact (hk k hk').1 (hn ▸ e)
  · rw [hn] at e; injection e with e; have := hT k hk'; unfold Upto at this; omega
end
section
variable {base z : Nat} {w0 w : World} {lo ln : List Str} {uo un vo vn x0 x1 : Value} {c : Int} {A : Option Addr} {n k : Nat} {ops : Array Oper} {o : Oper} {a : Act} {K : Act → World → Prop} {Q : Exit → Act → World → Prop} {Z : Prop}
theorem step_two_o (hgd : o.guard = none) (s y : Operand) (ho : o.op = .call { callee := .builtin .append, args := #[s, y], argTypes := #[32, 32] })
    (hs : a.eval s = vo) (hy : a.eval y = .slice A n k) (x : Str) (h2 : Two base z w0 uo un w lo ln vo vn x0 x1 c) (hx : FrS w [x] (.slice A n k)) (hlen : lo.length + 1 ≤ 1073741824) (hbase : base ≤ w0.heap.size)
    (h : ∀ v' w', Two base z w0 uo un w' (lo ++ [x]) ln v' vn x0 x1 c → (∀ m y, FrN vo vn w m y → FrN v' vn w' m y) → K (a.put o.dst v') w') :
    if Region.wanted o (yielded ops a.tmps) = true then Oper.wp Tryd.prog o a w K Q else Z := by
  obtain ⟨i0, hi, hz0, hz1, hz2⟩ := info_parts infoStr
  obtain ⟨T, hT, r⟩ := hx
  exact step_append_list hgd s y 32 ho hs hy i0 _ Tryd.underlying32 hi hz0 hz1 hz2 rfl (by decide) Flat.keeps (U := T) (Tx := Nowhere) (S := Nowhere) (m := [x]) (RdL.bare r Nowhere) h2.oo (Sub.nowhere _) (Sub.nowhere _) not_nowhere oneS (by unfold maxLen; simp only [List.length_singleton]; omega) (by simp only [List.length_singleton]; omega) (Nat.le_trans hbase h2.but.size) fun v' w' h1 hg hn => h v' w' (h2.growO hg h1 hn) (fun m y hy => hy.growO hg hn)
theorem step_two_n (hgd : o.guard = none) (s y : Operand) (ho : o.op = .call { callee := .builtin .append, args := #[s, y], argTypes := #[32, 32] })
    (hs : a.eval s = vn) (hy : a.eval y = .slice A n k) (x : Str) (h2 : Two base z w0 uo un w lo ln vo vn x0 x1 c) (hx : FrS w [x] (.slice A n k)) (hlen : ln.length + 1 ≤ 1073741824) (hbase : base ≤ w0.heap.size)
    (h : ∀ v' w', Two base z w0 uo un w' lo (ln ++ [x]) vo v' x0 x1 c → K (a.put o.dst v') w') :
    if Region.wanted o (yielded ops a.tmps) = true then Oper.wp Tryd.prog o a w K Q else Z := by
  obtain ⟨i0, hi, hz0, hz1, hz2⟩ := info_parts infoStr
  obtain ⟨T, hT, r⟩ := hx
  exact step_append_list hgd s y 32 ho hs hy i0 _ Tryd.underlying32 hi hz0 hz1 hz2 rfl (by decide) Flat.keeps (U := T) (Tx := Nowhere) (S := Nowhere) (m := [x]) (RdL.bare r Nowhere) h2.on (Sub.nowhere _) (Sub.nowhere _) not_nowhere oneS (by unfold maxLen; simp only [List.length_singleton]; omega) (by simp only [List.length_singleton]; omega) (Nat.le_trans hbase h2.but.size) fun v' w' h1 hg hn => h v' w' (h2.growN hg h1 hn)
end
end Go.Proofs.YtoijobnpfibboaaDoor
