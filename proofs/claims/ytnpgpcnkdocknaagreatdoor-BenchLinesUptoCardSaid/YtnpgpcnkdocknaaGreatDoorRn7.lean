/- The renamer's stmts: how a round ends. -/
import Derived.Test.YtnpgpcnkdocknaaGreatDoorGRn6
namespace Go.Proofs.YtnpgpcnkdocknaaGreatDoor
open Go.RowKit
set_option linter.unusedVariables false
theorem Two.butT {base z : Nat} {w0 w w2 : World} {T : Blocks} {lo ln : List Str} {uo un vo vn x0 x1 : Value} {c : Int} (h : Two base z w0 uo un w lo ln vo vn x0 x1 c) (hb : But T w w2) (hT : ∀ k, T k → w0.heap.size ≤ k ∧ vo.ownBlock ≠ some k ∧ vn.ownBlock ≠ some k) : Two base z w0 uo un w2 lo ln vo vn x0 x1 c := by
 have hz := h.zl
 refine ⟨h.bl.but hb (fun e => by have := (hT _ e).1; omega), h.zl, h.oo.but hb (fun k hk e => (hT k e).2.1 hk), h.on.but hb (fun k hk e => (hT k e).2.2 hk), h.no, h.nn, h.di, h.fo, h.fn, but_then h.but hb (fun i hi => .inr (hT i hi).1)⟩
theorem OutG.append {n : Nat} {base z : Nat} {w0 W w2 : World} {T T' : Blocks} {lo ln : List Str} {uo un vo vn x0 x1 v v' : Value} {c : Int} {out : List St} {st : St} (h2 : Two base z w0 uo un W lo ln vo vn x0 x1 c) (hn : n ≤ W.heap.size)
    (h1 : Nw n W.heap.size vo vn T) (hv : Nw n W.heap.size vo vn (fun k => v.ownBlock = some k)) (h1' : Nw n W.heap.size vo vn T') (hg : W.grownBy w2 v.ownBlock) (ho : OwnL RdSt 12 82 w2 n (Both T T') (out ++ [st]) v') (hw : v'.ownBlock = v.ownBlock ∨ v'.ownBlock = some W.heap.size) :
    OutG n w2.heap.size vo vn w2 (out ++ [st]) v' := by
 have hs : W.heap.size ≤ w2.heap.size := hg.size
 refine ⟨Both T T', (h1.or h1').up hs, fun k hk => ?_, ho⟩
 rcases hw with e | e
 ·have hk' : v.ownBlock = some k := by rw [← e]; exact hk
  have := hv k hk'
  exact ⟨this.1, Nat.lt_of_lt_of_le this.2.1 hs, this.2.2⟩
 ·have hk : v'.ownBlock = some k := hk
  rw [e] at hk
  injection hk with hk
  subst hk
  refine ⟨hn, ?_, fun e' => ?_, fun e' => ?_⟩
  ·exact (ho.lt _ e).2
  ·have := (h2.oo.lt _ e').2; omega
  ·have := (h2.on.lt _ e').2; omega
abbrev SameD (d : Nat) (w w' : World) : Prop := ∀ p : Addr, p.block = d → w'.cell? p = w.cell? p
theorem SameD.of_but {T : Blocks} {d : Nat} {w w' : World} (h : But T w w') (hd : d < w.heap.size) (hT : ¬ T d) : SameD d w w' := fun p hp => World.cell?_of_block (h.block p.block (by rw [hp]; exact hd) (by rw [hp]; exact hT))
theorem SameD.trans {d : Nat} {a b c : World} (h : SameD d a b) (k : SameD d b c) : SameD d a c := fun p hp => (k p hp).trans (h p hp)
structure Tld (n : Nat) (vo vn : Value) (w : World) (st : St) (ys : List Value) : Prop where
 rd : ∃ T, Nw n w.heap.size vo vn T ∧ RdSt w T st ys
theorem Tld.mk4 {n : Nat} {vo vn : Value} {w : World} {k : Int} {s : Str} {a b : Ex} {body els : List St} {a0 a1 b0 b1 : Int} {a2 b2 : Str} {a3 b3 v1 v2 : Value} (hk : inI k) (hs : okS s)
    (ha : ExR n vo vn w a (.agg #[.int .i64 a0, .int .i64 a1, .string a2, a3])) (hb : ExR n vo vn w b (.agg #[.int .i64 b0, .int .i64 b1, .string b2, b3])) (h1 : StR n vo vn w body v1) (h2 : StR n vo vn w els v2) :
    Tld n vo vn w (.mk k s a b body els) [.int .i64 k, .string s, .int .i64 a0, .int .i64 a1, .string a2, a3, .int .i64 b0, .int .i64 b1, .string b2, b3, v1, v2] := by
 obtain ⟨T1, n1, r1⟩ := ha
 obtain ⟨T2, n2, r2⟩ := hb
 obtain ⟨T3, n3, r3⟩ := h1
 obtain ⟨T4, n4, r4⟩ := h2
 refine ⟨⟨Both (Both T1 T2) (Both T3 T4), (n1.or n2).or (n3.or n4), ?_⟩⟩
 exact RdSt.shut hk hs ((r1.keep (fun k hk => .inl (.inl hk)) (Same.refl _ _)).toX) ((r2.keep (fun k hk => .inl (.inr hk)) (Same.refl _ _)).toX) (r3.sub RdSt.keeps (fun k hk => .inr (.inl hk))) (r4.sub RdSt.keeps (fun k hk => .inr (.inr hk)))
section
variable {base z d y M : Nat} {S : Blocks} {w0 : World} {uo un : Value} {a b : Ex} {VA VB : Value} {body els : List St} {v1 v2 : Value} {cs : List Value} {out : List St} {v5 : Value} {W W2 : World} {lo ln lo2 ln2 : List Str} {vo vn vo2 vn2 : Value} {c c2 : Int} {y0 y1 y2 y3 y4 y5 y6 y7 y8 y9 y10 y11 : Value}
theorem RS.setA (h : RS base z d y M S w0 uo un a b VA VB body els v1 v2 cs out v5 W lo ln vo vn c [y0, y1, y2, y3, y4, y5, y6, y7, y8, y9, y10, y11]) (u0 u1 u2 u3 : Value) : RS base z d y M S w0 uo un a b VA VB body els v1 v2 cs out v5 ((((W.setCell ⟨y, 2, none⟩ u0).setCell ⟨y, 3, none⟩ u1).setCell ⟨y, 4, none⟩ u2).setCell ⟨y, 5, none⟩ u3) lo ln vo vn c [y0, y1, u0, u1, u2, u3, y6, y7, y8, y9, y10, y11] :=
 (((h.set (i := 2) (by simp) u0).set (i := 3) (by simp) u1).set (i := 4) (by simp) u2).set (i := 5) (by simp) u3
theorem RS.setB (h : RS base z d y M S w0 uo un a b VA VB body els v1 v2 cs out v5 W lo ln vo vn c [y0, y1, y2, y3, y4, y5, y6, y7, y8, y9, y10, y11]) (u0 u1 u2 u3 : Value) : RS base z d y M S w0 uo un a b VA VB body els v1 v2 cs out v5 ((((W.setCell ⟨y, 6, none⟩ u0).setCell ⟨y, 7, none⟩ u1).setCell ⟨y, 8, none⟩ u2).setCell ⟨y, 9, none⟩ u3) lo ln vo vn c [y0, y1, y2, y3, y4, y5, u0, u1, u2, u3, y10, y11] :=
 (((h.set (i := 6) (by simp) u0).set (i := 7) (by simp) u1).set (i := 8) (by simp) u2).set (i := 9) (by simp) u3
theorem RS.setN (h : RS base z d y M S w0 uo un a b VA VB body els v1 v2 cs out v5 W lo ln vo vn c [y0, y1, y2, y3, y4, y5, y6, y7, y8, y9, y10, y11]) (u : Value) : RS base z d y M S w0 uo un a b VA VB body els v1 v2 cs out v5 (W.setCell ⟨y, 1, none⟩ u) lo ln vo vn c [y0, u, y2, y3, y4, y5, y6, y7, y8, y9, y10, y11] := h.set (i := 1) (by simp) u
theorem RS.setV (h : RS base z d y M S w0 uo un a b VA VB body els v1 v2 cs out v5 W lo ln vo vn c [y0, y1, y2, y3, y4, y5, y6, y7, y8, y9, y10, y11]) (u : Value) : RS base z d y M S w0 uo un a b VA VB body els v1 v2 cs out v5 (W.setCell ⟨y, 10, none⟩ u) lo ln vo vn c [y0, y1, y2, y3, y4, y5, y6, y7, y8, y9, u, y11] := h.set (i := 10) (by simp) u
theorem RS.setW (h : RS base z d y M S w0 uo un a b VA VB body els v1 v2 cs out v5 W lo ln vo vn c [y0, y1, y2, y3, y4, y5, y6, y7, y8, y9, y10, y11]) (u : Value) : RS base z d y M S w0 uo un a b VA VB body els v1 v2 cs out v5 (W.setCell ⟨y, 11, none⟩ u) lo ln vo vn c [y0, y1, y2, y3, y4, y5, y6, y7, y8, y9, y10, u] := h.set (i := 11) (by simp) u
end
section
variable {n y : Nat} {vo vn : Value} {w : World} {t : Ex} {U : Value} {l : List St} {x : Value}
theorem ExR.setA (h : ExR n vo vn w t U) (hy : y < n) (o : Nat) (u0 u1 u2 u3 : Value) : ExR n vo vn ((((w.setCell ⟨y, o, none⟩ u0).setCell ⟨y, o + 1, none⟩ u1).setCell ⟨y, o + 2, none⟩ u2).setCell ⟨y, o + 3, none⟩ u3) t U := (((h.set hy u0).set hy u1).set hy u2).set hy u3
theorem StR.setA (h : StR n vo vn w l x) (hy : y < n) (o : Nat) (u0 u1 u2 u3 : Value) : StR n vo vn ((((w.setCell ⟨y, o, none⟩ u0).setCell ⟨y, o + 1, none⟩ u1).setCell ⟨y, o + 2, none⟩ u2).setCell ⟨y, o + 3, none⟩ u3) l x := (((h.set hy u0).set hy u1).set hy u2).set hy u3
end
theorem ExR.own {n : Nat} {vo vn vo2 vn2 : Value} {w : World} {t : Ex} {U : Value} (h : ExR n vo vn w t U) (e1 : vo2.ownBlock = vo.ownBlock) (e2 : vn2.ownBlock = vn.ownBlock) : ExR n vo2 vn2 w t U := by
 obtain ⟨T, hT, r⟩ := h
 exact ⟨T, fun k hk => by rw [e1, e2]; exact hT k hk, r⟩
theorem StR.own {n : Nat} {vo vn vo2 vn2 : Value} {w : World} {l : List St} {U : Value} (h : StR n vo vn w l U) (e1 : vo2.ownBlock = vo.ownBlock) (e2 : vn2.ownBlock = vn.ownBlock) : StR n vo2 vn2 w l U := by
 obtain ⟨T, hT, r⟩ := h
 exact ⟨T, fun k hk => by rw [e1, e2]; exact hT k hk, r⟩
theorem RS.cutAt {base z d y M : Nat} {S : Blocks} {w0 : World} {uo un : Value} {a b : Ex} {VA VB : Value} {body els : List St} {v1 v2 : Value} {cs : List Value} {out : List St} {v5 : Value} {W : World} {lo X ln Y : List Str} {Ap Aq : Option Addr} {n n' cp cq : Nat} {c : Int} {ys : List Value}
    (h : RS base z d y M S w0 uo un a b VA VB body els v1 v2 cs out v5 W (lo ++ X) (ln ++ Y) (.slice Ap n' cp) (.slice Aq n' cq) c ys) (h1 : lo.length = n) (h2 : ln.length = n) :
    RS base z d y M S w0 uo un a b VA VB body els v1 v2 cs out v5 ((W.drew.setCell ⟨z, 0, none⟩ (.slice Ap n cp)).setCell ⟨z, 1, none⟩ (.slice Aq n cq)) lo ln (.slice Ap n cp) (.slice Aq n cq) c ys := by
 have T4 := (h.tw.now.drew.set (i := 0) (by decide) (.slice Ap n cp) _ _ _ rfl).set (i := 1) (by decide) (.slice Aq n cq) _ _ _ rfl
 have T5 := Two.cut T4
 rw [h1, h2] at T5
 exact h.step T5
end Go.Proofs.YtnpgpcnkdocknaaGreatDoor
