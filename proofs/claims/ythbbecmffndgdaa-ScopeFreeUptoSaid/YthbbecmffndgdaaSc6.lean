/- The walk of scope's stmts: its round's bundle. -/
import Derived.Test.YthbbecmffndgdaaSc5
namespace Go.Proofs.Ythbbecmffndgdaa
open Go.RowKit
set_option linter.unusedVariables false
theorem bindsOf_len (s : St) : (bindsOf s).length ≤ 1 := by unfold bindsOf; split <;> simp
theorem St.wt_pos (s : St) : 1 ≤ s.wt := by obtain ⟨k, n, a, b, body, els⟩ := s; simp only [St.wt]; omega
theorem bindsL_len (l : List St) : (bindsL l).length ≤ St.wts l := by
  induction l with
  | nil => simp [bindsL]
  | cons s r ih =>
    have h1 := bindsOf_len s
    have h2 := s.wt_pos
    have h3 : bindsL (s :: r) = bindsOf s ++ bindsL r := rfl
    rw [h3, List.length_append, St.wts]
    omega
theorem oneF_len (s : St) (hl : ∀ (l : List St) (B : List Str), SizeOf.sizeOf l < SizeOf.sizeOf s → (lfree l B).length ≤ St.wts l) (B : List Str) : (oneF s B).length ≤ s.wt := by
  obtain ⟨k, n, a, b, body, els⟩ := s
  have h1 : SizeOf.sizeOf body < SizeOf.sizeOf (St.mk k n a b body els) := by simp; omega
  have h2 : SizeOf.sizeOf els < SizeOf.sizeOf (St.mk k n a b body els) := by simp; omega
  have ha := Nat.le_trans (lnot_len a.names B) a.names_len
  have hb := Nat.le_trans (lnot_len b.names B) b.names_len
  rw [oneF, St.wt]
  split
  · omega
  split
  · have := merge_len (lnot a.names B) (lnot b.names B); omega
  split
  · have := hl body B h1; omega
  split
  · have h3 := merge_len (lnot a.names B) (merge (lfree body B) (lfree els B))
    have h4 := merge_len (lfree body B) (lfree els B)
    have h5 := hl body B h1
    have h6 := hl els B h2
    omega
  split
  · have h3 := merge_len (merge (lnot a.names B) (lnot b.names B)) (lfree body (B ++ [n]))
    have h4 := merge_len (lnot a.names B) (lnot b.names B)
    have h5 := hl body (B ++ [n]) h1
    omega
  · simp
theorem lfree_len' (m : Nat) : ∀ (l : List St), SizeOf.sizeOf l ≤ m → ∀ B, (lfree l B).length ≤ St.wts l := by
  induction m with
  | zero => intro l h; cases l with
    | nil => intro B; rw [lfree]; simp
    | cons s r => simp at h
  | succ m ih =>
    intro l h B
    cases l with
    | nil => rw [lfree]; simp
    | cons s r =>
      rw [lfree, St.wts]
      simp at h
      have h1 := merge_len (oneF s B) (lfree r (B ++ bindsOf s))
      have h2 := oneF_len s (fun l B hl => ih l (by omega) B) B
      have h3 := ih r (by omega) (B ++ bindsOf s)
      omega
theorem lfree_len (l : List St) (B : List Str) : (lfree l B).length ≤ St.wts l := lfree_len' _ l (Nat.le_refl _) B
theorem wts_app (l m : List St) : St.wts (l ++ m) = St.wts l + St.wts m := by
  induction l with
  | nil => simp [St.wts]
  | cons s r ih => rw [List.cons_append, St.wts, St.wts, ih]; omega
theorem wts_take (l : List St) {q : Nat} (hq : q < l.length) : St.wts (l.take q) + l[q].wt ≤ St.wts l := by
  have h : St.wts l = St.wts (l.take (q + 1)) + St.wts (l.drop (q + 1)) := by rw [← wts_app, List.take_append_drop]
  rw [List.take_succ_eq_append_getElem hq, wts_app, St.wts, St.wts] at h
  omega
theorem bindsL_snoc (l : List St) (s : St) : bindsL (l ++ [s]) = bindsL l ++ bindsOf s := by
  unfold bindsL; rw [List.flatMap_append]; simp
theorem RdEx.toE {w : World} {S : Blocks} {e : Ex} {k n : Int} {s : ByteArray} {v : Value} (h : RdEx w S e [.int .i64 k, .int .i64 n, .string s, v]) : RdE w S e (exV k n s v) := by
  obtain ⟨k', n', s', args⟩ := e
  obtain ⟨h1, h2, h3, v', e, h4⟩ := h.open_
  simp only [List.cons.injEq, Value.int.injEq, true_and, Value.string.injEq, and_true] at e
  obtain ⟨rfl, rfl, rfl, rfl⟩ := e
  exact ⟨_, _, _, args, _, rfl, rfl, h1, h2, h3, h4⟩
/-- what a round reads: the statement's own block d, its expressions and its blocks of statements -/
structure Rnd (base : Nat) (S : Blocks) (d : Nat) (cs : List Value) (a b : Ex) (VA VB : Value) (body els : List St) (v1 v2 : Value) (w : World) : Prop where
  bd : Blk base w d cs
  ra : RdE w S a VA
  rb : RdE w S b VB
  r1 : RdSts w S body v1
  r2 : RdSts w S els v2
theorem Rnd.but {base : Nat} {S T : Blocks} {d : Nat} {cs : List Value} {a b : Ex} {VA VB : Value} {body els : List St} {v1 v2 : Value} {w w' : World} (h : Rnd base S d cs a b VA VB body els v1 v2 w) (hb : But T w w') (hT : ∀ k, T k → base ≤ k) (hd : ¬ T d) (hS : Sub S (Upto base)) : Rnd base S d cs a b VA VB body els v1 v2 w' := by
  have hs : Same S w w' := hb.same (hS.trans (Sub.upto (Nat.le_trans h.bd.ge (Nat.le_of_lt h.bd.lt)))) (fun k hk ht => by have := hT k ht; have := hS k hk; unfold Upto at this; omega)
  exact ⟨h.bd.but hb hd, h.ra.keep (Sub.refl _) hs, h.rb.keep (Sub.refl _) hs, h.r1.keep RdSt.keeps (Sub.refl _) hs, h.r2.keep RdSt.keeps (Sub.refl _) hs⟩
structure RW (base : Nat) (S : Blocks) (z d : Nat) (cs : List Value) (a b : Ex) (VA VB : Value) (body els : List St) (v1 v2 : Value) (vb0 vf0 : Value) (W0 : World) (w : World) (B F : List Str) (vb vf : Value) : Prop where
  wk : Wk base w z B F vb vf
  but : But (WT z vb0 vf0) W0 w
  nb : New W0 vb0 vb
  nf : New W0 vf0 vf
  nd : ∀ k, WT z vb vf k → k ≠ d
  rn : Rnd base S d cs a b VA VB body els v1 v2 w
  sS : Sub S (Upto base)
theorem RW.step {base : Nat} {S : Blocks} {z d : Nat} {cs : List Value} {a b : Ex} {VA VB : Value} {body els : List St} {v1 v2 : Value} {vb0 vf0 : Value} {W0 w w2 : World} {B F B2 F2 : List Str} {vb vf vb2 vf2 : Value} (h : RW base S z d cs a b VA VB body els v1 v2 vb0 vf0 W0 w B F vb vf)
    (k1 : Wk base w2 z B2 F2 vb2 vf2) (k2 : But (WT z vb vf) w w2) (k3 : New w vb vb2) (k4 : New w vf vf2) : RW base S z d cs a b VA VB body els v1 v2 vb0 vf0 W0 w2 B2 F2 vb2 vf2 := by
  refine ⟨k1, WT.step h.but k2 h.nb h.nf, h.nb.trans k3 h.but.size, h.nf.trans k4 h.but.size, fun k hk => ?_, h.rn.but k2 h.wk.ge (fun hd => h.nd d hd rfl) h.sS, h.sS⟩
  have hdl := h.rn.bd.lt
  rcases hk with rfl | hk | hk
  · exact h.nd _ (.inl rfl)
  · rcases k3 k hk with e | e
    · exact h.nd _ (.inr (.inl e))
    · omega
  · rcases k4 k hk with e | e
    · exact h.nd _ (.inr (.inr e))
    · omega
theorem RW.alloc {base : Nat} {S : Blocks} {z d : Nat} {cs : List Value} {a b : Ex} {VA VB : Value} {body els : List St} {v1 v2 : Value} {vb0 vf0 : Value} {W0 w w2 : World} {B F : List Str} {vb vf : Value} (h : RW base S z d cs a b VA VB body els v1 v2 vb0 vf0 W0 w B F vb vf) (hb : Below w.heap.size w w2) :
    RW base S z d cs a b VA VB body els v1 v2 vb0 vf0 W0 w2 B F vb vf := h.step (h.wk.below hb) (But.of_below hb) (New.refl _ _) (New.refl _ _)
theorem oneF_let {k : Int} {s : Str} {a b : Ex} {body els : List St} {B : List Str} (h : k = 1 ∨ k = 2) : oneF (.mk k s a b body els) B = lnot a.names B := by rw [oneF, if_pos h]
theorem oneF_store {s : Str} {a b : Ex} {body els : List St} {B : List Str} : oneF (.mk 3 s a b body els) B = merge (lnot a.names B) (lnot b.names B) := by rw [oneF]; simp
theorem oneF_async {k : Int} {s : Str} {a b : Ex} {body els : List St} {B : List Str} (h : k = 4 ∨ k = 5) : oneF (.mk k s a b body els) B = lfree body B := by
  rw [oneF, if_neg (by omega), if_neg (by omega), if_pos h]
theorem oneF_if {s : Str} {a b : Ex} {body els : List St} {B : List Str} : oneF (.mk 6 s a b body els) B = merge (lnot a.names B) (merge (lfree body B) (lfree els B)) := by rw [oneF]; simp
theorem oneF_for {s : Str} {a b : Ex} {body els : List St} {B : List Str} : oneF (.mk 7 s a b body els) B = merge (merge (lnot a.names B) (lnot b.names B)) (lfree body (B ++ [s])) := by rw [oneF]; simp
theorem oneF_other {k : Int} {s : Str} {a b : Ex} {body els : List St} {B : List Str} (h : k < 1 ∨ 7 < k) : oneF (.mk k s a b body els) B = [] := by
  rw [oneF, if_neg (by omega), if_neg (by omega), if_neg (by omega), if_neg (by omega), if_neg (by omega)]
theorem bindsOf_let {k : Int} {s : Str} {a b : Ex} {body els : List St} (h : k = 1 ∨ k = 2) : bindsOf (.mk k s a b body els) = [s] := if_pos (show (St.mk k s a b body els).kind = 1 ∨ (St.mk k s a b body els).kind = 2 from h)
theorem bindsOf_no {k : Int} {s : Str} {a b : Ex} {body els : List St} (h : ¬ (k = 1 ∨ k = 2)) : bindsOf (.mk k s a b body els) = [] := if_neg (show ¬ ((St.mk k s a b body els).kind = 1 ∨ (St.mk k s a b body els).kind = 2) from h)
end Go.Proofs.Ythbbecmffndgdaa
