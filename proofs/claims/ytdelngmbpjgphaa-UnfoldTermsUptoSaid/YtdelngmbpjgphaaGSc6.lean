/- Texts merged: Sc5, Sc6. -/
import Derived.Test.YtdelngmbpjgphaaSc4
/- The walk of within. -/
namespace Go.Proofs.Ytdelngmbpjgphaa
open Go.RowKit
set_option linter.unusedVariables false
theorem OwnL.take {α : Type} {rd : World → Blocks → α → List Value → Prop} {size : Nat} {E : TypeId} {w : World} {base : Nat} {S : Blocks} {l : List α} {A : Option Addr} {n c m : Nat} (h : OwnL rd size E w base S l (.slice A n c)) (hm : m ≤ l.length) : OwnL rd size E w base S (l.take m) (.slice A m c) := by
  obtain ⟨T, css, t1, t2, t3, h1, h2, h3, h4⟩ := h
  have hl : (l.take m).length = m := by simp; omega
  have hfl : ∀ (css : List (List Value)), (∀ cs ∈ css, cs.length = size) → ∀ m, (css.take m).flatten = css.flatten.take (m * size) := by
    intro css
    induction css with
    | nil => intro _ m; simp
    | cons x r ih =>
      intro hs m
      cases m with
      | zero => simp
      | succ m =>
        have hx : x.length = size := hs x (by simp)
        rw [List.take_succ_cons, List.flatten_cons, List.flatten_cons, ih (fun cs h => hs cs (by simp [h]))]
        rw [show (m + 1) * size = x.length + m * size by rw [hx, Nat.succ_mul]; omega, List.take_length_add_append]
  have hcl : (css.take m).flatten.length = m * size := by
    have : ∀ (css : List (List Value)), (∀ cs ∈ css, cs.length = size) → css.flatten.length = css.length * size := by
      intro css
      induction css with
      | nil => intro _; simp
      | cons x r ih => intro hs; rw [List.flatten_cons, List.length_append, ih (fun cs h => hs cs (by simp [h])), hs x (by simp), List.length_cons, Nat.succ_mul]; omega
    rw [this _ (fun cs h => h2 cs (List.mem_of_mem_take h)), List.length_take, Nat.min_eq_left (by rw [h1]; exact hm)]
  refine ⟨T, css.take m, t1, t2, (by cases A <;> exact t3), by simp [h1], fun cs h => h2 cs (List.mem_of_mem_take h), ?_, fun i e cs hi hc => ?_⟩
  · rw [hl]
    obtain ⟨e, h3⟩ := h3
    refine ⟨hcl, ?_⟩
    rcases h3 with ⟨hv, h0⟩ | ⟨g, cap, cur, hv, hbg, hg, hn, hcap, hsz, htake⟩
    · injection hv with e1 e2 e3
      subst e1 e3
      left
      have : m = 0 := by omega
      subst this
      exact ⟨rfl, rfl⟩
    · injection hv with e1 e2 e3
      subst e1 e3
      refine .inr ⟨g, c, cur, rfl, hbg, hg, by omega, hcap, hsz, ?_⟩
      rw [hfl css h2 m, ← htake, List.take_take, Nat.min_eq_left (Nat.mul_le_mul_right _ hm)]
  · rw [List.getElem?_take] at hi hc
    split at hi
    · rename_i hlt
      rw [if_pos hlt] at hc
      exact h4 i e cs hi hc
    · cases hi
theorem OwnL.cap_le {α : Type} {rd : World → Blocks → α → List Value → Prop} {size : Nat} {E : TypeId} {w : World} {base : Nat} {S : Blocks} {l : List α} {A : Option Addr} {n c : Nat} (h : OwnL rd size E w base S l (.slice A n c)) : l.length ≤ c ∧ c ≤ maxLen := by
  obtain ⟨T, css, _, _, _, h1, h2, h3, h4⟩ := h
  rcases h3.2 with ⟨hv, h0⟩ | ⟨g, cap, cur, hv, hbg, hg, hn, hcap, hsz, htake⟩
  · injection hv with e1 e2 e3
    subst e3
    exact ⟨by omega, by simp [maxLen]⟩
  · injection hv with e1 e2 e3
    subst e3
    exact ⟨hn, hcap⟩
theorem Wk.cut {base : Nat} {w : World} {z n c : Nat} {B X F : List Str} {A : Option Addr} {vf : Value} (h : Wk base w z (B ++ X) F (.slice A n c) vf) :
    Wk base (w.setCell ⟨z, 0, none⟩ (.slice A B.length c)) z B F (.slice A B.length c) vf := by
  have hset := (But.refl (Is z) w).setCell (p := ⟨z, 0, none⟩) rfl (.slice A B.length c)
  have ht := OwnL.take h.ob (m := B.length) (by simp)
  rw [List.take_left] at ht
  have ho : (Value.slice A B.length c).ownBlock = (Value.slice A n c).ownBlock := by cases A <;> rfl
  have hnb := h.nb
  have hnbf := h.nbf
  rw [← ho] at hnb hnbf
  exact ⟨h.blk.set (i := 0) (by simp) _, ht.but hset (fun k hk e => hnb k hk e), h.of_.but hset (fun k hk e => h.nf k hk e), hnb, h.nf, hnbf⟩
def STs (l : List St) : Prop := ∀ (base : Nat) (w : World) (S : Blocks) (z : Nat) (B F : List Str) (vb vf v : Value), Sub S (Upto base) → base ≤ w.heap.size → RdSts w S l v → Wk base w z B F vb vf → St.wts l ≤ 1048576 → B.length + St.wts l ≤ 1073741824 → F.length + St.wts l ≤ 1073741824 →
  Calls Try.prog 55 #[.pointer (some ⟨z, 0, none⟩), v] w fun e w' => (∃ x, e = .returned x) ∧ ∃ vb' vf', Wk base w' z (B ++ bindsL l) (merge F (lfree l B)) vb' vf' ∧ But (WT z vb vf) w w' ∧ New w vb vb' ∧ New w vf vf'
set_option maxHeartbeats 2000000 in
set_option maxRecDepth 100000 in
theorem within_any (l : List St) (hl : STs l) (more : List Str) (base : Nat) (w : World) (S : Blocks) (z : Nat) (B F : List Str) (vb vf v u : Value) (hS : Sub S (Upto base)) (hbs : base ≤ w.heap.size) (r : RdSts w S l v) (hm : FrS w more u) (hw : Wk base w z B F vb vf)
    (h1 : St.wts l ≤ 1048576) (h2 : B.length + more.length + St.wts l ≤ 1073741824) (h3 : F.length + St.wts l ≤ 1073741824) :
    Calls Try.prog 69 #[.pointer (some ⟨z, 0, none⟩), v, u] w fun e w' => (∃ x, e = .returned x) ∧ ∃ vb' vf', Wk base w' z B (merge F (lfree l (B ++ more))) vb' vf' ∧ But (WT z vb vf) w w' ∧ New w vb vb' ∧ New w vf vf' := by
  obtain ⟨i0, hi, hz0, hz1', hz2⟩ := info_parts infoStr
  obtain ⟨A, c, rfl⟩ := hw.ob.form
  obtain ⟨T, hT, rT⟩ := hm
  obtain ⟨A1, c1, rfl, _, _, _⟩ := rT.form
  have HW := Lib.hid hw
  have HR := Lib.hid r
  have HS := Lib.hid hS
  have HL := Lib.hid hl
  have k0 := hw.blk.cell 0 _ rfl
  clear hw r hS hl
  go_enter Try.func69, Try.ntmps69
  go_wp2_with (at_builtin; refine wpList_append_list rfl _ _ 69 rfl i0 _ Try.underlying69 hi hz0 hz1' hz2 rfl (by decide) Flat.keeps HW.out.ob (rT.bare Nowhere) rfl rfl (Sub.nowhere _) (Sub.nowhere _) not_nowhere oneS ?c3 ?c4 ?c5 ?_)
  case c3 => unfold maxLen; omega
  case c4 => omega
  try (case c5 => exact hbs)
  intro v2 w2 ho2 hg2 hn2
  obtain ⟨A2, c2, hv2⟩ := ho2.form
  rw [List.length_append] at hv2
  subst hv2
  obtain ⟨p1, p2, p3⟩ := Wk.pushB HW.out hg2 ho2 (own_cases hn2 (Nat.le_refl _))
  have hOk2 := grown_cell hg2 k0 (fun e => HW.out.nb z e rfl)
  have hOf2 : w2.frozen? ⟨z, 0, none⟩ = false := grown_frozen hg2 (HW.out.blk.fr 0) HW.out.blk.lt (fun e => HW.out.nb z e rfl)
  have P1 := Lib.hid p1
  have P2 := Lib.hid p2
  have P3 := Lib.hid p3
  have RW := Lib.hid (HR.out.keep RdSt.keeps (Sub.refl _) (p2.same (HS.out.trans (Sub.upto hbs)) (fun k hk h => by have := HW.out.ge k h; have := HS.out k hk; unfold Upto at this; omega)))
  have HZ := Lib.hid p2.size
  have HBL := Lib.hid (show (B ++ more).length + St.wts l ≤ 1073741824 by simp; omega)
  clear ho2 hg2 hn2 p1 p2 p3 k0 rT hT
  go_wp2_with fail
  refine (HL.out base _ S z (B ++ more) F _ vf v HS.out (Nat.le_trans hbs HZ.out) RW.out P1.out h1 HBL.out h3).mono ?_
  rintro e w3 ⟨⟨x, rfl⟩, vb3, vf3, q1, q2, q3, q4⟩
  obtain ⟨A3, c3, rfl⟩ := q1.ob.form
  have k0 := q1.blk.cell 0 _ rfl
  have kf := q1.blk.fr 0
  have Q1 := Lib.hid q1
  have Q2 := Lib.hid q2
  have Q3 := Lib.hid q3
  have Q4 := Lib.hid q4
  have hbl : B.length ≤ (B ++ more ++ bindsL l).length := by simp only [List.length_append]; omega
  have hcp := q1.ob.cap_le
  have hcm := hcp.2
  unfold maxLen at hcm
  have hbc : B.length ≤ c3 := by omega
  have hbi : (B.length : Int) ≤ (c3 : Int) := by omega
  have hb0 : (0 : Int) ≤ (B.length : Int) := by omega
  clear hcp hbl
  generalize (B ++ more ++ bindsL l).length = n3 at *
  clear q1 q2 q3 q4 hOk2 hOf2
  go_wp2
  go_end0
  have hcut := Wk.cut (X := more ++ bindsL l) (by rw [← List.append_assoc]; exact Q1.out)
  refine ⟨⟨_, rfl⟩, _, vf3, hcut, (WT.step P2.out Q2.out P3.out (New.refl _ _)).setCell (p := ⟨z, 0, none⟩) (.inl rfl) _, ?_, fun k hk => (Q4.out k hk).imp id (fun h => Nat.le_trans P2.out.size h)⟩
  intro k hk
  exact (P3.out.trans Q3.out P2.out.size) k (by rw [← hk]; cases A3 <;> rfl)
end Go.Proofs.Ytdelngmbpjgphaa
/- The walk of scope's stmts: its round's bundle. -/
namespace Go.Proofs.Ytdelngmbpjgphaa
open Go.RowKit
set_option linter.unusedVariables false
theorem bindsOf_len (s : St) : (bindsOf s).length ≤ 1 := by unfold bindsOf; split <;> simp
theorem St.wt_pos (s : St) : 1 ≤ s.wt := by obtain ⟨k, n, a, b, body, els⟩ := s; simp only [St.wt]; omega
theorem bindsL_len (l : List St) : (bindsL l).length ≤ St.wts l := by
  induction l with
  | nil => simp [bindsL]
  | cons s r ih =>
    have h1 := bindsOf_len s
    have h2 := s.wt_pos
    have h3 : bindsL (s :: r) = bindsOf s ++ bindsL r := rfl
    rw [h3, List.length_append, St.wts]
    omega
theorem oneF_len (s : St) (hl : ∀ (l : List St) (B : List Str), SizeOf.sizeOf l < SizeOf.sizeOf s → (lfree l B).length ≤ St.wts l) (B : List Str) : (oneF s B).length ≤ s.wt := by
  obtain ⟨k, n, a, b, body, els⟩ := s
  have h1 : SizeOf.sizeOf body < SizeOf.sizeOf (St.mk k n a b body els) := by simp; omega
  have h2 : SizeOf.sizeOf els < SizeOf.sizeOf (St.mk k n a b body els) := by simp; omega
  have ha := Nat.le_trans (lnot_len a.names B) a.names_len
  have hb := Nat.le_trans (lnot_len b.names B) b.names_len
  rw [oneF, St.wt]
  split
  · omega
  split
  · have := merge_len (lnot a.names B) (lnot b.names B); omega
  split
  · have := hl body B h1; omega
  split
  · have h3 := merge_len (lnot a.names B) (merge (lfree body B) (lfree els B))
    have h4 := merge_len (lfree body B) (lfree els B)
    have h5 := hl body B h1
    have h6 := hl els B h2
    omega
  split
  · have h3 := merge_len (merge (lnot a.names B) (lnot b.names B)) (lfree body (B ++ [n]))
    have h4 := merge_len (lnot a.names B) (lnot b.names B)
    have h5 := hl body (B ++ [n]) h1
    omega
  · simp
theorem lfree_len' (m : Nat) : ∀ (l : List St), SizeOf.sizeOf l ≤ m → ∀ B, (lfree l B).length ≤ St.wts l := by
  induction m with
  | zero => intro l h; cases l with
    | nil => intro B; rw [lfree]; simp
    | cons s r => simp at h
  | succ m ih =>
    intro l h B
    cases l with
    | nil => rw [lfree]; simp
    | cons s r =>
      rw [lfree, St.wts]
      simp at h
      have h1 := merge_len (oneF s B) (lfree r (B ++ bindsOf s))
      have h2 := oneF_len s (fun l B hl => ih l (by omega) B) B
      have h3 := ih r (by omega) (B ++ bindsOf s)
      omega
theorem lfree_len (l : List St) (B : List Str) : (lfree l B).length ≤ St.wts l := lfree_len' _ l (Nat.le_refl _) B
theorem wts_app (l m : List St) : St.wts (l ++ m) = St.wts l + St.wts m := by
  induction l with
  | nil => simp [St.wts]
  | cons s r ih => rw [List.cons_append, St.wts, St.wts, ih]; omega
theorem wts_take (l : List St) {q : Nat} (hq : q < l.length) : St.wts (l.take q) + l[q].wt ≤ St.wts l := by
  have h : St.wts l = St.wts (l.take (q + 1)) + St.wts (l.drop (q + 1)) := by rw [← wts_app, List.take_append_drop]
  rw [List.take_succ_eq_append_getElem hq, wts_app, St.wts, St.wts] at h
  omega
theorem bindsL_snoc (l : List St) (s : St) : bindsL (l ++ [s]) = bindsL l ++ bindsOf s := by
  unfold bindsL; rw [List.flatMap_append]; simp
theorem RdEx.toE {w : World} {S : Blocks} {e : Ex} {k n : Int} {s : ByteArray} {v : Value} (h : RdEx w S e [.int .i64 k, .int .i64 n, .string s, v]) : RdE w S e (exV k n s v) := by
  obtain ⟨k', n', s', args⟩ := e
  obtain ⟨h1, h2, h3, v', e, h4⟩ := h.open_
  simp only [List.cons.injEq, Value.int.injEq, true_and, Value.string.injEq, and_true] at e
  obtain ⟨rfl, rfl, rfl, rfl⟩ := e
  exact ⟨_, _, _, args, _, rfl, rfl, h1, h2, h3, h4⟩
/-- what a round reads: the statement's own block d, its expressions and its blocks of statements -/
structure Rnd (base : Nat) (S : Blocks) (d : Nat) (cs : List Value) (a b : Ex) (VA VB : Value) (body els : List St) (v1 v2 : Value) (w : World) : Prop where
  bd : Blk base w d cs
  ra : RdE w S a VA
  rb : RdE w S b VB
  r1 : RdSts w S body v1
  r2 : RdSts w S els v2
theorem Rnd.but {base : Nat} {S T : Blocks} {d : Nat} {cs : List Value} {a b : Ex} {VA VB : Value} {body els : List St} {v1 v2 : Value} {w w' : World} (h : Rnd base S d cs a b VA VB body els v1 v2 w) (hb : But T w w') (hT : ∀ k, T k → base ≤ k) (hd : ¬ T d) (hS : Sub S (Upto base)) : Rnd base S d cs a b VA VB body els v1 v2 w' := by
  have hs : Same S w w' := hb.same (hS.trans (Sub.upto (Nat.le_trans h.bd.ge (Nat.le_of_lt h.bd.lt)))) (fun k hk ht => by have := hT k ht; have := hS k hk; unfold Upto at this; omega)
  exact ⟨h.bd.but hb hd, h.ra.keep (Sub.refl _) hs, h.rb.keep (Sub.refl _) hs, h.r1.keep RdSt.keeps (Sub.refl _) hs, h.r2.keep RdSt.keeps (Sub.refl _) hs⟩
structure RW (base : Nat) (S : Blocks) (z d : Nat) (cs : List Value) (a b : Ex) (VA VB : Value) (body els : List St) (v1 v2 : Value) (vb0 vf0 : Value) (W0 : World) (w : World) (B F : List Str) (vb vf : Value) : Prop where
  wk : Wk base w z B F vb vf
  but : But (WT z vb0 vf0) W0 w
  nb : New W0 vb0 vb
  nf : New W0 vf0 vf
  nd : ∀ k, WT z vb vf k → k ≠ d
  rn : Rnd base S d cs a b VA VB body els v1 v2 w
  sS : Sub S (Upto base)
theorem RW.step {base : Nat} {S : Blocks} {z d : Nat} {cs : List Value} {a b : Ex} {VA VB : Value} {body els : List St} {v1 v2 : Value} {vb0 vf0 : Value} {W0 w w2 : World} {B F B2 F2 : List Str} {vb vf vb2 vf2 : Value} (h : RW base S z d cs a b VA VB body els v1 v2 vb0 vf0 W0 w B F vb vf)
    (k1 : Wk base w2 z B2 F2 vb2 vf2) (k2 : But (WT z vb vf) w w2) (k3 : New w vb vb2) (k4 : New w vf vf2) : RW base S z d cs a b VA VB body els v1 v2 vb0 vf0 W0 w2 B2 F2 vb2 vf2 := by
  refine ⟨k1, WT.step h.but k2 h.nb h.nf, h.nb.trans k3 h.but.size, h.nf.trans k4 h.but.size, fun k hk => ?_, h.rn.but k2 h.wk.ge (fun hd => h.nd d hd rfl) h.sS, h.sS⟩
  have hdl := h.rn.bd.lt
  rcases hk with rfl | hk | hk
  · exact h.nd _ (.inl rfl)
  · rcases k3 k hk with e | e
    · exact h.nd _ (.inr (.inl e))
    · omega
  · rcases k4 k hk with e | e
    · exact h.nd _ (.inr (.inr e))
    · omega
theorem RW.alloc {base : Nat} {S : Blocks} {z d : Nat} {cs : List Value} {a b : Ex} {VA VB : Value} {body els : List St} {v1 v2 : Value} {vb0 vf0 : Value} {W0 w w2 : World} {B F : List Str} {vb vf : Value} (h : RW base S z d cs a b VA VB body els v1 v2 vb0 vf0 W0 w B F vb vf) (hb : Below w.heap.size w w2) :
    RW base S z d cs a b VA VB body els v1 v2 vb0 vf0 W0 w2 B F vb vf := h.step (h.wk.below hb) (But.of_below hb) (New.refl _ _) (New.refl _ _)
theorem oneF_let {k : Int} {s : Str} {a b : Ex} {body els : List St} {B : List Str} (h : k = 1 ∨ k = 2) : oneF (.mk k s a b body els) B = lnot a.names B := by rw [oneF, if_pos h]
theorem oneF_store {s : Str} {a b : Ex} {body els : List St} {B : List Str} : oneF (.mk 3 s a b body els) B = merge (lnot a.names B) (lnot b.names B) := by rw [oneF]; simp
theorem oneF_async {k : Int} {s : Str} {a b : Ex} {body els : List St} {B : List Str} (h : k = 4 ∨ k = 5) : oneF (.mk k s a b body els) B = lfree body B := by
  rw [oneF, if_neg (by omega), if_neg (by omega), if_pos h]
theorem oneF_if {s : Str} {a b : Ex} {body els : List St} {B : List Str} : oneF (.mk 6 s a b body els) B = merge (lnot a.names B) (merge (lfree body B) (lfree els B)) := by rw [oneF]; simp
theorem oneF_for {s : Str} {a b : Ex} {body els : List St} {B : List Str} : oneF (.mk 7 s a b body els) B = merge (merge (lnot a.names B) (lnot b.names B)) (lfree body (B ++ [s])) := by rw [oneF]; simp
theorem oneF_other {k : Int} {s : Str} {a b : Ex} {body els : List St} {B : List Str} (h : k < 1 ∨ 7 < k) : oneF (.mk k s a b body els) B = [] := by
  rw [oneF, if_neg (by omega), if_neg (by omega), if_neg (by omega), if_neg (by omega), if_neg (by omega)]
theorem bindsOf_let {k : Int} {s : Str} {a b : Ex} {body els : List St} (h : k = 1 ∨ k = 2) : bindsOf (.mk k s a b body els) = [s] := if_pos (show (St.mk k s a b body els).kind = 1 ∨ (St.mk k s a b body els).kind = 2 from h)
theorem bindsOf_no {k : Int} {s : Str} {a b : Ex} {body els : List St} (h : ¬ (k = 1 ∨ k = 2)) : bindsOf (.mk k s a b body els) = [] := if_neg (show ¬ ((St.mk k s a b body els).kind = 1 ∨ (St.mk k s a b body els).kind = 2) from h)
end Go.Proofs.Ytdelngmbpjgphaa
