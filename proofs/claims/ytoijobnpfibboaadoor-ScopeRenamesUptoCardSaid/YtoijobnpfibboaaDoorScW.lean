/- Statements: weights; what a round reads; a row of one's own, cut. -/
import Derived.Test.YtoijobnpfibboaaDoorTw5
import Derived.Test.YtoijobnpfibboaaDoorBlk
import Derived.Test.YtoijobnpfibboaaDoorBut
import Derived.Test.YtoijobnpfibboaaDoorOpen
namespace Go.Proofs.YtoijobnpfibboaaDoor
open Go.RowKit
set_option linter.unusedVariables false
theorem OwnL.take {α : Type} {rd : World → Blocks → α → List Value → Prop} {size : Nat} {E : TypeId} {w : World} {base : Nat} {S : Blocks} {l : List α} {A : Option Addr} {n c m : Nat} (h : OwnL rd size E w base S l (.slice A n c)) (hm : m ≤ l.length) : OwnL rd size E w base S (l.take m) (.slice A m c) := by
  obtain ⟨T, css, t1, t2, t3, h1, h2, h3, h4⟩ := h
  have hl : (l.take m).length = m := by simp; omega
  have hfl : ∀ (css : List (List Value)), (∀ cs ∈ css, cs.length = size) → ∀ m, (css.take m).flatten = css.flatten.take (m * size) := by
    intro css
    induction css with
    | nil => intro _ m; simp
    | cons x r ih =>
      intro hs m
      cases m with
      | zero => simp
      | succ m =>
        have hx : x.length = size := hs x (by simp)
        rw [List.take_succ_cons, List.flatten_cons, List.flatten_cons, ih (fun cs h => hs cs (by simp [h]))]
        rw [show (m + 1) * size = x.length + m * size by rw [hx, Nat.succ_mul]; omega, List.take_length_add_append]
  have hcl : (css.take m).flatten.length = m * size := by
    have : ∀ (css : List (List Value)), (∀ cs ∈ css, cs.length = size) → css.flatten.length = css.length * size := by
      intro css
      induction css with
      | nil => intro _; simp
      | cons x r ih => intro hs; rw [List.flatten_cons, List.length_append, ih (fun cs h => hs cs (by simp [h])), hs x (by simp), List.length_cons, Nat.succ_mul]; omega
    rw [this _ (fun cs h => h2 cs (List.mem_of_mem_take h)), List.length_take, Nat.min_eq_left (by rw [h1]; exact hm)]
  refine ⟨T, css.take m, t1, t2, (by cases A <;> exact t3), by simp [h1], fun cs h => h2 cs (List.mem_of_mem_take h), ?_, fun i e cs hi hc => ?_⟩
  · rw [hl]
    obtain ⟨e, h3⟩ := h3
    refine ⟨hcl, ?_⟩
    rcases h3 with ⟨hv, h0⟩ | ⟨g, cap, cur, hv, hbg, hg, hn, hcap, hsz, htake⟩
    · injection hv with e1 e2 e3
      subst e1 e3
      left
      have : m = 0 := by omega
      subst this
      exact ⟨rfl, rfl⟩
    · injection hv with e1 e2 e3
      subst e1 e3
      refine .inr ⟨g, c, cur, rfl, hbg, hg, by omega, hcap, hsz, ?_⟩
      rw [hfl css h2 m, ← htake, List.take_take, Nat.min_eq_left (Nat.mul_le_mul_right _ hm)]
  · rw [List.getElem?_take] at hi hc
    split at hi
    · rename_i hlt
      rw [if_pos hlt] at hc
      exact h4 i e cs hi hc
    · cases hi
theorem OwnL.cap_le {α : Type} {rd : World → Blocks → α → List Value → Prop} {size : Nat} {E : TypeId} {w : World} {base : Nat} {S : Blocks} {l : List α} {A : Option Addr} {n c : Nat} (h : OwnL rd size E w base S l (.slice A n c)) : l.length ≤ c ∧ c ≤ maxLen := by
  obtain ⟨T, css, _, _, _, h1, h2, h3, h4⟩ := h
  rcases h3.2 with ⟨hv, h0⟩ | ⟨g, cap, cur, hv, hbg, hg, hn, hcap, hsz, htake⟩
  · injection hv with e1 e2 e3
    subst e3
    exact ⟨by omega, by simp [maxLen]⟩
  · injection hv with e1 e2 e3
    subst e3
    exact ⟨hn, hcap⟩
theorem St.wt_pos (s : St) : 1 ≤ s.wt := by obtain ⟨k, n, a, b, body, els⟩ := s; simp only [St.wt]; omega
theorem wts_app (l m : List St) : St.wts (l ++ m) = St.wts l + St.wts m := by
  induction l with
  | nil => simp [St.wts]
  | cons s r ih => rw [List.cons_append, St.wts, St.wts, ih]; omega
theorem wts_take (l : List St) {q : Nat} (hq : q < l.length) : St.wts (l.take q) + l[q].wt ≤ St.wts l := by
  have h : St.wts l = St.wts (l.take (q + 1)) + St.wts (l.drop (q + 1)) := by rw [← wts_app, List.take_append_drop]
  rw [List.take_succ_eq_append_getElem hq, wts_app, St.wts, St.wts] at h
  omega
theorem RdEx.toE {w : World} {S : Blocks} {e : Ex} {k n : Int} {s : ByteArray} {v : Value} (h : RdEx w S e [.int .i64 k, .int .i64 n, .string s, v]) : RdE w S e (exV k n s v) := by
  obtain ⟨k', n', s', args⟩ := e
  obtain ⟨h1, h2, h3, v', e, h4⟩ := h.open_
  simp only [List.cons.injEq, Value.int.injEq, true_and, Value.string.injEq, and_true] at e
  obtain ⟨rfl, rfl, rfl, rfl⟩ := e
  exact ⟨_, _, _, args, _, rfl, rfl, h1, h2, h3, h4⟩
/-- what a round reads: the statement's own block d, its expressions and its blocks of statements -/
structure Rnd (base : Nat) (S : Blocks) (d : Nat) (cs : List Value) (a b : Ex) (VA VB : Value) (body els : List St) (v1 v2 : Value) (w : World) : Prop where
  bd : Blk base w d cs
  ra : RdE w S a VA
  rb : RdE w S b VB
  r1 : RdSts w S body v1
  r2 : RdSts w S els v2
theorem Rnd.but {base : Nat} {S T : Blocks} {d : Nat} {cs : List Value} {a b : Ex} {VA VB : Value} {body els : List St} {v1 v2 : Value} {w w' : World} (h : Rnd base S d cs a b VA VB body els v1 v2 w) (hb : But T w w') (hT : ∀ k, T k → base ≤ k) (hd : ¬ T d) (hS : Sub S (Upto base)) : Rnd base S d cs a b VA VB body els v1 v2 w' := by
  have hs : Same S w w' := hb.same (hS.trans (Sub.upto (Nat.le_trans h.bd.ge (Nat.le_of_lt h.bd.lt)))) (fun k hk ht => by have := hT k ht; have := hS k hk; unfold Upto at this; omega)
  exact ⟨h.bd.but hb hd, h.ra.keep (Sub.refl _) hs, h.rb.keep (Sub.refl _) hs, h.r1.keep RdSt.keeps (Sub.refl _) hs, h.r2.keep RdSt.keeps (Sub.refl _) hs⟩
end Go.Proofs.YtoijobnpfibboaaDoor
