/- Expressions turned, plainly; values that read as expressions in whatever blocks. -/
import Derived.Test.YtoijobnpfibboaaDoorTw5
import Derived.Test.YtoijobnpfibboaaDoorBlk
import Derived.Test.YtoijobnpfibboaaDoorScSpec
namespace Go.Proofs.YtoijobnpfibboaaDoor
open Go.RowKit
set_option linter.unusedVariables false
abbrev noS : Str := ⟨#[]⟩
/-- one of the seven, of two -/
def mkE (k : Int) (a b : Ex) : Ex := .mk k 0 noS [a, b]
def numE (n : Int) : Ex := .mk 1 n noS []
def nameE (s : Str) : Ex := .mk 2 0 s []
/-- rebuilt: F of all that has no arguments, G of two -/
def reb (F : Ex → Ex) (G : Int → Ex → Ex → Ex) (t : Ex) : Ex :=
  match h : t.two with
  | some (a, b) => G t.kind (reb F G a) (reb F G b)
  | none => if t.kind = 1 then F (numE t.num) else if t.kind = 2 then F (nameE t.name) else numE 0
termination_by SizeOf.sizeOf t
decreasing_by all_goals (have hs := Ex.two_size h; omega)
theorem reb_two {F : Ex → Ex} {G : Int → Ex → Ex → Ex} {t a b : Ex} (h : t.two = some (a, b)) : reb F G t = G t.kind (reb F G a) (reb F G b) := by
  rw [reb]; split
  · rename_i a' b' h'; rw [h] at h'; simp at h'; obtain ⟨rfl, rfl⟩ := h'; rfl
  · rename_i h'; rw [h] at h'; cases h'
theorem reb_none {F : Ex → Ex} {G : Int → Ex → Ex → Ex} {t : Ex} (h : t.two = none) : reb F G t = if t.kind = 1 then F (numE t.num) else if t.kind = 2 then F (nameE t.name) else numE 0 := by
  rw [reb]; split
  · rename_i a' b' h'; rw [h] at h'; cases h'
  · rfl
/-- what means something alone -/
def clean : Ex → Ex := reb (fun x => x) mkE
def putF (s : Str) (by_ x : Ex) : Ex := if x.kind = 2 ∧ x.name = s then clean by_ else x
def put (s : Str) (by_ : Ex) : Ex → Ex := reb (putF s by_) mkE
def foldG (doF : Int → Int → Int → Int) (k : Int) (a b : Ex) : Ex := if a.kind = 1 ∧ b.kind = 1 then numE (doF k a.num b.num) else mkE k a b
def fold (doF : Int → Int → Int → Int) : Ex → Ex := reb (fun x => x) (foldG doF)
theorem clean_two {t a b : Ex} (h : t.two = some (a, b)) : clean t = mkE t.kind (clean a) (clean b) := reb_two h
theorem clean_none {t : Ex} (h : t.two = none) : clean t = if t.kind = 1 then numE t.num else if t.kind = 2 then nameE t.name else numE 0 := reb_none h
theorem put_two {s : Str} {y t a b : Ex} (h : t.two = some (a, b)) : put s y t = mkE t.kind (put s y a) (put s y b) := reb_two h
theorem put_name {s : Str} {y t : Ex} (h : t.two = none) (hk : t.kind = 2) (hs : t.name = s) : put s y t = clean y := by
  unfold put
  rw [reb_none h, if_neg (by omega), if_pos hk]
  unfold putF
  rw [if_pos ⟨rfl, hs⟩]
theorem put_other {s : Str} {y t : Ex} (h : t.two = none) (hn : ¬ (t.kind = 2 ∧ t.name = s)) : put s y t = clean t := by
  unfold put
  rw [reb_none h, clean_none h]
  by_cases h1 : t.kind = 1
  · rw [if_pos h1, if_pos h1]
    unfold putF
    rw [if_neg (fun h => by have := h.1; simp [numE, Ex.kind] at this)]
  · rw [if_neg h1, if_neg h1]
    by_cases h2 : t.kind = 2
    · rw [if_pos h2, if_pos h2]
      unfold putF
      rw [if_neg (fun h => hn ⟨h2, h.2⟩)]
    · rw [if_neg h2, if_neg h2]
theorem merge_eq_nil {a b : List Str} : merge a b = [] ↔ a = [] ∧ b = [] := by
  constructor
  · intro h
    have h1 := fun x => (mem_merge b a x)
    rw [h] at h1
    simp only [List.not_mem_nil, false_iff, not_or] at h1
    exact ⟨List.eq_nil_iff_forall_not_mem.2 fun x => (h1 x).1, List.eq_nil_iff_forall_not_mem.2 fun x => (h1 x).2⟩
  · rintro ⟨rfl, rfl⟩; rfl
/-- folded: without names a number, else none -/
theorem fold_cases (doF : Int → Int → Int → Int) (worth : Ex → Int) (hw2 : ∀ t a b, t.two = some (a, b) → worth t = doF t.kind (worth a) (worth b)) (hw1 : ∀ t, t.two = none → worth t = if t.kind = 1 then t.num else 0) (t : Ex) :
    (t.names = [] → fold doF t = numE (worth t)) ∧ (t.names ≠ [] → (fold doF t).kind ≠ 1) := by
  refine Ex.ind (motive := fun t => (t.names = [] → fold doF t = numE (worth t)) ∧ (t.names ≠ [] → (fold doF t).kind ≠ 1)) ?_ ?_ t
  · intro t h
    unfold fold
    rw [reb_none h, Ex.names_none h, hw1 t h]
    by_cases h1 : t.kind = 1
    · have h2 : ¬ t.kind = 2 := by omega
      simp [h1]
    · by_cases h2 : t.kind = 2
      · simp only [if_neg h1, if_pos h2]
        exact ⟨fun h => (List.cons_ne_nil _ _ h).elim, fun _ => (show ¬ ((2 : Int) = 1) by decide)⟩
      · simp [h1, h2]
  · intro t a b h ha hb
    have hk := (Ex.two_kind h).1
    unfold fold at ha hb ⊢
    rw [reb_two h, Ex.names_two h, hw2 t a b h]
    constructor
    · intro hn
      obtain ⟨h1, h2⟩ := merge_eq_nil.1 hn
      rw [ha.1 h1, hb.1 h2]
      simp [foldG, numE, Ex.kind, Ex.num]
    · intro hn
      have hor : a.names ≠ [] ∨ b.names ≠ [] := by
        by_cases h1 : a.names = []
        · right; intro h2; exact hn (merge_eq_nil.2 ⟨h1, h2⟩)
        · exact .inl h1
      unfold foldG
      rw [if_neg (fun hh => hor.elim (fun h1 => ha.2 h1 hh.1) (fun h2 => hb.2 h2 hh.2))]
      show ¬ (t.kind = 1)
      omega
theorem fold_two (doF : Int → Int → Int → Int) (worth : Ex → Int) (hw2 : ∀ t a b, t.two = some (a, b) → worth t = doF t.kind (worth a) (worth b)) (hw1 : ∀ t, t.two = none → worth t = if t.kind = 1 then t.num else 0) {t a b : Ex} (h : t.two = some (a, b)) (hn : t.names ≠ []) :
    fold doF t = mkE t.kind (fold doF a) (fold doF b) := by
  have ha := fold_cases doF worth hw2 hw1 a
  have hb := fold_cases doF worth hw2 hw1 b
  rw [Ex.names_two h] at hn
  have hor : a.names ≠ [] ∨ b.names ≠ [] := by
    by_cases h1 : a.names = []
    · right; intro h2; exact hn (merge_eq_nil.2 ⟨h1, h2⟩)
    · exact .inl h1
  have e : fold doF t = foldG doF t.kind (fold doF a) (fold doF b) := reb_two h
  rw [e]
  unfold foldG
  rw [if_neg (fun hh => hor.elim (fun h1 => ha.2 h1 hh.1) (fun h2 => hb.2 h2 hh.2))]
theorem fold_none (doF : Int → Int → Int → Int) {t : Ex} (h : t.two = none) : fold doF t = clean t := by
  unfold fold; rw [reb_none h, clean_none h]

/-- V reads as the expression t, in whatever blocks there are -/
def FrE (w : World) (t : Ex) (V : Value) : Prop := ∃ S, Sub S (Upto w.heap.size) ∧ RdE w S t V
section
variable {w w' : World} {t a b : Ex} {V : Value}
theorem FrE.drew (h : FrE w t V) : FrE w.drew t V := by
  obtain ⟨S, hS, r⟩ := h
  exact ⟨S, hS, r.go (Below.refl _ _).drew hS⟩
theorem FrE.via (hb : Below w.heap.size w w') (h : FrE w t V) : FrE w' t V := by
  obtain ⟨S, hS, r⟩ := h
  exact ⟨S, hS.trans (Sub.upto hb.size), r.go hb hS⟩
theorem FrE.alloc {o : Obj} (h : FrE w t V) : FrE (w.alloc o) t V := h.via ((Below.refl _ _).alloc (Nat.le_refl _) _)
theorem FrE.of {S : Blocks} (h : RdE w S t V) (hS : Sub S (Upto w.heap.size)) : FrE w t V := ⟨S, hS, h⟩
theorem FrE.form (h : FrE w t V) : ∃ A cap, V = .agg #[.int .i64 t.kind, .int .i64 t.num, .string t.name, .slice A t.args.length cap] := by
  obtain ⟨S, hS, k, n, s, args, v, rfl, rfl, _, _, _, h4⟩ := h
  obtain ⟨A, cap, rfl, _⟩ := h4.form
  exact ⟨A, cap, rfl⟩
theorem FrE.nums (h : FrE w t V) : inI t.kind ∧ inI t.num ∧ t.name.size ≤ 140737488355328 := by
  obtain ⟨S, hS, k, n, s, args, v, rfl, rfl, h1, h2, h3, h4⟩ := h
  exact ⟨h1, h2, h3⟩
theorem FrE.leaf (w : World) {k n : Int} {s : Str} (hk : inI k) (hn : inI n) (hs : s.size ≤ 140737488355328) {A : Option Addr} : FrE w (.mk k n s []) (.agg #[.int .i64 k, .int .i64 n, .string s, .slice A 0 0]) :=
  ⟨Nowhere, Sub.nowhere _, k, n, s, [], _, rfl, rfl, hk, hn, hs, RdL.nil (by simp [maxLen])⟩
theorem RdE.form {S : Blocks} (h : RdE w S t V) : ∃ A cap, V = .agg #[.int .i64 t.kind, .int .i64 t.num, .string t.name, .slice A t.args.length cap] := by
  obtain ⟨k, n, s, args, v, rfl, rfl, _, _, _, h4⟩ := h
  obtain ⟨A, cap, rfl, _⟩ := h4.form
  exact ⟨A, cap, rfl⟩
theorem RdE.nums {S : Blocks} (h : RdE w S t V) : inI t.kind ∧ inI t.num ∧ t.name.size ≤ 140737488355328 := by
  obtain ⟨k, n, s, args, v, rfl, rfl, h1, h2, h3, h4⟩ := h
  exact ⟨h1, h2, h3⟩
theorem RdE.leaf (w : World) (S : Blocks) {k n : Int} {s : Str} (hk : inI k) (hn : inI n) (hs : s.size ≤ 140737488355328) {A : Option Addr} : RdE w S (.mk k n s []) (.agg #[.int .i64 k, .int .i64 n, .string s, .slice A 0 0]) :=
  ⟨k, n, s, [], _, rfl, rfl, hk, hn, hs, RdL.nil (by simp [maxLen])⟩
theorem RdE.toX {S : Blocks} {k n : Int} {s : Str} {v : Value} (h : RdE w S t (exV k n s v)) : RdEx w S t [.int .i64 k, .int .i64 n, .string s, v] := by
  obtain ⟨k', n', s', args, v', rfl, e, h1, h2, h3, h4⟩ := h
  injection e with e
  simp only [Array.mk.injEq, List.cons.injEq, Value.int.injEq, true_and, Value.string.injEq, and_true] at e
  obtain ⟨rfl, rfl, rfl, rfl⟩ := e
  exact RdEx.shut h1 h2 h3 h4
/-- two expressions laid side by side in a block -/
theorem RdE.two {S : Blocks} {k : Int} {z : Nat} {k1 n1 k2 n2 : Int} {s1 s2 : Str} {v1 v2 : Value} (hk : inI k) (r1 : RdE w S a (exV k1 n1 s1 v1)) (r2 : RdE w S b (exV k2 n2 s2 v2)) (hz : S z)
    (hc : ∀ (q : Nat) v, [.int .i64 k1, .int .i64 n1, .string s1, v1, .int .i64 k2, .int .i64 n2, .string s2, v2][q]? = some v → w.cell? ⟨z, q, none⟩ = some v) :
    RdE w S (mkE k a b) (.agg #[.int .i64 k, .int .i64 0, .string noS, .slice (some ⟨z, 0, none⟩) 2 2]) := by
  have x1 := r1.toX
  have x2 := r2.toX
  refine ⟨k, 0, noS, [a, b], _, rfl, rfl, hk, by decide, by decide, ?_⟩
  refine ⟨some ⟨z, 0, none⟩, 2, [[.int .i64 k1, .int .i64 n1, .string s1, v1], [.int .i64 k2, .int .i64 n2, .string s2, v2]], rfl, Nat.le_refl _, by simp [maxLen], by simp, rfl, ⟨by simp, fun _ => ⟨z, 0, rfl, hz, fun i cs hi j v hv => ?_⟩⟩, fun i e cs hi hc => ?_⟩
  · match i, hi with
    | 0, hi =>
      simp at hi; subst hi
      have hj : j < 4 := by have := (List.getElem?_eq_some_iff.1 hv).1; simpa using this
      match j, hj, hv with
      | 0, _, hv => simp at hv; subst hv; exact hc 0 _ rfl
      | 1, _, hv => simp at hv; subst hv; exact hc 1 _ rfl
      | 2, _, hv => simp at hv; subst hv; exact hc 2 _ rfl
      | 3, _, hv => simp at hv; subst hv; exact hc 3 _ rfl
    | 1, hi =>
      simp at hi; subst hi
      have hj : j < 4 := by have := (List.getElem?_eq_some_iff.1 hv).1; simpa using this
      match j, hj, hv with
      | 0, _, hv => simp at hv; subst hv; exact hc 4 _ rfl
      | 1, _, hv => simp at hv; subst hv; exact hc 5 _ rfl
      | 2, _, hv => simp at hv; subst hv; exact hc 6 _ rfl
      | 3, _, hv => simp at hv; subst hv; exact hc 7 _ rfl
  · match i, hi, hc with
    | 0, hi, hc => simp at hi hc; subst hi hc; exact x1
    | 1, hi, hc => simp at hi hc; subst hi hc; exact x2
end
end Go.Proofs.YtoijobnpfibboaaDoor
