/- Printing, plainly: the tokens of a program and whether all is well. -/
import Derived.Test.YtijahadmaggncaaDoorLexSpec
import Derived.Test.YtijahadmaggncaaDoorOpen
import Derived.Test.YtijahadmaggncaaDoorScSpec
import Derived.Lib.ItoaNum
namespace Go.Proofs.YtijahadmaggncaaDoor
open Go.RowKit
set_option linter.unusedVariables false
abbrev bs (l : List UInt8) : Str := ⟨l.toArray⟩
def sgnsL : List Str := [bs [43], bs [45], bs [42], bs [47], bs [37], bs [60], bs [61, 61]]
def sgn (k : Int) : Str := sgnsL[(k - 3).toNat]?.getD (bs [])
def itoaS (n : Int) : Str := ⟨(Lib.itoa n).toArray⟩
def Ex.pair : Ex → Option (Ex × Ex)
  | .mk k _ _ [a, b] => if 3 ≤ k ∧ k ≤ 9 then some (a, b) else none
  | _ => none
theorem Ex.pair_some {t a b : Ex} (h : t.pair = some (a, b)) : (3 ≤ t.kind ∧ t.kind ≤ 9) ∧ t.args = [a, b] := by
  unfold Ex.pair at h
  split at h
  · split at h
    · simp only [Option.some.injEq, Prod.mk.injEq] at h
      obtain ⟨rfl, rfl⟩ := h
      exact ⟨by assumption, rfl⟩
    · cases h
  · cases h
theorem Ex.pair_none {t : Ex} (h : t.pair = none) : (t.kind < 3 ∨ 9 < t.kind) ∨ t.args.length ≠ 2 := by
  obtain ⟨k, n, s, args⟩ := t
  match args, h with
  | [], h => right; simp [Ex.args]
  | [a], h => right; simp [Ex.args]
  | [a, b], h =>
    unfold Ex.pair at h
    left
    simp only at h
    split at h
    · cases h
    · simp only [Ex.kind]; omega
  | a :: b :: c :: r, h => right; simp [Ex.args]
theorem Ex.pair_size {t a b : Ex} (h : t.pair = some (a, b)) : SizeOf.sizeOf a < SizeOf.sizeOf t ∧ SizeOf.sizeOf b < SizeOf.sizeOf t := by
  obtain ⟨k, n, s, args⟩ := t
  have := (Ex.pair_some h).2
  simp only [Ex.args] at this
  subst this
  simp
  omega
theorem Ex.indP {motive : Ex → Prop} (one : ∀ t, t.pair = none → motive t) (two : ∀ t a b, t.pair = some (a, b) → motive a → motive b → motive t) (t : Ex) : motive t := by
  have key : ∀ n (t : Ex), SizeOf.sizeOf t ≤ n → motive t := by
    intro n
    induction n with
    | zero => intro t h; obtain ⟨k, n, s, args⟩ := t; simp at h
    | succ n ih =>
      intro t h
      cases hp : t.pair with
      | none => exact one t hp
      | some x =>
        obtain ⟨a, b⟩ := x
        have hs := Ex.pair_size hp
        exact two t a b hp (ih a (by omega)) (ih b (by omega))
  exact key _ t (Nat.le_refl _)
abbrev Tks := List Str × Bool
def pairT (k : Int) (inner : Bool) (A B : Tks) : Tks := (if inner then [bs [40]] ++ (A.1 ++ [sgn k] ++ B.1) ++ [bs [41]] else A.1 ++ [sgn k] ++ B.1, A.2 && B.2)
/-- what the program prints; neg: what is said of a number below none -/
def tkE (neg : Bool) (t : Ex) (inner : Bool) : Tks :=
  match h : t.pair with
  | some (a, b) => pairT t.kind inner (tkE neg a true) (tkE neg b true)
  | none => if t.kind = 1 then (if 0 ≤ t.num then ([itoaS t.num], true) else (if neg then [itoaS t.num] else [], false)) else if t.kind = 2 then ([t.name], knameB t.name) else ([], false)
termination_by SizeOf.sizeOf t
decreasing_by all_goals (have hs := Ex.pair_size h; omega)
theorem tkE_pair {neg : Bool} {t a b : Ex} (h : t.pair = some (a, b)) (inner : Bool) : tkE neg t inner = pairT t.kind inner (tkE neg a true) (tkE neg b true) := by
  rw [tkE]; split <;> simp_all
theorem tkE_none {neg : Bool} {t : Ex} (h : t.pair = none) (inner : Bool) : tkE neg t inner = if t.kind = 1 then (if 0 ≤ t.num then ([itoaS t.num], true) else (if neg then [itoaS t.num] else [], false)) else if t.kind = 2 then ([t.name], knameB t.name) else ([], false) := by
  rw [tkE]; split <;> simp_all
/-- both say the same of what is well -/
theorem tkE_neg (t : Ex) : ∀ inner, (tkE true t inner).2 = (tkE false t inner).2 ∧ ((tkE false t inner).2 = true → (tkE true t inner).1 = (tkE false t inner).1) := by
  induction t using Ex.indP with
  | one t h =>
    intro inner
    rw [tkE_none h, tkE_none h]
    split
    · split
      · exact ⟨rfl, fun _ => rfl⟩
      · exact ⟨rfl, fun h => by cases h⟩
    · exact ⟨rfl, fun _ => rfl⟩
  | two t a b h iha ihb =>
    intro inner
    rw [tkE_pair h, tkE_pair h]
    unfold pairT
    refine ⟨by simp only [(iha true).1, (ihb true).1], fun ho => ?_⟩
    simp only [Bool.and_eq_true] at ho
    simp only [(iha true).2 ho.1, (ihb true).2 ho.2]
theorem Ex.pair_wt {t a b : Ex} (h : t.pair = some (a, b)) : a.wt + b.wt + 1 ≤ t.wt := by
  obtain ⟨k, n, s, args⟩ := t
  have := (Ex.pair_some h).2
  simp only [Ex.args] at this
  subst this
  simp only [Ex.wt, Ex.wts]
  omega
theorem Ex.wt_pos' (t : Ex) : 1 + t.name.size ≤ t.wt := by obtain ⟨k, n, s, args⟩ := t; simp only [Ex.wt, Ex.name]; omega
/-- how many signs a list of tokens takes, with one for each -/
def tsz (l : List Str) : Nat := (l.map fun s => s.size + 1).sum
theorem tsz_app (a b : List Str) : tsz (a ++ b) = tsz a + tsz b := by simp [tsz]
theorem tsz_len (l : List Str) : l.length ≤ tsz l := by
  induction l with
  | nil => simp
  | cons s r ih => simp [tsz] at ih ⊢; omega
theorem tsz_mem {l : List Str} {s : Str} (h : s ∈ l) : s.size ≤ tsz l := by
  induction l with
  | nil => cases h
  | cons x r ih =>
    rcases List.mem_cons.1 h with rfl | h
    · simp [tsz]; omega
    · have := ih h; simp [tsz] at this ⊢; omega
theorem nDigK : ∀ (k u : Nat), 1 ≤ k → u < 10 ^ k → Lib.nDigits u ≤ k
  | 0, _, h, _ => by omega
  | 1, u, _, h => by rw [Lib.nDigits_small (by simpa using h)]; exact Nat.le_refl _
  | k + 2, u, _, h => by
    by_cases h1 : u < 10
    · rw [Lib.nDigits_small h1]; omega
    · rw [Lib.nDigits_big h1]
      have := nDigK (k + 1) (u / 10) (by omega) (by rw [Nat.pow_succ] at h; omega)
      omega
theorem itoaS_size (n : Int) (h0 : -9223372036854775808 ≤ n) (h1 : n ≤ 9223372036854775807) : (itoaS n).size ≤ 20 := by
  have e : (itoaS n).size = (Lib.itoa n).length := by unfold itoaS; simp [ByteArray.size]
  rw [e]
  unfold Lib.itoa
  split
  · rw [List.length_cons, Lib.decDigits_length]
    have := nDigK 19 n.natAbs (by decide) (by omega)
    omega
  · rw [Lib.decDigits_length]
    have := nDigK 19 n.toNat (by decide) (by omega)
    omega
theorem sgn_size (k : Int) : (sgn k).size ≤ 2 := by
  unfold sgn
  cases h : sgnsL[(k - 3).toNat]? with
  | none => decide
  | some s =>
    have hm := List.mem_of_getElem? h
    have key : ∀ s ∈ sgnsL, s.size ≤ 2 := by decide
    exact key s hm
/-- numbers are those that fit -/
def numsIn : Ex → Prop := fun t => ∀ n, n ≤ 0 → True
def okN (t : Ex) : Prop := -9223372036854775808 ≤ t.num ∧ t.num ≤ 9223372036854775807
theorem tsz_one (s : Str) : tsz [s] = s.size + 1 := by simp [tsz]
theorem pairT_tsz (k : Int) (inner : Bool) (A B : Tks) : tsz (pairT k inner A B).1 ≤ tsz A.1 + tsz B.1 + 7 := by
  have := sgn_size k
  have h1 : (bs [40]).size = 1 := rfl
  have h2 : (bs [41]).size = 1 := rfl
  unfold pairT
  simp only
  split
  · simp only [tsz_app, tsz_one]; omega
  · simp only [tsz_app, tsz_one]; omega
end Go.Proofs.YtijahadmaggncaaDoor
