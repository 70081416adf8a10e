/- Statements with new names, as plain data. -/
import Derived.Test.YtoijobnpfibboaaDoorEt1
import Derived.Test.YtoijobnpfibboaaDoorOpen
import Derived.Lib.ItoaNum
namespace Go.Proofs.YtoijobnpfibboaaDoor
open Go.RowKit
set_option linter.unusedVariables false
/-- the m-th new name -/
def vN (m : Nat) : Str := ⟨(118 :: Lib.itoa (m : Int)).toArray⟩
theorem nDigV : ∀ (k u : Nat), 1 ≤ k → u < 10 ^ k → Lib.nDigits u ≤ k
  | 0, _, h, _ => by omega
  | 1, u, _, h => by rw [Lib.nDigits_small (by simpa using h)]; exact Nat.le_refl _
  | k + 2, u, _, h => by
    by_cases h1 : u < 10
    · rw [Lib.nDigits_small h1]; omega
    · rw [Lib.nDigits_big h1]
      have := nDigV (k + 1) (u / 10) (by omega) (by rw [Nat.pow_succ] at h; omega)
      omega
theorem vN_size (m : Nat) (h : m ≤ 9223372036854775807) : (vN m).size ≤ 30 := by
  have h1 : (vN m).size = (118 :: Lib.itoa (m : Int)).length := by
    unfold vN
    simp [ByteArray.size]
  have h2 : Lib.itoa (m : Int) = Lib.decDigits m := by
    unfold Lib.itoa
    rw [if_neg (by omega), Int.toNat_natCast]
  rw [h1, h2, List.length_cons, Lib.decDigits_length]
  have := nDigV 19 m (by decide) (by omega)
  omega
/-- old names and new ones, the last ones first -/
abbrev Env := List (Str × Str)
def look : Env → Str → Str
  | [], s => s
  | p :: r, s => if p.1 = s then p.2 else look r s
def renF (V : Env) (x : Ex) : Ex := if x.kind = 2 then nameE (look V x.name) else x
def renE (V : Env) : Ex → Ex := reb (renF V) mkE
theorem renE_two {V : Env} {t a b : Ex} (h : t.two = some (a, b)) : renE V t = mkE t.kind (renE V a) (renE V b) := reb_two h
theorem renE_none {V : Env} {t : Ex} (h : t.two = none) : renE V t = if t.kind = 1 then numE t.num else if t.kind = 2 then nameE (look V t.name) else numE 0 := by
  unfold renE
  rw [reb_none h]
  by_cases h1 : t.kind = 1
  · rw [if_pos h1, if_pos h1]
    unfold renF
    rw [if_neg (by simp [numE, Ex.kind])]
  · rw [if_neg h1, if_neg h1]
    by_cases h2 : t.kind = 2
    · rw [if_pos h2, if_pos h2]
      unfold renF
      rw [if_pos (by rfl)]
      rfl
    · rw [if_neg h2, if_neg h2]
theorem look_miss : ∀ {V : Env} {s : Str}, (∀ p ∈ V, p.1 ≠ s) → look V s = s
  | [], _, _ => rfl
  | p :: r, s, h => by
    unfold look
    rw [if_neg (h p (List.mem_cons_self ..))]
    exact look_miss (fun q hq => h q (List.mem_cons_of_mem _ hq))
/-- found at place q from the front, and not ahead of it -/
theorem look_hit : ∀ {V : Env} {s : Str} {q : Nat} (hq : q < V.length), (∀ j, (h : j < q) → (V[j]'(by omega)).1 ≠ s) → V[q].1 = s → look V s = V[q].2
  | [], _, _, hq, _, _ => by simp at hq
  | p :: r, s, 0, _, _, h => by unfold look; rw [if_pos (by simpa using h)]; rfl
  | p :: r, s, q + 1, hq, hn, h => by
    unfold look
    rw [if_neg (by simpa using hn 0 (by omega))]
    exact look_hit (V := r) (q := q) (by simpa using hq) (fun j hj => by simpa using hn (j + 1) (by omega)) (by simpa using h)
theorem look_len (V : Env) (s : Str) (n : Nat) (h : s.size ≤ n) (hv : ∀ p ∈ V, p.2.size ≤ n) : (look V s).size ≤ n := by
  induction V with
  | nil => exact h
  | cons p r ih =>
    unfold look
    split
    · exact hv p (List.mem_cons_self ..)
    · exact ih (fun q hq => hv q (List.mem_cons_of_mem _ hq))
def exZ : Ex := .mk 0 0 noS []
mutual
def renS : St → Env → Nat → St × Env × Nat
  | .mk k s a b body els, V, m =>
    if k = 1 ∨ k = 2 then (.mk k (vN m) (renE V a) exZ [] [], (s, vN m) :: V, m + 1)
    else if k = 3 then (.mk k noS (renE V a) (renE V b) [] [], V, m)
    else if k = 4 ∨ k = 5 then (.mk k noS exZ exZ (renL body V m).1 [], V, (renL body V m).2)
    else if k = 6 then (.mk k noS (renE V a) exZ (renL body V m).1 (renL els V (renL body V m).2).1, V, (renL els V (renL body V m).2).2)
    else if k = 7 then (.mk k (vN m) (renE V a) (renE V b) (renL body ((s, vN m) :: V) (m + 1)).1 [], V, (renL body ((s, vN m) :: V) (m + 1)).2)
    else (.mk k noS exZ exZ [] [], V, m)
def renL : List St → Env → Nat → List St × Nat
  | [], _, m => ([], m)
  | s :: r, V, m => ((renS s V m).1 :: (renL r (renS s V m).2.1 (renS s V m).2.2).1, (renL r (renS s V m).2.1 (renS s V m).2.2).2)
end
/-- what a loop has behind some statements: those told, the names, how many -/
def stepR (x : List St × Env × Nat) (s : St) : List St × Env × Nat := (x.1 ++ [(renS s x.2.1 x.2.2).1], (renS s x.2.1 x.2.2).2.1, (renS s x.2.1 x.2.2).2.2)
def renP (l : List St) (V : Env) (m : Nat) : List St × Env × Nat := l.foldl stepR ([], V, m)
theorem renP_nil (V : Env) (m : Nat) : renP [] V m = ([], V, m) := rfl
theorem renP_snoc (l : List St) (s : St) (V : Env) (m : Nat) : renP (l ++ [s]) V m = stepR (renP l V m) s := by
  unfold renP; rw [List.foldl_append]; rfl
theorem renP_acc : ∀ (l : List St) (out : List St) (V : Env) (m : Nat), ((l.foldl stepR (out, V, m)).1, (l.foldl stepR (out, V, m)).2.2) = (out ++ (renL l V m).1, (renL l V m).2)
  | [], out, V, m => by rw [renL]; simp
  | s :: r, out, V, m => by
    rw [List.foldl_cons, show stepR (out, V, m) s = (out ++ [(renS s V m).1], (renS s V m).2.1, (renS s V m).2.2) from rfl, renP_acc r _ _ _, renL]
    simp
theorem renP_L (l : List St) (V : Env) (m : Nat) : (renP l V m).1 = (renL l V m).1 ∧ (renP l V m).2.2 = (renL l V m).2 := by
  have := renP_acc l [] V m
  rw [List.nil_append, Prod.mk.injEq] at this
  exact this
mutual
theorem renS_le : ∀ (s : St) (V : Env) (m : Nat), m ≤ (renS s V m).2.2 ∧ (renS s V m).2.2 ≤ m + s.wt
  | .mk k s a b body els, V, m => by
    rw [renS, St.wt]
    have h1 := renL_le body V m
    have h2 := renL_le els V (renL body V m).2
    have h3 := renL_le body ((s, vN m) :: V) (m + 1)
    split
    · exact ⟨by simp only; omega, by simp only; omega⟩
    · split
      · exact ⟨by simp only; omega, by simp only; omega⟩
      · split
        · exact ⟨by simp only; omega, by simp only; omega⟩
        · split
          · exact ⟨by simp only; omega, by simp only; omega⟩
          · split
            · exact ⟨by simp only; omega, by simp only; omega⟩
            · exact ⟨by simp only; omega, by simp only; omega⟩
theorem renL_le : ∀ (l : List St) (V : Env) (m : Nat), m ≤ (renL l V m).2 ∧ (renL l V m).2 ≤ m + St.wts l
  | [], V, m => by rw [renL, St.wts]; simp
  | s :: r, V, m => by
    rw [renL, St.wts]
    have h1 := renS_le s V m
    have h2 := renL_le r (renS s V m).2.1 (renS s V m).2.2
    exact ⟨by simp only; omega, by simp only; omega⟩
end
end Go.Proofs.YtoijobnpfibboaaDoor
