/- Are these nodes side by side? as plain lists. -/
import Derived.Test.YthbbecmffndgdabDoorGrSpec4
import Derived.Test.YthbbecmffndgdabDoorGs1
import Derived.Test.YthbbecmffndgdabDoorSetSpec
namespace Go.Proofs.YthbbecmffndgdabDoor
set_option linter.unusedVariables false
/-- the i-th is a node, and unlike all ahead of it, and on no way with one of them -/
def apR (n : Nat) (es : List (Nat × Nat)) (l : List Int) (x : Int) (k : Nat) : Bool := decide (0 ≤ x ∧ x < (n : Int)) && (l.take k).all fun m => decide (m ≠ x) && (!waysE n es m.toNat x.toNat && !waysE n es x.toNat m.toNat)
def apQ (n : Nat) (es : List (Nat × Nat)) (l : List Int) (q : Nat) : Bool := (List.range q).all fun i => apR n es l (l[i]?.getD 0) i
/-- all of l are side by side -/
def apE (n : Nat) (es : List (Nat × Nat)) (l : List Int) : Bool := apQ n es l l.length
def apW (N : Int) (ps : List (Int × Int)) (l : List Int) : Bool := decide (wrongE N ps = 0) && apE N.toNat (natsP ps) l
theorem apW_bad {N : Int} {ps : List (Int × Int)} (h : wrongE N ps ≠ 0) (l : List Int) : apW N ps l = false := by unfold apW; rw [decide_eq_false h]; rfl
theorem apW_ok {N : Int} {ps : List (Int × Int)} (h : wrongE N ps = 0) (l : List Int) : apW N ps l = apE N.toNat (natsP ps) l := by unfold apW; rw [decide_eq_true h]; rfl
theorem apQ_zero (n : Nat) (es : List (Nat × Nat)) (l : List Int) : apQ n es l 0 = true := by simp [apQ]
theorem apQ_succ (n : Nat) (es : List (Nat × Nat)) (l : List Int) (q : Nat) : apQ n es l (q + 1) = (apQ n es l q && apR n es l (l[q]?.getD 0) q) := by
  unfold apQ
  rw [List.range_succ, List.all_append]
  simp
theorem apE_no {n : Nat} {es : List (Nat × Nat)} {l : List Int} {q : Nat} (hq : q < l.length) (h : apR n es l l[q] q = false) : apE n es l = false := by
  unfold apE apQ
  rw [List.all_eq_false]
  refine ⟨q, List.mem_range.2 hq, ?_⟩
  rw [List.getElem?_eq_getElem hq, Option.getD_some, h]
  simp
theorem apQ_get {n : Nat} {es : List (Nat × Nat)} {l : List Int} {q i : Nat} (h : apQ n es l q = true) (hi : i < q) : apR n es l (l[i]?.getD 0) i = true := List.all_eq_true.1 h i (List.mem_range.2 hi)
/-- what the first loop of the program looks at -/
def inR (n : Nat) (l : List Int) (q : Nat) : Prop := ∀ i (h : i < l.length), i < q → 0 ≤ l[i] ∧ l[i] < (n : Int) ∧ (l.take i).contains l[i] = false
theorem inR_zero (n : Nat) (l : List Int) : inR n l 0 := fun i _ h => absurd h (by omega)
theorem inR_succ {n : Nat} {l : List Int} {q : Nat} (h : inR n l q) (hq : q < l.length) (h1 : 0 ≤ l[q]) (h2 : l[q] < (n : Int)) (h3 : (l.take q).contains l[q] = false) : inR n l (q + 1) := by
  intro i hi hlt
  by_cases e : i = q
  · subst e; exact ⟨h1, h2, h3⟩
  · exact h i hi (by omega)
theorem apE_range {n : Nat} {es : List (Nat × Nat)} {l : List Int} {q : Nat} (hq : q < l.length) (h : ¬ (0 ≤ l[q] ∧ l[q] < (n : Int))) : apE n es l = false :=
  apE_no hq (by unfold apR; rw [decide_eq_false h]; rfl)
theorem apE_twice {n : Nat} {es : List (Nat × Nat)} {l : List Int} {q : Nat} (hq : q < l.length) (h : (l.take q).contains l[q] = true) : apE n es l = false :=
  apE_no hq (by
    unfold apR
    rw [Bool.and_eq_false_iff]
    right
    rw [List.all_eq_false]
    exact ⟨l[q], by simpa using h, by simp⟩)
/-- one is behind another one -/
theorem apE_way {n : Nat} {es : List (Nat × Nat)} {l : List Int} (hr : roundE n es = false) (hin : inR n l l.length) {i j : Nat} (hi : i < l.length) (hj : j < l.length) (h : waysE n es l[i].toNat l[j].toNat = true) : apE n es l = false := by
  rcases Nat.lt_trichotomy i j with hij | hij | hij
  · refine apE_no hj ?_
    unfold apR
    rw [Bool.and_eq_false_iff]
    right
    rw [List.all_eq_false]
    refine ⟨l[i], List.mem_take_iff_getElem.2 ⟨i, by omega, rfl⟩, ?_⟩
    rw [h]; simp
  · subst hij
    have h2 := hin i hi hi
    have : roundE n es = true := List.any_eq_true.2 ⟨l[i].toNat, List.mem_range.2 (by omega), h⟩
    rw [hr] at this; cases this
  · refine apE_no hi ?_
    unfold apR
    rw [Bool.and_eq_false_iff]
    right
    rw [List.all_eq_false]
    refine ⟨l[j], List.mem_take_iff_getElem.2 ⟨j, by omega, rfl⟩, ?_⟩
    rw [h]; simp
theorem apE_yes {n : Nat} {es : List (Nat × Nat)} {l : List Int} (hin : inR n l l.length) (h : ∀ i j (hi : i < l.length) (hj : j < l.length), waysE n es l[i].toNat l[j].toNat = false) : apE n es l = true := by
  unfold apE apQ
  rw [List.all_eq_true]
  intro i hi
  have hi := List.mem_range.1 hi
  rw [List.getElem?_eq_getElem hi, Option.getD_some]
  obtain ⟨h1, h2, h3⟩ := hin i hi hi
  unfold apR
  rw [Bool.and_eq_true, decide_eq_true_eq, List.all_eq_true]
  refine ⟨⟨h1, h2⟩, fun m hm => ?_⟩
  obtain ⟨j, hj, e⟩ := List.mem_take_iff_getElem.1 hm
  have hjl : j < l.length := by omega
  have hne : m ≠ l[i] := by
    intro e2
    have : (l.take i).contains l[i] = true := by rw [List.contains_iff_mem, ← e2]; exact hm
    rw [h3] at this; cases this
  subst e
  rw [decide_eq_true hne, h j i hjl hi, h i j hi hjl]
  rfl
theorem of_set : ∀ (l : List Int) (z : List Nat) (P : Nat → Bool), SetIs z P → (∀ x ∈ l, 0 ≤ x ∧ x ≤ 65535) → SetIs (l.foldl addL z) (fun m => P m || l.contains (m : Int))
  | [], z, P, h, _ => h.congr fun m => by simp
  | x :: r, z, P, h, hl => by
    have hx := hl x (by simp)
    obtain ⟨k, hk⟩ : ∃ k : Nat, x = (k : Int) := ⟨x.toNat, by omega⟩
    subst hk
    have e : addL z (k : Int) = orB z k := by unfold addL; rw [if_pos (by unfold inTick; simp; omega)]; rfl
    show SetIs (r.foldl addL (addL z (k : Int))) _
    rw [e]
    refine (of_set r _ _ (h.add k) (fun y hy => hl y (by simp [hy]))).congr fun m => ?_
    rw [Bool.or_assoc]
    congr 1
    rw [Bool.eq_iff_iff]
    simp only [Bool.or_eq_true, decide_eq_true_eq, List.contains_iff_mem, List.mem_cons]
    constructor
    · rintro (h | h)
      · exact .inl (by omega)
      · exact .inr h
    · rintro (h | h)
      · exact .inl (by omega)
      · exact .inr h
theorem of_is {n : Nat} {l : List Int} (hn : n ≤ 200) (hin : inR n l l.length) : SetIs (l.foldl addL []) (fun m => l.contains (m : Int)) :=
  (of_set l [] _ SetIs.nil (fun x hx => by
    obtain ⟨i, hi, rfl⟩ := List.mem_iff_getElem.1 hx
    have := hin i hi hi
    omega)).congr fun m => by simp
end Go.Proofs.YthbbecmffndgdabDoor
