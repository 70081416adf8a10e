/- Terms, plainly: their leaves, the two places of each leaf, which leaf is ahead of which. -/
import Derived.Test.YtbpooepbnnbipaaData
import Derived.Test.YtbpooepbnnbipaaFlat
import Derived.Test.YtbpooepbnnbipaaAccL
namespace Go.Proofs.Ytbpooepbnnbipaa
set_option linter.unusedVariables false
/-- the two of a term, and whether they are side by side -/
def Tm.two : Tm → Option (Bool × Tm × Tm)
  | .mk k _ _ _ (a :: b :: _) => if k = 2 then some (false, a, b) else if k = 3 then some (true, a, b) else none
  | _ => none
def Tm.kind : Tm → Int | .mk k _ _ _ _ => k
def Tm.acc : Tm → Acc | .mk _ c w l _ => ⟨c, w, l⟩
def Tm.kids : Tm → List Tm | .mk _ _ _ _ l => l
theorem Tm.two_size {t a b : Tm} {p : Bool} (h : t.two = some (p, a, b)) : SizeOf.sizeOf a < SizeOf.sizeOf t ∧ SizeOf.sizeOf b < SizeOf.sizeOf t := by
  match t, h with
  | .mk k c w l (x :: y :: r), h =>
    simp only [Tm.two] at h
    split at h
    · simp only [Option.some.injEq, Prod.mk.injEq] at h
      obtain ⟨_, rfl, rfl⟩ := h
      simp only [Tm.mk.sizeOf_spec, List.cons.sizeOf_spec]
      omega
    · split at h
      · simp only [Option.some.injEq, Prod.mk.injEq] at h
        obtain ⟨_, rfl, rfl⟩ := h
        simp only [Tm.mk.sizeOf_spec, List.cons.sizeOf_spec]
        omega
      · cases h
theorem Tm.two_kind {t a b : Tm} {p : Bool} (h : t.two = some (p, a, b)) : t.kind = (if p then 3 else 2) ∧ ∃ r, t.kids = a :: b :: r := by
  match t, h with
  | .mk k c w l (x :: y :: r), h =>
    simp only [Tm.two] at h
    split at h
    · simp only [Option.some.injEq, Prod.mk.injEq] at h
      obtain ⟨rfl, rfl, rfl⟩ := h
      exact ⟨by assumption, r, rfl⟩
    · split at h
      · simp only [Option.some.injEq, Prod.mk.injEq] at h
        obtain ⟨rfl, rfl, rfl⟩ := h
        exact ⟨by assumption, r, rfl⟩
      · cases h
theorem Tm.two_none {t : Tm} (h : t.two = none) : (t.kind ≠ 2 ∧ t.kind ≠ 3) ∨ t.kids.length < 2 := by
  match t, h with
  | .mk k c w l [], h => exact .inr (by simp [Tm.kids])
  | .mk k c w l [x], h => exact .inr (by simp [Tm.kids])
  | .mk k c w l (x :: y :: r), h =>
    simp only [Tm.two] at h
    split at h
    · cases h
    · split at h
      · cases h
      · exact .inl ⟨by assumption, by assumption⟩
/-- by the two of a term, down to what has none -/
theorem Tm.ind {motive : Tm → Prop} (one : ∀ t, t.two = none → motive t) (two : ∀ t p a b, t.two = some (p, a, b) → motive a → motive b → motive t) (t : Tm) : motive t := by
  match h : t.two with
  | none => exact one t h
  | some (p, a, b) =>
    have hs := Tm.two_size h
    exact two t p a b h (Tm.ind one two a) (Tm.ind one two b)
termination_by SizeOf.sizeOf t
def Tm.leaves (t : Tm) : List Acc :=
  match h : t.two with
  | some (_, a, b) => a.leaves ++ b.leaves
  | none => if t.kind = 1 then [t.acc] else []
termination_by SizeOf.sizeOf t
decreasing_by all_goals (have hs := Tm.two_size h; omega)
theorem Tm.leaves_two {t a b : Tm} {p : Bool} (h : t.two = some (p, a, b)) : t.leaves = a.leaves ++ b.leaves := by
  rw [Tm.leaves]; split <;> simp_all
theorem Tm.leaves_none {t : Tm} (h : t.two = none) : t.leaves = if t.kind = 1 then [t.acc] else [] := by
  rw [Tm.leaves]; split <;> simp_all
def Tm.count (t : Tm) : Nat := t.leaves.length
theorem Tm.count_two {t a b : Tm} {p : Bool} (h : t.two = some (p, a, b)) : t.count = a.count + b.count := by
  unfold Tm.count; rw [Tm.leaves_two h, List.length_append]
theorem Tm.count_none {t : Tm} (h : t.two = none) : t.count = if t.kind = 1 then 1 else 0 := by
  unfold Tm.count; rw [Tm.leaves_none h]; split <;> rfl
/-- the second place of each leaf, from n on -/
def Tm.pos (t : Tm) (n : Nat) : List Nat :=
  match h : t.two with
  | some (p, a, b) => if p then a.pos (n + b.count) ++ b.pos n else a.pos n ++ b.pos (n + a.count)
  | none => if t.kind = 1 then [n] else []
termination_by SizeOf.sizeOf t
decreasing_by all_goals (have hs := Tm.two_size h; omega)
theorem Tm.pos_two {t a b : Tm} {p : Bool} (h : t.two = some (p, a, b)) (n : Nat) : t.pos n = if p then a.pos (n + b.count) ++ b.pos n else a.pos n ++ b.pos (n + a.count) := by
  rw [Tm.pos]; split <;> simp_all
theorem Tm.pos_none {t : Tm} (h : t.two = none) (n : Nat) : t.pos n = if t.kind = 1 then [n] else [] := by
  rw [Tm.pos]; split <;> simp_all
theorem Tm.pos_len (t : Tm) : ∀ n, (t.pos n).length = t.count := by
  induction t using Tm.ind with
  | one t h => intro n; rw [Tm.pos_none h, Tm.count_none h]; split <;> rfl
  | two t p a b h ha hb =>
    intro n
    rw [Tm.pos_two h, Tm.count_two h]
    split <;> rw [List.length_append, ha, hb]
/-- the leaves' numbers in the other order, from n on -/
def Tm.turned (t : Tm) (n : Nat) : List Nat :=
  match h : t.two with
  | some (p, a, b) => if p then b.turned (n + a.count) ++ a.turned n else a.turned n ++ b.turned (n + a.count)
  | none => if t.kind = 1 then [n] else []
termination_by SizeOf.sizeOf t
decreasing_by all_goals (have hs := Tm.two_size h; omega)
theorem Tm.turned_two {t a b : Tm} {p : Bool} (h : t.two = some (p, a, b)) (n : Nat) : t.turned n = if p then b.turned (n + a.count) ++ a.turned n else a.turned n ++ b.turned (n + a.count) := by
  rw [Tm.turned]; split <;> simp_all
theorem Tm.turned_none {t : Tm} (h : t.two = none) (n : Nat) : t.turned n = if t.kind = 1 then [n] else [] := by
  rw [Tm.turned]; split <;> simp_all
theorem Tm.turned_len (t : Tm) : ∀ n, (t.turned n).length = t.count := by
  induction t using Tm.ind with
  | one t h => intro n; rw [Tm.turned_none h, Tm.count_none h]; split <;> rfl
  | two t p a b h ha hb =>
    intro n
    rw [Tm.turned_two h, Tm.count_two h]
    split <;> rw [List.length_append, ha, hb] <;> omega
theorem Tm.pos_bd (t : Tm) : ∀ n (i x : Nat), (t.pos n)[i]? = some x → n ≤ x ∧ x < n + t.count := by
  induction t using Tm.ind with
  | one t h =>
    intro n i x hx
    rw [Tm.pos_none h] at hx
    rw [Tm.count_none h]
    split at hx
    · rename_i hk
      rw [if_pos hk]
      match i, hx with
      | 0, hx => simp at hx; omega
    · simp at hx
  | two t p a b h ha hb =>
    intro n i x hx
    rw [Tm.pos_two h] at hx
    rw [Tm.count_two h]
    split at hx
    · rcases Nat.lt_or_ge i a.count with hi | hi
      · rw [List.getElem?_append_left (by rw [Tm.pos_len]; exact hi)] at hx
        have := ha _ _ _ hx; omega
      · rw [List.getElem?_append_right (by rw [Tm.pos_len]; exact hi)] at hx
        have := hb _ _ _ hx; omega
    · rcases Nat.lt_or_ge i a.count with hi | hi
      · rw [List.getElem?_append_left (by rw [Tm.pos_len]; exact hi)] at hx
        have := ha _ _ _ hx; omega
      · rw [List.getElem?_append_right (by rw [Tm.pos_len]; exact hi)] at hx
        have := hb _ _ _ hx; omega
/-- at its second place in the other order stands each leaf -/
theorem Tm.turned_pos (t : Tm) : ∀ n m (i x : Nat), (t.pos n)[i]? = some x → (t.turned m)[x - n]? = some (m + i) := by
  induction t using Tm.ind with
  | one t h =>
    intro n m i x hx
    rw [Tm.pos_none h] at hx
    rw [Tm.turned_none h]
    split at hx
    · rename_i hk
      rw [if_pos hk]
      match i, hx with
      | 0, hx => simp at hx; subst hx; simp
    · simp at hx
  | two t p a b h ha hb =>
    intro n m i x hx
    have hbd := Tm.pos_bd t n i x hx
    rw [Tm.count_two h] at hbd
    rw [Tm.pos_two h] at hx
    rw [Tm.turned_two h]
    cases p
    · simp only [Bool.false_eq_true, if_false] at hx ⊢
      rcases Nat.lt_or_ge i a.count with hi | hi
      · rw [List.getElem?_append_left (by rw [Tm.pos_len]; exact hi)] at hx
        have h1 := Tm.pos_bd a _ _ _ hx
        rw [List.getElem?_append_left (by rw [Tm.turned_len]; omega)]
        exact ha _ _ _ _ hx
      · rw [List.getElem?_append_right (by rw [Tm.pos_len]; exact hi), Tm.pos_len] at hx
        have h1 := Tm.pos_bd b _ _ _ hx
        rw [List.getElem?_append_right (by rw [Tm.turned_len]; omega), Tm.turned_len]
        have h2 := hb _ (m + a.count) _ _ hx
        rw [show x - (n + a.count) = x - n - a.count by omega] at h2
        rw [h2]; congr 1; omega
    · simp only [if_true] at hx ⊢
      rcases Nat.lt_or_ge i a.count with hi | hi
      · rw [List.getElem?_append_left (by rw [Tm.pos_len]; exact hi)] at hx
        have h1 := Tm.pos_bd a _ _ _ hx
        rw [List.getElem?_append_right (by rw [Tm.turned_len]; omega), Tm.turned_len]
        have h2 := ha _ m _ _ hx
        rw [show x - (n + b.count) = x - n - b.count by omega] at h2
        exact h2
      · rw [List.getElem?_append_right (by rw [Tm.pos_len]; exact hi), Tm.pos_len] at hx
        have h1 := Tm.pos_bd b _ _ _ hx
        rw [List.getElem?_append_left (by rw [Tm.turned_len]; omega)]
        have h2 := hb _ (m + a.count) _ _ hx
        rw [h2]; congr 1; omega
/-- is leaf i ahead of leaf j? -/
def Tm.ahead (t : Tm) (i j : Nat) : Bool :=
  match h : t.two with
  | some (p, a, b) =>
    if i < a.count ∧ j < a.count then a.ahead i j
    else if a.count ≤ i ∧ a.count ≤ j then b.ahead (i - a.count) (j - a.count)
    else !p && decide (i < j)
  | none => false
termination_by SizeOf.sizeOf t
decreasing_by all_goals (have hs := Tm.two_size h; omega)
theorem Tm.ahead_two {t a b : Tm} {p : Bool} (h : t.two = some (p, a, b)) (i j : Nat) : t.ahead i j = if i < a.count ∧ j < a.count then a.ahead i j else if a.count ≤ i ∧ a.count ≤ j then b.ahead (i - a.count) (j - a.count) else !p && decide (i < j) := by
  rw [Tm.ahead]; split <;> simp_all
theorem Tm.ahead_none {t : Tm} (h : t.two = none) (i j : Nat) : t.ahead i j = false := by
  rw [Tm.ahead]; split <;> simp_all
theorem Tm.ahead_pos (t : Tm) : ∀ n (i j x y : Nat), (t.pos n)[i]? = some x → (t.pos n)[j]? = some y → (t.ahead i j = true ↔ i < j ∧ x < y) := by
  induction t using Tm.ind with
  | one t h =>
    intro n i j x y hx hy
    rw [Tm.ahead_none h]
    rw [Tm.pos_none h] at hx hy
    split at hx
    · match i, j, hx, hy with
      | 0, 0, hx, hy => simp
      | 0, j + 1, hx, hy => simp [*] at hy
      | i + 1, _, hx, hy => simp at hx
    · simp at hx
  | two t p a b h ha hb =>
    intro n i j x y hx hy
    rw [Tm.ahead_two h]
    rw [Tm.pos_two h] at hx hy
    have key : ∀ (na nb : Nat), (a.pos na ++ b.pos nb)[i]? = some x → (a.pos na ++ b.pos nb)[j]? = some y → (p = false → na + a.count ≤ nb) → (p = true → nb + b.count ≤ na) →
        ((if i < a.count ∧ j < a.count then a.ahead i j else if a.count ≤ i ∧ a.count ≤ j then b.ahead (i - a.count) (j - a.count) else !p && decide (i < j)) = true ↔ i < j ∧ x < y) := by
      intro na nb hx hy h1 h2
      rcases Nat.lt_or_ge i a.count with hi | hi <;> rcases Nat.lt_or_ge j a.count with hj | hj
      · rw [List.getElem?_append_left (by rw [Tm.pos_len]; exact hi)] at hx
        rw [List.getElem?_append_left (by rw [Tm.pos_len]; exact hj)] at hy
        rw [if_pos ⟨hi, hj⟩]
        exact ha _ _ _ _ _ hx hy
      · rw [List.getElem?_append_left (by rw [Tm.pos_len]; exact hi)] at hx
        rw [List.getElem?_append_right (by rw [Tm.pos_len]; exact hj)] at hy
        have b1 := Tm.pos_bd _ _ _ _ hx
        have b2 := Tm.pos_bd _ _ _ _ hy
        rw [if_neg (by omega), if_neg (by omega)]
        cases p
        · have := h1 rfl; simp; omega
        · have := h2 rfl; simp; omega
      · rw [List.getElem?_append_right (by rw [Tm.pos_len]; exact hi)] at hx
        rw [List.getElem?_append_left (by rw [Tm.pos_len]; exact hj)] at hy
        rw [if_neg (by omega), if_neg (by omega)]
        have : ¬ i < j := by omega
        simp [this]
      · rw [List.getElem?_append_right (by rw [Tm.pos_len]; exact hi), Tm.pos_len] at hx
        rw [List.getElem?_append_right (by rw [Tm.pos_len]; exact hj), Tm.pos_len] at hy
        rw [if_neg (by omega), if_pos ⟨hi, hj⟩]
        rw [hb _ _ _ _ _ hx hy]
        omega
    cases p
    · exact key _ _ hx hy (fun _ => Nat.le_refl _) (fun h => by cases h)
    · exact key _ _ hx hy (fun h => by cases h) (fun _ => Nat.le_refl _)
end Go.Proofs.Ytbpooepbnnbipaa
