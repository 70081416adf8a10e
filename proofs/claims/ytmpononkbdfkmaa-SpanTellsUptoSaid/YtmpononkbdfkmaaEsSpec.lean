/- How long the longest chain is that ends at each leaf, plainly. -/
import Derived.Test.YtmpononkbdfkmaaSpn1
import Derived.Test.YtmpononkbdfkmaaBf1
namespace Go.Proofs.Ytmpononkbdfkmaa
set_option linter.unusedVariables false
def maxL (l : List Nat) : Nat := l.foldl max 0
theorem foldl_max (l : List Nat) (c : Nat) : l.foldl max c = max c (maxL l) := by
  induction l generalizing c with
  | nil => simp [maxL]
  | cons x r ih => simp only [maxL, List.foldl_cons]; rw [ih, ih (max 0 x)]; omega
theorem maxL_nil : maxL [] = 0 := rfl
theorem maxL_append (l m : List Nat) : maxL (l ++ m) = max (maxL l) (maxL m) := by
  unfold maxL; rw [List.foldl_append, foldl_max m]; rfl
theorem maxL_one (x : Nat) : maxL [x] = x := by simp [maxL]
theorem maxL_le {l : List Nat} {i x : Nat} (h : l[i]? = some x) : x ≤ maxL l := by
  induction l generalizing i with
  | nil => simp at h
  | cons y r ih =>
    have e : maxL (y :: r) = max y (maxL r) := by
      have := maxL_append [y] r; rw [maxL_one] at this; exact this
    rw [e]
    match i, h with
    | 0, h => simp at h; omega
    | i + 1, h => have := ih (i := i) (by simpa using h); omega
theorem maxL_att (l : List Nat) (h : 0 < maxL l) : ∃ i : Nat, l[i]? = some (maxL l) := by
  induction l with
  | nil => simp [maxL] at h
  | cons y r ih =>
    have e : maxL (y :: r) = max y (maxL r) := by
      have := maxL_append [y] r; rw [maxL_one] at this; exact this
    rw [e] at h ⊢
    by_cases c : maxL r ≤ y
    · exact ⟨0, by simp; omega⟩
    · obtain ⟨i, hi⟩ := ih (by omega)
      exact ⟨i + 1, by simp only [List.getElem?_cons_succ]; rw [hi]; congr 1; omega⟩
theorem maxL_map (l : List Nat) (c : Nat) : maxL (l.map (· + c)) = if l = [] then 0 else maxL l + c := by
  induction l with
  | nil => rfl
  | cons y r ih =>
    have e : ∀ (z : Nat) (s : List Nat), maxL (z :: s) = max z (maxL s) := fun z s => by
      have := maxL_append [z] s; rw [maxL_one] at this; exact this
    have hn : ¬ (y :: r = []) := by simp
    rw [List.map_cons, e, ih, e, if_neg hn]
    by_cases hr : r = []
    · subst hr; simp [maxL_nil]
    · rw [if_neg hr]; omega
def Tm.ends (t : Tm) : List Nat :=
  match h : t.two with
  | some (p, a, b) => a.ends ++ (if p then b.ends else b.ends.map (· + a.sumT true))
  | none => if t.kind = 1 then [1] else []
termination_by SizeOf.sizeOf t
decreasing_by all_goals (have hs := Tm.two_size h; omega)
theorem Tm.ends_two {t a b : Tm} {p : Bool} (h : t.two = some (p, a, b)) : t.ends = a.ends ++ (if p then b.ends else b.ends.map (· + a.sumT true)) := by
  rw [Tm.ends]; split <;> simp_all
theorem Tm.ends_none {t : Tm} (h : t.two = none) : t.ends = if t.kind = 1 then [1] else [] := by
  rw [Tm.ends]; split <;> simp_all
theorem Tm.ends_len (t : Tm) : t.ends.length = t.count := by
  induction t using Tm.ind with
  | one t h => rw [Tm.ends_none h, Tm.count_none h]; split <;> rfl
  | two t p a b h ha hb =>
    rw [Tm.ends_two h, Tm.count_two h, List.length_append, ha]
    congr 1
    split
    · exact hb
    · rw [List.length_map]; exact hb
theorem Tm.ends_max (t : Tm) : maxL t.ends = t.sumT true := by
  induction t using Tm.ind with
  | one t h => rw [Tm.ends_none h, Tm.sumT_none h]; split <;> rfl
  | two t p a b h ha hb =>
    rw [Tm.ends_two h, Tm.sumT_two h, maxL_append, ha]
    cases p
    · simp only [Bool.false_eq_true, if_false]
      rw [maxL_map]
      have hf : fold2 (true != false) (a.sumT true) (b.sumT true) = a.sumT true + b.sumT true := rfl
      rw [hf]
      by_cases hbe : b.ends = []
      · rw [if_pos hbe]
        rw [hbe, maxL_nil] at hb
        omega
      · rw [if_neg hbe, hb]; omega
    · simp only [if_true]
      rw [hb]
      rfl
/-- each leaf's is one more than the greatest of those ahead of it -/
def EndsOK (t : Tm) : Prop := ∀ (j x : Nat), t.ends[j]? = some x → 1 ≤ x ∧ (∀ (i y : Nat), i < j → t.ahead i j = true → t.ends[i]? = some y → y + 1 ≤ x) ∧ (x = 1 ∨ ∃ i y : Nat, i < j ∧ t.ahead i j = true ∧ t.ends[i]? = some y ∧ x = y + 1)
theorem Tm.ends_ok (t : Tm) : EndsOK t := by
  induction t using Tm.ind with
  | one t h =>
    intro j x hx
    rw [Tm.ends_none h] at hx
    split at hx
    · match j, hx with
      | 0, hx => simp at hx; exact ⟨by omega, fun i y hi => by omega, .inl hx.symm⟩
    · simp at hx
  | two t p a b h ha hb =>
    intro j x hx
    have hl := Tm.ends_len a
    rw [Tm.ends_two h] at hx
    rcases Nat.lt_or_ge j a.count with hj | hj
    · rw [List.getElem?_append_left (by omega)] at hx
      obtain ⟨h1, h2, h3⟩ := ha j x hx
      have hah : ∀ i, i < j → t.ahead i j = a.ahead i j := fun i hi => by rw [Tm.ahead_two h, if_pos (by omega)]
      refine ⟨h1, fun i y hi hai hy => ?_, ?_⟩
      · rw [Tm.ends_two h, List.getElem?_append_left (by omega)] at hy
        rw [hah i hi] at hai
        exact h2 i y hi hai hy
      · rcases h3 with h3 | ⟨i, y, hi, hai, hy, e⟩
        · exact .inl h3
        · exact .inr ⟨i, y, hi, by rw [hah i hi]; exact hai, by rw [Tm.ends_two h, List.getElem?_append_left (by omega)]; exact hy, e⟩
    · rw [List.getElem?_append_right (by omega), hl] at hx
      have hbi : ∀ i, a.count ≤ i → t.ahead i j = b.ahead (i - a.count) (j - a.count) := fun i hi => by rw [Tm.ahead_two h, if_neg (by omega), if_pos ⟨hi, hj⟩]
      have hai : ∀ i, i < a.count → t.ahead i j = (!p && decide (i < j)) := fun i hi => by rw [Tm.ahead_two h, if_neg (by omega), if_neg (by omega)]
      have hel : ∀ i, i < a.count → t.ends[i]? = a.ends[i]? := fun i hi => by rw [Tm.ends_two h, List.getElem?_append_left (by omega)]
      have her : ∀ i, a.count ≤ i → t.ends[i]? = (if p then b.ends else b.ends.map (· + a.sumT true))[i - a.count]? := fun i hi => by rw [Tm.ends_two h, List.getElem?_append_right (by omega), hl]
      cases p
      · simp only [Bool.false_eq_true, if_false] at hx her
        rw [List.getElem?_map] at hx
        obtain ⟨xb, hxb, rfl⟩ := Option.map_eq_some_iff.1 hx
        obtain ⟨h1, h2, h3⟩ := hb _ xb hxb
        refine ⟨by omega, fun i y hi hahd hy => ?_, ?_⟩
        · rcases Nat.lt_or_ge i a.count with c | c
          · rw [hel i c] at hy
            have := maxL_le hy
            rw [Tm.ends_max] at this
            omega
          · rw [her i c, List.getElem?_map] at hy
            obtain ⟨yb, hyb, rfl⟩ := Option.map_eq_some_iff.1 hy
            rw [hbi i c] at hahd
            have := h2 _ yb (by omega) hahd hyb
            omega
        · rcases h3 with h3 | ⟨i, y, hi, hahd, hy, e⟩
          · subst h3
            by_cases hz : a.sumT true = 0
            · left; omega
            · right
              obtain ⟨i, hi⟩ := maxL_att a.ends (by rw [Tm.ends_max]; omega)
              have hic : i < a.count := by have := (List.getElem?_eq_some_iff.1 hi).1; omega
              exact ⟨i, _, by omega, by rw [hai i hic]; simp; omega, by rw [hel i hic]; exact hi, by rw [Tm.ends_max]; omega⟩
          · right
            have hib : i < b.ends.length := (List.getElem?_eq_some_iff.1 hy).1
            refine ⟨a.count + i, y + a.sumT true, by omega, ?_, ?_, by omega⟩
            · rw [hbi _ (by omega), show a.count + i - a.count = i by omega]; exact hahd
            · rw [her _ (by omega), show a.count + i - a.count = i by omega, List.getElem?_map, hy]; rfl
      · simp only [if_true] at hx her
        obtain ⟨h1, h2, h3⟩ := hb _ x hx
        refine ⟨h1, fun i y hi hahd hy => ?_, ?_⟩
        · rcases Nat.lt_or_ge i a.count with c | c
          · rw [hai i c] at hahd; simp at hahd
          · rw [her i c] at hy
            rw [hbi i c] at hahd
            exact h2 _ y (by omega) hahd hy
        · rcases h3 with h3 | ⟨i, y, hi, hahd, hy, e⟩
          · exact .inl h3
          · right
            refine ⟨a.count + i, y, by omega, ?_, ?_, e⟩
            · rw [hbi _ (by omega), show a.count + i - a.count = i by omega]; exact hahd
            · rw [her _ (by omega), show a.count + i - a.count = i by omega]; exact hy
def Tm.e (t : Tm) (i : Nat) : Nat := (t.ends[i]?).getD 0
theorem Tm.e_get (t : Tm) {i : Nat} (h : i < t.count) : t.ends[i]? = some (t.e i) := by
  unfold Tm.e
  rw [List.getElem?_eq_getElem (by rw [Tm.ends_len]; exact h)]; rfl
/-- the inner loop's number behind i rounds -/
def Tm.dp (t : Tm) (j : Nat) : Nat → Nat
  | 0 => 1
  | i + 1 => if t.ahead i j = true then max (t.dp j i) (t.e i + 1) else t.dp j i
theorem Tm.dp_le (t : Tm) {j : Nat} (hj : j < t.count) : ∀ i, i ≤ j → t.dp j i ≤ t.e j := by
  intro i
  induction i with
  | zero => intro _; exact (Tm.ends_ok t j _ (Tm.e_get t hj)).1
  | succ i ih =>
    intro hi
    have h := ih (by omega)
    simp only [Tm.dp]
    split
    · rename_i ha
      have := (Tm.ends_ok t j _ (Tm.e_get t hj)).2.1 i _ (by omega) ha (Tm.e_get t (by omega))
      omega
    · exact h
theorem Tm.dp_ge (t : Tm) (j : Nat) : ∀ i i', i' < i → t.ahead i' j = true → t.e i' + 1 ≤ t.dp j i := by
  intro i
  induction i with
  | zero => intro i' h; omega
  | succ i ih =>
    intro i' hi ha
    simp only [Tm.dp]
    by_cases e : i' = i
    · subst e; rw [if_pos ha]; omega
    · have := ih i' (by omega) ha
      split <;> omega
theorem Tm.dp_one (t : Tm) (j i : Nat) : 1 ≤ t.dp j i := by
  induction i with
  | zero => exact Nat.le_refl _
  | succ i ih => simp only [Tm.dp]; split <;> omega
theorem Tm.dp_eq (t : Tm) {j : Nat} (hj : j < t.count) : t.dp j j = t.e j := by
  have h1 := Tm.dp_le t hj j (Nat.le_refl _)
  have h0 := Tm.dp_one t j j
  rcases (Tm.ends_ok t j _ (Tm.e_get t hj)).2.2 with h | ⟨i, y, hi, ha, hy, e⟩
  · omega
  · have h2 := Tm.dp_ge t j j i hi ha
    have : t.e i = y := by unfold Tm.e; rw [hy]; rfl
    omega
theorem Tm.e_le (t : Tm) {i : Nat} (h : i < t.count) : t.e i ≤ t.count := by
  have h1 := maxL_le (Tm.e_get t h)
  rw [Tm.ends_max] at h1
  exact Nat.le_trans h1 (Tm.sumT_le true t)
end Go.Proofs.Ytmpononkbdfkmaa
