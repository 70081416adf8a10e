/- How long the longest way to a node is: by the order of taking, and by going round again and again; chains. -/
import Derived.Test.YthbbecmffndgdabDoorGrSpec4
namespace Go.Proofs.YthbbecmffndgdabDoor
set_option linter.unusedVariables false
/-- the greatest f a + 1 over the edges from D to m -/
def topE (es : List (Nat × Nat)) (D : Nat → Bool) (f : Nat → Nat) (m : Nat) : Nat := es.foldl (fun acc e => if e.2 = m ∧ D e.1 = true then max acc (f e.1 + 1) else acc) 0
theorem top_fold {D : Nat → Bool} {f : Nat → Nat} {m : Nat} : ∀ (es : List (Nat × Nat)) (z : Nat), z ≤ es.foldl (fun acc e => if e.2 = m ∧ D e.1 = true then max acc (f e.1 + 1) else acc) z ∧
    (∀ a, (a, m) ∈ es → D a = true → f a + 1 ≤ es.foldl (fun acc e => if e.2 = m ∧ D e.1 = true then max acc (f e.1 + 1) else acc) z) ∧
    (∀ B, z ≤ B → (∀ a, (a, m) ∈ es → D a = true → f a + 1 ≤ B) → es.foldl (fun acc e => if e.2 = m ∧ D e.1 = true then max acc (f e.1 + 1) else acc) z ≤ B)
  | [], z => ⟨Nat.le_refl _, by simp, fun B h _ => h⟩
  | e :: r, z => by
    simp only [List.foldl_cons]
    by_cases hc : e.2 = m ∧ D e.1 = true
    · rw [if_pos hc]
      obtain ⟨h1, h2, h3⟩ := top_fold (D := D) (f := f) (m := m) r (max z (f e.1 + 1))
      refine ⟨by omega, fun a ha hD => ?_, fun B hz hB => h3 B (by have := hB e.1 (by obtain ⟨h, _⟩ := hc; subst h; simp) hc.2; omega) (fun a ha hD => hB a (by simp [ha]) hD)⟩
      rcases List.mem_cons.1 ha with h | h
      · subst h; exact Nat.le_trans (Nat.le_max_right _ _) h1
      · exact h2 a h hD
    · rw [if_neg hc]
      obtain ⟨h1, h2, h3⟩ := top_fold (D := D) (f := f) (m := m) r z
      refine ⟨h1, fun a ha hD => ?_, fun B hz hB => h3 B hz (fun a ha hD => hB a (by simp [ha]) hD)⟩
      rcases List.mem_cons.1 ha with h | h
      · subst h; exact absurd ⟨rfl, hD⟩ hc
      · exact h2 a h hD
theorem topE_ge {es : List (Nat × Nat)} {D : Nat → Bool} {f : Nat → Nat} {m a : Nat} (h : (a, m) ∈ es) (hD : D a = true) : f a + 1 ≤ topE es D f m := (top_fold es 0).2.1 a h hD
theorem topE_le {es : List (Nat × Nat)} {D : Nat → Bool} {f : Nat → Nat} {m B : Nat} (h : ∀ a, (a, m) ∈ es → D a = true → f a + 1 ≤ B) : topE es D f m ≤ B := (top_fold es 0).2.2 B (Nat.zero_le _) h
theorem topE_congr {es : List (Nat × Nat)} {D : Nat → Bool} {f g : Nat → Nat} {m : Nat} (h : ∀ a, (a, m) ∈ es → D a = true → f a = g a) : topE es D f m = topE es D g m :=
  Nat.le_antisymm (topE_le fun a ha hD => by rw [h a ha hD]; exact topE_ge ha hD) (topE_le fun a ha hD => by rw [← h a ha hD]; exact topE_ge ha hD)
def allD : Nat → Bool := fun _ => true
def levF (es : List (Nat × Nat)) : Nat → Nat → Nat
  | 0, _ => 0
  | d + 1, m => topE es allD (levF es d) m
theorem levF_le (es : List (Nat × Nat)) : ∀ d m, levF es d m ≤ d
  | 0, _ => Nat.le_refl _
  | d + 1, m => topE_le fun a _ _ => by have := levF_le es d a; omega
/-- how long the longest way to m is -/
def levE (N : Nat) (es : List (Nat × Nat)) (m : Nat) : Nat := levF es N m
theorem levE_le (N : Nat) (es : List (Nat × Nat)) (m : Nat) : levE N es m ≤ N := levF_le es N m
section
variable {N : Nat} {es : List (Nat × Nat)}
theorem lev_stable {r : Nat → Nat} (hr : ∀ a b, (a, b) ∈ es → r a < r b) : ∀ (k m : Nat), r m ≤ k → ∀ d, r m ≤ d → levF es d m = levF es k m := by
  intro k
  induction k with
  | zero =>
    intro m hm d hd
    cases d with
    | zero => rfl
    | succ d =>
      show topE es allD (levF es d) m = 0
      exact Nat.le_zero.1 (topE_le fun a ha _ => by have := hr a m ha; omega)
  | succ k ih =>
    intro m hm d hd
    cases d with
    | zero =>
      show 0 = topE es allD (levF es k) m
      exact (Nat.le_zero.1 (topE_le fun a ha _ => by have := hr a m ha; omega)).symm
    | succ d =>
      show topE es allD (levF es d) m = topE es allD (levF es k) m
      exact topE_congr fun a ha _ => ih a (by have := hr a m ha; omega) d (by have := hr a m ha; omega)
theorem lev_rank (hl : (takeG N es).length = N) (hv : ∀ a b, (a, b) ∈ es → a < N ∧ b < N) : ∀ a b, (a, b) ∈ es → (takeG N es).idxOf a < (takeG N es).idxOf b := fun a b h =>
  (takeG_end N es).1.rank ((takeG_end N es).1.full hl (hv a b h).2) h
/-- the level by the levels ahead -/
theorem levE_eq (hl : (takeG N es).length = N) (hv : ∀ a b, (a, b) ∈ es → a < N ∧ b < N) {m : Nat} (hm : m < N) : levE N es m = topE es allD (levE N es) m := by
  have hr := lev_rank hl hv
  have hi : (takeG N es).idxOf m < N := by have := List.idxOf_lt_length_of_mem ((takeG_end N es).1.full hl hm); omega
  obtain ⟨k, hk⟩ : ∃ k, N = k + 1 := ⟨N - 1, by omega⟩
  have e : levE N es m = levF es (k + 1) m := by unfold levE; rw [← hk]
  rw [e]
  show topE es allD (levF es k) m = _
  refine topE_congr fun a ha _ => ?_
  have h1 := hr a m ha
  unfold levE
  exact lev_stable hr N a (by omega) k (by omega) |>.trans rfl
theorem levE_edge (hl : (takeG N es).length = N) (hv : ∀ a b, (a, b) ∈ es → a < N ∧ b < N) {a b : Nat} (h : (a, b) ∈ es) : levE N es a + 1 ≤ levE N es b := by
  rw [levE_eq hl hv (hv a b h).2]
  exact topE_ge h rfl
/-- what the program has: behind q nodes of the order, and k edges of the next one -/
def partL (N : Nat) (es : List (Nat × Nat)) (q : Nat) (m : Nat) : Nat := topE es (fun a => decide (a ∈ (takeG N es).take q)) (levE N es) m
def midL (N : Nat) (es : List (Nat × Nat)) (q x k : Nat) (m : Nat) : Nat := if m ∈ (nxE es x).take k then max (partL N es q m) (levE N es x + 1) else partL N es q m
theorem partL_zero (N : Nat) (es : List (Nat × Nat)) (m : Nat) : partL N es 0 m = 0 := Nat.le_zero.1 (topE_le fun a _ h => by simp at h)
theorem partL_all (hl : (takeG N es).length = N) (hv : ∀ a b, (a, b) ∈ es → a < N ∧ b < N) {m : Nat} (hm : m < N) : partL N es N m = levE N es m := by
  rw [levE_eq hl hv hm]
  unfold partL
  refine Nat.le_antisymm (topE_le fun a ha _ => topE_ge ha rfl) (topE_le fun a ha _ => topE_ge ha ?_)
  rw [decide_eq_true_eq, List.take_of_length_le (by omega)]
  exact (takeG_end N es).1.full hl (hv a m ha).1
theorem midL_zero (N : Nat) (es : List (Nat × Nat)) (q x m : Nat) : midL N es q x 0 m = partL N es q m := by simp [midL]
theorem take_pre (hl : (takeG N es).length = N) {q : Nat} (hq : q < (takeG N es).length) {a : Nat} (he : (a, (takeG N es)[q]) ∈ es) : a ∈ (takeG N es).take q :=
  (takeG_end N es).1.bef q _ (List.getElem?_eq_getElem hq) a he
/-- the node's own level is known when it is its turn -/
theorem partL_own (hl : (takeG N es).length = N) (hv : ∀ a b, (a, b) ∈ es → a < N ∧ b < N) {q : Nat} (hq : q < (takeG N es).length) : partL N es q (takeG N es)[q] = levE N es (takeG N es)[q] := by
  rw [levE_eq hl hv ((takeG_end N es).1.lt _ (List.getElem_mem hq))]
  unfold partL
  exact Nat.le_antisymm (topE_le fun a ha _ => topE_ge ha rfl) (topE_le fun a ha _ => topE_ge ha (by rw [decide_eq_true_eq]; exact take_pre hl hq ha))
theorem no_self (hl : (takeG N es).length = N) (hv : ∀ a b, (a, b) ∈ es → a < N ∧ b < N) (x : Nat) : x ∉ nxE es x := fun h => by
  have := lev_rank hl hv x x (nxE_mem.1 h)
  omega
theorem midL_own (hl : (takeG N es).length = N) (hv : ∀ a b, (a, b) ∈ es → a < N ∧ b < N) {q : Nat} (hq : q < (takeG N es).length) (k : Nat) : midL N es q (takeG N es)[q] k (takeG N es)[q] = levE N es (takeG N es)[q] := by
  unfold midL
  rw [if_neg (fun h => no_self hl hv _ (List.mem_of_mem_take h))]
  exact partL_own hl hv hq
theorem midL_succ {q x k : Nat} (h : k < (nxE es x).length) (m : Nat) : midL N es q x (k + 1) m = if m = (nxE es x)[k] then max (midL N es q x k m) (levE N es x + 1) else midL N es q x k m := by
  unfold midL
  rw [List.take_succ_eq_append_getElem h]
  simp only [List.mem_append, List.mem_singleton]
  by_cases e : m = (nxE es x)[k]
  · rw [if_pos (.inr e), if_pos e]
    by_cases h2 : m ∈ (nxE es x).take k
    · rw [if_pos h2]; omega
    · rw [if_neg h2]
  · rw [if_neg e]
    by_cases h2 : m ∈ (nxE es x).take k
    · rw [if_pos (.inl h2), if_pos h2]
    · rw [if_neg (fun h => h.elim h2 e), if_neg h2]
theorem midL_all {q : Nat} (hq : q < (takeG N es).length) (m : Nat) : midL N es q (takeG N es)[q] (nxE es (takeG N es)[q]).length m = partL N es (q + 1) m := by
  have ht : (takeG N es).take (q + 1) = (takeG N es).take q ++ [(takeG N es)[q]] := List.take_succ_eq_append_getElem hq
  have hD : ∀ a, a ∈ (takeG N es).take (q + 1) ↔ (a ∈ (takeG N es).take q ∨ a = (takeG N es)[q]) := fun a => by rw [ht, List.mem_append, List.mem_singleton]
  generalize (takeG N es)[q] = x at hD ⊢
  unfold midL
  rw [List.take_length]
  unfold partL
  by_cases h : m ∈ nxE es x
  · rw [if_pos h]
    refine Nat.le_antisymm ?_ (topE_le fun a ha hDa => ?_)
    · apply Nat.max_le.2
      refine ⟨topE_le fun a ha hDa => topE_ge ha ?_, topE_ge (nxE_mem.1 h) ?_⟩
      · rw [decide_eq_true_eq] at hDa ⊢; exact (hD a).2 (.inl hDa)
      · rw [decide_eq_true_eq]; exact (hD x).2 (.inr rfl)
    · rw [decide_eq_true_eq] at hDa
      rcases (hD a).1 hDa with h2 | h2
      · have := topE_ge (D := fun a => decide (a ∈ (takeG N es).take q)) (f := levE N es) ha (by rw [decide_eq_true_eq]; exact h2)
        omega
      · subst h2; omega
  · rw [if_neg h]
    refine Nat.le_antisymm (topE_le fun a ha hDa => topE_ge ha ?_) (topE_le fun a ha hDa => ?_)
    · rw [decide_eq_true_eq] at hDa ⊢; exact (hD a).2 (.inl hDa)
    · rw [decide_eq_true_eq] at hDa
      rcases (hD a).1 hDa with h2 | h2
      · exact topE_ge ha (by rw [decide_eq_true_eq]; exact h2)
      · subst h2; exact absurd (nxE_mem.2 ha) h
/-- what the reference has: behind r rounds and q edges of the next -/
def RndL (N : Nat) (es : List (Nat × Nat)) (r q : Nat) (A : Nat → Nat) : Prop := (∀ m, m < N → A m ≤ levE N es m) ∧ (∀ m, m < N → levF es r m ≤ A m) ∧ (∀ a b, (a, b) ∈ es.take q → levF es r a + 1 ≤ A b)
theorem rnd_zero (N : Nat) (es : List (Nat × Nat)) : RndL N es 0 0 (fun _ => 0) := ⟨fun _ _ => Nat.zero_le _, fun _ _ => Nat.le_refl _, fun a b h => by simp at h⟩
theorem rnd_step (hl : (takeG N es).length = N) (hv : ∀ a b, (a, b) ∈ es → a < N ∧ b < N) {r q a b : Nat} {A A' : Nat → Nat} (h : RndL N es r q A) (hq : es.take (q + 1) = es.take q ++ [(a, b)]) (he : (a, b) ∈ es)
    (h1 : A' b = max (A b) (A a + 1)) (h2 : ∀ m, m ≠ b → A' m = A m) : RndL N es r (q + 1) A' := by
  have hab := hv a b he
  have mono : ∀ m, A m ≤ A' m := fun m => by
    by_cases e : m = b
    · subst e; omega
    · rw [h2 m e]; exact Nat.le_refl _
  refine ⟨fun m hm => ?_, fun m hm => Nat.le_trans (h.2.1 m hm) (mono m), fun x y hxy => ?_⟩
  · by_cases e : m = b
    · subst e
      have i1 := h.1 m hm
      have i2 := h.1 a hab.1
      have i3 := levE_edge hl hv he
      omega
    · rw [h2 m e]; exact h.1 m hm
  · rw [hq, List.mem_append, List.mem_singleton] at hxy
    rcases hxy with hxy | hxy
    · exact Nat.le_trans (h.2.2 x y hxy) (mono y)
    · injection hxy with e1 e2
      subst e1 e2
      have := h.2.1 x hab.1
      omega
theorem rnd_next {r : Nat} {A : Nat → Nat} (h : RndL N es r es.length A) : RndL N es (r + 1) 0 A := by
  refine ⟨h.1, fun m hm => topE_le fun a ha _ => h.2.2 a m (by rw [List.take_length]; exact ha), fun a b h => by simp at h⟩
theorem rnd_end {A : Nat → Nat} (h : RndL N es N 0 A) {m : Nat} (hm : m < N) : A m = levE N es m := Nat.le_antisymm (h.1 m hm) (h.2.1 m hm)
/-- how many levels -/
def hgtE (N : Nat) (es : List (Nat × Nat)) : Nat → Nat
  | 0 => 0
  | k + 1 => max (hgtE N es k) (levE N es k + 1)
theorem hgt_ge : ∀ {k m : Nat}, m < k → levE N es m + 1 ≤ hgtE N es k
  | k + 1, m, h => by
    unfold hgtE
    by_cases e : m = k
    · subst e; omega
    · have := hgt_ge (k := k) (m := m) (by omega); omega
theorem hgt_at : ∀ {k : Nat}, 0 < k → ∃ m, m < k ∧ levE N es m + 1 = hgtE N es k
  | k + 1, _ => by
    unfold hgtE
    by_cases e : hgtE N es k ≤ levE N es k + 1
    · exact ⟨k, by omega, by omega⟩
    · cases k with
      | zero => unfold hgtE at e; omega
      | succ k =>
        obtain ⟨m, h1, h2⟩ := hgt_at (k := k + 1) (by omega)
        exact ⟨m, by omega, by omega⟩
end
end Go.Proofs.YthbbecmffndgdabDoor
