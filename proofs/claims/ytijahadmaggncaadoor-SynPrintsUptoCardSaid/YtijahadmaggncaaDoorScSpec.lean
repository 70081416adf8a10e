/- Free names and labels of lists of statements, as plain data. -/
import Derived.Test.YtijahadmaggncaaDoorData
import Derived.Test.YtijahadmaggncaaDoorTwo
namespace Go.Proofs.YtijahadmaggncaaDoor
set_option linter.unusedVariables false
abbrev Str := ByteArray
instance decStr (s : Str) (l : List Str) : Decidable (s ∈ l) := decidable_of_iff (∃ x, x ∈ l ∧ x = s) (by simp)
/-- those of both, each once -/
def merge (a b : List Str) : List Str := b.foldl (fun out s => if s ∈ out then out else out ++ [s]) a
def lnot (names bound : List Str) : List Str := names.filter fun n => !decide (n ∈ bound)
theorem merge_nil (a : List Str) : merge a [] = a := rfl
theorem merge_snoc (a b : List Str) (x : Str) : merge a (b ++ [x]) = if x ∈ merge a b then merge a b else merge a b ++ [x] := by
  unfold merge; rw [List.foldl_append]; rfl
theorem merge_cons (a b : List Str) (x : Str) : merge a (x :: b) = merge (if x ∈ a then a else a ++ [x]) b := rfl
theorem mem_merge (b : List Str) : ∀ (a : List Str) (x : Str), x ∈ merge a b ↔ x ∈ a ∨ x ∈ b := by
  induction b with
  | nil => intro a x; simp [merge_nil]
  | cons y b ih =>
    intro a x
    rw [merge_cons, ih]
    by_cases h : y ∈ a
    · rw [if_pos h]
      constructor
      · rintro (h1 | h1)
        · exact .inl h1
        · exact .inr (List.mem_cons_of_mem _ h1)
      · rintro (h1 | h1)
        · exact .inl h1
        · rcases List.mem_cons.1 h1 with rfl | h2
          · exact .inl h
          · exact .inr h2
    · rw [if_neg h]
      simp [or_assoc]
theorem snocS {α : Type} {C : List α → Prop} (h0 : C []) (h1 : ∀ l x, C l → C (l ++ [x])) (l : List α) : C l := by
  have key : ∀ n, n ≤ l.length → C (l.take n) := by
    intro n
    induction n with
    | zero => intro _; rw [List.take_zero]; exact h0
    | succ n ih => intro h; rw [List.take_succ_eq_append_getElem (by omega)]; exact h1 _ _ (ih (by omega))
  have := key l.length (Nat.le_refl _)
  rwa [List.take_length] at this
theorem merge_assoc (a b c : List Str) : merge a (merge b c) = merge (merge a b) c := by
  induction c using snocS with
  | h0 => rfl
  | h1 c x ih =>
    rw [merge_snoc b, merge_snoc (merge a b), ← ih]
    by_cases h : x ∈ merge b c
    · rw [if_pos h, if_pos ((mem_merge _ _ _).2 (.inr h))]
    · rw [if_neg h, merge_snoc]
theorem merge_app (a b c : List Str) : merge a (b ++ c) = merge (merge a b) c := by
  unfold merge; rw [List.foldl_append]
theorem merge_nodup (b : List Str) : ∀ a : List Str, a.Nodup → (merge a b).Nodup := by
  induction b with
  | nil => intro a h; exact h
  | cons x b ih =>
    intro a h
    rw [merge_cons]
    by_cases hx : x ∈ a
    · rw [if_pos hx]; exact ih a h
    · rw [if_neg hx]
      apply ih
      rw [List.nodup_append]
      exact ⟨h, by simp, fun y hy z hz => by simp at hz; subst hz; exact fun e => hx (e ▸ hy)⟩
theorem nil_merge (b : List Str) (h : b.Nodup) : merge [] b = b := by
  induction b using snocS with
  | h0 => rfl
  | h1 b x ih =>
    rw [List.nodup_append] at h
    rw [merge_snoc, ih h.1, if_neg (fun hx => h.2.2 x hx x (by simp) rfl)]
/-- an expression's names, as they come first -/
def Ex.names (t : Ex) : List Str :=
  match h : t.two with
  | some (a, b) => merge a.names b.names
  | none => if t.kind = 2 then [t.name] else []
termination_by SizeOf.sizeOf t
decreasing_by all_goals (have hs := Ex.two_size h; omega)
theorem Ex.names_two {t a b : Ex} (h : t.two = some (a, b)) : t.names = merge a.names b.names := by
  rw [Ex.names]; split
  · rename_i a' b' h'; rw [h] at h'; simp at h'; obtain ⟨rfl, rfl⟩ := h'; rfl
  · rename_i h'; rw [h] at h'; cases h'
theorem Ex.names_none {t : Ex} (h : t.two = none) : t.names = if t.kind = 2 then [t.name] else [] := by
  rw [Ex.names]; split
  · rename_i a' b' h'; rw [h] at h'; cases h'
  · rfl
theorem Ex.names_nodup (t : Ex) : t.names.Nodup := by
  refine Ex.ind (motive := fun t => t.names.Nodup) ?_ ?_ t
  · intro t h; rw [Ex.names_none h]; split <;> simp
  · intro t a b h ha hb; rw [Ex.names_two h]; exact merge_nodup _ _ ha
def St.kind : St → Int | .mk k _ _ _ _ _ => k
def St.name : St → Str | .mk _ s _ _ _ _ => s
def bindsOf (s : St) : List Str := if s.kind = 1 ∨ s.kind = 2 then [s.name] else []
def bindsL (l : List St) : List Str := l.flatMap bindsOf
mutual
def oneF : St → List Str → List Str
  | .mk k s a b body els, B =>
    if k = 1 ∨ k = 2 then lnot a.names B
    else if k = 3 then merge (lnot a.names B) (lnot b.names B)
    else if k = 4 ∨ k = 5 then lfree body B
    else if k = 6 then merge (lnot a.names B) (merge (lfree body B) (lfree els B))
    else if k = 7 then merge (merge (lnot a.names B) (lnot b.names B)) (lfree body (B ++ [s]))
    else []
def lfree : List St → List Str → List Str
  | [], _ => []
  | s :: rest, B => merge (oneF s B) (lfree rest (B ++ bindsOf s))
end
mutual
def labelsS : St → Nat
  | .mk k s a b body els => (if k = 2 ∨ k = 3 then 1 else 0) + (if k = 4 ∨ k = 5 ∨ k = 6 ∨ k = 7 then labelsL body else 0) + (if k = 6 then labelsL els else 0)
def labelsL : List St → Nat
  | [] => 0
  | s :: r => labelsS s + labelsL r
end
theorem lfree_snoc (l : List St) : ∀ (F B : List Str) (s : St), merge F (lfree (l ++ [s]) B) = merge (merge F (lfree l B)) (oneF s (B ++ bindsL l)) := by
  induction l with
  | nil =>
    intro F B s
    show merge F (lfree [s] B) = _
    unfold lfree
    rw [merge_assoc]
    unfold lfree
    simp [merge_nil, bindsL]
  | cons t l ih =>
    intro F B s
    show merge F (lfree (t :: (l ++ [s])) B) = _
    rw [show lfree (t :: (l ++ [s])) B = merge (oneF t B) (lfree (l ++ [s]) (B ++ bindsOf t)) by rw [lfree]]
    rw [show lfree (t :: l) B = merge (oneF t B) (lfree l (B ++ bindsOf t)) by rw [lfree]]
    rw [merge_assoc, ih, merge_assoc]
    simp [bindsL, List.append_assoc]
theorem lnot_nodup {a B : List Str} (h : a.Nodup) : (lnot a B).Nodup := h.filter _
theorem oneF_nodup (s : St) (hl : ∀ (l : List St) (B : List Str), SizeOf.sizeOf l < SizeOf.sizeOf s → (lfree l B).Nodup) (B : List Str) : (oneF s B).Nodup := by
  obtain ⟨k, n, a, b, body, els⟩ := s
  have h1 : SizeOf.sizeOf body < SizeOf.sizeOf (St.mk k n a b body els) := by simp; omega
  have h2 : SizeOf.sizeOf els < SizeOf.sizeOf (St.mk k n a b body els) := by simp; omega
  have na := lnot_nodup (B := B) (Ex.names_nodup a)
  rw [oneF]
  repeat' split
  · exact na
  · exact merge_nodup _ _ na
  · exact hl _ _ h1
  · exact merge_nodup _ _ na
  · exact merge_nodup _ _ (merge_nodup _ _ na)
  · exact List.nodup_nil
theorem lfree_nodup (m : Nat) : ∀ (l : List St), SizeOf.sizeOf l ≤ m → ∀ B, (lfree l B).Nodup := by
  induction m with
  | zero => intro l h; cases l with
    | nil => intro B; rw [lfree]; exact List.nodup_nil
    | cons s r => simp at h
  | succ m ih =>
    intro l h B
    cases l with
    | nil => rw [lfree]; exact List.nodup_nil
    | cons s r =>
      rw [lfree]
      refine merge_nodup _ _ (oneF_nodup s (fun l B hl => ih l ?_ B) B)
      simp at h; omega
theorem free_eq_lfree (l : List St) : merge [] (lfree l []) = lfree l [] := nil_merge _ (lfree_nodup _ l (Nat.le_refl _) _)
end Go.Proofs.YtijahadmaggncaaDoor
