/- Paths as texts, plainly. -/
import Derived.Test.YtbpooepbnnbipaaStSpec3
namespace Go.Proofs.Ytbpooepbnnbipaa
set_option linter.unusedVariables false
def stepB (b : Bool) : UInt8 := if b then 114 else 108
def bytesP (p : Pt) : List UInt8 := p.reverse.map stepB
theorem stepB_inj {a b : Bool} (h : stepB a = stepB b) : a = b := by
  revert h; cases a <;> cases b <;> decide
theorem bytesP_cons (b : Bool) (up : Pt) : bytesP (b :: up) = bytesP up ++ [stepB b] := by simp [bytesP]
theorem bytesP_len (p : Pt) : (bytesP p).length = p.length := by simp [bytesP]
theorem map_inj {α β : Type} {f : α → β} (hf : ∀ a b, f a = f b → a = b) : ∀ l m : List α, l.map f = m.map f → l = m := by
  intro l
  induction l with
  | nil => intro m h; cases m with
    | nil => rfl
    | cons b m => simp at h
  | cons a l ih => intro m h; cases m with
    | nil => simp at h
    | cons b m =>
      simp only [List.map_cons, List.cons.injEq] at h
      rw [hf a b h.1, ih m h.2]
theorem bytesP_inj {p q : Pt} (h : bytesP p = bytesP q) : p = q := by
  have := map_inj (fun _ _ => stepB_inj) _ _ h
  simpa using this
theorem bytesP_idle (p : Pt) : bytesP p ≠ [45] := by
  intro h
  have hl := congrArg List.length h
  rw [bytesP_len] at hl
  match p, hl with
  | [b], _ => cases b <;> simp [bytesP, stepB] at h
/-- the way so far, behind i steps from the whole on -/
def wayP (p : Pt) (i : Nat) : Pt := p.drop (p.length - i)
theorem wayP_zero (p : Pt) : wayP p 0 = [] := by unfold wayP; simp
theorem wayP_all (p : Pt) : wayP p p.length = p := by unfold wayP; simp
theorem wayP_step {p : Pt} {i : Nat} (h : i < p.length) : ∃ b, wayP p (i + 1) = b :: wayP p i ∧ (bytesP p)[i]? = some (stepB b) := by
  refine ⟨p[p.length - 1 - i], ?_, ?_⟩
  · unfold wayP
    have e : p.length - i = (p.length - (i + 1)) + 1 := by omega
    rw [e]
    have e2 : p.length - 1 - i = p.length - (i + 1) := by omega
    simp only [e2]
    exact List.drop_eq_getElem_cons (by omega)
  · unfold bytesP
    rw [List.getElem?_map, List.getElem?_reverse h, List.getElem?_eq_getElem (by omega)]
    rfl
theorem sub_drop {t : Tm} : ∀ (n : Nat) (p : Pt), (subT t p).isSome = true → (subT t (p.drop n)).isSome = true := by
  intro n
  induction n with
  | zero => intro p h; exact h
  | succ n ih =>
    intro p h
    cases p with
    | nil => exact h
    | cons b up =>
      obtain ⟨par, x, y, h2⟩ := subT_up h
      exact ih up (subT_of_two h2)
theorem wayP_sub {t : Tm} {p : Pt} (h : (subT t p).isSome = true) (i : Nat) : (subT t (wayP p i)).isSome = true := sub_drop _ p h
/-- a path is no longer than there are places -/
theorem path_len {t : Tm} : ∀ p : Pt, (subT t p).isSome = true → p.length ≤ nmP t p := by
  intro p
  induction p with
  | nil => intro _; exact Nat.zero_le _
  | cons b up ih =>
    intro h
    obtain ⟨par, x, y, h2⟩ := subT_up h
    have := ih (subT_of_two h2)
    cases b <;> simp [nmP, h2] <;> omega
theorem count_nodes (t : Tm) : t.count ≤ (nodesT t).length := by
  induction t using Tm.ind with
  | one t h => rw [Tm.count_none h, nodesT_none h]; split <;> simp
  | two t par a b h ha hb => rw [Tm.count_two h, nodesT_two h]; simp; omega
theorem lf_count {t : Tm} : ∀ (p : Pt) (x : Tm), subT t p = some x → lfP t p + x.count ≤ t.count := by
  intro p
  induction p with
  | nil => intro x h; simp only [subT, Option.some.injEq] at h; subst h; simp [lfP]
  | cons b up ih =>
    intro x h
    obtain ⟨par, a, c, h2⟩ := subT_up (b := b) (by rw [h]; rfl)
    have hk := subT_kid h2 b
    rw [h] at hk
    injection hk with hk
    unfold twoT at h2
    cases hz : subT t up with
    | none => rw [hz] at h2; cases h2
    | some z =>
      have h3 : z.two = some (par, a, c) := by rw [hz] at h2; exact h2
      have := ih z hz
      rw [Tm.count_two h3] at this
      have h4 : twoT t up = some (par, a, c) := by unfold twoT; rw [hz]; exact h3
      subst hk
      cases b <;> simp [lfP, h4] <;> omega
end Go.Proofs.Ytbpooepbnnbipaa
