/- Phasers: the whole run, as plain data. -/
import Derived.Test.YthbbecmffndgdaaPhSpec
import Derived.Test.YthbbecmffndgdaaFlat
namespace Go.Proofs.Ythbbecmffndgdaa
set_option linter.unusedVariables false
def runP (l : List PhO) : PhS × List (Int × Int) := l.foldl (fun p o => ((doP p.1 o).1, p.2 ++ [(doP p.1 o).2])) (newP, [])
def runR (l : List PhO) : RfS × List (Int × Int) := l.foldl (fun p o => ((doR p.1 o).1, p.2 ++ [(doR p.1 o).2])) (newR, [])
theorem runP_snoc (l : List PhO) (o : PhO) : runP (l ++ [o]) = ((doP (runP l).1 o).1, (runP l).2 ++ [(doP (runP l).1 o).2]) := by unfold runP; rw [List.foldl_append]; rfl
theorem runR_snoc (l : List PhO) (o : PhO) : runR (l ++ [o]) = ((doR (runR l).1 o).1, (runR l).2 ++ [(doR (runR l).1 o).2]) := by unfold runR; rw [List.foldl_append]; rfl
theorem snoc_ind {α : Type} {C : List α → Prop} (h0 : C []) (h1 : ∀ l x, C l → C (l ++ [x])) (l : List α) : C l := by
  have key : ∀ n, n ≤ l.length → C (l.take n) := by
    intro n
    induction n with
    | zero => intro _; rw [List.take_zero]; exact h0
    | succ n ih => intro h; rw [List.take_succ_eq_append_getElem (by omega)]; exact h1 _ _ (ih (by omega))
  have := key l.length (Nat.le_refl _)
  rwa [List.take_length] at this
structure RunOk (l : List PhO) : Prop where
  rel : PhR (runP l).1 (runR l).1
  idle : Idle (runR l).1
  ans : (runP l).2 = (runR l).2
  len : (runP l).2.length = l.length
  ph : (runP l).1.ph ≤ l.length
theorem doP_ph (s : PhS) (o : PhO) : (doP s o).1.ph ≤ s.ph + 1 := by
  have ht : ∀ u : PhS, u.ph = s.ph → (turnP u).ph ≤ s.ph + 1 := by intro u hu; unfold turnP; split <;> simp [hu]
  unfold doP
  repeat' split
  all_goals (try (show s.ph ≤ s.ph + 1; omega))
  show (actP s o).ph ≤ s.ph + 1
  unfold actP
  repeat' split
  · show s.ph ≤ s.ph + 1; omega
  · exact ht _ rfl
  · exact ht _ rfl
  · omega
theorem run_ok (l : List PhO) : RunOk l := by
  induction l using snoc_ind with
  | h0 => exact ⟨new_eq.1, new_eq.2, rfl, rfl, Nat.le_refl _⟩
  | h1 l o ih =>
    obtain ⟨a, b, c⟩ := do_eq ih.rel ih.idle o
    have e1 := runP_snoc l o
    have e2 := runR_snoc l o
    refine ⟨by rw [e1, e2]; exact b, by rw [e2]; exact c, by rw [e1, e2, ih.ans, a], by rw [e1]; simp [ih.len], ?_⟩
    rw [e1]
    have := doP_ph (runP l).1 o
    have := ih.ph
    simp only [List.length_append, List.length_singleton]
    omega
theorem cntP_max (P : Nat → Bool) : ∀ n, cntP P n ≤ n
  | 0 => Nat.le_refl _
  | n + 1 => by unfold cntP; have := cntP_max P n; split <;> omega
theorem inn16 {s : PhS} {t : RfS} (r : PhR s t) : t.inn.length ≤ 16 := by rw [len_cnt r.ni r.ri]; exact cntP_max _ _
theorem wait16 {s : PhS} {t : RfS} (r : PhR s t) : t.wait.length ≤ 16 := by rw [len_cnt r.nw (fun x hx => r.ri x (r.sub x hx))]; exact cntP_max _ _
theorem err_range (t : RfS) (o : PhO) : 0 ≤ errR t o ∧ errR t o ≤ 9 := by unfold errR; repeat' split
                                                                          all_goals omega
theorem doR_okP (l : List PhO) (o : PhO) (h : l.length < 281474976710656) : inI (doR (runR l).1 o).2.1 ∧ inI (doR (runR l).1 o).2.2 := by
  have r := (run_ok l).rel
  have rn := (run_ok (l ++ [o])).rel
  rw [runP_snoc, runR_snoc] at rn
  have h1 := (run_ok l).ph
  have h2 := (run_ok (l ++ [o])).ph
  rw [runP_snoc] at h2
  simp only [List.length_append, List.length_singleton] at h2
  have h3 := rn.ph
  have h4 := r.ph
  have h5 := err_range (runR l).1 o
  generalize (runR l).1 = t at *
  unfold doR at h3 ⊢
  dsimp only at h3 ⊢
  unfold inI
  refine ⟨by omega, ?_⟩
  repeat' split
  all_goals omega
theorem doP_ok (l : List PhO) (o : PhO) (h : l.length < 281474976710656) : inI (doP (runP l).1 o).2.1 ∧ inI (doP (runP l).1 o).2.2 := by
  have r := run_ok l
  rw [(do_eq r.rel r.idle o).1]
  exact doR_okP l o h
end Go.Proofs.Ythbbecmffndgdaa
