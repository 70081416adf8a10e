/- Stealing, plainly: a machine over the places of a term; it comes to an end. -/
import Derived.Test.YtbpooepbnnbipaaSpSpec
namespace Go.Proofs.Ytbpooepbnnbipaa
set_option linter.unusedVariables false
/-- a place: left or right (true), the last step first -/
abbrev Pt := List Bool
def subT (t : Tm) : Pt → Option Tm
  | [] => some t
  | b :: up => match (subT t up).bind Tm.two with
    | some (_, x, y) => some (if b then y else x)
    | none => none
def twoT (t : Tm) (p : Pt) : Option (Bool × Tm × Tm) := (subT t p).bind Tm.two
def setD (dn : Pt → Bool) (p : Pt) : Pt → Bool := fun x => x == p || dn x
theorem setD_mono {dn : Pt → Bool} {p x : Pt} (h : dn x = true) : setD dn p x = true := by unfold setD; rw [h, Bool.or_true]
theorem setD_same (dn : Pt → Bool) (p : Pt) : setD dn p p = true := by unfold setD; simp
/-- where a worker is when a place is done -/
def endP (t : Tm) (dn : Pt → Bool) (q : List Pt) : Pt → Option Pt × (Pt → Bool) × List Pt
  | [] => (none, setD dn [], q)
  | b :: up => match twoT t up with
    | some (false, _, _) => if b then endP t (setD dn (b :: up)) q up else (some (true :: up), setD dn (b :: up), q)
    | some (true, _, _) => if setD dn (b :: up) (false :: up) && setD dn (b :: up) (true :: up) then endP t (setD dn (b :: up)) q up
      else if b then (none, setD dn (b :: up), q) else match q.getLast? with
        | none => (none, setD dn (b :: up), q)
        | some k => (some k, setD dn (b :: up), q.dropLast)
    | none => (none, setD dn (b :: up), q)
structure Ca where
  at_ : Option Pt
  dn : Pt → Bool
  q : List Pt
/-- one step of a worker that settles; none: it stands -/
def calmS (t : Tm) (s : Ca) : Option Ca := match s.at_ with
  | none => none
  | some p => match subT t p with
    | none => none
    | some x => match x.two with
      | some (par, _, _) => some ⟨some (false :: p), s.dn, if par then s.q ++ [true :: p] else s.q⟩
      | none => if x.kind = 1 then none else some ⟨(endP t s.dn s.q p).1, (endP t s.dn s.q p).2.1, (endP t s.dn s.q p).2.2⟩
def calmN (t : Tm) : Nat → Ca → Ca
  | 0, s => s
  | n + 1, s => match calmS t s with
    | none => s
    | some s' => calmN t n s'
theorem calmN_none {t : Tm} {s : Ca} (h : calmS t s = none) : ∀ n, calmN t n s = s
  | 0 => rfl
  | n + 1 => by unfold calmN; rw [h]
theorem calmN_some {t : Tm} {s s' : Ca} (h : calmS t s = some s') (n : Nat) : calmN t (n + 1) s = calmN t n s' := by
  conv => lhs; unfold calmN
  rw [h]
/-- all places -/
def nodesT (t : Tm) : List Pt :=
  match h : t.two with
  | some (_, x, y) => [] :: ((nodesT x).map (· ++ [false]) ++ (nodesT y).map (· ++ [true]))
  | none => [[]]
termination_by SizeOf.sizeOf t
decreasing_by all_goals (have hs := Tm.two_size h; omega)
theorem nodesT_two {t x y : Tm} {p : Bool} (h : t.two = some (p, x, y)) : nodesT t = [] :: ((nodesT x).map (· ++ [false]) ++ (nodesT y).map (· ++ [true])) := by
  rw [nodesT]; split <;> simp_all
theorem nodesT_none {t : Tm} (h : t.two = none) : nodesT t = [[]] := by
  rw [nodesT]; split <;> simp_all
theorem subT_snoc (t x y : Tm) (par : Bool) (h : t.two = some (par, x, y)) (b : Bool) : ∀ p : Pt, subT t (p ++ [b]) = subT (if b then y else x) p := by
  intro p
  induction p with
  | nil => simp [subT, h]
  | cons c p ih => rw [List.cons_append]; simp only [subT]; rw [ih]
theorem subT_snoc_none (t : Tm) (h : t.two = none) (b : Bool) : ∀ p : Pt, subT t (p ++ [b]) = none := by
  intro p
  induction p with
  | nil => simp [subT, h]
  | cons c p ih => rw [List.cons_append]; simp only [subT]; rw [ih]; rfl
theorem nil_or_snoc (p : List Bool) : p = [] ∨ ∃ q b, p = q ++ [b] := by
  rcases List.eq_nil_or_concat p with h | ⟨q, b, h⟩
  · exact .inl h
  · exact .inr ⟨q, b, by rw [h, List.concat_eq_append]⟩
theorem nodesT_mem (t : Tm) : ∀ p : Pt, (subT t p).isSome = true → p ∈ nodesT t := by
  induction t using Tm.ind with
  | one t h =>
    intro p hp
    rw [nodesT_none h]
    rcases nil_or_snoc p with rfl | ⟨q, b, rfl⟩
    · simp
    · rw [subT_snoc_none t h] at hp; cases hp
  | two t par x y h hx hy =>
    intro p hp
    rw [nodesT_two h]
    rcases nil_or_snoc p with rfl | ⟨q, b, rfl⟩
    · simp
    · rw [subT_snoc t x y par h] at hp
      cases b
      · exact List.mem_cons_of_mem _ (List.mem_append_left _ (List.mem_map.2 ⟨q, hx q (by simpa using hp), rfl⟩))
      · exact List.mem_cons_of_mem _ (List.mem_append_right _ (List.mem_map.2 ⟨q, hy q (by simpa using hp), rfl⟩))
/-- how many are not done -/
def ndT (t : Tm) (dn : Pt → Bool) : Nat := (nodesT t).countP fun p => !dn p
theorem countP_lt {α : Type} {p q : α → Bool} {l : List α} (h : ∀ x ∈ l, p x = true → q x = true) (hx : ∃ x ∈ l, q x = true ∧ p x = false) : l.countP p < l.countP q := by
  induction l with
  | nil => obtain ⟨x, h1, _⟩ := hx; cases h1
  | cons a l ih =>
    obtain ⟨x, h1, h2, h3⟩ := hx
    have ha := h a (by simp)
    have hmono : l.countP p ≤ l.countP q := List.countP_mono_left (fun x hx => h x (by simp [hx]))
    rw [List.countP_cons, List.countP_cons]
    rcases List.mem_cons.1 h1 with rfl | h1
    · rw [h2, h3]; simp; omega
    · have := ih (fun x hx => h x (by simp [hx])) ⟨x, h1, h2, h3⟩
      cases hp : p a
      · simp; split <;> omega
      · rw [ha hp]; simp; exact this
theorem ndT_lt {t : Tm} {dn dn' : Pt → Bool} {p : Pt} (hp : (subT t p).isSome = true) (h0 : dn p = false) (h1 : dn' p = true) (hm : ∀ x, dn x = true → dn' x = true) : ndT t dn' < ndT t dn := by
  refine countP_lt (fun x _ hx => ?_) ⟨p, nodesT_mem t p hp, by rw [h0]; rfl, by rw [h1]; rfl⟩
  cases h : dn x
  · rfl
  · rw [hm x h] at hx; cases hx
theorem ndT_le (t : Tm) (dn : Pt → Bool) : ndT t dn ≤ (nodesT t).length := List.countP_le_length
/-- how much lies below a place -/
def sizT (t : Tm) (s : Ca) : Nat := match s.at_ with
  | none => 0
  | some p => match subT t p with
    | none => 0
    | some x => (nodesT x).length
def muT (t : Tm) (s : Ca) : Nat := ndT t s.dn * ((nodesT t).length + 1) + sizT t s
theorem nodes_sub (t : Tm) : ∀ (p : Pt) (x : Tm), subT t p = some x → (nodesT x).length ≤ (nodesT t).length := by
  induction t using Tm.ind with
  | one t h =>
    intro p x hp
    rcases nil_or_snoc p with rfl | ⟨q, b, rfl⟩
    · simp only [subT, Option.some.injEq] at hp; rw [hp]; exact Nat.le_refl _
    · rw [subT_snoc_none t h] at hp; cases hp
  | two t par y z h hy hz =>
    intro p x hp
    rcases nil_or_snoc p with rfl | ⟨q, b, rfl⟩
    · simp only [subT, Option.some.injEq] at hp; rw [hp]; exact Nat.le_refl _
    · rw [subT_snoc t y z par h] at hp
      rw [nodesT_two h]
      simp only [List.length_cons, List.length_append, List.length_map]
      cases b
      · have := hy q x (by simpa using hp); omega
      · have := hz q x (by simpa using hp); omega
theorem sizT_le (t : Tm) (s : Ca) : sizT t s ≤ (nodesT t).length := by
  unfold sizT
  split
  · omega
  · split
    · omega
    · rename_i x h; exact nodes_sub t _ x h
/-- a is ahead of c on the way, or is it -/
abbrev anc (a c : Pt) : Prop := a <:+ c
theorem anc_cons {a : Pt} {b : Bool} {up : Pt} (h : anc a (b :: up)) : a = b :: up ∨ anc a up := by
  rcases List.suffix_cons_iff.1 h with h | h
  · exact .inl h
  · exact .inr h
theorem anc_up (b : Bool) (up : Pt) : anc up (b :: up) := List.suffix_cons b up
/-- two on the way to one: one of them is ahead of the other -/
theorem anc_lin {a b c : Pt} (ha : anc a c) (hb : anc b c) : anc a b ∨ anc b a := List.suffix_or_suffix_of_suffix ha hb
structure Tok (t : Tm) (T : List Pt) (dn : Pt → Bool) : Prop where
  val : ∀ p ∈ T, (subT t p).isSome = true
  far : T.Pairwise fun a b => ¬ anc a b ∧ ¬ anc b a
  low : ∀ p ∈ T, ∀ c, anc p c → dn c = false
  seq : ∀ up x y, twoT t up = some (false, x, y) → ∀ c, (dn c = true ∨ c ∈ T) → anc (true :: up) c → dn (false :: up) = true
  clo : ∀ (b : Bool) up, (subT t (b :: up)).isSome = true → dn up = true → dn (b :: up) = true
theorem Tok.perm {t : Tm} {T T' : List Pt} {dn : Pt → Bool} (h : Tok t T dn) (hp : T.Perm T') : Tok t T' dn where
  val p hm := h.val p (hp.mem_iff.2 hm)
  far := (hp.pairwise_iff (fun h => ⟨h.2, h.1⟩)).1 h.far
  low p hm := h.low p (hp.mem_iff.2 hm)
  seq up x y h2 c hc := h.seq up x y h2 c (hc.imp id fun h => hp.mem_iff.2 h)
  clo := h.clo
theorem subT_up {t : Tm} {b : Bool} {up : Pt} (h : (subT t (b :: up)).isSome = true) : ∃ par x y, twoT t up = some (par, x, y) := by
  unfold twoT
  simp only [subT] at h
  split at h
  · rename_i par x y e; exact ⟨par, x, y, e⟩
  · cases h
theorem subT_kid {t : Tm} {up : Pt} {par : Bool} {x y : Tm} (h : twoT t up = some (par, x, y)) (b : Bool) : subT t (b :: up) = some (if b then y else x) := by
  unfold twoT at h
  simp only [subT]
  rw [h]
theorem subT_of_two {t : Tm} {up : Pt} {par : Bool} {x y : Tm} (h : twoT t up = some (par, x, y)) : (subT t up).isSome = true := by
  unfold twoT at h
  cases hs : subT t up with
  | none => rw [hs] at h; cases h
  | some z => rfl
/-- below what is done all is done -/
theorem Tok.down {t : Tm} {T : List Pt} {dn : Pt → Bool} (h : Tok t T dn) {d : Pt} (hd : dn d = true) : ∀ c : Pt, anc d c → (subT t c).isSome = true → dn c = true := by
  intro c
  induction c with
  | nil =>
    intro hc _
    have := List.suffix_nil.1 hc
    subst this; exact hd
  | cons b up ih =>
    intro hc hs
    rcases anc_cons hc with e | hc
    · rw [← e]; exact hd
    · obtain ⟨par, x, y, h2⟩ := subT_up hs
      exact h.clo b up hs (ih hc (subT_of_two h2))
/-- ahead of a place's end -/
structure PreE (t : Tm) (T : List Pt) (dn : Pt → Bool) (p : Pt) : Prop where
  tok : Tok t T dn
  ok : (subT t p).isSome = true
  nd : dn p = false
  inc : ∀ c ∈ T, ¬ anc p c ∧ ¬ anc c p
  sq : ∀ up x y, twoT t up = some (false, x, y) → anc (true :: up) p → dn (false :: up) = true
  kids : ∀ b : Bool, (subT t (b :: p)).isSome = true → dn (b :: p) = true
theorem PreE.mark {t : Tm} {T : List Pt} {dn : Pt → Bool} {p : Pt} (h : PreE t T dn p) : Tok t T (setD dn p) where
  val := h.tok.val
  far := h.tok.far
  low q hq c hc := by
    unfold setD
    rw [h.tok.low q hq c hc, Bool.or_false]
    cases he : c == p
    · rfl
    · rw [beq_iff_eq] at he; subst he; exact absurd hc (h.inc q hq).2
  seq up x y h2 c hc ha := by
    refine setD_mono ?_
    rcases hc with hc | hc
    · unfold setD at hc
      rw [Bool.or_eq_true, beq_iff_eq] at hc
      rcases hc with rfl | hc
      · exact h.sq up x y h2 ha
      · exact h.tok.seq up x y h2 c (.inl hc) ha
    · exact h.tok.seq up x y h2 c (.inr hc) ha
  clo b up hs hd := by
    unfold setD at hd
    rw [Bool.or_eq_true, beq_iff_eq] at hd
    rcases hd with rfl | hd
    · exact setD_mono (h.kids b hs)
    · exact setD_mono (h.tok.clo b up hs hd)
/-- both below are done: on with the one above -/
theorem PreE.up {t : Tm} {T : List Pt} {dn : Pt → Bool} {b : Bool} {up : Pt} {par : Bool} {x y : Tm} (h : PreE t T dn (b :: up)) (h2 : twoT t up = some (par, x, y)) (hf : setD dn (b :: up) (false :: up) = true) (ht : setD dn (b :: up) (true :: up) = true) : PreE t T (setD dn (b :: up)) up where
  tok := h.mark
  ok := subT_of_two h2
  nd := by
    unfold setD
    have hne : (up == b :: up) = false := by
      rw [beq_eq_false_iff_ne]
      intro e
      have := congrArg List.length e
      simp at this
    rw [hne, Bool.false_or]
    cases hd : dn up
    · rfl
    · have := h.tok.clo b up h.ok hd
      rw [h.nd] at this; cases this
  inc c hc := by
    refine ⟨fun ha => ?_, fun ha => (h.inc c hc).2 (ha.trans (anc_up b up))⟩
    have hv := h.mark.val c hc
    have hl := h.mark.low c hc c (List.suffix_refl _)
    by_cases he : c = up
    · subst he; exact (h.inc c hc).2 (anc_up b c)
    · obtain ⟨s, hs⟩ := ha
      rcases nil_or_snoc s with rfl | ⟨s', d, rfl⟩
      · exact he (by simpa using hs.symm)
      · have hd : anc (d :: up) c := ⟨s', by rw [← hs]; simp⟩
        have hdn : setD dn (b :: up) (d :: up) = true := by cases d <;> assumption
        rw [h.mark.down hdn c hd hv] at hl
        cases hl
  sq up' x' y' h' ha := setD_mono (h.sq up' x' y' h' (ha.trans (anc_up b up)))
  kids d hs := by cases d <;> assumption
/-- what stands behind a place's end -/
structure PostE (t : Tm) (O : List Pt) (dn : Pt → Bool) (q : List Pt) (p : Pt) (r : Option Pt × (Pt → Bool) × List Pt) : Prop where
  tok : Tok t (r.1.toList ++ (r.2.2 ++ O)) r.2.1
  mono : ∀ x, dn x = true → r.2.1 x = true
  done : r.2.1 p = true
theorem endP_ok (t : Tm) (O : List Pt) : ∀ (p : Pt) (dn : Pt → Bool) (q : List Pt), PreE t (q ++ O) dn p → PostE t O dn q p (endP t dn q p) := by
  intro p
  induction p with
  | nil =>
    intro dn q h
    have e : endP t dn q [] = (none, setD dn [], q) := by simp [endP]
    rw [e]
    exact ⟨by simpa using h.mark, fun x hx => setD_mono hx, (show setD dn [] [] = true from setD_same _ _)⟩
  | cons b up ih =>
    intro dn q h
    obtain ⟨par, x, y, h2⟩ := subT_up h.ok
    have stay : PostE t O dn q (b :: up) (none, setD dn (b :: up), q) := ⟨by simpa using h.mark, fun x hx => setD_mono hx, setD_same _ _⟩
    have go : setD dn (b :: up) (false :: up) = true → setD dn (b :: up) (true :: up) = true → PostE t O dn q (b :: up) (endP t (setD dn (b :: up)) q up) := fun hf ht => by
      have := ih _ _ (h.up h2 hf ht)
      exact ⟨this.tok, fun x hx => this.mono x (setD_mono hx), this.mono _ (setD_same _ _)⟩
    cases par with
    | false =>
      cases b with
      | true =>
        have e : endP t dn q (true :: up) = endP t (setD dn (true :: up)) q up := by conv => lhs; unfold endP
                                                                                     rw [h2]; rfl
        rw [e]
        exact go (setD_mono (h.sq up x y h2 (List.suffix_refl _))) (setD_same _ _)
      | false =>
        have e : endP t dn q (false :: up) = (some (true :: up), setD dn (false :: up), q) := by conv => lhs; unfold endP
                                                                                                 rw [h2]; rfl
        rw [e]
        refine ⟨?_, fun x hx => setD_mono hx, setD_same _ _⟩
        have hm := h.mark
        have hnot : ∀ c, (dn c = true ∨ c ∈ q ++ O) → ¬ anc (true :: up) c := fun c hc ha => by
          have := h.tok.seq up x y h2 c hc ha
          rw [h.nd] at this; cases this
        have hne : ¬ anc (true :: up) (false :: up) := fun ha => by
          rcases anc_cons ha with e | ha
          · injection e with e; cases e
          · have hle := ha.length_le; rw [List.length_cons] at hle; omega
        show Tok t ((true :: up) :: (q ++ O)) _
        refine ⟨List.forall_mem_cons.2 ⟨by rw [subT_kid h2 true]; rfl, hm.val⟩, List.pairwise_cons.2 ⟨fun c hc => ⟨hnot c (.inr hc), fun ha => ?_⟩, hm.far⟩, List.forall_mem_cons.2 ⟨fun c ha => ?_, hm.low⟩, fun up' x' y' h' c hc ha => ?_, hm.clo⟩
        · rcases anc_cons ha with e | ha
          · subst e; exact hnot _ (.inr hc) (List.suffix_refl _)
          · exact (h.inc c hc).2 (ha.trans (anc_up false up))
        · unfold setD
          rw [Bool.or_eq_false_iff]
          constructor
          · rw [beq_eq_false_iff_ne]; intro e; subst e; exact hne ha
          · cases hd : dn c
            · rfl
            · exact absurd ha (hnot c (.inl hd))
        · rcases hc with hc | hc
          · exact hm.seq up' x' y' h' c (.inl hc) ha
          · rcases List.mem_cons.1 hc with rfl | hc
            · rcases anc_cons ha with e | ha
              · injection e with _ e; subst e; exact setD_same _ _
              · exact setD_mono (h.sq up' x' y' h' (ha.trans (anc_up false up)))
            · exact hm.seq up' x' y' h' c (.inr hc) ha
    | true =>
      have e : endP t dn q (b :: up) = if setD dn (b :: up) (false :: up) && setD dn (b :: up) (true :: up) then endP t (setD dn (b :: up)) q up else if b then (none, setD dn (b :: up), q) else match q.getLast? with
        | none => (none, setD dn (b :: up), q)
        | some k => (some k, setD dn (b :: up), q.dropLast) := by
        conv => lhs; unfold endP
        rw [h2]
      rw [e]
      by_cases hb : (setD dn (b :: up) (false :: up) && setD dn (b :: up) (true :: up)) = true
      · rw [if_pos hb]
        rw [Bool.and_eq_true] at hb
        exact go hb.1 hb.2
      · rw [if_neg hb]
        cases b with
        | true => exact stay
        | false =>
          simp only [Bool.false_eq_true, if_false]
          cases hq : q.getLast? with
          | none => exact stay
          | some k =>
            refine ⟨?_, fun x hx => setD_mono hx, setD_same _ _⟩
            have hqk : q = q.dropLast ++ [k] := by
              obtain ⟨l, rfl⟩ := List.getLast?_eq_some_iff.1 hq
              simp
            have hp : (q ++ O).Perm (k :: (q.dropLast ++ O)) := by
              conv => lhs; rw [hqk, List.append_assoc, List.singleton_append]
              exact List.perm_middle
            exact h.mark.perm hp
theorem preE_of {t : Tm} {R : List Pt} {dn : Pt → Bool} {p : Pt} (h : Tok t (p :: R) dn) (hk : ∀ b : Bool, (subT t (b :: p)).isSome = true → dn (b :: p) = true) : PreE t R dn p where
  tok := ⟨fun c hc => h.val c (List.mem_cons_of_mem _ hc), (List.pairwise_cons.1 h.far).2, fun c hc => h.low c (List.mem_cons_of_mem _ hc), fun up x y h2 c hc => h.seq up x y h2 c (hc.imp id (List.mem_cons_of_mem _)), h.clo⟩
  ok := h.val p (by simp)
  nd := h.low p (by simp) p (List.suffix_refl _)
  inc := (List.pairwise_cons.1 h.far).1
  sq := fun up x y h2 ha => h.seq up x y h2 p (.inr (by simp)) ha
  kids := hk
/-- what is behind a step is again so, and less -/
theorem calmS_ok (t : Tm) (O : List Pt) (s s' : Ca) (h : Tok t (s.at_.toList ++ (s.q ++ O)) s.dn) (hs : calmS t s = some s') : Tok t (s'.at_.toList ++ (s'.q ++ O)) s'.dn ∧ muT t s' < muT t s ∧ ∀ x, s.dn x = true → s'.dn x = true := by
  obtain ⟨a, dn, q⟩ := s
  cases a with
  | none => cases hs
  | some p =>
    have hT : Tok t (p :: (q ++ O)) dn := h
    have hv := hT.val p (by simp)
    have hfar := List.pairwise_cons.1 hT.far
    cases hx : subT t p with
    | none => rw [hx] at hv; cases hv
    | some x =>
      unfold calmS at hs
      simp only [hx] at hs
      cases h2 : x.two with
      | some z =>
        obtain ⟨par, y, z⟩ := z
        rw [h2] at hs
        simp only [Option.some.injEq] at hs
        subst hs
        have ht2 : twoT t p = some (par, y, z) := by unfold twoT; rw [hx]; exact h2
        have hsz : muT t ⟨some (false :: p), dn, if par then q ++ [true :: p] else q⟩ < muT t ⟨some p, dn, q⟩ := by
          unfold muT sizT
          have hk := subT_kid ht2 false
          simp only [hx, hk, Bool.false_eq_true, if_false]
          have := nodesT_two h2
          have hl := congrArg List.length this
          simp only [List.length_cons, List.length_append, List.length_map] at hl
          omega
        refine ⟨?_, hsz, fun x hx => hx⟩
        have hkid : ∀ b : Bool, (subT t (b :: p)).isSome = true := fun b => by rw [subT_kid ht2 b]; rfl
        have hfar2 : ∀ (b : Bool), ∀ c ∈ q ++ O, ¬ anc (b :: p) c ∧ ¬ anc c (b :: p) := fun b c hc => by
          have := hfar.1 c hc
          refine ⟨fun ha => this.1 ((anc_up b p).trans ha), fun ha => ?_⟩
          rcases anc_cons ha with e | ha
          · subst e; exact this.1 (anc_up b p)
          · exact this.2 ha
        have hlow : ∀ (b : Bool) c, anc (b :: p) c → dn c = false := fun b c ha => hT.low p (by simp) c ((anc_up b p).trans ha)
        have hseq : ∀ up x y, twoT t up = some (false, x, y) → ∀ b : Bool, (par = true ∨ b = false) → anc (true :: up) (b :: p) → dn (false :: up) = true := fun up x' y' h' b hb ha => by
          rcases anc_cons ha with e | ha
          · injection e with e1 e2
            subst e1 e2
            rcases hb with hb | hb
            · rw [ht2] at h'; subst hb; cases h'
            · cases hb
          · exact hT.seq up x' y' h' p (.inr (by simp)) ha
        have hrest : ∀ up x y, twoT t up = some (false, x, y) → ∀ c, (dn c = true ∨ c ∈ q ++ O) → anc (true :: up) c → dn (false :: up) = true := fun up x' y' h' c hc ha => hT.seq up x' y' h' c (hc.imp id fun h => by simp at h ⊢; exact .inr h) ha
        cases par with
        | false =>
          show Tok t ((false :: p) :: (q ++ O)) dn
          refine ⟨List.forall_mem_cons.2 ⟨hkid false, fun c hc => hT.val c (by simp at hc ⊢; exact .inr hc)⟩, List.pairwise_cons.2 ⟨hfar2 false, hfar.2⟩, List.forall_mem_cons.2 ⟨hlow false, fun c hc => hT.low c (by simp at hc ⊢; exact .inr hc)⟩, fun up x' y' h' c hc ha => ?_, hT.clo⟩
          rcases hc with hc | hc
          · exact hrest up x' y' h' c (.inl hc) ha
          · rcases List.mem_cons.1 hc with rfl | hc
            · exact hseq up x' y' h' false (.inr rfl) ha
            · exact hrest up x' y' h' c (.inr hc) ha
        | true =>
          have hnew : Tok t ((false :: p) :: (true :: p) :: (q ++ O)) dn := by
            have hft : ∀ b d : Bool, b ≠ d → ¬ anc (b :: p) (d :: p) := fun b d hbd ha => by
              rcases anc_cons ha with e | ha
              · injection e with e; exact hbd e
              · have hle := ha.length_le; rw [List.length_cons] at hle; omega
            refine ⟨List.forall_mem_cons.2 ⟨hkid false, List.forall_mem_cons.2 ⟨hkid true, fun c hc => hT.val c (by simp at hc ⊢; exact .inr hc)⟩⟩, List.pairwise_cons.2 ⟨List.forall_mem_cons.2 ⟨⟨hft _ _ (by decide), hft _ _ (by decide)⟩, hfar2 false⟩, List.pairwise_cons.2 ⟨hfar2 true, hfar.2⟩⟩, List.forall_mem_cons.2 ⟨hlow false, List.forall_mem_cons.2 ⟨hlow true, fun c hc => hT.low c (by simp at hc ⊢; exact .inr hc)⟩⟩, fun up x' y' h' c hc ha => ?_, hT.clo⟩
            rcases hc with hc | hc
            · exact hrest up x' y' h' c (.inl hc) ha
            · rcases List.mem_cons.1 hc with rfl | hc
              · exact hseq up x' y' h' false (.inr rfl) ha
              · rcases List.mem_cons.1 hc with rfl | hc
                · exact hseq up x' y' h' true (.inl rfl) ha
                · exact hrest up x' y' h' c (.inr hc) ha
          refine hnew.perm ?_
          show ((false :: p) :: (true :: p) :: (q ++ O)).Perm ((false :: p) :: ((q ++ [true :: p]) ++ O))
          refine List.Perm.cons _ ?_
          rw [List.append_assoc, List.singleton_append]
          exact List.perm_middle.symm
      | none =>
        rw [h2] at hs
        simp only at hs
        by_cases hk : x.kind = 1
        · rw [if_pos hk] at hs; cases hs
        · rw [if_neg hk] at hs
          simp only [Option.some.injEq] at hs
          subst hs
          have hpre : PreE t (q ++ O) dn p := preE_of hT (fun b hb => by
            obtain ⟨par, y, z, e⟩ := subT_up hb
            unfold twoT at e
            rw [hx] at e
            rw [show (some x).bind Tm.two = x.two from rfl, h2] at e; cases e)
          have hpost := endP_ok t O p dn q hpre
          refine ⟨hpost.tok, ?_, hpost.mono⟩
          have h1 := ndT_lt (t := t) (p := p) (by rw [hx]; rfl) hpre.nd hpost.done hpost.mono
          have h3 := sizT_le t ⟨(endP t dn q p).1, (endP t dn q p).2.1, (endP t dn q p).2.2⟩
          unfold muT
          dsimp only
          have h4 : (ndT t (endP t dn q p).2.1 + 1) * ((nodesT t).length + 1) ≤ ndT t dn * ((nodesT t).length + 1) := Nat.mul_le_mul_right _ h1
          rw [Nat.add_mul] at h4
          omega
theorem calmN_ok (t : Tm) (O : List Pt) : ∀ (n : Nat) (s : Ca), muT t s ≤ n → Tok t (s.at_.toList ++ (s.q ++ O)) s.dn → calmS t (calmN t (n + 1) s) = none ∧ Tok t ((calmN t (n + 1) s).at_.toList ++ ((calmN t (n + 1) s).q ++ O)) (calmN t (n + 1) s).dn := by
  intro n
  induction n with
  | zero =>
    intro s hm h
    cases hs : calmS t s with
    | none => rw [calmN_none hs]; exact ⟨hs, h⟩
    | some s' => have := (calmS_ok t O s s' h hs).2.1; omega
  | succ n ih =>
    intro s hm h
    cases hs : calmS t s with
    | none => rw [calmN_none hs]; exact ⟨hs, h⟩
    | some s' =>
      obtain ⟨h1, h2, _⟩ := calmS_ok t O s s' h hs
      rw [calmN_some hs]
      exact ih s' (by omega) h1
/-- as many steps as there can be -/
def muM (t : Tm) : Nat := ((nodesT t).length + 1) * ((nodesT t).length + 1) + 1
theorem muT_lt (t : Tm) (s : Ca) : muT t s ≤ muM t := by
  unfold muT muM
  have h1 := ndT_le t s.dn
  have h2 := sizT_le t s
  have h3 : ndT t s.dn * ((nodesT t).length + 1) ≤ (nodesT t).length * ((nodesT t).length + 1) := Nat.mul_le_mul_right _ h1
  rw [Nat.add_mul]
  omega
def calmT (t : Tm) (s : Ca) : Ca := calmN t (muM t + 1) s
/-- more steps change nothing -/
theorem calmN_more (t : Tm) (O : List Pt) : ∀ (n : Nat) (s : Ca), muT t s < n → Tok t (s.at_.toList ++ (s.q ++ O)) s.dn → ∀ k, calmN t (n + k) s = calmN t n s := by
  intro n
  induction n with
  | zero => intro s h; omega
  | succ n ih =>
    intro s hm h k
    cases hs : calmS t s with
    | none => rw [calmN_none hs, calmN_none hs]
    | some s' =>
      obtain ⟨h1, h2, _⟩ := calmS_ok t O s s' h hs
      rw [show n + 1 + k = (n + k) + 1 by omega, calmN_some hs, calmN_some hs]
      exact ih s' (by omega) h1 k
end Go.Proofs.Ytbpooepbnnbipaa
