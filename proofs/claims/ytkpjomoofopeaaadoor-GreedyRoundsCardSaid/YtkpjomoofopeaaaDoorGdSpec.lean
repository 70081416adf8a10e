/- Round by round, as much at once as may be: plain lists. -/
import Derived.Test.YtkpjomoofopeaaaDoorGrSpec2
import Derived.Test.YtkpjomoofopeaaaDoorGrSpec4
import Derived.Test.YtkpjomoofopeaaaDoorHpSpec
namespace Go.Proofs.YtkpjomoofopeaaaDoor
set_option linter.unusedVariables false
/-- what may be done now -/
def rdyL (N : Nat) (es : List (Nat × Nat)) (D : List Nat) : List Nat := (List.range N).filter (rdyE es D)
def nowL (N : Nat) (es : List (Nat × Nat)) (k : Nat) (D : List Nat) : List Nat := (rdyL N es D).take k
/-- behind so many rounds: what is done, and the rounds -/
def gdS (N : Nat) (es : List (Nat × Nat)) (k : Nat) : Nat → List Nat × List (List Nat)
  | 0 => ([], [])
  | j + 1 => ((gdS N es k j).1 ++ nowL N es k (gdS N es k j).1, (gdS N es k j).2 ++ [nowL N es k (gdS N es k j).1])
theorem rdyL_mem {N : Nat} {es : List (Nat × Nat)} {D : List Nat} {m : Nat} : m ∈ rdyL N es D ↔ m < N ∧ rdyE es D m = true := by
  unfold rdyL; rw [List.mem_filter, List.mem_range]
theorem rdyL_nodup (N : Nat) (es : List (Nat × Nat)) (D : List Nat) : (rdyL N es D).Nodup := List.nodup_range.filter _
theorem rdyL_up (N : Nat) (es : List (Nat × Nat)) (D : List Nat) : (rdyL N es D).Pairwise (· < ·) := List.Pairwise.filter _ List.pairwise_lt_range
theorem rdyL_len (N : Nat) (es : List (Nat × Nat)) (D : List Nat) : (rdyL N es D).length ≤ N := by
  unfold rdyL
  have := List.length_filter_le (rdyE es D) (List.range N)
  rwa [List.length_range] at this
theorem nowL_mem {N : Nat} {es : List (Nat × Nat)} {k : Nat} {D : List Nat} {m : Nat} (h : m ∈ nowL N es k D) : m < N ∧ rdyE es D m = true := rdyL_mem.1 (List.mem_of_mem_take h)
theorem nowL_nodup (N : Nat) (es : List (Nat × Nat)) (k : Nat) (D : List Nat) : (nowL N es k D).Nodup := List.Pairwise.sublist (List.take_sublist _ _) (rdyL_nodup N es D)
section
variable {N : Nat} {es : List (Nat × Nat)} {k : Nat} {D : List Nat}
/-- what is done is done in order -/
theorem GO.ons (hg : GO N es D) : ∀ (T : List Nat), T.Nodup → (∀ m ∈ T, m < N ∧ rdyE es D m = true) → ∀ E, (∀ m ∈ E, m ∉ T) → GO N es (D ++ E) → GO N es (D ++ E ++ T)
  | [], _, _, E, _, h => by simpa using h
  | m :: T, hn, hm, E, hE, h => by
    have hn' := List.nodup_cons.1 hn
    obtain ⟨h1, h2⟩ := hm m (by simp)
    obtain ⟨h3, h4⟩ := rdyE_iff.1 h2
    have hg2 : GO N es (D ++ E ++ [m]) := h.snoc h1 (rdyE_iff.2 ⟨fun hc => by
      rcases List.mem_append.1 hc with hc | hc
      · exact h3 hc
      · exact hE m hc (by simp), fun a ha => List.mem_append_left _ (h4 a ha)⟩)
    rw [List.append_assoc] at hg2
    have := GO.ons hg T hn'.2 (fun x hx => hm x (by simp [hx])) (E ++ [m]) (fun x hx => by
      rcases List.mem_append.1 hx with hx | hx
      · exact fun hc => hE x hx (by simp [hc])
      · rw [List.mem_singleton.1 hx]; exact hn'.1) hg2
    simpa using this
theorem GO.on (hg : GO N es D) : GO N es (D ++ nowL N es k D) := by
  have := GO.ons hg (nowL N es k D) (nowL_nodup _ _ _ _) (fun m h => nowL_mem h) [] (fun m h => by cases h) (by simpa using hg)
  simpa using this
/-- where something is left, something may be done -/
theorem rdy_some (hv : ∀ a b, (a, b) ∈ es → a < N ∧ b < N) (hr : roundE N es = false) (hg : GO N es D) (hl : D.length < N) : 0 < (rdyL N es D).length := by
  obtain ⟨hG, _⟩ := takeG_end N es
  have hL := round_full hv hr
  have hex : ∃ i, ∃ h : i < (takeG N es).length, (takeG N es)[i] ∉ D := by
    apply Classical.byContradiction
    intro hc
    have : ∀ x ∈ takeG N es, x ∈ D := fun x hx => by
      obtain ⟨i, hi, rfl⟩ := List.mem_iff_getElem.1 hx
      exact Classical.byContradiction fun h => hc ⟨i, hi, h⟩
    have := sub_len hG.nd this
    omega
  obtain ⟨i, ⟨hi, hno⟩, hmin⟩ : ∃ i, (∃ h : i < (takeG N es).length, (takeG N es)[i] ∉ D) ∧ ∀ j, j < i → ¬ ∃ h : j < (takeG N es).length, (takeG N es)[j] ∉ D := by
    obtain ⟨i, hi⟩ := hex
    induction i using Nat.strongRecOn with
    | ind i ih =>
      by_cases hc : ∃ j, j < i ∧ ∃ h : j < (takeG N es).length, (takeG N es)[j] ∉ D
      · obtain ⟨j, hj, hj2⟩ := hc
        exact ih j hj hj2
      · exact ⟨i, hi, fun j hj h => hc ⟨j, hj, h⟩⟩
  apply List.length_pos_of_mem (a := (takeG N es)[i])
  refine rdyL_mem.2 ⟨hG.lt _ (List.getElem_mem hi), rdyE_iff.2 ⟨hno, fun a ha => ?_⟩⟩
  have := hG.bef i _ (List.getElem?_eq_getElem hi) a ha
  obtain ⟨j, hj, e⟩ := List.mem_iff_getElem.1 this
  rw [List.length_take] at hj
  rw [List.getElem_take] at e
  have h3 := hmin j (by omega)
  rw [← e]
  exact Classical.byContradiction fun h => h3 ⟨by omega, h⟩
theorem rdy_none (hg : GO N es D) (hl : D.length = N) : rdyL N es D = [] := by
  apply List.eq_nil_iff_forall_not_mem.2
  intro m hm
  obtain ⟨h1, h2⟩ := rdyL_mem.1 hm
  exact (rdyE_iff.1 h2).1 (hg.full hl h1)
theorem nowL_len (N : Nat) (es : List (Nat × Nat)) (k : Nat) (D : List Nat) : (nowL N es k D).length = min k (rdyL N es D).length := by unfold nowL; rw [List.length_take]
end
/-- behind so many rounds, of which none came when all was done -/
structure GdAt (N : Nat) (es : List (Nat × Nat)) (k j : Nat) (D : List Nat) (L : List (List Nat)) : Prop where
  d : D = (gdS N es k j).1
  l : L = (gdS N es k j).2
  go : GO N es D
  bef : ∀ i, i < j → (gdS N es k i).1.length < N
  len : L.length = j
  le : j ≤ D.length
theorem GdAt.start (N : Nat) (es : List (Nat × Nat)) (k : Nat) : GdAt N es k 0 [] [] := ⟨rfl, rfl, GO.nil _ _, fun i h => by omega, rfl, Nat.le_refl _⟩
theorem GdAt.next {N : Nat} {es : List (Nat × Nat)} {k j : Nat} {D : List Nat} {L : List (List Nat)} (hv : ∀ a b, (a, b) ∈ es → a < N ∧ b < N) (hr : roundE N es = false) (hk : 0 < k) (h : GdAt N es k j D L) (hl : D.length < N) :
    GdAt N es k (j + 1) (D ++ nowL N es k D) (L ++ [nowL N es k D]) := by
  have h1 := rdy_some hv hr h.go hl
  have h2 := nowL_len N es k D
  refine ⟨by rw [h.d]; rfl, by rw [h.l, h.d]; rfl, h.go.on, fun i hi => ?_, by simp [h.len], by have := h.le; rw [List.length_append]; omega⟩
  by_cases e : i = j
  · subst e; rw [← h.d]; exact hl
  · exact h.bef i (by omega)
/-- the rounds, all of them -/
def RoundsIs (N : Nat) (es : List (Nat × Nat)) (k : Nat) (L : List (List Nat)) : Prop := ∃ j D, GdAt N es k j D L ∧ D.length = N
theorem RoundsIs.uniq {N : Nat} {es : List (Nat × Nat)} {k : Nat} {L M : List (List Nat)} (h : RoundsIs N es k L) (h' : RoundsIs N es k M) : L = M := by
  obtain ⟨j, D, g, hd⟩ := h
  obtain ⟨j', D', g', hd'⟩ := h'
  have e : j = j' := by
    rcases Nat.lt_trichotomy j j' with h | h | h
    · have := g'.bef j h
      rw [← g.d] at this; omega
    · exact h
    · have := g.bef j' h
      rw [← g'.d] at this; omega
  subst e
  rw [g.l, g'.l]
theorem rounds_word {N : Nat} {es : List (Nat × Nat)} {k j : Nat} {D : List Nat} {L : List (List Nat)} (h : GdAt N es k j D L) : (∀ T ∈ L, ∀ m ∈ T, m < N) ∧ L.length ≤ N := by
  refine ⟨?_, by rw [h.len]; exact Nat.le_trans h.le h.go.len⟩
  rw [h.l]
  clear h D L
  induction j with
  | zero => intro T hT; cases hT
  | succ j ih =>
    intro T hT m hm
    rcases List.mem_append.1 hT with hT | hT
    · exact ih T hT m hm
    · rw [List.mem_singleton.1 hT] at hm
      exact (nowL_mem hm).1
/-- ready, where q of those taken have come and k edges of the next -/
def gkE (N : Nat) (es : List (Nat × Nat)) (D now out : List Nat) (n k m : Nat) : Bool := decide (m < N) && (!(D ++ now).contains m && wkE es out n k m == 0)
def gkS (N : Nat) (es : List (Nat × Nat)) (D now out : List Nat) (m : Nat) : Bool := decide (m < N) && (!(D ++ now).contains m && wtE es out m == 0)
section
variable {N : Nat} {es : List (Nat × Nat)} {D now out : List Nat} {n : Nat}
theorem gkE_zero (m : Nat) : gkE N es D now out n 0 m = gkS N es D now out m := by unfold gkE gkS; rw [wkE_zero]
theorem gkE_all (hn : n ∉ out) (m : Nat) : gkE N es D now out n (nxE es n).length m = gkS N es D now (out ++ [n]) m := by unfold gkE gkS; rw [wkE_all hn]
theorem gkS_all (m : Nat) : gkS N es D now (D ++ now) m = (decide (m < N) && rdyE es (D ++ now) m) := by unfold gkS rdyE; rfl
/-- what comes behind one of those taken is none of them, nor done -/
theorem gk_new (hg : GO N es D) (hnow : ∀ m ∈ now, rdyE es D m = true) (hn : n ∈ now) {m : Nat} (hm : m ∈ nxE es n) : (D ++ now).contains m = false := by
  have he := nxE_mem.1 hm
  have hnD := (rdyE_iff.1 (hnow n hn)).1
  have a : m ∉ D := fun h => hnD (hg.pre h he)
  have b : m ∉ now := fun h => hnD ((rdyE_iff.1 (hnow m h)).2 n he)
  simp [a, b]
theorem gkE_yes (hv : ∀ a b, (a, b) ∈ es → a < N ∧ b < N) (hnew : ∀ m ∈ nxE es n, (D ++ now).contains m = false) (hn : n ∉ out) {k : Nat} (h : k < (nxE es n).length) (h0 : wkE es out n (k + 1) (nxE es n)[k] = 0) (m : Nat) :
    gkE N es D now out n (k + 1) m = (gkE N es D now out n k m || decide (m = (nxE es n)[k])) := by
  by_cases e : m = (nxE es n)[k]
  · have hm : (nxE es n)[k] ∈ nxE es n := List.getElem_mem h
    rw [decide_eq_true e, Bool.or_true]
    unfold gkE
    rw [e, hnew _ hm, h0, decide_eq_true (hv _ _ (nxE_mem.1 hm)).2]
    rfl
  · rw [decide_eq_false e, Bool.or_false]
    unfold gkE
    rw [wkE_succ hn h, if_neg e]
theorem gkE_was (hn : n ∉ out) {k : Nat} (h : k < (nxE es n).length) : gkE N es D now out n k (nxE es n)[k] = false := by
  have := wkE_pos hn h
  unfold gkE
  have h2 : ((wkE es out n k (nxE es n)[k] : Nat) == 0) = false := by simp; omega
  rw [h2]; simp
theorem gkE_no (hn : n ∉ out) {k : Nat} (h : k < (nxE es n).length) (h0 : wkE es out n (k + 1) (nxE es n)[k] ≠ 0) (m : Nat) : gkE N es D now out n (k + 1) m = gkE N es D now out n k m := by
  unfold gkE
  rw [wkE_succ hn h]
  by_cases e : m = (nxE es n)[k]
  · rw [if_pos e]
    have := wkE_succ hn h m
    rw [if_pos e] at this
    rw [← e] at h0
    have h1 : ((wkE es out n k m - 1 : Nat) == 0) = false := by simp; omega
    have h2 : ((wkE es out n k m : Nat) == 0) = false := by simp; omega
    rw [h1, h2]
  · rw [if_neg e]
end
/-- behind the taking: those ready that were not taken -/
theorem drop_rest {N : Nat} {es : List (Nat × Nat)} (k : Nat) (D : List Nat) : (rdyL N es D).drop k = (List.range N).filter (gkS N es D (nowL N es k D) D) := by
  have h : ∀ (l : List Nat) (k : Nat), l.Nodup → l.drop k = l.filter fun m => !(l.take k).contains m := by
    intro l
    induction l with
    | nil => intro k _; simp
    | cons a r ih =>
      intro k hn
      have hn' := List.nodup_cons.1 hn
      cases k with
      | zero => exact (List.filter_eq_self.2 (fun m _ => by simp)).symm
      | succ k =>
        rw [List.drop_succ_cons, List.take_succ_cons, List.filter_cons_of_neg (by simp), ih k hn'.2]
        apply List.filter_congr
        intro m hm
        have : m ≠ a := fun e => hn'.1 (by rw [← e]; exact hm)
        rw [List.contains_cons]
        have h2 : (m == a) = false := by simpa using this
        rw [h2, Bool.false_or]
  rw [h _ k (rdyL_nodup N es D)]
  show List.filter _ (List.filter _ _) = _
  rw [List.filter_filter]
  apply List.filter_congr
  intro m hm
  unfold gkS rdyE nowL
  rw [decide_eq_true (List.mem_range.1 hm)]
  rw [Bool.true_and, List.contains_append]
  cases D.contains m <;> cases ((rdyL N es D).take k).contains m <;> cases (wtE es D m == 0) <;> rfl
/-- a heap of the numbers below N for which P holds -/
def HpIs (N : Nat) (P : Nat → Bool) (l : List Int) : Prop := l.Perm (((List.range N).filter P).map fun (n : Nat) => (n : Int))
theorem HpIs.congr {N : Nat} {P Q : Nat → Bool} {l : List Int} (h : HpIs N P l) (e : ∀ m, P m = Q m) : HpIs N Q l := by
  have : P = Q := funext e
  rw [← this]; exact h
theorem HpIs.congrN {N : Nat} {P Q : Nat → Bool} {l : List Int} (h : HpIs N P l) (e : ∀ m, m < N → P m = Q m) : HpIs N Q l := by
  unfold HpIs at *
  rwa [List.filter_congr (fun m hm => e m (List.mem_range.1 hm))] at h
theorem HpIs.len {N : Nat} {P : Nat → Bool} {l : List Int} (h : HpIs N P l) : l.length ≤ N := by
  rw [h.length_eq, List.length_map]
  have := List.length_filter_le P (List.range N)
  rwa [List.length_range] at this
theorem filter_add {N n : Nat} {P : Nat → Bool} (hn : n < N) (h0 : P n = false) : ((List.range N).filter fun m => P m || decide (m = n)).Perm ((List.range N).filter P ++ [n]) := by
  have key : ∀ (l : List Nat), l.Nodup → n ∈ l → (l.filter fun m => P m || decide (m = n)).Perm (l.filter P ++ [n]) := by
    intro l
    induction l with
    | nil => intro _ h; cases h
    | cons a r ih =>
      intro hd hm
      have hd' := List.nodup_cons.1 hd
      by_cases e : a = n
      · subst e
        rw [List.filter_cons_of_pos (by simp), List.filter_cons_of_neg (by simp [h0])]
        have : (r.filter fun m => P m || decide (m = a)) = r.filter P := List.filter_congr fun m hm => by
          have : m ≠ a := fun e => hd'.1 (by rw [← e]; exact hm)
          simp [this]
        rw [this]
        exact List.perm_append_comm (l₁ := [a])
      · have hm' : n ∈ r := by
          rcases List.mem_cons.1 hm with h | h
          · exact absurd h.symm e
          · exact h
        have ih := ih hd'.2 hm'
        by_cases hp : P a = true
        · rw [List.filter_cons_of_pos (by simp [hp]), List.filter_cons_of_pos hp]
          exact ih.cons a
        · rw [List.filter_cons_of_neg (by simp [hp, e]), List.filter_cons_of_neg hp]
          exact ih
  exact key _ List.nodup_range (List.mem_range.2 hn)
theorem HpIs.add {N n : Nat} {P : Nat → Bool} {l l' : List Int} (h : HpIs N P l) (hn : n < N) (h0 : P n = false) (hp : l'.Perm (l ++ [(n : Int)])) : HpIs N (fun m => P m || decide (m = n)) l' := by
  unfold HpIs at *
  refine hp.trans ?_
  refine (h.append_right _).trans ?_
  have := ((filter_add hn h0).map (fun (n : Nat) => (n : Int))).symm
  rwa [List.map_append] at this
end Go.Proofs.YtkpjomoofopeaaaDoor
