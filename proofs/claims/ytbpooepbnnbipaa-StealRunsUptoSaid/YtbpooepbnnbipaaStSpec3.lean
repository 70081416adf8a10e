/- Stealing, plainly: what holds of all workers behind each pick. -/
import Derived.Test.YtbpooepbnnbipaaStSpec2
namespace Go.Proofs.Ytbpooepbnnbipaa
set_option linter.unusedVariables false
theorem nodup_le {α : Type} [BEq α] [LawfulBEq α] : ∀ (l m : List α), l.Nodup → (∀ x ∈ l, x ∈ m) → l.length ≤ m.length
  | [], m, _, _ => Nat.zero_le _
  | a :: l, m, h, hs => by
    have hn := List.nodup_cons.1 h
    have ha := hs a (by simp)
    have := nodup_le l (m.erase a) hn.2 (fun x hx => (List.mem_erase_of_ne (show x ≠ a from fun e => by subst e; exact hn.1 hx)).2 (hs x (by simp [hx])))
    rw [List.length_erase_of_mem ha] at this
    have hp : 0 < m.length := List.length_pos_of_mem ha
    simp
    omega
theorem Tok.nodup {t : Tm} {T : List Pt} {dn : Pt → Bool} (h : Tok t T dn) : T.Nodup := h.far.imp (fun {a b} h (e : a = b) => h.1 (by subst e; exact List.suffix_refl _))
theorem Tok.len {t : Tm} {T : List Pt} {dn : Pt → Bool} (h : Tok t T dn) : T.length ≤ (nodesT t).length := nodup_le T _ h.nodup (fun p hp => nodesT_mem t p (h.val p hp))
theorem calmT_none {t : Tm} {s : Ca} (h : calmS t s = none) : calmT t s = s := calmN_none h _
theorem calmT_step {t : Tm} {O : List Pt} {s s' : Ca} (hT : Tok t (s.at_.toList ++ (s.q ++ O)) s.dn) (h : calmS t s = some s') : calmT t s = calmT t s' := by
  obtain ⟨h1, h2, _⟩ := calmS_ok t O s s' hT h
  unfold calmT
  rw [calmN_some h]
  exact (calmN_more t O (muM t) s' (Nat.lt_of_lt_of_le h2 (muT_lt t s)) h1 1).symm
theorem calmT_ok {t : Tm} {O : List Pt} {s : Ca} (hT : Tok t (s.at_.toList ++ (s.q ++ O)) s.dn) : calmS t (calmT t s) = none ∧ Tok t ((calmT t s).at_.toList ++ ((calmT t s).q ++ O)) (calmT t s).dn :=
  calmN_ok t O (muM t) s (muT_lt t s) hT
/-- a worker stands at a leaf, or nowhere -/
def atOk (t : Tm) (a : Option Pt) : Prop := ∀ p, a = some p → ∃ x, subT t p = some x ∧ x.two = none ∧ x.kind = 1
theorem atOk_of {t : Tm} {s : Ca} (hv : ∀ p, s.at_ = some p → (subT t p).isSome = true) (h : calmS t s = none) : atOk t s.at_ := by
  intro p hp
  have hv := hv p hp
  unfold calmS at h
  rw [hp] at h
  simp only at h
  cases hx : subT t p with
  | none => rw [hx] at hv; cases hv
  | some x =>
    rw [hx] at h
    simp only at h
    cases h2 : x.two with
    | some z =>
      obtain ⟨par, a, b⟩ := z
      rw [h2] at h
      cases h
    | none =>
      rw [h2] at h
      simp only at h
      by_cases hk : x.kind = 1
      · exact ⟨x, rfl, h2, hk⟩
      · rw [if_neg hk] at h; cases h
theorem calm_of {t : Tm} {s : Ca} (h : atOk t s.at_) : calmS t s = none := by
  unfold calmS
  cases ha : s.at_ with
  | none => rfl
  | some p =>
    obtain ⟨x, h1, h2, h3⟩ := h p ha
    simp only [h1, h2, h3, if_true]
structure VOk (t : Tm) (k : Nat) (s : Vs) : Prop where
  la : s.at_.length = k
  lq : s.qs.length = k
  tok : Tok t (tokV s) s.dn
  calm : ∀ a ∈ s.at_, atOk t a
/-- .. but for one worker, who may stand anywhere -/
structure VAt (t : Tm) (k w : Nat) (s : Vs) : Prop where
  la : s.at_.length = k
  lq : s.qs.length = k
  tok : Tok t ((s.one w).at_.toList ++ ((s.one w).q ++ othV s w)) s.dn
  calm : ∀ i a, i ≠ w → s.at_[i]? = some a → atOk t a
theorem VOk.at_ {t : Tm} {k : Nat} {s : Vs} (h : VOk t k s) {w : Nat} (hw : w < k) : VAt t k w s :=
  ⟨h.la, h.lq, h.tok.perm (tok_perm s w (by rw [h.la]; exact hw) (by rw [h.lq]; exact hw)), fun i a _ hi => h.calm a (List.mem_of_getElem? hi)⟩
theorem VAt.put {t : Tm} {k w : Nat} {s : Vs} (h : VAt t k w s) (hw : w < k) {c : Ca} (hT : Tok t (c.at_.toList ++ (c.q ++ othV s w)) c.dn) : VAt t k w (s.put w c) := by
  refine ⟨by unfold Vs.put; simp [h.la], by unfold Vs.put; simp [h.lq], ?_, fun i a hi ha => ?_⟩
  · rw [one_put s w c (by rw [h.la]; exact hw) (by rw [h.lq]; exact hw), oth_put]; exact hT
  · unfold Vs.put at ha
    simp only [List.getElem?_set_ne (fun e => hi e.symm)] at ha
    exact h.calm i a hi ha
theorem VAt.ok {t : Tm} {k w : Nat} {s : Vs} (h : VAt t k w s) (hw : w < k) (hc : calmS t (s.one w) = none) : VOk t k s := by
  have h1 : w < s.at_.length := by rw [h.la]; exact hw
  have h2 : w < s.qs.length := by rw [h.lq]; exact hw
  refine ⟨h.la, h.lq, h.tok.perm (tok_perm s w h1 h2).symm, fun a ha => ?_⟩
  obtain ⟨i, hi, rfl⟩ := List.getElem_of_mem ha
  by_cases e : i = w
  · subst e
    have ho := atOk_of (t := t) (s := s.one i) (fun p hp => h.tok.val p (by rw [hp]; simp)) hc
    have e1 : (s.one i).at_ = s.at_[i] := by unfold Vs.one; simp [hi]
    rw [e1] at ho; exact ho
  · exact h.calm i _ e (List.getElem?_eq_getElem hi)
theorem VAt.calmed {t : Tm} {k w : Nat} {s : Vs} (h : VAt t k w s) (hw : w < k) : VOk t k (calmW t s w) := by
  obtain ⟨h1, h2⟩ := calmT_ok (O := othV s w) (s := s.one w) h.tok
  have h3 := h.put hw h2
  refine VAt.ok h3 hw ?_
  show calmS t ((s.put w (calmT t (s.one w))).one w) = none
  rw [one_put s w _ (by rw [h.la]; exact hw) (by rw [h.lq]; exact hw)]
  exact h1
theorem start_at (t : Tm) (k : Nat) (hk : 0 < k) : VAt t k 0 ⟨(List.replicate k none).set 0 (some []), List.replicate k [], fun _ => false, []⟩ := by
  obtain ⟨m, rfl⟩ : ∃ m, k = m + 1 := ⟨k - 1, by omega⟩
  have e : (List.replicate (m + 1) (none : Option Pt)).set 0 (some []) = some [] :: List.replicate m none := by rw [List.replicate_succ]; rfl
  have hO : othV ⟨(List.replicate (m + 1) none).set 0 (some []), List.replicate (m + 1) [], fun _ => false, []⟩ 0 = [] := by
    unfold othV
    simp only [e, List.eraseIdx_cons_zero, List.replicate_succ]
    simp
  refine ⟨by simp, by simp, ?_, fun i a hi ha => ?_⟩
  · rw [hO]
    have e1 : (Vs.one ⟨(List.replicate (m + 1) none).set 0 (some []), List.replicate (m + 1) [], fun _ => false, []⟩ 0) = ⟨some [], fun _ => false, []⟩ := by unfold Vs.one; simp [e]
    rw [e1]
    refine ⟨fun p hp => ?_, ?_, fun _ _ _ _ => rfl, fun up x y h2 c hc ha => ?_, fun b up _ h => by cases h⟩
    · simp at hp; subst hp; rfl
    · simp
    · rcases hc with hc | hc
      · cases hc
      · simp at hc; subst hc
        have := List.suffix_nil.1 ha
        cases this
  · rw [e] at ha
    cases i with
    | zero => exact absurd rfl hi
    | succ i =>
      simp only [List.getElem?_cons_succ, List.getElem?_replicate] at ha
      split at ha
      · injection ha with ha; subst ha; intro p hp; cases hp
      · cases ha
theorem start_ok (t : Tm) (k : Nat) (hk : 0 < k) : VOk t k (startV t k) := (start_at t k hk).calmed hk
theorem end_at {t : Tm} {k w : Nat} {s : Vs} (h : VOk t k s) (hw : w < k) {p : Pt} (hp : (s.at_[w]?).getD none = some p) : VAt t k w (endV t s w p) := by
  have hv := h.at_ hw
  have ha : (s.one w).at_ = some p := hp
  have hT := hv.tok
  rw [ha] at hT
  have h1 : w < s.at_.length := by rw [h.la]; exact hw
  have hat : s.at_[w] = some p := by rw [List.getElem?_eq_getElem h1] at hp; exact hp
  obtain ⟨x, hx, h2, hk⟩ := h.calm _ (List.getElem_mem h1) p hat
  have hpre : PreE t ((s.one w).q ++ othV s w) s.dn p := preE_of hT (fun b hb => by
    obtain ⟨par, y, z, e⟩ := subT_up hb
    unfold twoT at e
    rw [hx] at e
    rw [show (some x).bind Tm.two = x.two from rfl, h2] at e; cases e)
  have hpost := endP_ok t (othV s w) p s.dn (s.one w).q hpre
  have := (hv.put hw (c := ⟨(endP t s.dn (s.one w).q p).1, (endP t s.dn (s.one w).q p).2.1, (endP t s.dn (s.one w).q p).2.2⟩) hpost.tok)
  exact ⟨this.la, this.lq, this.tok, this.calm⟩
theorem steal_at {t : Tm} {k w v : Nat} {s : Vs} (h : VOk t k s) (hw : w < k) (hv : v < k) (hne : v ≠ w) (hp : (s.at_[w]?).getD none = none) : VAt t k w (stealV s w v) := by
  unfold stealV
  have hvq : v < s.qs.length := by rw [h.lq]; exact hv
  have hwa : w < s.at_.length := by rw [h.la]; exact hw
  have hwq : w < s.qs.length := by rw [h.lq]; exact hw
  cases hq : (s.qs[v]?).getD [] with
  | nil => exact h.at_ hw
  | cons a r =>
    have hqv : s.qs[v] = a :: r := by rw [List.getElem?_eq_getElem hvq] at hq; exact hq
    have haw : s.at_[w] = none := by rw [List.getElem?_eq_getElem hwa] at hp; exact hp
    have hl1 : (s.at_.set w (some a)).length = k := by simp [h.la]
    have hl2 : (s.qs.set v r).length = k := by simp [h.lq]
    refine ⟨hl1, hl2, ?_, fun i b hi hb => ?_⟩
    · refine Tok.perm (T := tokV ⟨s.at_.set w (some a), s.qs.set v r, s.dn, s.out⟩) ?_ (tok_perm _ w (by rw [hl1]; exact hw) (by rw [hl2]; exact hw))
      refine h.tok.perm ?_
      unfold tokV
      have q1 : (s.at_.filterMap id).Perm ((s.at_.eraseIdx w).filterMap id) := by
        have := (erase_perm s.at_ w hwa).filterMap id
        rw [haw] at this
        simpa using this
      have q2 : ((s.at_.set w (some a)).filterMap id).Perm (a :: (s.at_.eraseIdx w).filterMap id) := by
        have := (erase_perm (s.at_.set w (some a)) w (by simpa using hwa)).filterMap id
        rw [List.getElem_set_self, eraseIdx_set] at this
        simpa using this
      have q3 : (s.qs.flatten).Perm (a :: (r ++ (s.qs.eraseIdx v).flatten)) := by
        have := (erase_perm s.qs v hvq).flatten
        rw [hqv] at this
        simpa using this
      have q4 : ((s.qs.set v r).flatten).Perm (r ++ (s.qs.eraseIdx v).flatten) := by
        have := (erase_perm (s.qs.set v r) v (by simpa using hvq)).flatten
        rw [List.getElem_set_self, eraseIdx_set] at this
        simpa using this
      refine ((q1.append q3).trans ?_).trans (q2.append q4).symm
      exact List.perm_middle
    · simp only [List.getElem?_set_ne (fun e => hi e.symm)] at hb
      exact h.calm b (List.mem_of_getElem? hb)
theorem act_at {t : Tm} {k w : Nat} {s : Vs} (h : VOk t k s) (hw : w < k) (whom : Int) : VAt t k w (actV t s w whom) := by
  unfold actV
  cases hp : (s.at_[w]?).getD none with
  | some p => exact end_at h hw hp
  | none =>
    show VAt t k w (if 0 ≤ whom ∧ whom < s.at_.length ∧ whom ≠ w then stealV s w whom.toNat else s)
    by_cases hc : 0 ≤ whom ∧ whom < s.at_.length ∧ whom ≠ w
    · rw [if_pos hc]
      rw [h.la] at hc
      exact steal_at h hw (by omega) (by omega) hp
    · rw [if_neg hc]; exact h.at_ hw
theorem pick_ok {t : Tm} {k : Nat} {s : Vs} (h : VOk t k s) (who whom : Int) : VOk t k (pickV t s who whom) := by
  unfold pickV
  split
  · rename_i hc
    rw [h.la] at hc
    exact (act_at h (by omega) whom).calmed (by omega)
  · exact h
theorem run_ok (t : Tm) (k : Nat) (hk : 0 < k) (ps : List (Int × Int)) : VOk t k (runV t k ps) := by
  have : ∀ (ps : List (Int × Int)) (s : Vs), VOk t k s → VOk t k (ps.foldl (fun s p => pickV t s p.1 p.2) s) := by
    intro ps
    induction ps with
    | nil => exact fun s h => h
    | cons p ps ih => exact fun s h => ih _ (pick_ok h p.1 p.2)
  exact this ps _ (start_ok t k hk)
end Go.Proofs.Ytbpooepbnnbipaa
