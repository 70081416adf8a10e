/- Phasers as plain data: what package phaser and its reference reckon, and that they agree. -/
import Derived.Test.YthbbecmffndgdaaBase
namespace Go.Proofs.Ythbbecmffndgdaa
set_option linter.unusedVariables false
structure PhS where
  I : List Bool
  H : List Bool
  ph : Nat
structure PhO where
  kind : Int
  who : Int
  by_ : Int
def in16 (n : Int) : Bool := decide (0 ≤ n) && decide (n < 16)
def atB (l : List Bool) (n : Int) : Bool := (l[n.toNat]?).getD false
def freeP (s : PhS) (n : Int) : Int := if in16 n && atB s.I n then (if atB s.H n then 8 else 0) else 7
def noB : List Bool := List.replicate 16 false
def fullP (s : PhS) : Bool := (s.I == s.H) && !(s.I == noB)
def turnP (s : PhS) : PhS := if fullP s then ⟨s.I, noB, s.ph + 1⟩ else s
def whoP (o : PhO) : Int := if o.kind = 1 then o.by_ else o.who
def errP (s : PhS) (o : PhO) : Int := if freeP s (whoP o) = 0 ∧ o.kind = 1 ∧ (in16 o.who && !atB s.I o.who) = false then 2 else freeP s (whoP o)
def actP (s : PhS) (o : PhO) : PhS :=
  if o.kind = 1 then ⟨s.I.set o.who.toNat true, s.H, s.ph⟩
  else if o.kind = 2 then turnP ⟨s.I, s.H.set (whoP o).toNat true, s.ph⟩
  else if o.kind = 3 then turnP ⟨s.I.set (whoP o).toNat false, s.H, s.ph⟩
  else s
def doP (s : PhS) (o : PhO) : PhS × (Int × Int) :=
  if o.kind < 1 ∨ 4 < o.kind then (s, 9, 0)
  else if o.kind = 4 ∧ errP s o = 8 then (s, 8, s.ph)
  else if errP s o ≠ 0 then (s, errP s o, 0)
  else (actP s o, 0, (actP s o).ph)
def newP : PhS := ⟨noB.set 0 true, noB, 0⟩
def playP (s : PhS) : List PhO → List (Int × Int)
  | [] => []
  | o :: r => (doP s o).2 :: playP (doP s o).1 r
/-- the reference: lists of those that are registered, and of those that wait -/
structure RfS where
  inn : List Int
  wait : List Int
  ph : Nat
def errR (s : RfS) (o : PhO) : Int :=
  if o.kind < 1 ∨ 4 < o.kind then 9
  else if s.inn.contains (whoP o) = false then 7
  else if s.wait.contains (whoP o) = true then 8
  else if o.kind = 1 ∧ (o.who < 0 ∨ 15 < o.who ∨ s.inn.contains o.who = true) then 2 else 0
def listR (s : RfS) (o : PhO) : RfS :=
  if errR s o ≠ 0 then s
  else if o.kind = 1 then ⟨s.inn ++ [o.who], s.wait, s.ph⟩
  else if o.kind = 2 then ⟨s.inn, s.wait ++ [whoP o], s.ph⟩
  else if o.kind = 3 then ⟨s.inn.filter fun n => !decide (n = whoP o), s.wait, s.ph⟩
  else s
def turnR (s : RfS) : RfS := if 0 < s.inn.length ∧ s.inn.length = s.wait.length then ⟨s.inn, [], s.ph + 1⟩ else s
def doR (s : RfS) (o : PhO) : RfS × (Int × Int) :=
  (turnR (listR s o), errR s o, if errR s o = 0 then ((turnR (listR s o)).ph : Int) else if errR s o = 8 ∧ o.kind = 4 then (s.ph : Int) else 0)
def newR : RfS := ⟨[0], [], 0⟩
def playR (s : RfS) : List PhO → List (Int × Int)
  | [] => []
  | o :: r => (doR s o).2 :: playR (doR s o).1 r
/-- how many numbers below n are so -/
def cntP (P : Nat → Bool) : Nat → Nat
  | 0 => 0
  | n + 1 => cntP P n + (if P n then 1 else 0)
theorem cntP_add {P : Nat → Bool} {k : Nat} : ∀ {n : Nat}, k < n → P k = false → cntP (fun i => decide (i = k) || P i) n = cntP P n + 1
  | 0, h, _ => by omega
  | n + 1, h, hk => by
    unfold cntP
    by_cases e : n = k
    · subst e
      have key : ∀ m, m ≤ n → cntP (fun i => decide (i = n) || P i) m = cntP P m := by
        intro m hm
        induction m with
        | zero => rfl
        | succ m ih =>
          unfold cntP
          rw [ih (by omega), decide_eq_false (by omega), Bool.false_or]
      rw [key n (Nat.le_refl _), hk]
      simp
    · rw [cntP_add (by omega) hk, decide_eq_false e, Bool.false_or]
      omega
theorem cntP_le {P Q : Nat → Bool} {n : Nat} (h : ∀ i, i < n → P i = true → Q i = true) : cntP P n ≤ cntP Q n := by
  induction n with
  | zero => simp [cntP]
  | succ n ih =>
    have h1 := ih (fun j hj => h j (by omega))
    have h2 := h n (by omega)
    unfold cntP
    cases hp : P n
    · rw [if_neg (by simp)]; omega
    · rw [if_pos rfl, if_pos (h2 hp)]; omega
theorem cntP_eq {P Q : Nat → Bool} {n : Nat} (h : ∀ i, i < n → P i = true → Q i = true) (he : cntP P n = cntP Q n) : ∀ i, i < n → P i = Q i := by
  induction n with
  | zero => intro i hi; omega
  | succ n ih =>
    have h1 := cntP_le (n := n) (fun j hj => h j (by omega))
    have h2 := h n (by omega)
    unfold cntP at he
    have h3 : P n = Q n := by
      cases hp : P n
      · cases hq : Q n
        · rfl
        · rw [hp, hq, if_neg (by simp), if_pos rfl] at he; omega
      · rw [h2 hp]
    have h4 : cntP P n = cntP Q n := by rw [h3] at he; omega
    intro i hi
    rcases Nat.lt_or_ge i n with h5 | h5
    · exact ih (fun j hj => h j (by omega)) h4 i h5
    · have : i = n := by omega
      subst this; exact h3
theorem cntP_congr {P Q : Nat → Bool} {n : Nat} (h : ∀ i, i < n → P i = Q i) : cntP P n = cntP Q n := by
  induction n with
  | zero => rfl
  | succ n ih => unfold cntP; rw [ih (fun j hj => h j (by omega)), h n (by omega)]
theorem len_cnt : ∀ {l : List Int}, l.Nodup → (∀ x ∈ l, 0 ≤ x ∧ x < 16) → l.length = cntP (fun i => l.contains (i : Int)) 16
  | [], _, _ => by rfl
  | x :: r, hn, hr => by
    obtain ⟨h1, h2⟩ := List.nodup_cons.1 hn
    have hx := hr x (by simp)
    obtain ⟨k, rfl⟩ := Int.eq_ofNat_of_zero_le hx.1
    have hk : k < 16 := by omega
    rw [List.length_cons, len_cnt h2 (fun y hy => hr y (by simp [hy]))]
    rw [← cntP_add hk (P := fun i => r.contains (i : Int)) (by simpa using h1)]
    apply cntP_congr
    intro i _
    rw [List.contains_cons]
    congr 1
    rw [Bool.eq_iff_iff]
    simp
    omega
structure PhR (s : PhS) (t : RfS) : Prop where
  li : s.I.length = 16
  lh : s.H.length = 16
  ph : s.ph = t.ph
  ni : t.inn.Nodup
  nw : t.wait.Nodup
  ri : ∀ x ∈ t.inn, 0 ≤ x ∧ x < 16
  sub : ∀ x ∈ t.wait, x ∈ t.inn
  ci : ∀ n : Nat, n < 16 → atB s.I n = t.inn.contains (n : Int)
  ch : ∀ n : Nat, n < 16 → atB s.H n = t.wait.contains (n : Int)
def Idle (t : RfS) : Prop := ¬ (0 < t.inn.length ∧ t.inn.length = t.wait.length)
theorem atB_nat (l : List Bool) (n : Nat) : atB l (n : Int) = (l[n]?).getD false := by simp [atB]
theorem list_ext16 {l m : List Bool} (hl : l.length = 16) (hm : m.length = 16) (h : ∀ n : Nat, n < 16 → atB l n = atB m n) : l = m := by
  apply List.ext_getElem (by omega)
  intro n h1 h2
  have := h n (by omega)
  rw [atB_nat, atB_nat, List.getElem?_eq_getElem h1, List.getElem?_eq_getElem h2] at this
  exact this
theorem noB_at (n : Nat) : atB noB (n : Int) = false := by
  rw [atB_nat]
  unfold noB
  rw [List.getElem?_replicate]
  split <;> rfl
theorem full_eq {s : PhS} {t : RfS} (r : PhR s t) : fullP s = decide (0 < t.inn.length ∧ t.inn.length = t.wait.length) := by
  have rw16 : ∀ x ∈ t.wait, 0 ≤ x ∧ x < 16 := fun x hx => r.ri x (r.sub x hx)
  rw [Bool.eq_iff_iff, decide_eq_true_eq]
  unfold fullP
  rw [Bool.and_eq_true, Bool.not_eq_true', beq_iff_eq, beq_eq_false_iff_ne]
  constructor
  · rintro ⟨h1, h2⟩
    have e : t.inn.length = t.wait.length := by
      rw [len_cnt r.ni r.ri, len_cnt r.nw rw16]
      apply cntP_congr
      intro i hi
      rw [← r.ci i hi, ← r.ch i hi, h1]
    refine ⟨?_, e⟩
    rcases Nat.eq_zero_or_pos t.inn.length with h | h
    · exfalso
      apply h2
      refine list_ext16 r.li (by simp [noB]) fun n hn => ?_
      rw [r.ci n hn, noB_at, List.length_eq_zero_iff.1 h]; rfl
    · exact h
  · rintro ⟨h1, h2⟩
    have key := cntP_eq (P := fun i => t.wait.contains (i : Int)) (Q := fun i => t.inn.contains (i : Int)) (n := 16) (fun i _ h => by
      simp only [List.contains_iff_mem] at h ⊢
      exact r.sub _ h) (by rw [← len_cnt r.ni r.ri, ← len_cnt r.nw rw16, h2])
    refine ⟨list_ext16 r.li r.lh fun n hn => by rw [r.ci n hn, r.ch n hn]; exact (key n hn).symm, fun h => ?_⟩
    obtain ⟨x, hx⟩ : ∃ x, x ∈ t.inn := by
      cases e : t.inn with
      | nil => rw [e] at h1; simp at h1
      | cons x l => exact ⟨x, by simp⟩
    have hb := r.ri x hx
    obtain ⟨k, rfl⟩ := Int.eq_ofNat_of_zero_le hb.1
    have h3 := r.ci k (by omega)
    rw [h, noB_at] at h3
    have h4 : t.inn.contains (k : Int) = true := by rw [List.contains_iff_mem]; exact hx
    rw [h4] at h3; cases h3
theorem turn_eq {s : PhS} {t : RfS} (r : PhR s t) : PhR (turnP s) (turnR t) ∧ Idle (turnR t) := by
  unfold turnP turnR
  rw [full_eq r]
  by_cases h : 0 < t.inn.length ∧ t.inn.length = t.wait.length
  · rw [decide_eq_true h, if_pos rfl, if_pos h]
    exact ⟨⟨r.li, by simp [noB], by simp [r.ph], r.ni, List.nodup_nil, r.ri, by simp, r.ci, fun n hn => by rw [noB_at]; rfl⟩, by unfold Idle; simp; intro h2 h3; rw [h3] at h; simp at h⟩
  · rw [decide_eq_false h, if_neg (by simp), if_neg h]
    exact ⟨r, h⟩
theorem turn_idle {t : RfS} (h : Idle t) : turnR t = t := by unfold turnR; rw [if_neg h]
theorem in_eq {s : PhS} {t : RfS} (r : PhR s t) (n : Int) : (in16 n && atB s.I n) = t.inn.contains n := by
  by_cases h : 0 ≤ n ∧ n < 16
  · obtain ⟨k, rfl⟩ := Int.eq_ofNat_of_zero_le h.1
    unfold in16
    rw [decide_eq_true h.1, decide_eq_true h.2, r.ci k (by omega)]; rfl
  · have h1 : in16 n = false := by unfold in16; rw [Bool.and_eq_false_iff]; simp; omega
    rw [h1, Bool.false_and]
    cases e : t.inn.contains n
    · rfl
    · rw [List.contains_iff_mem] at e
      exact absurd (r.ri n e) h
theorem free_eq {s : PhS} {t : RfS} (r : PhR s t) (n : Int) : freeP s n = if t.inn.contains n = false then 7 else if t.wait.contains n = true then 8 else 0 := by
  unfold freeP
  rw [in_eq r]
  cases e : t.inn.contains n
  · simp
  · have hm := r.ri n (List.contains_iff_mem.1 e)
    obtain ⟨k, rfl⟩ := Int.eq_ofNat_of_zero_le hm.1
    have h := r.ch k (by omega)
    rw [h]
    simp
theorem err_eq {s : PhS} {t : RfS} (r : PhR s t) (o : PhO) (hk : ¬ (o.kind < 1 ∨ 4 < o.kind)) : errP s o = errR t o := by
  unfold errP errR
  rw [if_neg hk, free_eq r]
  have hc : (in16 o.who && !atB s.I o.who) = false ↔ (o.who < 0 ∨ 15 < o.who ∨ t.inn.contains o.who = true) := by
    have hin := in_eq r o.who
    by_cases h0 : 0 ≤ o.who ∧ o.who < 16
    · have h16 : in16 o.who = true := by unfold in16; simp [h0]
      rw [h16, Bool.true_and] at hin ⊢
      rw [hin]
      constructor
      · intro h; exact .inr (.inr (by simpa using h))
      · rintro (h | h | h)
        · omega
        · omega
        · rw [h]; rfl
    · have h16 : in16 o.who = false := by unfold in16; rw [Bool.and_eq_false_iff, decide_eq_false_iff_not, decide_eq_false_iff_not]; omega
      rw [h16, Bool.false_and]
      constructor
      · intro _; omega
      · intro _; rfl
  simp only [hc]
  cases e1 : t.inn.contains (whoP o)
  · simp
  · cases e2 : t.wait.contains (whoP o)
    · simp
    · simp
theorem setB_at {l : List Bool} {k : Nat} (x : Bool) (hl : l.length = 16) (hk : k < 16) (n : Nat) (hn : n < 16) : atB (l.set k x) n = if n = k then x else atB l n := by
  rw [atB_nat, atB_nat, List.getElem?_set]
  by_cases e : k = n
  · subst e; rw [if_pos rfl, if_pos (by omega), if_pos rfl]; rfl
  · rw [if_neg e, if_neg (fun h => e h.symm)]
theorem do_eq {s : PhS} {t : RfS} (r : PhR s t) (hi : Idle t) (o : PhO) : (doP s o).2 = (doR t o).2 ∧ PhR (doP s o).1 (doR t o).1 ∧ Idle (doR t o).1 := by
  by_cases hk : o.kind < 1 ∨ 4 < o.kind
  · have he : errR t o = 9 := by unfold errR; rw [if_pos hk]
    have hl : listR t o = t := by unfold listR; rw [if_pos (by rw [he]; decide)]
    unfold doP doR
    rw [if_pos hk, he, hl, turn_idle hi]
    exact ⟨by simp, r, hi⟩
  · have he := err_eq r o hk
    by_cases h0 : errR t o = 0
    · have h8 : ¬ (o.kind = 4 ∧ errP s o = 8) := by rw [he, h0]; simp
      have hP : doP s o = (actP s o, 0, ((actP s o).ph : Int)) := by
        unfold doP; rw [if_neg hk, if_neg h8, if_neg (by rw [he]; simp [h0])]
      have hR : doR t o = (turnR (listR t o), 0, ((turnR (listR t o)).ph : Int)) := by
        unfold doR; rw [h0, if_pos rfl]
      rw [hP, hR]
      have hmain : PhR (actP s o) (turnR (listR t o)) ∧ Idle (turnR (listR t o)) := by
        have hin : t.inn.contains (whoP o) = true := by
          cases e : t.inn.contains (whoP o)
          · unfold errR at h0; rw [if_neg hk, if_pos e] at h0; cases h0
          · rfl
        have hwt : t.wait.contains (whoP o) = false := by
          cases e : t.wait.contains (whoP o)
          · rfl
          · unfold errR at h0; rw [if_neg hk, if_neg (by rw [hin]; simp), if_pos e] at h0; cases h0
        have hwm := r.ri _ (List.contains_iff_mem.1 hin)
        have hwn : whoP o ∉ t.wait := fun h => by rw [List.contains_iff_mem.2 h] at hwt; cases hwt
        obtain ⟨wk, hwk⟩ := Int.eq_ofNat_of_zero_le hwm.1
        have hwk16 : wk < 16 := by omega
        have hL : listR t o = if o.kind = 1 then ⟨t.inn ++ [o.who], t.wait, t.ph⟩ else if o.kind = 2 then ⟨t.inn, t.wait ++ [whoP o], t.ph⟩ else if o.kind = 3 then ⟨t.inn.filter fun n => !decide (n = whoP o), t.wait, t.ph⟩ else t := by
          unfold listR; rw [if_neg (by rw [h0]; simp)]
        rw [hL]
        unfold actP
        by_cases k1 : o.kind = 1
        · have h2 : ¬ (o.who < 0 ∨ 15 < o.who ∨ t.inn.contains o.who = true) := by
            intro h
            unfold errR at h0
            rw [if_neg hk, if_neg (by rw [hin]; simp), if_neg (by rw [hwt]; simp), if_pos ⟨k1, h⟩] at h0
            cases h0
          have hw0 : ¬ o.who < 0 := fun h => h2 (.inl h)
          have hw1 : ¬ 15 < o.who := fun h => h2 (.inr (.inl h))
          have hw2 : o.who ∉ t.inn := fun h => h2 (.inr (.inr (List.contains_iff_mem.2 h)))
          obtain ⟨k, hkk⟩ := Int.eq_ofNat_of_zero_le (show 0 ≤ o.who by omega)
          have hk16 : k < 16 := by omega
          rw [if_pos k1, if_pos k1]
          have hle : t.wait.length ≤ t.inn.length := by
            rw [len_cnt r.ni r.ri, len_cnt r.nw (fun x hx => r.ri x (r.sub x hx))]
            apply cntP_le
            intro i _ h
            simp only [List.contains_iff_mem] at h ⊢
            exact r.sub _ h
          have hidle : Idle ⟨t.inn ++ [o.who], t.wait, t.ph⟩ := by unfold Idle; simp; omega
          rw [turn_idle hidle]
          refine ⟨⟨by simp [r.li], r.lh, r.ph, ?_, r.nw, ?_, ?_, ?_, r.ch⟩, hidle⟩
          · rw [List.nodup_append]
            refine ⟨r.ni, by simp, ?_⟩
            intro a ha b hb
            simp at hb
            subst hb
            exact fun e => hw2 (e ▸ ha)
          · intro x hx
            rcases List.mem_append.1 hx with h | h
            · exact r.ri x h
            · simp at h; subst h; omega
          · intro x hx; exact List.mem_append_left _ (r.sub x hx)
          · intro n hn
            rw [hkk, Int.toNat_natCast, setB_at true r.li hk16 n hn, List.contains_append, r.ci n hn]
            by_cases e : n = k
            · subst e; rw [if_pos rfl]; simp
            · rw [if_neg e]
              have : ([(k : Int)] : List Int).contains (n : Int) = false := by simp; omega
              rw [this, Bool.or_false]
        · rw [if_neg k1, if_neg k1]
          by_cases k2 : o.kind = 2
          · rw [if_pos k2, if_pos k2]
            apply turn_eq
            refine ⟨r.li, by simp [r.lh], r.ph, r.ni, ?_, r.ri, ?_, r.ci, ?_⟩
            · rw [List.nodup_append]
              refine ⟨r.nw, by simp, ?_⟩
              intro a ha b hb
              simp at hb
              subst hb
              exact fun e => hwn (e ▸ ha)
            · intro x hx
              rcases List.mem_append.1 hx with h | h
              · exact r.sub x h
              · simp at h; subst h; exact List.contains_iff_mem.1 hin
            · intro n hn
              rw [hwk, Int.toNat_natCast, setB_at true r.lh hwk16 n hn, List.contains_append, r.ch n hn]
              by_cases e : n = wk
              · subst e; rw [if_pos rfl]; simp
              · rw [if_neg e]
                have : ([(wk : Int)] : List Int).contains (n : Int) = false := by simp; omega
                rw [this, Bool.or_false]
          · rw [if_neg k2, if_neg k2]
            by_cases k3 : o.kind = 3
            · rw [if_pos k3, if_pos k3]
              apply turn_eq
              refine ⟨by simp [r.li], r.lh, r.ph, r.ni.filter _, r.nw, ?_, ?_, ?_, r.ch⟩
              · intro x hx; exact r.ri x (List.mem_filter.1 hx).1
              · intro x hx
                refine List.mem_filter.2 ⟨r.sub x hx, ?_⟩
                simp
                exact fun e => hwn (e ▸ hx)
              · intro n hn
                rw [hwk, Int.toNat_natCast, setB_at false r.li hwk16 n hn]
                by_cases e : n = wk
                · subst e
                  rw [if_pos rfl]
                  cases e2 : (t.inn.filter fun m => !decide (m = (n : Int))).contains (n : Int)
                  · rfl
                  · rw [List.contains_iff_mem, List.mem_filter] at e2
                    simp at e2
                · rw [if_neg e, r.ci n hn, Bool.eq_iff_iff, List.contains_iff_mem, List.contains_iff_mem, List.mem_filter]
                  simp
                  intro _; omega
            · rw [if_neg k3, if_neg k3, turn_idle hi]
              exact ⟨r, hi⟩
      refine ⟨?_, hmain⟩
      rw [hmain.1.ph]
    · have hl : listR t o = t := by unfold listR; rw [if_pos h0]
      by_cases h8 : o.kind = 4 ∧ errP s o = 8
      · have hP : doP s o = (s, 8, (s.ph : Int)) := by unfold doP; rw [if_neg hk, if_pos h8]
        have hR : doR t o = (t, 8, (t.ph : Int)) := by
          unfold doR
          rw [hl, turn_idle hi, ← he, h8.2, if_neg (by decide), if_pos ⟨rfl, h8.1⟩]
        rw [hP, hR, r.ph]
        exact ⟨rfl, r, hi⟩
      · have hP : doP s o = (s, errP s o, 0) := by unfold doP; rw [if_neg hk, if_neg h8, if_pos (by rw [he]; exact h0)]
        have hR : doR t o = (t, errR t o, 0) := by
          unfold doR
          rw [hl, turn_idle hi, if_neg h0, if_neg (fun h => h8 ⟨h.2, by rw [he]; exact h.1⟩)]
        rw [hP, hR, he]
        exact ⟨rfl, r, hi⟩
theorem new_eq : PhR newP newR ∧ Idle newR := by
  refine ⟨⟨by decide, by decide, rfl, by decide, by decide, ?_, by simp [newR], ?_, ?_⟩, by unfold Idle newR; simp⟩
  · intro x hx; simp [newR] at hx; subst hx; omega
  · have key : ∀ n : Fin 16, atB newP.I (n.val : Int) = newR.inn.contains (n.val : Int) := by decide
    exact fun n hn => key ⟨n, hn⟩
  · have key : ∀ n : Fin 16, atB newP.H (n.val : Int) = newR.wait.contains (n.val : Int) := by decide
    exact fun n hn => key ⟨n, hn⟩
theorem play_eq (l : List PhO) : ∀ (s : PhS) (t : RfS), PhR s t → Idle t → playP s l = playR t l := by
  induction l with
  | nil => intro s t _ _; rfl
  | cons o l ih =>
    intro s t r hi
    obtain ⟨h1, h2, h3⟩ := do_eq r hi o
    unfold playP playR
    rw [h1, ih _ _ h2 h3]
end Go.Proofs.Ythbbecmffndgdaa
