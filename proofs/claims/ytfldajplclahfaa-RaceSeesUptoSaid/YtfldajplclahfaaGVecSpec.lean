/- Texts merged: MkSpec, RcSpec, VecSpec. -/
import Derived.Test.YtfldajplclahfaaSpSpec
import Derived.Test.YtfldajplclahfaaFlat
/- What a marker writes, plainly. -/
namespace Go.Proofs.Ytfldajplclahfaa
set_option linter.unusedVariables false
def zipP : Nat → List Nat → List (Int × Int)
  | _, [] => []
  | b, p :: r => ((b : Int), (p : Int)) :: zipP (b + 1) r
theorem zipP_len (b : Nat) (l : List Nat) : (zipP b l).length = l.length := by
  induction l generalizing b with
  | nil => rfl
  | cons p r ih => simp [zipP, ih]
theorem zipP_append (b : Nat) (l m : List Nat) : zipP b (l ++ m) = zipP b l ++ zipP (b + l.length) m := by
  induction l generalizing b with
  | nil => simp [zipP]
  | cons p r ih => simp only [List.cons_append, zipP, ih, List.length_cons]; rw [show b + 1 + r.length = b + (r.length + 1) by omega]
theorem zipP_get (b : Nat) (l : List Nat) (i p : Nat) (h : l[i]? = some p) : (zipP b l)[i]? = some (((b + i : Nat) : Int), (p : Int)) := by
  induction l generalizing b i with
  | nil => simp at h
  | cons x r ih =>
    match i, h with
    | 0, h => simp at h; subst h; simp [zipP]
    | i + 1, h =>
      simp only [zipP, List.getElem?_cons_succ] at h ⊢
      rw [ih (b + 1) i h, show b + 1 + i = b + (i + 1) by omega]
/-- L with the places of the leaves from b on written in -/
def mkOut (L : List (Int × Int)) (b : Nat) (ps : List Nat) : List (Int × Int) := L.take b ++ zipP b ps ++ L.drop (b + ps.length)
theorem mkOut_len {L : List (Int × Int)} {b : Nat} {ps : List Nat} (h : b + ps.length ≤ L.length) : (mkOut L b ps).length = L.length := by
  simp [mkOut, zipP_len]; omega
theorem mkOut_get {L : List (Int × Int)} {b : Nat} {ps : List Nat} (h : b + ps.length ≤ L.length) (k : Nat) : (mkOut L b ps)[k]? = if b ≤ k ∧ k < b + ps.length then (zipP b ps)[k - b]? else L[k]? := by
  unfold mkOut
  rcases Nat.lt_or_ge k b with h1 | h1
  · rw [if_neg (by omega), List.append_assoc, List.getElem?_append_left (by simp; omega), List.getElem?_take, if_pos h1]
  · rcases Nat.lt_or_ge k (b + ps.length) with h2 | h2
    · rw [if_pos ⟨h1, h2⟩, List.getElem?_append_left (by simp [zipP_len]; omega), List.getElem?_append_right (by simp; omega)]
      congr 1; simp; omega
    · rw [if_neg (by omega), List.getElem?_append_right (by simp [zipP_len]; omega), List.getElem?_drop]
      congr 1; simp [zipP_len]; omega
theorem mkOut_nil (L : List (Int × Int)) (b : Nat) : mkOut L b [] = L := by simp [mkOut, zipP]
theorem mkOut_one {L : List (Int × Int)} {b : Nat} (h : b < L.length) (p : Nat) : mkOut L b [p] = L.set b ((b : Int), (p : Int)) := by
  apply List.ext_getElem?
  intro k
  rw [mkOut_get (by simp; omega), List.getElem?_set]
  by_cases e : b = k
  · subst e; simp [h, zipP]
  · rw [if_neg (by simp; omega), if_neg e]
theorem mkOut_lr {L : List (Int × Int)} {b : Nat} {ps qs : List Nat} (h : b + ps.length + qs.length ≤ L.length) : mkOut (mkOut L b ps) (b + ps.length) qs = mkOut L b (ps ++ qs) := by
  apply List.ext_getElem?
  intro k
  have h1 : b + ps.length ≤ L.length := by omega
  rw [mkOut_get (by rw [mkOut_len h1]; omega), mkOut_get h1, mkOut_get (by simp; omega), zipP_append, List.length_append]
  by_cases c1 : b + ps.length ≤ k ∧ k < b + ps.length + qs.length
  · rw [if_pos c1, if_pos (by omega), List.getElem?_append_right (by rw [zipP_len]; omega), zipP_len]
    congr 1; omega
  · rw [if_neg c1]
    by_cases c2 : b ≤ k ∧ k < b + ps.length
    · rw [if_pos c2, if_pos (by omega), List.getElem?_append_left (by rw [zipP_len]; omega)]
    · rw [if_neg c2, if_neg (by omega)]
theorem mkOut_rl {L : List (Int × Int)} {b : Nat} {ps qs : List Nat} (h : b + ps.length + qs.length ≤ L.length) : mkOut (mkOut L (b + ps.length) qs) b ps = mkOut L b (ps ++ qs) := by
  apply List.ext_getElem?
  intro k
  rw [mkOut_get (by rw [mkOut_len h]; omega), mkOut_get h, mkOut_get (by simp; omega), zipP_append, List.length_append]
  by_cases c2 : b ≤ k ∧ k < b + ps.length
  · rw [if_pos c2, if_pos (by omega), List.getElem?_append_left (by rw [zipP_len]; omega)]
  · rw [if_neg c2]
    by_cases c1 : b + ps.length ≤ k ∧ k < b + ps.length + qs.length
    · rw [if_pos c1, if_pos (by omega), List.getElem?_append_right (by rw [zipP_len]; omega), zipP_len]
      congr 1; omega
    · rw [if_neg c1, if_neg (by omega)]
/-- two places for each leaf -/
def Tm.marks (t : Tm) : List (Int × Int) := zipP 0 (t.pos 0)
theorem Tm.marks_len (t : Tm) : t.marks.length = t.count := by unfold Tm.marks; rw [zipP_len, Tm.pos_len]
theorem mkOut_all (L : List (Int × Int)) (t : Tm) (h : L.length = t.count) : mkOut L 0 (t.pos 0) = t.marks := by
  unfold mkOut Tm.marks
  rw [List.drop_eq_nil_of_le (by rw [Tm.pos_len]; omega)]
  simp
def Tm.p (t : Tm) (k : Nat) : Nat := ((t.pos 0)[k]?).getD 0
theorem Tm.p_get (t : Tm) {k : Nat} (hk : k < t.count) : (t.pos 0)[k]? = some (t.p k) := by
  unfold Tm.p
  have : k < (t.pos 0).length := by rw [Tm.pos_len]; exact hk
  rw [List.getElem?_eq_getElem this]; rfl
end Go.Proofs.Ytfldajplclahfaa
/- What races in a term: pair by pair. -/
namespace Go.Proofs.Ytfldajplclahfaa
set_option linter.unusedVariables false
def clashA (a b : Acc) : Bool := decide (a.cell = b.cell) && (a.write || b.write)
def Tm.lf (t : Tm) (i : Nat) : Acc := (t.leaves[i]?).getD ⟨0, false, 0⟩
theorem Tm.lf_get (t : Tm) {i : Nat} (h : i < t.count) : t.leaves[i]? = some (t.lf i) := by
  unfold Tm.lf
  have h2 : i < t.leaves.length := h
  rw [List.getElem?_eq_getElem h2]; rfl
def raceB (t : Tm) (i j : Nat) : Bool := decide (i < j) && clashA (t.lf i) (t.lf j) && !t.ahead i j
def rowRc (t : Tm) (i m : Nat) : List (Int × Int) := ((List.range m).filter (raceB t i)).map fun (j : Nat) => ((i : Int), (j : Int))
def racesUp (t : Tm) (i : Nat) : List (Int × Int) := (List.range i).flatMap fun k => rowRc t k t.count
/-- the pairs of leaves that race -/
def Tm.races (t : Tm) : List (Int × Int) := racesUp t t.count
theorem rowRc_zero (t : Tm) (i : Nat) : rowRc t i 0 = [] := rfl
theorem rowRc_succ (t : Tm) (i m : Nat) : rowRc t i (m + 1) = if raceB t i m then rowRc t i m ++ [((i : Int), (m : Int))] else rowRc t i m := by
  unfold rowRc
  rw [List.range_succ, List.filter_append, List.map_append]
  cases h : raceB t i m <;> simp [h]
theorem raceB_low {t : Tm} {i j : Nat} (h : ¬ i < j) : raceB t i j = false := by unfold raceB; rw [decide_eq_false h]; rfl
theorem rowRc_low (t : Tm) (i : Nat) : ∀ m, m ≤ i + 1 → rowRc t i m = [] := by
  intro m
  induction m with
  | zero => intro _; rfl
  | succ m ih => intro h; rw [rowRc_succ, raceB_low (by omega), ih (by omega)]; rfl
theorem racesUp_zero (t : Tm) : racesUp t 0 = [] := rfl
theorem racesUp_succ (t : Tm) (i : Nat) : racesUp t (i + 1) = racesUp t i ++ rowRc t i t.count := by
  unfold racesUp
  rw [List.range_succ, List.flatMap_append]
  simp
theorem rowRc_len (t : Tm) (i m : Nat) : (rowRc t i m).length ≤ m := by
  unfold rowRc
  rw [List.length_map]
  exact Nat.le_trans (List.length_filter_le _ _) (by simp)
theorem racesUp_len (t : Tm) (i : Nat) : (racesUp t i).length ≤ i * t.count := by
  induction i with
  | zero => simp [racesUp_zero]
  | succ i ih => rw [racesUp_succ, List.length_append, Nat.succ_mul]; have := rowRc_len t i t.count; omega
theorem Tm.p_inj (t : Tm) {i j : Nat} (hi : i < t.count) (hj : j < t.count) (h : t.p i = t.p j) : i = j := by
  have h1 := Tm.turned_pos t 0 0 i _ (t.p_get hi)
  have h2 := Tm.turned_pos t 0 0 j _ (t.p_get hj)
  rw [h, h2] at h1
  injection h1 with h1
  omega
/-- neither ahead: the marks stand the other way -/
theorem ahead_p (t : Tm) {i j : Nat} (hi : i < t.count) (hj : j < t.count) : t.ahead i j = (decide (i < j) && decide (t.p i < t.p j)) := by
  have h := Tm.ahead_pos t 0 i j _ _ (t.p_get hi) (t.p_get hj)
  rw [Bool.eq_iff_iff, h]
  simp
theorem raceB_p (t : Tm) {i j : Nat} (h : i < j) (hj : j < t.count) : raceB t i j = (clashA (t.lf i) (t.lf j) && decide (t.p j < t.p i)) := by
  unfold raceB
  rw [decide_eq_true h, Bool.true_and, ahead_p t (by omega) hj, decide_eq_true h, Bool.true_and]
  congr 1
  have hne : t.p i ≠ t.p j := fun e => by have := t.p_inj (by omega) hj e; omega
  by_cases hlt : t.p i < t.p j
  · rw [decide_eq_true hlt, decide_eq_false (by omega)]; rfl
  · rw [decide_eq_false hlt, decide_eq_true (by omega)]; rfl
theorem races_in (t : Tm) : ∀ i, i ≤ t.count → ∀ x ∈ racesUp t i, ∃ a b : Nat, x = ((a : Int), (b : Int)) ∧ a < i ∧ a < b ∧ b < t.count ∧ raceB t a b = true := by
  intro i hi x hx
  unfold racesUp rowRc at hx
  simp only [List.mem_flatMap, List.mem_range, List.mem_map, List.mem_filter] at hx
  obtain ⟨a, ha, b, ⟨hb, hr⟩, rfl⟩ := hx
  refine ⟨a, b, rfl, ha, ?_, hb, hr⟩
  unfold raceB at hr
  simp only [Bool.and_eq_true, decide_eq_true_eq] at hr
  exact hr.1.1
end Go.Proofs.Ytfldajplclahfaa
/- Clocks as plain lists of numbers: what package vector and its reference reckon, and that they agree. -/
namespace Go.Proofs.Ytfldajplclahfaa
set_option linter.unusedVariables false

/-- hand i of a clock -/
def hand (l : List Nat) (i : Int) : Nat := if 0 ≤ i then (l[i.toNat]?).getD 0 else 0
/-- without the noughts at its end -/
def trimL : List Nat → List Nat
  | [] => []
  | x :: r => if x = 0 ∧ trimL r = [] then [] else x :: trimL r
def padL (l : List Nat) (n : Nat) : List Nat := l ++ List.replicate (n - l.length) 0
def inTick (i : Int) : Bool := decide (0 ≤ i) && decide (i ≤ 65535)
def tickL (l : List Nat) (i : Int) : List Nat :=
  trimL (if inTick i then (padL l (i.toNat + 1)).set i.toNat ((hand l i + 1) % 18446744073709551616) else l)
def joinL (l m : List Nat) : List Nat := trimL ((List.range (max l.length m.length)).map fun (q : Nat) => max (hand l q) (hand m q))
def withinL (l m : List Nat) : Bool := (List.range l.length).all fun (q : Nat) => decide (hand l q ≤ hand m q)
/-- clockOf of the reference: hand after hand -/
def clockL (f : Nat → Nat) : Nat → List Nat
  | 0 => []
  | n + 1 => if 0 < f n then (padL (clockL f n) (n + 1)).set n (f n) else clockL f n
def tickF (l : List Nat) (i : Int) (q : Nat) : Nat := if (q : Int) = i ∧ i ≤ 65535 then (hand l q + 1) % 18446744073709551616 else hand l q
def tickN (l : List Nat) (i : Int) : Nat := if inTick i then max l.length (i.toNat + 1) else l.length

theorem hand_nat (l : List Nat) (q : Nat) : hand l q = (l[q]?).getD 0 := by simp [hand]
theorem hand_lt {l : List Nat} {q : Nat} (h : q < l.length) : hand l q = l[q] := by simp [hand_nat, h]
theorem hand_ge {l : List Nat} {q : Nat} (h : l.length ≤ q) : hand l q = 0 := by simp [hand_nat, h]
theorem hand_ok {l : List Nat} (h : ∀ x ∈ l, okU x) (i : Int) : okU (hand l i) := by
  unfold hand
  split
  · rcases Nat.lt_or_ge i.toNat l.length with h1 | h1
    · rw [List.getElem?_eq_getElem h1]; exact h _ (List.getElem_mem h1)
    · rw [List.getElem?_eq_none h1]; simp [okU]
  · simp [okU]
theorem trimL_snoc (l : List Nat) (x : Nat) : trimL (l ++ [x]) = if x = 0 then trimL l else l ++ [x] := by
  induction l with
  | nil => by_cases h : x = 0 <;> simp [trimL, h]
  | cons y r ih =>
    by_cases h : x = 0
    · subst h
      simp only [List.cons_append, trimL, ih, if_true]
    · simp only [List.cons_append, trimL, ih, if_neg h]
      rw [if_neg (by simp)]
theorem trimL_length (l : List Nat) : (trimL l).length ≤ l.length := by
  induction l with
  | nil => simp [trimL]
  | cons x r ih =>
    unfold trimL
    split
    · simp
    · simp; exact ih
theorem trimL_prefix (l : List Nat) : trimL l = l.take (trimL l).length := by
  induction l with
  | nil => simp [trimL]
  | cons x r ih =>
    unfold trimL
    split
    · simp
    · simp; exact ih
theorem trimL_pad (l : List Nat) (k : Nat) : trimL (l ++ List.replicate k 0) = trimL l := by
  induction k with
  | zero => simp
  | succ k ih =>
    rw [List.replicate_succ', ← List.append_assoc, trimL_snoc]
    simp [ih]
theorem clockL_len (f : Nat → Nat) (n : Nat) : (clockL f n).length ≤ n := by
  induction n with
  | zero => simp [clockL]
  | succ n ih =>
    unfold clockL
    split
    · simp [padL]; omega
    · omega
/-- clockOf has the hands of f, trimmed -/
theorem clockL_eq (f : Nat → Nat) (n : Nat) : clockL f n = trimL ((List.range n).map f) := by
  have key : ∀ n, clockL f n = trimL ((List.range n).map f) ∧ ∃ k, clockL f n ++ List.replicate k 0 = (List.range n).map f := by
    intro n
    induction n with
    | zero => exact ⟨by simp [clockL, trimL], 0, by simp [clockL]⟩
    | succ n ih =>
      obtain ⟨ih1, k, ih2⟩ := ih
      have hlen : (clockL f n).length + k = n := by have := congrArg List.length ih2; simpa using this
      rw [List.range_succ, List.map_append, List.map_cons, List.map_nil, trimL_snoc]
      unfold clockL
      by_cases h : 0 < f n
      · rw [if_pos h, if_neg (by omega)]
        have e : padL (clockL f n) (n + 1) = (List.range n).map f ++ [0] := by
          rw [← ih2, List.append_assoc, ← List.replicate_succ', padL]
          congr 2
          omega
        have e2 : (padL (clockL f n) (n + 1)).set n (f n) = (List.range n).map f ++ [f n] := by
          rw [e, List.set_append_right _ _ (by simp)]
          simp
        exact ⟨e2, 0, by simp [e2]⟩
      · have h0 : f n = 0 := by omega
        rw [if_neg h, if_pos h0]
        refine ⟨ih1, k + 1, ?_⟩
        rw [List.replicate_succ', ← List.append_assoc, ih2, h0]
  exact (key n).1
theorem range_hand (l : List Nat) (n : Nat) (h : l.length ≤ n) : (List.range n).map (fun (q : Nat) => hand l q) = padL l n := by
  apply List.ext_getElem?
  intro q
  simp only [List.getElem?_map, padL]
  rcases Nat.lt_or_ge q n with hq | hq
  · rw [List.getElem?_eq_getElem (by simpa using hq)]
    simp only [Option.map_some, List.getElem_range]
    rcases Nat.lt_or_ge q l.length with hl | hl
    · rw [List.getElem?_append_left hl, hand_lt hl, List.getElem?_eq_getElem hl]
    · rw [List.getElem?_append_right hl, hand_ge hl, List.getElem?_replicate, if_pos (by omega)]
  · rw [List.getElem?_eq_none (by simpa using hq), List.getElem?_eq_none (by simp; omega)]
    rfl
theorem tick_eq (l : List Nat) (i : Int) : clockL (tickF l i) (tickN l i) = tickL l i := by
  rw [clockL_eq]
  unfold tickL tickN
  by_cases h : inTick i = true
  · simp only [h, if_true]
    have h2 : 0 ≤ i ∧ i ≤ 65535 := by simpa [inTick] using h
    obtain ⟨q, rfl⟩ := Int.eq_ofNat_of_zero_le h2.1
    simp only [Int.toNat_natCast]
    have e : (List.range (max l.length (q + 1))).map (tickF l q) = ((List.range (max l.length (q + 1))).map (fun (k : Nat) => hand l k)).set q ((hand l q + 1) % 18446744073709551616) := by
      apply List.ext_getElem
      · simp
      · intro k h1 h3
        simp only [List.getElem_map, List.getElem_range, List.getElem_set]
        unfold tickF
        by_cases hk : q = k
        · subst hk; rw [if_pos ⟨rfl, h2.2⟩, if_pos rfl]
        · rw [if_neg (by omega), if_neg hk]
    rw [e, range_hand l _ (Nat.le_max_left _ _)]
    by_cases hl : q + 1 ≤ l.length
    · rw [Nat.max_eq_left hl]
      congr 2
      simp [padL]; omega
    · rw [Nat.max_eq_right (by omega)]
  · simp only [h]
    have hf : ∀ q, q < l.length → tickF l i q = hand l q := fun q hq => by
      unfold tickF
      rw [if_neg]
      intro hc
      apply h
      simp [inTick]; omega
    have e : (List.range l.length).map (tickF l i) = (List.range l.length).map (fun (k : Nat) => hand l k) := List.map_congr_left fun q hq => hf q (by simpa using hq)
    rw [if_neg (by simp), if_neg (by simp), e, range_hand l _ (Nat.le_refl _)]
    simp [padL]
theorem join_eq (l m : List Nat) : clockL (fun (q : Nat) => max (hand l q) (hand m q)) (max l.length m.length) = joinL l m := by
  rw [clockL_eq]; rfl
end Go.Proofs.Ytfldajplclahfaa
