/- Runs' clocks as plain lists: what package hb and its reference reckon, and that they agree. -/
import Derived.Test.YtnpgpcnkdocknaaDoorGPopFold
namespace Go.Proofs.YtnpgpcnkdocknaaDoor
set_option linter.unusedVariables false
structure HEv where
  kind : Int
  act : Int
  other : Int
  cell : Int
  write : Bool
  label : Int
def kn (n : Int) : Bool := decide (0 ≤ n) && decide (n < 200)
/-- event i is ahead of event j, in one step -/
def oneH (a b : HEv) : Bool :=
  kn a.act && kn b.act && (decide (a.act = b.act) || (decide (a.kind = 2) && decide (a.other = b.act)) || (decide (b.kind = 4) && decide (b.other = a.act)) || (decide (a.kind = 2) && decide (b.kind = 4) && decide (a.other = b.other) && kn a.other))
def ev0 : HEv := ⟨0, -1, 0, 0, false, 0⟩
def evAt (l : List HEv) (i : Nat) : HEv := (l[i]?).getD ev0
def rowOf (l : List HEv) (rows : List (Nat → Bool)) (j : Nat) : Nat → Bool := fun k => (List.range j).any fun i => oneH (evAt l i) (evAt l j) && (decide (k = i) || (decide (k < i) && ((rows[i]?).getD (fun _ => false)) k))
def rowsH (l : List HEv) : Nat → List (Nat → Bool)
  | 0 => []
  | j + 1 => rowsH l j ++ [rowOf l (rowsH l j) j]
def hr (l : List HEv) (j : Nat) : Nat → Bool := rowOf l (rowsH l j) j
theorem rowsH_len (l : List HEv) (n : Nat) : (rowsH l n).length = n := by
  induction n with
  | zero => rfl
  | succ n ih => simp [rowsH, ih]
theorem rowsH_at (l : List HEv) {n i : Nat} (h : i < n) : (rowsH l n)[i]? = some (hr l i) := by
  induction n with
  | zero => omega
  | succ n ih =>
    unfold rowsH
    rcases Nat.lt_or_ge i n with h1 | h1
    · rw [List.getElem?_append_left (by rw [rowsH_len]; exact h1)]; exact ih h1
    · have : i = n := by omega
      subst this
      rw [List.getElem?_append_right (by rw [rowsH_len]; omega), rowsH_len]
      simp [hr]
theorem hr_iff (l : List HEv) (j k : Nat) : hr l j k = true ↔ ∃ i, i < j ∧ oneH (evAt l i) (evAt l j) = true ∧ (k = i ∨ (k < i ∧ hr l i k = true)) := by
  unfold hr rowOf
  rw [List.any_eq_true]
  constructor
  · rintro ⟨i, hi, h⟩
    have hi := List.mem_range.1 hi
    rw [rowsH_at l hi] at h
    simp at h
    exact ⟨i, hi, h.1, h.2⟩
  · rintro ⟨i, hi, h1, h2⟩
    refine ⟨i, List.mem_range.2 hi, ?_⟩
    rw [rowsH_at l hi]
    simp
    exact ⟨h1, h2⟩
theorem hr_lt {l : List HEv} {j k : Nat} (h : hr l j k = true) : k < j := by
  obtain ⟨i, hi, _, h | h⟩ := (hr_iff l j k).1 h <;> omega
theorem hr_one {l : List HEv} {j i : Nat} (hi : i < j) (h : oneH (evAt l i) (evAt l j) = true) : hr l j i = true := (hr_iff l j i).2 ⟨i, hi, h, .inl rfl⟩
theorem hr_step {l : List HEv} {j i k : Nat} (hi : i < j) (h : oneH (evAt l i) (evAt l j) = true) (hk : hr l i k = true) : hr l j k = true := (hr_iff l j k).2 ⟨i, hi, h, .inr ⟨hr_lt hk, hk⟩⟩
theorem hr_trans {l : List HEv} (j : Nat) : ∀ {i k : Nat}, hr l j i = true → hr l i k = true → hr l j k = true := by
  induction j using Nat.strongRecOn with
  | _ j ih =>
    intro i k h1 h2
    obtain ⟨x, hx, ho, rfl | ⟨_, h3⟩⟩ := (hr_iff l j i).1 h1
    · exact hr_step hx ho h2
    · exact hr_step hx ho (ih x hx h3 h2)
theorem one_kn {a b : HEv} (h : oneH a b = true) : kn a.act = true ∧ kn b.act = true := by
  unfold oneH at h
  simp only [Bool.and_eq_true] at h
  exact h.1
theorem hr_kn {l : List HEv} {j k : Nat} (h : hr l j k = true) : kn (evAt l k).act = true ∧ kn (evAt l j).act = true := by
  induction j using Nat.strongRecOn with
  | _ j ih =>
    obtain ⟨x, hx, ho, rfl | ⟨_, h3⟩⟩ := (hr_iff l j k).1 h
    · exact one_kn ho
    · exact ⟨(ih x hx h3).1, (one_kn ho).2⟩
/-- event j, and what is ahead of it -/
def down (l : List HEv) (j i : Nat) : Bool := decide (i = j) || hr l j i
theorem down_iff {l : List HEv} {j i : Nat} : down l j i = true ↔ i = j ∨ hr l j i = true := by simp [down]
/-- what activity q has seen before event j -/
def gen (e : HEv) (q : Int) : Bool := kn e.act && (decide (e.act = q) || (decide (e.kind = 2) && decide (e.other = q)))
def seen (l : List HEv) (q : Int) : Nat → Nat → Bool
  | 0, _ => false
  | j + 1, i => seen l q j i || (gen (evAt l j) q && down l j i)
theorem seen_iff (l : List HEv) (q : Int) (j i : Nat) : seen l q j i = true ↔ ∃ m, m < j ∧ gen (evAt l m) q = true ∧ down l m i = true := by
  induction j with
  | zero => simp [seen]
  | succ j ih =>
    unfold seen
    rw [Bool.or_eq_true, ih, Bool.and_eq_true]
    constructor
    · rintro (⟨m, h1, h2, h3⟩ | ⟨h2, h3⟩)
      · exact ⟨m, by omega, h2, h3⟩
      · exact ⟨j, by omega, h2, h3⟩
    · rintro ⟨m, h1, h2, h3⟩
      rcases Nat.lt_or_ge m j with h | h
      · exact .inl ⟨m, h, h2, h3⟩
      · have : m = j := by omega
        subst this
        exact .inr ⟨h2, h3⟩
theorem seen_lt {l : List HEv} {q : Int} {j i : Nat} (h : seen l q j i = true) : i < j := by
  obtain ⟨m, h1, _, h3⟩ := (seen_iff l q j i).1 h
  rcases down_iff.1 h3 with rfl | h3
  · exact h1
  · have := hr_lt h3; omega
theorem gen_kn {e : HEv} {q : Int} (h : gen e q = true) : kn e.act = true := by
  unfold gen at h; simp only [Bool.and_eq_true] at h; exact h.1
theorem seen_kn {l : List HEv} {q : Int} {j i : Nat} (h : seen l q j i = true) : kn (evAt l i).act = true := by
  obtain ⟨m, h1, h2, h3⟩ := (seen_iff l q j i).1 h
  rcases down_iff.1 h3 with rfl | h3
  · exact gen_kn h2
  · exact (hr_kn h3).1
theorem one_iff (a b : HEv) : oneH a b = true ↔ kn b.act = true ∧ (gen a b.act = true ∨ (b.kind = 4 ∧ kn b.other = true ∧ gen a b.other = true)) := by
  unfold oneH gen
  simp only [Bool.and_eq_true, Bool.or_eq_true, decide_eq_true_eq]
  constructor
  · rintro ⟨⟨h1, h2⟩, ((h | h) | h) | h⟩
    · exact ⟨h2, .inl ⟨h1, .inl h⟩⟩
    · exact ⟨h2, .inl ⟨h1, .inr h⟩⟩
    · exact ⟨h2, .inr ⟨h.1, by rw [h.2]; exact h1, h1, .inl h.2.symm⟩⟩
    · exact ⟨h2, .inr ⟨h.1.1.2, by rw [← h.1.2]; exact h.2, h1, .inr ⟨h.1.1.1, h.1.2⟩⟩⟩
  · rintro ⟨h2, ⟨h1, h | h⟩ | ⟨h3, h4, h1, h | h⟩⟩
    · exact ⟨⟨h1, h2⟩, .inl (.inl (.inl h))⟩
    · exact ⟨⟨h1, h2⟩, .inl (.inl (.inr h))⟩
    · exact ⟨⟨h1, h2⟩, .inl (.inr ⟨h3, h.symm⟩)⟩
    · exact ⟨⟨h1, h2⟩, .inr ⟨⟨⟨h.1, h3⟩, h.2⟩, by rw [h.2]; exact h4⟩⟩
/-- what is ahead of event j: what its activity has seen, and, at a join, what the other one has -/
theorem hr_seen (l : List HEv) (j i : Nat) : hr l j i = true ↔ kn (evAt l j).act = true ∧ (seen l (evAt l j).act j i = true ∨ ((evAt l j).kind = 4 ∧ kn (evAt l j).other = true ∧ seen l (evAt l j).other j i = true)) := by
  rw [hr_iff, seen_iff, seen_iff]
  constructor
  · rintro ⟨m, h1, h2, h3⟩
    have hd : down l m i = true := down_iff.2 (by rcases h3 with h3 | h3; exact .inl h3; exact .inr h3.2)
    obtain ⟨hk, h | h⟩ := (one_iff _ _).1 h2
    · exact ⟨hk, .inl ⟨m, h1, h, hd⟩⟩
    · exact ⟨hk, .inr ⟨h.1, h.2.1, m, h1, h.2.2, hd⟩⟩
  · have hd : ∀ m, down l m i = true → i = m ∨ (i < m ∧ hr l m i = true) := by
      intro m h
      rcases down_iff.1 h with h | h
      · exact .inl h
      · exact .inr ⟨hr_lt h, h⟩
    rintro ⟨hk, ⟨m, h1, h2, h3⟩ | ⟨h4, h5, m, h1, h2, h3⟩⟩
    · exact ⟨m, h1, (one_iff _ _).2 ⟨hk, .inl h2⟩, hd m h3⟩
    · exact ⟨m, h1, (one_iff _ _).2 ⟨hk, .inr ⟨h4, h5, h2⟩⟩, hd m h3⟩
/-- with an event all earlier ones of its activity -/
def PC (l : List HEv) (A : Nat → Bool) : Prop := ∀ i k, A i = true → k < i → (evAt l k).act = (evAt l i).act → A k = true
theorem one_same {l : List HEv} {i k : Nat} (hk : k < i) (hn : kn (evAt l i).act = true) (h : (evAt l k).act = (evAt l i).act) : hr l i k = true :=
  hr_one hk ((one_iff _ _).2 ⟨hn, .inl (by unfold gen; rw [h, hn]; simp)⟩)
theorem down_pc (l : List HEv) (j : Nat) (hj : kn (evAt l j).act = true) : PC l (down l j) := by
  intro i k h hk e
  rcases down_iff.1 h with rfl | h
  · exact down_iff.2 (.inr (one_same hk hj e))
  · exact down_iff.2 (.inr (hr_trans j h (one_same hk (hr_kn h).1 e)))
theorem seen_pc (l : List HEv) (q : Int) (j : Nat) : PC l (seen l q j) := by
  intro i k h hk e
  obtain ⟨m, h1, h2, h3⟩ := (seen_iff l q j i).1 h
  exact (seen_iff l q j k).2 ⟨m, h1, h2, down_pc l m (gen_kn h2) i k h3 hk e⟩
/-- how many events of activity p there are among the first j ones of A -/
def cntA (l : List HEv) (A : Nat → Bool) (j p : Nat) : Nat := cntB (fun i => A i && decide ((evAt l i).act = (p : Int))) j
def clk (l : List HEv) (A : Nat → Bool) (j : Nat) : List Nat := trimL ((List.range 200).map fun p => cntA l A j p)
theorem cntB_mono {P Q : Nat → Bool} {n : Nat} (h : ∀ j, j < n → P j = true → Q j = true) : cntB P n ≤ cntB Q n := by
  induction n with
  | zero => simp [cntB]
  | succ n ih =>
    have h1 := ih (fun j hj => h j (by omega))
    have h2 := h n (by omega)
    unfold cntB
    cases hp : P n
    · rw [if_neg (by simp)]; omega
    · rw [if_pos rfl, if_pos (h2 hp)]; omega
theorem cntB_max {P Q : Nat → Bool} {n : Nat} (h : (∀ j, j < n → P j = true → Q j = true) ∨ (∀ j, j < n → Q j = true → P j = true)) : cntB (fun j => P j || Q j) n = max (cntB P n) (cntB Q n) := by
  rcases h with h | h
  · have h1 := cntB_mono h
    rw [Nat.max_eq_right h1]
    apply cntB_congr
    intro j hj
    have := h j hj
    cases hp : P j <;> simp
    simp [this hp]
  · have h1 := cntB_mono h
    rw [Nat.max_eq_left h1]
    apply cntB_congr
    intro j hj
    have := h j hj
    cases hq : Q j <;> simp
    simp [this hq]
theorem cntA_max {l : List HEv} {A B : Nat → Bool} {n p : Nat} (hA : PC l A) (hB : PC l B) : cntA l (fun i => A i || B i) n p = max (cntA l A n p) (cntA l B n p) := by
  unfold cntA
  rw [← cntB_max]
  · apply cntB_congr
    intro j hj
    exact Bool.and_or_distrib_right _ _ _
  · rcases Classical.em (∀ j, j < n → (A j && decide ((evAt l j).act = (p : Int))) = true → (B j && decide ((evAt l j).act = (p : Int))) = true) with h | h
    · exact .inl h
    · right
      obtain ⟨i, hi⟩ := Classical.not_forall.1 h
      obtain ⟨hi1, hi2⟩ := Classical.not_imp.1 hi
      obtain ⟨hi2, hi3⟩ := Classical.not_imp.1 hi2
      simp only [Bool.and_eq_true, decide_eq_true_eq] at hi2 hi3
      have hb : B i ≠ true := fun h => hi3 ⟨h, hi2.2⟩
      intro k hk h
      simp only [Bool.and_eq_true, decide_eq_true_eq] at h ⊢
      refine ⟨?_, h.2⟩
      rcases Nat.lt_trichotomy k i with h1 | h1 | h1
      · exact hA i k hi2.1 h1 (by rw [h.2, hi2.2])
      · subst h1; exact hi2.1
      · exact absurd (hB k i h.1 h1 (by rw [h.2, hi2.2])) hb
theorem hand_trim (l : List Nat) (q : Nat) : hand (trimL l) q = hand l q := by
  rw [hand_nat, hand_nat]
  induction l generalizing q with
  | nil => rfl
  | cons x r ih =>
    unfold trimL
    split
    · rename_i h
      have h2 : ∀ q : Nat, (r[q]?).getD 0 = 0 := by intro q; rw [← ih, h.2]; rfl
      cases q with
      | zero => simp [h.1]
      | succ q => simpa using (h2 q).symm
    · cases q with
      | zero => rfl
      | succ q => simpa using ih q
theorem cntA_big {l : List HEv} {A : Nat → Bool} {n p : Nat} (hk : ∀ i, A i = true → kn (evAt l i).act = true) (hp : 200 ≤ p) : cntA l A n p = 0 := by
  unfold cntA
  have : cntB (fun i => A i && decide ((evAt l i).act = (p : Int))) n ≤ cntB (fun _ => false) n := by
    apply cntB_mono
    intro j _ h
    simp only [Bool.and_eq_true, decide_eq_true_eq] at h
    have h2 := hk j h.1
    unfold kn at h2
    simp only [Bool.and_eq_true, decide_eq_true_eq] at h2
    omega
  have z : ∀ n, cntB (fun _ => false) n = 0 := by
    intro n
    induction n with
    | zero => rfl
    | succ n ih => unfold cntB; rw [ih]; rfl
  rw [z] at this
  omega
theorem hand_clk {l : List HEv} {A : Nat → Bool} {n : Nat} (hk : ∀ i, A i = true → kn (evAt l i).act = true) (p : Nat) : hand (clk l A n) p = cntA l A n p := by
  unfold clk
  rw [hand_trim, hand_nat]
  rcases Nat.lt_or_ge p 200 with h | h
  · rw [List.getElem?_map, List.getElem?_range h]; rfl
  · rw [List.getElem?_eq_none (by simpa using h), cntA_big hk h]; rfl
theorem clk_of {l : List HEv} {A : Nat → Bool} {n : Nat} (hk : ∀ i, A i = true → kn (evAt l i).act = true) {m : List Nat} (h : ∀ q : Nat, (m[q]?).getD 0 = cntA l A n q) : trimL m = clk l A n := by
  unfold clk
  apply trim_ext
  intro q
  rw [h]
  rcases Nat.lt_or_ge q 200 with hq | hq
  · rw [List.getElem?_map, List.getElem?_range hq]; rfl
  · rw [List.getElem?_eq_none (by simpa using hq), cntA_big hk hq]; rfl
theorem clk_congr {l : List HEv} {A B : Nat → Bool} {n : Nat} (h : ∀ i, i < n → A i = B i) : clk l A n = clk l B n := by
  unfold clk
  congr 1
  apply List.map_congr_left
  intro p _
  unfold cntA
  apply cntB_congr
  intro i hi
  rw [h i hi]
theorem clk_skip {l : List HEv} {A : Nat → Bool} {n : Nat} (h : A n = false) : clk l A (n + 1) = clk l A n := by
  unfold clk
  congr 1
  apply List.map_congr_left
  intro p _
  unfold cntA
  conv => lhs; unfold cntB
  rw [h]; simp
theorem join_clk {l : List HEv} {A B : Nat → Bool} {n : Nat} (hA : PC l A) (hB : PC l B) (kA : ∀ i, A i = true → kn (evAt l i).act = true) (kB : ∀ i, B i = true → kn (evAt l i).act = true) :
    joinL (clk l A n) (clk l B n) = clk l (fun i => A i || B i) n := by
  unfold joinL
  apply clk_of
  · intro i h
    rcases Bool.or_eq_true _ _ ▸ h with h | h
    · exact kA i h
    · exact kB i h
  · intro q
    rw [cntA_max hA hB, ← hand_clk kA, ← hand_clk kB]
    rcases Nat.lt_or_ge q (max (clk l A n).length (clk l B n).length) with hq | hq
    · rw [List.getElem?_map, List.getElem?_range hq]; rfl
    · rw [List.getElem?_eq_none (by simpa using hq), hand_ge (by omega), hand_ge (by omega)]; rfl
theorem tick_clk {l : List HEv} {A : Nat → Bool} {n : Nat} (hn : n < 18446744073709551615) (kA : ∀ i, A i = true → kn (evAt l i).act = true) (h : A n = true) :
    tickL (clk l A n) (evAt l n).act = clk l A (n + 1) := by
  have hk := kA n h
  have hk2 := hk
  unfold kn at hk2
  simp only [Bool.and_eq_true, decide_eq_true_eq] at hk2
  obtain ⟨q, hq⟩ := Int.eq_ofNat_of_zero_le hk2.1
  have hq2 : q < 200 := by omega
  unfold tickL
  rw [hq, if_pos (by unfold inTick; simp; omega)]
  simp only [Int.toNat_natCast]
  apply clk_of kA
  intro p
  have hc : cntA l A n p ≤ n := cntB_le _ _
  have hs : cntA l A (n + 1) p = cntA l A n p + (if (A n && decide ((evAt l n).act = (p : Int))) = true then 1 else 0) := rfl
  rw [List.getElem?_set]
  by_cases e : q = p
  · subst e
    rw [if_pos rfl, if_pos (by rw [padL_length]; omega), hand_clk kA, hs, h, hq]
    have : (cntA l A n q + 1) % 18446744073709551616 = cntA l A n q + 1 := Nat.mod_eq_of_lt (by omega)
    simp [this]
  · rw [if_neg e, padL_get, ← hand_nat, hand_clk kA, hs, hq]
    rw [if_neg (by simp; intro _; omega)]
    rfl
theorem down_kn {l : List HEv} {j : Nat} (hj : kn (evAt l j).act = true) : ∀ i, down l j i = true → kn (evAt l i).act = true := by
  intro i h
  rcases down_iff.1 h with rfl | h
  · exact hj
  · exact (hr_kn h).1
/-- the clock of event j -/
theorem clk_tick {l : List HEv} {j : Nat} (hn : j < 18446744073709551615) (hj : kn (evAt l j).act = true) :
    tickL (clk l (seen l (evAt l j).act j) j) (evAt l j).act = clk l (fun i => decide (i = j) || seen l (evAt l j).act j i) (j + 1) := by
  rw [← tick_clk hn (A := fun i => decide (i = j) || seen l (evAt l j).act j i)]
  · congr 1
    apply clk_congr
    intro i hi
    rw [decide_eq_false (by omega), Bool.false_or]
  · intro i h
    rcases Bool.or_eq_true _ _ ▸ h with h | h
    · have : i = j := by simpa using h
      subst this; exact hj
    · exact seen_kn h
  · simp
theorem clk_alone {l : List HEv} {j : Nat} (hn : j < 18446744073709551615) (hj : kn (evAt l j).act = true) (h : ¬ ((evAt l j).kind = 4 ∧ kn (evAt l j).other = true)) :
    tickL (clk l (seen l (evAt l j).act j) j) (evAt l j).act = clk l (down l j) (j + 1) := by
  rw [clk_tick hn hj]
  apply clk_congr
  intro i hi
  unfold down
  congr 1
  rw [Bool.eq_iff_iff, hr_seen]
  constructor
  · intro h1; exact ⟨hj, .inl h1⟩
  · rintro ⟨_, h1 | ⟨h1, h2, _⟩⟩
    · exact h1
    · exact absurd ⟨h1, h2⟩ h
theorem clk_join {l : List HEv} {j : Nat} (hn : j < 18446744073709551615) (hj : kn (evAt l j).act = true) (h : (evAt l j).kind = 4) (ho : kn (evAt l j).other = true) :
    joinL (tickL (clk l (seen l (evAt l j).act j) j) (evAt l j).act) (clk l (seen l (evAt l j).other j) j) = clk l (down l j) (j + 1) := by
  have hs : seen l (evAt l j).other j j = false := by
    cases e : seen l (evAt l j).other j j
    · rfl
    · exact absurd (seen_lt e) (by omega)
  rw [clk_tick hn hj, ← clk_skip hs, join_clk]
  · apply clk_congr
    intro i hi
    unfold down
    rw [Bool.or_assoc]
    congr 1
    rw [Bool.eq_iff_iff, hr_seen, Bool.or_eq_true]
    constructor
    · rintro (h1 | h1)
      · exact ⟨hj, .inl h1⟩
      · exact ⟨hj, .inr ⟨h, ho, h1⟩⟩
    · rintro ⟨_, h1 | ⟨_, _, h1⟩⟩
      · exact .inl h1
      · exact .inr h1
  · intro i k h hk e
    rcases Bool.or_eq_true _ _ ▸ h with h | h
    · have : i = j := by simpa using h
      subst this
      have := (hr_seen l i k).1 (one_same hk hj e)
      show (decide (k = i) || seen l (evAt l i).act i k) = true
      rw [Bool.or_eq_true]
      right
      rw [seen_iff]
      exact ⟨k, hk, by unfold gen; rw [e, hj]; simp, by simp [down]⟩
    · show (decide (k = j) || seen l (evAt l j).act j k) = true
      rw [Bool.or_eq_true]
      right
      exact seen_pc l _ j i k h hk e
  · exact seen_pc _ _ _
  · intro i h
    rcases Bool.or_eq_true _ _ ▸ h with h | h
    · have : i = j := by simpa using h
      subst this; exact hj
    · exact seen_kn h
  · intro i h; exact seen_kn h
theorem seen_next {l : List HEv} {j : Nat} (hj : kn (evAt l j).act = true) : clk l (seen l (evAt l j).act (j + 1)) (j + 1) = clk l (down l j) (j + 1) := by
  apply clk_congr
  intro i _
  show (seen l (evAt l j).act j i || (gen (evAt l j) (evAt l j).act && down l j i)) = down l j i
  have hg : gen (evAt l j) (evAt l j).act = true := by unfold gen; rw [hj]; simp
  rw [hg, Bool.true_and]
  cases hs : seen l (evAt l j).act j i
  · simp
  · have : down l j i = true := down_iff.2 (.inr ((hr_seen l j i).2 ⟨hj, .inl hs⟩))
    rw [this]; rfl
theorem seen_spawn {l : List HEv} {j : Nat} (hj : kn (evAt l j).act = true) (h : (evAt l j).kind = 2) (ho : kn (evAt l j).other = true) (hne : (evAt l j).other ≠ (evAt l j).act) :
    joinL (clk l (seen l (evAt l j).other j) j) (clk l (down l j) (j + 1)) = clk l (seen l (evAt l j).other (j + 1)) (j + 1) := by
  have hs : seen l (evAt l j).other j j = false := by
    cases e : seen l (evAt l j).other j j
    · rfl
    · exact absurd (seen_lt e) (by omega)
  rw [← clk_skip hs, join_clk (seen_pc _ _ _) (down_pc _ _ hj) (fun i h => seen_kn h) (down_kn hj)]
  apply clk_congr
  intro i _
  show _ = (seen l (evAt l j).other j i || (gen (evAt l j) (evAt l j).other && down l j i))
  have hg : gen (evAt l j) (evAt l j).other = true := by unfold gen; rw [hj, h]; simp
  rw [hg, Bool.true_and]
theorem seen_self {l : List HEv} {j : Nat} (hj : kn (evAt l j).act = true) :
    joinL (clk l (down l j) (j + 1)) (clk l (down l j) (j + 1)) = clk l (down l j) (j + 1) := by
  rw [join_clk (down_pc _ _ hj) (down_pc _ _ hj) (down_kn hj) (down_kn hj)]
  apply clk_congr
  intro i _
  simp
theorem seen_other {l : List HEv} {j : Nat} {q : Int} (h1 : gen (evAt l j) q = false) : clk l (seen l q (j + 1)) (j + 1) = clk l (seen l q j) j := by
  have hs : seen l q (j + 1) j = false := by
    cases e : seen l q (j + 1) j
    · rfl
    · exfalso
      have e2 : (seen l q j j || (gen (evAt l j) q && down l j j)) = true := e
      rw [h1] at e2
      simp at e2
      exact absurd (seen_lt e2) (by omega)
  rw [clk_skip hs]
  apply clk_congr
  intro i _
  show (seen l q j i || (gen (evAt l j) q && down l j i)) = _
  rw [h1]; simp
/-- all clocks -/
def clocksH (l : List HEv) (n : Nat) : List (List Nat) := (List.range n).map fun j => if kn (evAt l j).act then clk l (down l j) (j + 1) else []
/-- is i ahead of j? -/
theorem ahead_clk {l : List HEv} {i j : Nat} (hij : i < j) (hi : kn (evAt l i).act = true) (hj : kn (evAt l j).act = true) :
    decide (hand (clk l (down l i) (i + 1)) (evAt l i).act ≤ hand (clk l (down l j) (j + 1)) (evAt l i).act) = hr l j i := by
  have hk2 := hi
  unfold kn at hk2
  simp only [Bool.and_eq_true, decide_eq_true_eq] at hk2
  obtain ⟨p, hp⟩ := Int.eq_ofNat_of_zero_le hk2.1
  rw [hp, hand_clk (down_kn hi), hand_clk (down_kn hj), Bool.eq_iff_iff, decide_eq_true_eq]
  have le_n : ∀ (A : Nat → Bool) (a b p : Nat), a ≤ b → cntA l A a p ≤ cntA l A b p := by
    intro A a b p h
    obtain ⟨d, rfl⟩ : ∃ d, b = a + d := ⟨b - a, by omega⟩
    unfold cntA
    rw [cntB_add]; omega
  constructor
  · intro h
    cases e : hr l j i
    · exfalso
      -- no event of the same activity from i on is in 'down j'
      have h1 : cntA l (down l j) (j + 1) p ≤ cntA l (fun k => down l j k && decide (k < i)) (j + 1) p := by
        unfold cntA
        apply cntB_mono
        intro k hk hx
        simp only [Bool.and_eq_true, decide_eq_true_eq] at hx ⊢
        refine ⟨⟨hx.1, ?_⟩, hx.2⟩
        rcases Nat.lt_trichotomy k i with h2 | h2 | h2
        · exact h2
        · subst h2
          rcases down_iff.1 hx.1 with h3 | h3
          · omega
          · rw [h3] at e; cases e
        · have h3 := down_pc l j hj k i hx.1 h2 (by rw [hx.2, hp])
          rcases down_iff.1 h3 with h4 | h4
          · omega
          · rw [h4] at e; cases e
      have h2 : ∀ d, cntA l (fun k => down l j k && decide (k < i)) (i + d) p = cntA l (fun k => down l j k && decide (k < i)) i p := by
        intro d
        induction d with
        | zero => rfl
        | succ d ih =>
          rw [← ih]
          show cntB _ (i + d + 1) = cntB _ (i + d)
          conv => lhs; unfold cntB
          rw [if_neg (by simp; intros; omega)]
          rfl
      have h3 := h2 (j + 1 - i)
      rw [show i + (j + 1 - i) = j + 1 by omega] at h3
      have h4 : cntA l (fun k => down l j k && decide (k < i)) i p ≤ cntA l (down l i) i p := by
        unfold cntA
        apply cntB_mono
        intro k hk hx
        simp only [Bool.and_eq_true, decide_eq_true_eq] at hx ⊢
        exact ⟨down_iff.2 (.inr (one_same hk hi (by rw [hx.2, hp]))), hx.2⟩
      have h5 : cntA l (down l i) (i + 1) p = cntA l (down l i) i p + 1 := by
        show cntB _ (i + 1) = cntB _ i + 1
        conv => lhs; unfold cntB
        rw [if_pos (by simp [down, hp])]
      omega
    · rfl
  · intro h
    refine Nat.le_trans (le_n _ _ (j + 1) p (by omega)) ?_
    unfold cntA
    apply cntB_mono
    intro k hk hx
    simp only [Bool.and_eq_true, decide_eq_true_eq] at hx ⊢
    refine ⟨?_, hx.2⟩
    rcases down_iff.1 hx.1 with rfl | h3
    · exact down_iff.2 (.inr h)
    · exact down_iff.2 (.inr (hr_trans j h h3))
end Go.Proofs.YtnpgpcnkdocknaaDoor
