/- Races found in one pass, plainly: what the pass finds, and that it is what races. -/
import Derived.Test.YtfldajplclahfaaGRcSpec
namespace Go.Proofs.Ytfldajplclahfaa
set_option linter.unusedVariables false
/-- who was last at each cell, where races were seen, and at which leaf first -/
structure Sh where
  cells : Int → Option (Int × Int)
  found : List Int
  first : Int
def Sh.at (s : Sh) (c : Int) : Int × Int := (s.cells c).getD (-1, -1)
def wiB (W : Nat → Bool) (x : Int) : Bool := decide (0 ≤ x) && W x.toNat
def repS (n : Nat) (c : Int) (s : Sh) : Sh := { s with first := if s.first < 0 then (n : Int) else s.first, found := if s.found.contains c then s.found else s.found ++ [c] }
def hitB (W : Nat → Bool) (a : Acc) (s : Sh) : Bool := wiB W (s.at a.cell).1 || (a.write && wiB W (s.at a.cell).2)
def newC (W : Nat → Bool) (n : Nat) (a : Acc) (s : Sh) : Int × Int :=
  if a.write then ((n : Int), (s.at a.cell).2) else if wiB W (s.at a.cell).2 then s.at a.cell else ((s.at a.cell).1, (n : Int))
def putS (c : Int) (v : Int × Int) (s : Sh) : Sh := { s with cells := fun x => if x = c then some v else s.cells x }
/-- one leaf, the n-th; W tells who is side by side with it -/
def accS (W : Nat → Bool) (n : Nat) (a : Acc) (s : Sh) : Sh :=
  putS a.cell (newC W n a s) (if hitB W a s then repS n a.cell s else s)
/-- a term's leaves from base on; B tells who of those ahead is side by side with all of it -/
def Tm.vis (t : Tm) (base : Nat) (B : Nat → Bool) (s : Sh) : Sh :=
  match h : t.two with
  | some (p, a, b) => b.vis (base + a.count) (fun m => if base + a.count ≤ m then true else if base ≤ m then p else B m) (a.vis base B s)
  | none => if t.kind = 1 then accS B base t.acc s else s
termination_by SizeOf.sizeOf t
decreasing_by all_goals (have hs := Tm.two_size h; omega)
theorem Tm.vis_two {t a b : Tm} {p : Bool} (h : t.two = some (p, a, b)) (base : Nat) (B : Nat → Bool) (s : Sh) : t.vis base B s = b.vis (base + a.count) (fun m => if base + a.count ≤ m then true else if base ≤ m then p else B m) (a.vis base B s) := by
  rw [Tm.vis]; split <;> simp_all
theorem Tm.vis_none {t : Tm} (h : t.two = none) (base : Nat) (B : Nat → Bool) (s : Sh) : t.vis base B s = if t.kind = 1 then accS B base t.acc s else s := by
  rw [Tm.vis]; split <;> simp_all
/-- leaf by leaf -/
def runS (W : Nat → Nat → Bool) : Nat → List Acc → Sh → Sh
  | _, [], s => s
  | k, a :: r, s => runS W (k + 1) r (accS (W k) k a s)
theorem runS_append (W : Nat → Nat → Bool) (l m : List Acc) : ∀ (k : Nat) (s : Sh), runS W k (l ++ m) s = runS W (k + l.length) m (runS W k l s) := by
  induction l with
  | nil => intro k s; rfl
  | cons a r ih => intro k s; simp only [List.cons_append, runS, ih, List.length_cons]; rw [show k + 1 + r.length = k + (r.length + 1) by omega]
theorem runS_congr {W V : Nat → Nat → Bool} (l : List Acc) : ∀ (k : Nat) (s : Sh), (∀ j, k ≤ j → j < k + l.length → W j = V j) → runS W k l s = runS V k l s := by
  induction l with
  | nil => intro k s _; rfl
  | cons a r ih =>
    intro k s h
    simp only [runS]
    rw [h k (Nat.le_refl _) (by simp), ih]
    intro j h1 h2
    exact h j (by omega) (by simp; omega)
theorem Tm.ahead_lt (t : Tm) : ∀ (i j : Nat), t.ahead i j = true → i < j := by
  induction t using Tm.ind with
  | one t h => intro i j hh; rw [Tm.ahead_none h] at hh; cases hh
  | two t p a b h ha hb =>
    intro i j hh
    rw [Tm.ahead_two h] at hh
    split at hh
    · exact ha _ _ hh
    · split at hh
      · have := hb _ _ hh; omega
      · simp at hh; exact hh.2
def visW (t : Tm) (base : Nat) (B : Nat → Bool) : Nat → Nat → Bool := fun k m => if m < base then B m else !t.ahead (m - base) (k - base)
theorem Tm.vis_run (t : Tm) : ∀ (base : Nat) (B : Nat → Bool) (s : Sh), (∀ m, base ≤ m → B m = true) → t.vis base B s = runS (visW t base B) base t.leaves s := by
  induction t using Tm.ind with
  | one t h =>
    intro base B s hB
    rw [Tm.vis_none h, Tm.leaves_none h]
    split
    · simp only [runS]
      congr 1
      funext m
      unfold visW
      rw [Tm.ahead_none h]
      split
      · rfl
      · rw [hB m (by omega)]; rfl
    · rfl
  | two t p a b h ha hb =>
    intro base B s hB
    rw [Tm.vis_two h, Tm.leaves_two h, runS_append, ha _ _ _ hB, hb _ _ _ (fun m hm => by rw [if_pos hm])]
    have e1 : runS (visW a base B) base a.leaves s = runS (visW t base B) base a.leaves s := by
      refine runS_congr _ _ _ (fun k h1 h2 => ?_)
      have h2 : k < base + a.count := h2
      funext m
      unfold visW
      by_cases hm : m < base
      · rw [if_pos hm, if_pos hm]
      · rw [if_neg hm, if_neg hm, Tm.ahead_two h]
        by_cases hmc : m - base < a.count
        · rw [if_pos ⟨hmc, by omega⟩]
        · rw [if_neg (fun hh => hmc hh.1), if_neg (by omega), decide_eq_false (by omega : ¬ m - base < k - base), Bool.and_false]
          congr 1
          cases hx : a.ahead (m - base) (k - base) with
          | false => rfl
          | true => have := Tm.ahead_lt _ _ _ hx; omega
    rw [e1]
    refine runS_congr _ _ _ (fun k h1 h2 => ?_)
    funext m
    unfold visW
    have h1 : base + a.count ≤ k := h1
    by_cases hm : m < base
    · rw [if_pos hm, if_pos (show m < base + a.count by omega)]
      dsimp only
      rw [if_neg (by omega), if_neg (by omega)]
    · rw [if_neg hm, Tm.ahead_two h]
      by_cases hmc : m < base + a.count
      · rw [if_pos hmc]
        dsimp only
        rw [if_neg (by omega), if_pos (by omega), if_neg (by omega), if_neg (by omega), decide_eq_true (by omega : m - base < k - base)]
        cases p <;> rfl
      · rw [if_neg hmc, if_neg (by omega), if_pos (by omega), show m - base - a.count = m - (base + a.count) by omega, show k - base - a.count = k - (base + a.count) by omega]
def s0 : Sh := ⟨fun _ => none, [], -1⟩
/-- what the pass has behind the first k leaves -/
def stS (t : Tm) : Nat → Sh
  | 0 => s0
  | k + 1 => accS (fun m => !t.ahead m k) k (t.lf k) (stS t k)
theorem stS_run (t : Tm) : ∀ k, k ≤ t.count → runS (fun k m => !t.ahead m k) 0 (t.leaves.take k) s0 = stS t k := by
  intro k
  induction k with
  | zero => intro _; rfl
  | succ k ih =>
    intro h
    have hl : k < t.leaves.length := h
    rw [List.take_add_one, runS_append, ih (by omega), List.length_take, Nat.min_eq_left (by omega), Nat.zero_add, t.lf_get h]
    rfl
theorem vis_st (t : Tm) : t.vis 0 (fun _ => true) s0 = stS t t.count := by
  have e : t.leaves.take t.count = t.leaves := List.take_of_length_le (Nat.le_refl _)
  rw [Tm.vis_run t 0 _ _ (fun _ _ => rfl), ← stS_run t t.count (Nat.le_refl _), e]
  rfl
structure InvS (t : Tm) (k : Nat) (s : Sh) : Prop where
  w : ∀ c, ((s.at c).1 = -1 ∧ ∀ m, m < k → (t.lf m).cell = c → (t.lf m).write = false) ∨ ∃ m, m < k ∧ (s.at c).1 = (m : Int) ∧ (t.lf m).cell = c ∧ (t.lf m).write = true ∧ ∀ m', m < m' → m' < k → (t.lf m').cell = c → (t.lf m').write = false
  r : ∀ c, ((s.at c).2 = -1 ∧ ∀ m, m < k → (t.lf m).cell = c → (t.lf m).write = true) ∨ ∃ m, m < k ∧ (s.at c).2 = (m : Int) ∧ (t.lf m).cell = c ∧ (t.lf m).write = false ∧ ∀ m', m' < k → (t.lf m').cell = c → (t.lf m').write = false → t.p m' ≤ t.p m
  f : ∀ c, c ∈ s.found ↔ ∃ i j, j < k ∧ raceB t i j = true ∧ (t.lf j).cell = c
  nd : s.found.Nodup
  fst : (s.first = -1 ∧ ∀ i j, j < k → raceB t i j = false) ∨ ∃ j, j < k ∧ s.first = (j : Int) ∧ (∃ i, raceB t i j = true) ∧ ∀ i j', j' < j → raceB t i j' = false
theorem wi_p (t : Tm) {m k : Nat} (h : m < k) (hk : k < t.count) : wiB (fun m => !t.ahead m k) (m : Int) = decide (t.p k < t.p m) := by
  unfold wiB
  rw [decide_eq_true (by omega), Bool.true_and, Int.toNat_natCast]
  dsimp only
  rw [ahead_p t (by omega) hk, decide_eq_true h, Bool.true_and]
  have hne : t.p m ≠ t.p k := fun e => by have := t.p_inj (by omega) hk e; omega
  by_cases hlt : t.p m < t.p k
  · rw [decide_eq_true hlt, decide_eq_false (by omega)]; rfl
  · rw [decide_eq_false hlt, decide_eq_true (by omega)]; rfl
theorem wi_neg (W : Nat → Bool) : wiB W (-1) = false := by simp [wiB]
theorem race_iff (t : Tm) {i j : Nat} (hj : j < t.count) : raceB t i j = true ↔ i < j ∧ (t.lf i).cell = (t.lf j).cell ∧ ((t.lf i).write = true ∨ (t.lf j).write = true) ∧ t.p j < t.p i := by
  by_cases h : i < j
  · rw [raceB_p t h hj]
    simp [clashA, h, and_assoc]
  · rw [raceB_low h]; simp [h]
theorem hit_sound {t : Tm} {k : Nat} {s : Sh} (I : InvS t k s) (hk : k < t.count) (h : hitB (fun m => !t.ahead m k) (t.lf k) s = true) : ∃ i, raceB t i k = true := by
  unfold hitB at h
  rw [Bool.or_eq_true, Bool.and_eq_true] at h
  rcases h with h | ⟨hw, h⟩
  · rcases I.w (t.lf k).cell with ⟨e, _⟩ | ⟨m, hm, e, hc, hwr, _⟩
    · rw [e, wi_neg] at h; cases h
    · rw [e, wi_p t hm hk] at h
      exact ⟨m, (race_iff t hk).2 ⟨hm, hc, .inl hwr, of_decide_eq_true h⟩⟩
  · rcases I.r (t.lf k).cell with ⟨e, _⟩ | ⟨m, hm, e, hc, hwr, _⟩
    · rw [e, wi_neg] at h; cases h
    · rw [e, wi_p t hm hk] at h
      exact ⟨m, (race_iff t hk).2 ⟨hm, hc, .inr hw, of_decide_eq_true h⟩⟩
theorem hit_whole {t : Tm} {k : Nat} {s : Sh} (I : InvS t k s) (hk : k < t.count) (hno : ∀ i j, j < k → (t.lf j).cell = (t.lf k).cell → raceB t i j = false) {i : Nat} (h : raceB t i k = true) : hitB (fun m => !t.ahead m k) (t.lf k) s = true := by
  obtain ⟨hik, hc, hw, hp⟩ := (race_iff t hk).1 h
  unfold hitB
  rw [Bool.or_eq_true, Bool.and_eq_true]
  cases hwi : (t.lf i).write with
  | true =>
    refine .inl ?_
    rcases I.w (t.lf k).cell with ⟨_, e⟩ | ⟨m, hm, e, hcm, hwr, hl⟩
    · have := e i hik hc; rw [hwi] at this; cases this
    · rw [e, wi_p t hm hk]
      refine decide_eq_true ?_
      rcases Nat.lt_trichotomy i m with him | him | him
      · have hn := hno i m hm hcm
        have : ¬ (t.p m < t.p i) := fun hlt => by
          have := (race_iff t (i := i) (j := m) (by omega)).2 ⟨him, hc.trans hcm.symm, .inl hwi, hlt⟩
          rw [hn] at this; cases this
        omega
      · subst him; exact hp
      · have := hl i him hik hc; rw [hwi] at this; cases this
  | false =>
    have hwk : (t.lf k).write = true := by rcases hw with hw | hw; · rw [hwi] at hw; cases hw
                                           · exact hw
    refine .inr ⟨hwk, ?_⟩
    rcases I.r (t.lf k).cell with ⟨_, e⟩ | ⟨m, hm, e, hcm, hwr, hl⟩
    · have := e i hik hc; rw [hwi] at this; cases this
    · rw [e, wi_p t hm hk]
      have := hl i hik hc hwi
      exact decide_eq_true (by omega)
theorem at_put (c x : Int) (v : Int × Int) (s : Sh) : (putS c v s).at x = if x = c then v else s.at x := by
  unfold putS Sh.at
  dsimp only
  split <;> rfl
theorem at_rep (n : Nat) (c x : Int) (s : Sh) : (repS n c s).at x = s.at x := rfl
theorem InvS.start (t : Tm) : InvS t 0 s0 where
  w c := .inl ⟨rfl, fun m h => by omega⟩
  r c := .inl ⟨rfl, fun m h => by omega⟩
  f c := by
    constructor
    · intro h; cases h
    · rintro ⟨i, j, h, _⟩; omega
  nd := List.nodup_nil
  fst := .inl ⟨rfl, fun i j h => by omega⟩
theorem InvS.step {t : Tm} {k : Nat} {s : Sh} (I : InvS t k s) (hk : k < t.count) : InvS t (k + 1) (accS (fun m => !t.ahead m k) k (t.lf k) s) := by
  have hat : ∀ c, (accS (fun m => !t.ahead m k) k (t.lf k) s).at c = if c = (t.lf k).cell then newC (fun m => !t.ahead m k) k (t.lf k) s else s.at c := by
    intro c
    unfold accS
    rw [at_put]
    split
    · rfl
    · split <;> rfl
  have hfd : (accS (fun m => !t.ahead m k) k (t.lf k) s).found = if hitB (fun m => !t.ahead m k) (t.lf k) s then (if s.found.contains (t.lf k).cell then s.found else s.found ++ [(t.lf k).cell]) else s.found := by
    unfold accS putS
    split <;> rfl
  have hfs : (accS (fun m => !t.ahead m k) k (t.lf k) s).first = if hitB (fun m => !t.ahead m k) (t.lf k) s then (if s.first < 0 then (k : Int) else s.first) else s.first := by
    unfold accS putS
    split <;> rfl
  have hlow : ∀ i j, raceB t i j = true → i < j := fun i j h => by
    rcases Nat.lt_or_ge i j with h1 | h1
    · exact h1
    · rw [raceB_low (by omega)] at h; cases h
  refine ⟨fun c => ?_, fun c => ?_, fun c => ?_, ?_, ?_⟩
  · rw [hat]
    by_cases hc : c = (t.lf k).cell
    · subst hc
      rw [if_pos rfl]
      unfold newC
      cases hw : (t.lf k).write with
      | true =>
        simp only [if_true]
        exact .inr ⟨k, by omega, rfl, rfl, hw, fun m' h1 h2 => by omega⟩
      | false =>
        have e : (if wiB (fun m => !t.ahead m k) (s.at (t.lf k).cell).2 = true then s.at (t.lf k).cell else ((s.at (t.lf k).cell).1, (k : Int))).1 = (s.at (t.lf k).cell).1 := by split <;> rfl
        simp only [Bool.false_eq_true, if_false]
        rw [e]
        rcases I.w (t.lf k).cell with ⟨e, h⟩ | ⟨m, hm, e, h1, h2, h3⟩
        · refine .inl ⟨e, fun m hm hc => ?_⟩
          rcases Nat.lt_or_ge m k with hmk | hmk
          · exact h m hmk hc
          · rw [show m = k by omega]; exact hw
        · refine .inr ⟨m, by omega, e, h1, h2, fun m' ha hb hc => ?_⟩
          rcases Nat.lt_or_ge m' k with hmk | hmk
          · exact h3 m' ha hmk hc
          · rw [show m' = k by omega]; exact hw
    · rw [if_neg hc]
      rcases I.w c with ⟨e, h⟩ | ⟨m, hm, e, h1, h2, h3⟩
      · refine .inl ⟨e, fun m hm hcm => ?_⟩
        rcases Nat.lt_or_ge m k with hmk | hmk
        · exact h m hmk hcm
        · rw [show m = k by omega] at hcm; exact absurd hcm.symm hc
      · refine .inr ⟨m, by omega, e, h1, h2, fun m' ha hb hcm => ?_⟩
        rcases Nat.lt_or_ge m' k with hmk | hmk
        · exact h3 m' ha hmk hcm
        · rw [show m' = k by omega] at hcm; exact absurd hcm.symm hc
  · rw [hat]
    by_cases hc : c = (t.lf k).cell
    · subst hc
      rw [if_pos rfl]
      unfold newC
      cases hw : (t.lf k).write with
      | true =>
        simp only [if_true]
        rcases I.r (t.lf k).cell with ⟨e, h⟩ | ⟨m, hm, e, h1, h2, h3⟩
        · refine .inl ⟨e, fun m hm hc => ?_⟩
          rcases Nat.lt_or_ge m k with hmk | hmk
          · exact h m hmk hc
          · rw [show m = k by omega]; exact hw
        · refine .inr ⟨m, by omega, e, h1, h2, fun m' hb hc hr => ?_⟩
          rcases Nat.lt_or_ge m' k with hmk | hmk
          · exact h3 m' hmk hc hr
          · rw [show m' = k by omega, hw] at hr; cases hr
      | false =>
        simp only [Bool.false_eq_true, if_false]
        rcases I.r (t.lf k).cell with ⟨e, h⟩ | ⟨m, hm, e, h1, h2, h3⟩
        · rw [e, wi_neg]
          simp only [Bool.false_eq_true, if_false]
          refine .inr ⟨k, by omega, rfl, rfl, hw, fun m' hb hc hr => ?_⟩
          rcases Nat.lt_or_ge m' k with hmk | hmk
          · have := h m' hmk hc; rw [hr] at this; cases this
          · rw [show m' = k by omega]; exact Nat.le_refl _
        · rw [e, wi_p t hm hk]
          by_cases hp : t.p k < t.p m
          · rw [decide_eq_true hp]
            simp only [if_true]
            refine .inr ⟨m, by omega, e, h1, h2, fun m' hb hc hr => ?_⟩
            rcases Nat.lt_or_ge m' k with hmk | hmk
            · exact h3 m' hmk hc hr
            · rw [show m' = k by omega]; omega
          · rw [decide_eq_false hp]
            simp only [Bool.false_eq_true, if_false]
            refine .inr ⟨k, by omega, rfl, rfl, hw, fun m' hb hc hr => ?_⟩
            rcases Nat.lt_or_ge m' k with hmk | hmk
            · have := h3 m' hmk hc hr; omega
            · rw [show m' = k by omega]; exact Nat.le_refl _
    · rw [if_neg hc]
      rcases I.r c with ⟨e, h⟩ | ⟨m, hm, e, h1, h2, h3⟩
      · refine .inl ⟨e, fun m hm hcm => ?_⟩
        rcases Nat.lt_or_ge m k with hmk | hmk
        · exact h m hmk hcm
        · rw [show m = k by omega] at hcm; exact absurd hcm.symm hc
      · refine .inr ⟨m, by omega, e, h1, h2, fun m' hb hcm hr => ?_⟩
        rcases Nat.lt_or_ge m' k with hmk | hmk
        · exact h3 m' hmk hcm hr
        · rw [show m' = k by omega] at hcm; exact absurd hcm.symm hc
  · rw [hfd]
    have hin : c ∈ (if hitB (fun m => !t.ahead m k) (t.lf k) s then (if s.found.contains (t.lf k).cell then s.found else s.found ++ [(t.lf k).cell]) else s.found) ↔ c ∈ s.found ∨ (hitB (fun m => !t.ahead m k) (t.lf k) s = true ∧ c = (t.lf k).cell) := by
      cases hh : hitB (fun m => !t.ahead m k) (t.lf k) s with
      | false => simp
      | true =>
        simp only [if_true, true_and]
        cases hcn : s.found.contains (t.lf k).cell with
        | true =>
          simp only [if_true]
          have := List.contains_iff_mem.1 hcn
          constructor
          · exact .inl
          · rintro (h | rfl)
            · exact h
            · exact this
        | false => simp
    rw [hin, I.f c]
    constructor
    · rintro (⟨i, j, h1, h2, h3⟩ | ⟨hh, rfl⟩)
      · exact ⟨i, j, by omega, h2, h3⟩
      · obtain ⟨i, hi⟩ := hit_sound I hk hh
        exact ⟨i, k, by omega, hi, rfl⟩
    · rintro ⟨i, j, h1, h2, h3⟩
      by_cases hex : ∃ i j, j < k ∧ raceB t i j = true ∧ (t.lf j).cell = c
      · exact .inl hex
      · have hjk : j = k := by
          rcases Nat.lt_or_ge j k with h | h
          · exact absurd ⟨i, j, h, h2, h3⟩ hex
          · omega
        subst hjk
        refine .inr ⟨hit_whole I hk (fun i' j' hj' hc' => ?_) h2, h3.symm⟩
        cases hr : raceB t i' j' with
        | false => rfl
        | true => exact absurd ⟨i', j', hj', hr, hc'.trans h3⟩ hex
  · rw [hfd]
    split
    · split
      · exact I.nd
      · rename_i hcn
        refine List.nodup_append.2 ⟨I.nd, by simp, fun x hx y hy => ?_⟩
        simp only [List.mem_singleton] at hy
        subst hy
        intro e
        subst e
        exact hcn (List.contains_iff_mem.2 hx)
    · exact I.nd
  · rw [hfs]
    rcases I.fst with ⟨e, h⟩ | ⟨j, hj, e, h1, h2⟩
    · rw [e]
      simp only [show ((-1 : Int) < 0) from by omega, if_true]
      cases hh : hitB (fun m => !t.ahead m k) (t.lf k) s with
      | true =>
        simp only [if_true]
        exact .inr ⟨k, by omega, by simp, hit_sound I hk hh, h⟩
      | false =>
        simp only [Bool.false_eq_true, if_false]
        refine .inl ⟨by trivial, fun i j hj => ?_⟩
        rcases Nat.lt_or_ge j k with hjk | hjk
        · exact h i j hjk
        · have : j = k := by omega
          subst this
          cases hr : raceB t i j with
          | false => rfl
          | true => rw [hit_whole I hk (fun i' j' hj' _ => h i' j' hj') hr] at hh; cases hh
    · rw [e]
      have hn : ¬ ((j : Int) < 0) := by omega
      simp only [hn, if_false, ite_self]
      exact .inr ⟨j, by omega, rfl, h1, h2⟩
theorem stS_inv (t : Tm) : ∀ k, k ≤ t.count → InvS t k (stS t k) := by
  intro k
  induction k with
  | zero => intro _; exact InvS.start t
  | succ k ih => intro h; exact (ih (by omega)).step h
theorem races_mem (t : Tm) {i j : Nat} (hj : j < t.count) (h : raceB t i j = true) : ((i : Int), (j : Int)) ∈ t.races := by
  have hij := ((race_iff t hj).1 h).1
  unfold Tm.races racesUp rowRc
  simp only [List.mem_flatMap, List.mem_range, List.mem_map, List.mem_filter]
  exact ⟨i, by omega, j, ⟨hj, h⟩, rfl⟩
/-- the least second number, from w on (less than 0: none) -/
def minJ (w : Int) (l : List (Int × Int)) : Int := l.foldl (fun w p => if w < 0 ∨ p.2 < w then p.2 else w) w
theorem minJ_said : ∀ (l : List (Int × Int)) (w : Int), (∀ x ∈ l, 0 ≤ x.2) → (w = -1 ∨ 0 ≤ w) →
    (w = -1 ∧ l = [] ∧ minJ w l = -1) ∨ (0 ≤ minJ w l ∧ (minJ w l = w ∨ ∃ x ∈ l, x.2 = minJ w l) ∧ (0 ≤ w → minJ w l ≤ w) ∧ ∀ x ∈ l, minJ w l ≤ x.2) := by
  intro l
  induction l with
  | nil =>
    intro w _ hw
    rcases hw with rfl | hw
    · exact .inl ⟨rfl, rfl, rfl⟩
    · exact .inr ⟨hw, .inl rfl, fun _ => Int.le_refl _, by simp⟩
  | cons y r ih =>
    intro w hl hw
    have hy := hl y (by simp)
    have e : minJ w (y :: r) = minJ (if w < 0 ∨ y.2 < w then y.2 else w) r := rfl
    rw [e]
    obtain ⟨v, hv⟩ : ∃ v, v = (if w < 0 ∨ y.2 < w then y.2 else w) := ⟨_, rfl⟩
    rw [← hv]
    have hv0 : 0 ≤ v ∧ v ≤ y.2 ∧ (0 ≤ w → v ≤ w) ∧ (v = w ∨ v = y.2) := by
      by_cases hc : w < 0 ∨ y.2 < w
      · rw [if_pos hc] at hv; subst hv; exact ⟨hy, Int.le_refl _, fun h => by omega, .inr rfl⟩
      · rw [if_neg hc] at hv; subst hv; exact ⟨by omega, by omega, fun h => by omega, .inl rfl⟩
    rcases ih v (fun x hx => hl x (by simp [hx])) (.inr hv0.1) with ⟨h1, _, _⟩ | ⟨h1, h2, h3, h4⟩
    · omega
    · have h3 := h3 hv0.1
      refine .inr ⟨h1, ?_, fun h => by have := hv0.2.2.1 h; omega, fun x hx => ?_⟩
      · rcases h2 with h2 | ⟨x, hx, h2⟩
        · rcases hv0.2.2.2 with h5 | h5
          · exact .inl (h2.trans h5)
          · exact .inr ⟨y, by simp, (h2.trans h5).symm⟩
        · exact .inr ⟨x, by simp [hx], h2⟩
      · rcases List.mem_cons.1 hx with rfl | hx
        · omega
        · exact h4 x hx
theorem first_min (t : Tm) : (stS t t.count).first = minJ (-1) t.races := by
  have hnn : ∀ x ∈ t.races, 0 ≤ x.2 := fun x hx => by
    obtain ⟨a, b, rfl, _⟩ := races_in t t.count (Nat.le_refl _) x hx
    dsimp only; omega
  rcases (stS_inv t t.count (Nat.le_refl _)).fst with ⟨e, h⟩ | ⟨j, hj, e, ⟨i, hi⟩, h⟩
  · have hz : t.races = [] := by
      cases hr : t.races with
      | nil => rfl
      | cons x l =>
        obtain ⟨a, b, rfl, h1, h2, h3, h4⟩ := races_in t t.count (Nat.le_refl _) x (by show x ∈ t.races; rw [hr]; simp)
        rw [h a b h3] at h4; cases h4
    rw [e, hz]; rfl
  · have hm := races_mem t hj hi
    rcases minJ_said t.races (-1) hnn (.inl rfl) with ⟨_, hz, _⟩ | ⟨h1, h2, _, h4⟩
    · rw [hz] at hm; cases hm
    · have hle := h4 _ hm
      dsimp only at hle
      rcases h2 with h2 | ⟨x, hx, h2⟩
      · omega
      · obtain ⟨a, b, rfl, h5, h6, h7, h8⟩ := races_in t t.count (Nat.le_refl _) x hx
        dsimp only at h2
        rcases Nat.lt_or_ge b j with hb | hb
        · rw [h a b hb] at h8; cases h8
        · rw [e]; omega
theorem found_races (t : Tm) (c : Int) : c ∈ (stS t t.count).found ↔ ∃ x ∈ t.races, (t.lf x.1.toNat).cell = c := by
  rw [(stS_inv t t.count (Nat.le_refl _)).f c]
  constructor
  · rintro ⟨i, j, hj, hr, rfl⟩
    exact ⟨_, races_mem t hj hr, by dsimp only; rw [Int.toNat_natCast]; exact ((race_iff t hj).1 hr).2.1⟩
  · rintro ⟨x, hx, rfl⟩
    obtain ⟨a, b, rfl, h5, h6, h7, h8⟩ := races_in t t.count (Nat.le_refl _) x hx
    refine ⟨a, b, h7, h8, ?_⟩
    dsimp only
    rw [Int.toNat_natCast]
    exact ((race_iff t h7).1 h8).2.1.symm
end Go.Proofs.Ytfldajplclahfaa
