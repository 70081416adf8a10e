/- Texts merged: HrSpec, SrtSpec, MpSpec2, BsW, BsOr, BsWs. -/
import Derived.Test.YtnpgpcnkdocknaaDoorHbSpec
import Derived.Lib.SlicesCompact
import Derived.Test.YtnpgpcnkdocknaaDoorGInfoU
import Derived.Test.YtnpgpcnkdocknaaDoorGTzLib
import Derived.Laws.BitsAllLaws
import Derived.Test.YtnpgpcnkdocknaaDoorGSetSpec
namespace Go.Proofs.YtnpgpcnkdocknaaDoor
set_option linter.unusedVariables false
/-- both accesses to one cell, one of them a write, by known activities -/
def raceP (a b : HEv) : Bool := decide (a.kind = 1) && decide (b.kind = 1) && decide (a.cell = b.cell) && (a.write || b.write) && kn a.act && kn b.act
def raceH (l : List HEv) (j i : Nat) : Bool := raceP (evAt l i) (evAt l j) && !hr l j i
def rowR (l : List HEv) (j n : Nat) : List (Int × Int) := ((List.range n).filter (raceH l j)).map fun (i : Nat) => ((i : Int), (j : Int))
def racesH (l : List HEv) (n : Nat) : List (Int × Int) := (List.range n).flatMap fun j => rowR l j j
theorem rowR_succ (l : List HEv) (j n : Nat) : rowR l j (n + 1) = rowR l j n ++ (if raceH l j n = true then [((n : Int), (j : Int))] else []) := by
  unfold rowR
  rw [List.range_succ, List.filter_append, List.map_append]
  cases h : raceH l j n <;> simp [h]
theorem rowR_yes {l : List HEv} {j n : Nat} (h : raceH l j n = true) : rowR l j (n + 1) = rowR l j n ++ [((n : Int), (j : Int))] := by rw [rowR_succ, if_pos h]
theorem rowR_no {l : List HEv} {j n : Nat} (h : raceH l j n = false) : rowR l j (n + 1) = rowR l j n := by rw [rowR_succ, h]; simp
theorem racesH_succ (l : List HEv) (n : Nat) : racesH l (n + 1) = racesH l n ++ rowR l n n := by unfold racesH; simp [List.range_succ]
theorem rowR_len (l : List HEv) (j n : Nat) : (rowR l j n).length ≤ n := by
  unfold rowR
  rw [List.length_map]
  exact Nat.le_trans (List.length_filter_le _ _) (by simp)
theorem racesH_len (l : List HEv) (n : Nat) : (racesH l n).length ≤ n * n := by
  induction n with
  | zero => simp [racesH]
  | succ n ih =>
    rw [racesH_succ, List.length_append]
    have := rowR_len l n n
    have e : (n + 1) * (n + 1) = n * n + n + (n + 1) := by rw [Nat.add_mul, Nat.mul_add]; omega
    omega
theorem racesH_mem {l : List HEv} {n : Nat} {x : Int × Int} (h : x ∈ racesH l n) : ∃ i j : Nat, x = ((i : Int), (j : Int)) ∧ i < j ∧ j < n ∧ raceH l j i = true := by
  unfold racesH rowR at h
  rw [List.mem_flatMap] at h
  obtain ⟨j, hj, h⟩ := h
  rw [List.mem_map] at h
  obtain ⟨i, hi, rfl⟩ := h
  rw [List.mem_filter] at hi
  exact ⟨i, j, rfl, List.mem_range.1 hi.1, List.mem_range.1 hj, hi.2⟩
/-- the cells of all of them, in their order -/
def cellsH (l : List HEv) (ps : List (Int × Int)) : List Int := ps.map fun p => (evAt l p.1.toNat).cell
/-- each once, as they come first -/
def firsts (xs : List Int) : List Int := xs.foldl (fun out c => if out.contains c then out else out ++ [c]) []
theorem firsts_snoc (xs : List Int) (c : Int) : firsts (xs ++ [c]) = if (firsts xs).contains c then firsts xs else firsts xs ++ [c] := by
  unfold firsts; rw [List.foldl_append]; rfl
theorem firsts_mem (xs : List Int) (x : Int) : x ∈ firsts xs ↔ x ∈ xs := by
  have key : ∀ (ys out : List Int), x ∈ ys.foldl (fun out c => if out.contains c then out else out ++ [c]) out ↔ x ∈ out ∨ x ∈ ys := by
    intro ys
    induction ys with
    | nil => intro out; simp
    | cons y r ih =>
      intro out
      rw [List.foldl_cons, ih]
      by_cases h : out.contains y = true
      · rw [if_pos h]
        have hy : y ∈ out := List.contains_iff_mem.1 h
        constructor
        · rintro (h1 | h1)
          · exact .inl h1
          · exact .inr (List.mem_cons_of_mem _ h1)
        · rintro (h1 | h1)
          · exact .inl h1
          · rcases List.mem_cons.1 h1 with rfl | h2
            · exact .inl hy
            · exact .inr h2
      · rw [if_neg h]; simp [or_assoc]
  have := key xs []
  simpa [firsts] using this
theorem firsts_nodup (xs : List Int) : (firsts xs).Nodup := by
  have key : ∀ (ys out : List Int), out.Nodup → (ys.foldl (fun out c => if out.contains c then out else out ++ [c]) out).Nodup := by
    intro ys
    induction ys with
    | nil => intro out h; exact h
    | cons y r ih =>
      intro out h
      rw [List.foldl_cons]
      apply ih
      by_cases hc : out.contains y = true
      · rw [if_pos hc]; exact h
      · rw [if_neg hc, List.nodup_append]
        have hy : y ∉ out := fun h => hc (List.contains_iff_mem.2 h)
        exact ⟨h, by simp, fun a ha b hb e => by simp at hb; subst hb; subst e; exact hy ha⟩
  exact key xs [] List.nodup_nil
def sortZ (l : List Int) : List Int := l.mergeSort fun x y => decide (x ≤ y)
theorem ssort_ext : ∀ (a b : List Int), a.Pairwise (· < ·) → b.Pairwise (· < ·) → (∀ x, x ∈ a ↔ x ∈ b) → a = b
  | [], [], _, _, _ => rfl
  | [], y :: b, _, _, h => absurd ((h y).2 (by simp)) (by simp)
  | x :: a, [], _, _, h => absurd ((h x).1 (by simp)) (by simp)
  | x :: a, y :: b, ha, hb, h => by
    rw [List.pairwise_cons] at ha hb
    have e : x = y := by
      have h1 := (h x).1 (by simp)
      have h2 := (h y).2 (by simp)
      rcases List.mem_cons.1 h1 with e | h1
      · exact e
      · rcases List.mem_cons.1 h2 with e | h2
        · exact e.symm
        · have := ha.1 y h2; have := hb.1 x h1; omega
    subst e
    rw [ssort_ext a b ha.2 hb.2]
    intro z
    constructor
    · intro hz
      have := ha.1 z hz
      rcases List.mem_cons.1 ((h z).1 (List.mem_cons_of_mem _ hz)) with e | h
      · omega
      · exact h
    · intro hz
      have := hb.1 z hz
      rcases List.mem_cons.1 ((h z).2 (List.mem_cons_of_mem _ hz)) with e | h
      · omega
      · exact h
theorem sortZ_mem (l : List Int) (x : Int) : x ∈ sortZ l ↔ x ∈ l := (List.mergeSort_perm l _).mem_iff
theorem sortZ_len (l : List Int) : (sortZ l).length = l.length := (List.mergeSort_perm l _).length_eq
theorem sortZ_le (l : List Int) : (sortZ l).Pairwise (· ≤ ·) := by
  have h := List.pairwise_mergeSort (le := fun x y : Int => decide (x ≤ y)) (by intro a b c h1 h2; simp at *; omega) (by intro a b; simp; omega) l
  exact h.imp (fun h => by simpa using h)
theorem sortZ_lt {l : List Int} (h : l.Nodup) : (sortZ l).Pairwise (· < ·) := by
  have h1 := sortZ_le l
  have h2 : (sortZ l).Nodup := (List.mergeSort_perm l _).nodup_iff.2 h
  exact (h1.and h2).imp (fun h => by omega)
theorem upto_lt (d : Array Int) (hs : ∀ i j, i < j → j < d.size → d[i]! ≤ d[j]!) : ∀ m, m ≤ d.size → (Lib.compactUpTo d m).Pairwise (· < ·) ∧ (∀ x, x ∈ Lib.compactUpTo d m ↔ ∃ j, j < m ∧ d[j]! = x) ∧ ∀ x ∈ Lib.compactUpTo d m, x ≤ d[m - 1]! := by
  intro m
  induction m with
  | zero => intro _; simp [Lib.compactUpTo]
  | succ m ih =>
    intro hm
    obtain ⟨h1, h2, h3⟩ := ih (by omega)
    rw [Lib.compactUpTo_succ]
    rcases Nat.eq_zero_or_pos m with h0 | h0
    · subst h0
      have hk : Lib.keeps d 0 = true := by simp [Lib.keeps]
      rw [if_pos hk]
      have e : Lib.compactUpTo d 0 = [] := by simp [Lib.compactUpTo]
      rw [e]
      refine ⟨by simp, fun x => ?_, by simp⟩
      simp only [List.nil_append, List.mem_singleton]
      constructor
      · intro h; exact ⟨0, by omega, h.symm⟩
      · rintro ⟨j, hj, h⟩
        have : j = 0 := by omega
        subst this; exact h.symm
    · have hle := hs (m - 1) m (by omega) (by omega)
      by_cases hk : Lib.keeps d m = true
      · rw [if_pos hk]
        have hne : d[m]! ≠ d[m - 1]! := by
          intro e
          unfold Lib.keeps at hk
          simp at hk
          omega
        refine ⟨?_, fun x => ?_, fun x hx => ?_⟩
        · rw [List.pairwise_append]
          refine ⟨h1, by simp, fun a ha b hb => ?_⟩
          have := h3 a ha
          simp at hb; subst hb; omega
        · rw [List.mem_append, h2]
          constructor
          · rintro (⟨j, hj, h⟩ | h)
            · exact ⟨j, by omega, h⟩
            · exact ⟨m, by omega, (List.mem_singleton.1 h).symm⟩
          · rintro ⟨j, hj, h⟩
            rcases Nat.lt_or_ge j m with hjm | hjm
            · exact .inl ⟨j, hjm, h⟩
            · have : j = m := by omega
              subst this; exact .inr (by simp [h])
        · rw [Nat.add_sub_cancel]
          rcases List.mem_append.1 hx with hx | hx
          · have := h3 x hx; omega
          · simp at hx; omega
      · rw [if_neg hk, List.append_nil]
        have he : d[m]! = d[m - 1]! := by
          unfold Lib.keeps at hk
          simp at hk
          first | exact hk.2 | exact hk.2.symm | omega
        refine ⟨h1, fun x => ?_, fun x hx => ?_⟩
        · rw [h2]
          constructor
          · rintro ⟨j, hj, h⟩; exact ⟨j, by omega, h⟩
          · rintro ⟨j, hj, h⟩
            rcases Nat.lt_or_ge j m with hjm | hjm
            · exact ⟨j, hjm, h⟩
            · have : j = m := by omega
              subst this
              exact ⟨j - 1, by omega, by rw [← he]; exact h⟩
        · rw [Nat.add_sub_cancel]
          have := h3 x hx; omega
theorem compact_sort (l : List Int) : Lib.compact (sortZ l) = sortZ (firsts l) := by
  have hs : ∀ i j, i < j → j < (sortZ l).toArray.size → (sortZ l).toArray[i]! ≤ (sortZ l).toArray[j]! := by
    intro i j hij hj
    have hj' : j < (sortZ l).length := by simpa using hj
    have h := List.pairwise_iff_getElem.1 (sortZ_le l) i j (by omega) hj' hij
    rw [getElem!_pos _ i (by simp; omega), getElem!_pos _ j (by simpa using hj')]
    simpa using h
  obtain ⟨h1, h2, _⟩ := upto_lt (sortZ l).toArray hs (sortZ l).length (by simp)
  refine ssort_ext _ _ h1 (sortZ_lt (firsts_nodup l)) (fun x => ?_)
  show x ∈ Lib.compactUpTo _ _ ↔ _
  rw [h2, sortZ_mem, firsts_mem, ← sortZ_mem l]
  constructor
  · rintro ⟨j, hj, rfl⟩
    rw [getElem!_pos _ j (by simpa using hj)]
    simp
  · intro hx
    obtain ⟨j, hj, rfl⟩ := List.getElem_of_mem hx
    exact ⟨j, hj, by rw [getElem!_pos _ j (by simpa using hj)]; simp⟩
theorem ext_of {α : Type} {r : α → α → Prop} (hr : ∀ a b, r a b → ¬ r b a) : ∀ (a b : List α), a.Pairwise r → b.Pairwise r → (∀ x, x ∈ a ↔ x ∈ b) → a = b
  | [], [], _, _, _ => rfl
  | [], y :: t, _, _, h => absurd ((h y).2 (by simp)) (by simp)
  | x :: s, [], _, _, h => absurd ((h x).1 (by simp)) (by simp)
  | x :: s, y :: t, ha, hb, h => by
    have ha' := List.pairwise_cons.1 ha
    have hb' := List.pairwise_cons.1 hb
    have hirr : ∀ a, ¬ r a a := fun a h => hr a a h h
    have e : x = y := by
      rcases List.mem_cons.1 ((h x).1 (by simp)) with e | hx
      · exact e
      · rcases List.mem_cons.1 ((h y).2 (by simp)) with e | hy
        · exact e.symm
        · exact absurd (ha'.1 y hy) (hr _ _ (hb'.1 x hx))
    subst e
    congr 1
    exact ext_of hr s t ha'.2 hb'.2 (fun z => ⟨fun hz => by
      rcases List.mem_cons.1 ((h z).1 (List.mem_cons_of_mem _ hz)) with e | h
      · subst e; exact absurd (ha'.1 z hz) (hirr z)
      · exact h, fun hz => by
      rcases List.mem_cons.1 ((h z).2 (List.mem_cons_of_mem _ hz)) with e | h
      · subst e; exact absurd (hb'.1 z hz) (hirr z)
      · exact h⟩)
/-- the numbers below N for which P holds, rising -/
def numI (P : Nat → Bool) (N : Nat) : List Int := ((List.range N).filter P).map fun (n : Nat) => (n : Int)
theorem numI_mem {P : Nat → Bool} {N : Nat} {x : Int} : x ∈ numI P N ↔ ∃ n : Nat, x = n ∧ n < N ∧ P n = true := by
  unfold numI
  rw [List.mem_map]
  constructor
  · rintro ⟨n, hn, rfl⟩
    rw [List.mem_filter, List.mem_range] at hn
    exact ⟨n, rfl, hn.1, hn.2⟩
  · rintro ⟨n, rfl, h1, h2⟩
    exact ⟨n, by rw [List.mem_filter, List.mem_range]; exact ⟨h1, h2⟩, rfl⟩
theorem numI_lt (P : Nat → Bool) (N : Nat) : (numI P N).Pairwise (· < ·) := by
  unfold numI
  rw [List.pairwise_map]
  exact (List.Pairwise.filter _ List.pairwise_lt_range).imp (fun h => Int.ofNat_lt.2 h)
/-- sorted, each once: as told -/
theorem sorted_numI {l : List Int} {P : Nat → Bool} {N : Nat} (h : ∀ x, x ∈ l ↔ ∃ n : Nat, x = n ∧ n < N ∧ P n = true) : Lib.compact (sortZ l) = numI P N := by
  rw [compact_sort]
  refine ssort_ext _ _ (sortZ_lt (firsts_nodup _)) (numI_lt _ _) (fun x => ?_)
  rw [sortZ_mem, firsts_mem, h, numI_mem]
def ltP (a b : Int × Int) : Prop := a.1 < b.1 ∨ (a.1 = b.1 ∧ a.2 < b.2)
theorem ltP_asymm (a b : Int × Int) (h : ltP a b) : ¬ ltP b a := by unfold ltP at *; omega
/-- the pairs of numbers below N for which R holds, in order -/
def prI (R : Nat → Nat → Bool) (N : Nat) : List (Int × Int) := (edgU (rowP N R) N).map ceE
theorem prI_mem {R : Nat → Nat → Bool} {N : Nat} {x : Int × Int} : x ∈ prI R N ↔ ∃ i j : Nat, x = ((i : Int), (j : Int)) ∧ i < N ∧ j < N ∧ R i j = true := by
  unfold prI
  rw [List.mem_map]
  constructor
  · rintro ⟨⟨i, j⟩, h, rfl⟩
    obtain ⟨h1, h2⟩ := edgU_mem h
    obtain ⟨h3, h4⟩ := rowP_mem h2
    exact ⟨i, j, rfl, h1, h3, h4⟩
  · rintro ⟨i, j, rfl, h1, h2, h3⟩
    refine ⟨(i, j), ?_, rfl⟩
    unfold edgU
    rw [List.mem_flatMap]
    refine ⟨i, List.mem_range.2 h1, List.mem_map.2 ⟨j, ?_, rfl⟩⟩
    unfold rowP
    rw [List.mem_filter, List.mem_range]
    exact ⟨h2, h3⟩
theorem edgU_lt (R : Nat → List Nat) (hR : ∀ a, (R a).Pairwise (· < ·)) (N : Nat) : ((edgU R N).map ceE).Pairwise ltP := by
  induction N with
  | zero => rw [edgU_zero]; exact List.Pairwise.nil
  | succ N ih =>
    rw [edgU_succ, List.map_append, List.pairwise_append]
    refine ⟨ih, ?_, ?_⟩
    · rw [List.map_map, List.pairwise_map]
      exact (hR N).imp (fun h => .inr ⟨rfl, Int.ofNat_lt.2 h⟩)
    · intro x hx y hy
      obtain ⟨⟨i, j⟩, h, rfl⟩ := List.mem_map.1 hx
      rw [List.map_map] at hy
      obtain ⟨m, _, rfl⟩ := List.mem_map.1 hy
      exact .inl (Int.ofNat_lt.2 (edgU_mem h).1)
theorem prI_lt (R : Nat → Nat → Bool) (N : Nat) : (prI R N).Pairwise ltP := edgU_lt _ (fun a => List.Pairwise.filter _ List.pairwise_lt_range) N
/-- a list in order is the one that is told -/
theorem pairs_prI {l : List (Int × Int)} {R : Nat → Nat → Bool} {N : Nat} (hl : l.Pairwise ltP) (h : ∀ x, x ∈ l ↔ ∃ i j : Nat, x = ((i : Int), (j : Int)) ∧ i < N ∧ j < N ∧ R i j = true) : l = prI R N :=
  ext_of ltP_asymm _ _ hl (prI_lt _ _) (fun x => by rw [h, prI_mem])
/-- the lesser number first -/
def nmP (x : Int × Int) : Int × Int := (min x.1 x.2, max x.1 x.2)
theorem edgU_from (R : Nat → List Nat) (a M : Nat) (h0 : ∀ i, i < a → R i = []) (hM : ∀ i, (R i).length ≤ M) : ∀ k, (edgU R (a + k)).length ≤ k * M := by
  have hz : ∀ i, i ≤ a → edgU R i = [] := by
    intro i
    induction i with
    | zero => intro _; rfl
    | succ i ih => intro h; rw [edgU_succ, ih (by omega), h0 i (by omega)]; rfl
  intro k
  induction k with
  | zero => rw [Nat.add_zero, hz a (Nat.le_refl _)]; simp
  | succ k ih =>
    rw [← Nat.add_assoc, edgU_succ, List.length_append, List.length_map, Nat.add_mul]
    have := hM (a + k)
    omega
/-- what a program's pairs come to -/
def prsI (l : List St) (at_ : Nat) : List (Int × Int) := prI (prL l at_) (at_ + labelsL l)
def opsI (l : List St) (at_ : Nat) : List Int := numI (opL l at_) (at_ + labelsL l)
theorem opsI_mem {l : List St} {at_ : Nat} {x : Int} : x ∈ opsI l at_ ↔ ∃ n : Nat, x = n ∧ opL l at_ n = true := by
  unfold opsI
  rw [numI_mem]
  exact ⟨fun ⟨n, h1, _, h2⟩ => ⟨n, h1, h2⟩, fun ⟨n, h1, h2⟩ => ⟨n, h1, (opL_rng l at_ n h2).2, h2⟩⟩
theorem filter_from {P : Nat → Bool} {a k : Nat} (h : ∀ n, P n = true → a ≤ n) : ((List.range (a + k)).filter P).length ≤ k := by
  rw [List.range_add, List.filter_append, List.length_append]
  have e : (List.range a).filter P = [] := by
    rw [List.filter_eq_nil_iff]
    intro n hn hp
    have := h n hp
    have := List.mem_range.1 hn
    omega
  rw [e]
  have := List.length_filter_le P ((List.range k).map (a + ·))
  simp at this ⊢
  exact this
theorem opsI_len (l : List St) (at_ : Nat) : (opsI l at_).length ≤ labelsL l := by
  unfold opsI numI
  rw [List.length_map]
  exact filter_from (fun n h => (opL_rng l at_ n h).1)
theorem prsI_mem {l : List St} {at_ : Nat} {x : Int × Int} : x ∈ prsI l at_ ↔ ∃ i j : Nat, x = ((i : Int), (j : Int)) ∧ prL l at_ i j = true := by
  unfold prsI
  rw [prI_mem]
  exact ⟨fun ⟨i, j, h1, _, _, h2⟩ => ⟨i, j, h1, h2⟩, fun ⟨i, j, h1, h2⟩ => ⟨i, j, h1, by have := prL_rng l at_ i j h2; omega, by have := prL_rng l at_ i j h2; omega, h2⟩⟩
theorem prsI_len (l : List St) (at_ : Nat) (h : at_ + labelsL l ≤ 65536) : (prsI l at_).length ≤ labelsL l * 65536 := by
  unfold prsI prI
  rw [List.length_map]
  refine edgU_from _ _ _ (fun i hi => ?_) (fun i => Nat.le_trans (rowP_len _ _ i) h) _
  unfold rowP
  rw [List.filter_eq_nil_iff]
  intro j _ hj
  have := prL_rng l at_ i j hj
  omega
/-- all of a row of numbers -/
def rngI (a m : Nat) : List Int := (List.range m).map fun (n : Nat) => ((a + n : Nat) : Int)
theorem rngI_mem {a m : Nat} {x : Int} : x ∈ rngI a m ↔ ∃ n : Nat, x = n ∧ rngB a m n = true := by
  unfold rngI
  rw [List.mem_map]
  constructor
  · rintro ⟨n, hn, rfl⟩
    have := List.mem_range.1 hn
    exact ⟨_, rfl, rngB_iff.2 (by omega)⟩
  · rintro ⟨n, rfl, h⟩
    have := rngB_iff.1 h
    exact ⟨n - a, List.mem_range.2 (by omega), by congr 1; omega⟩
theorem rngI_len (a m : Nat) : (rngI a m).length = m := by simp [rngI]
theorem rngI_succ (a m : Nat) : rngI a (m + 1) = rngI a m ++ [((a + m : Nat) : Int)] := by simp [rngI, List.range_succ]
/-- each of one row with each of another -/
def crsI (a b : List Int) : List (Int × Int) := a.flatMap fun i => b.map fun j => (i, j)
theorem crsI_len (a b : List Int) : (crsI a b).length = a.length * b.length := by
  unfold crsI
  induction a with
  | nil => simp
  | cons x a ih => rw [List.flatMap_cons, List.length_append, List.length_map, ih, List.length_cons, Nat.add_mul]; omega
theorem crsI_mem {a b : List Int} {x : Int × Int} : x ∈ crsI a b ↔ x.1 ∈ a ∧ x.2 ∈ b := by
  unfold crsI
  rw [List.mem_flatMap]
  constructor
  · rintro ⟨i, hi, h⟩
    obtain ⟨j, hj, rfl⟩ := List.mem_map.1 h
    exact ⟨hi, hj⟩
  · rintro ⟨h1, h2⟩
    exact ⟨x.1, h1, List.mem_map.2 ⟨x.2, h2, rfl⟩⟩
/-- told by its pairs, the lesser number first -/
def InP (out : List (Int × Int)) (i j : Nat) : Prop := ∃ x ∈ out, nmP x = ((i : Int), (j : Int))
theorem InP.app {a b : List (Int × Int)} {i j : Nat} : InP (a ++ b) i j ↔ InP a i j ∨ InP b i j := by
  unfold InP
  simp only [List.mem_append]
  constructor
  · rintro ⟨x, h | h, e⟩
    · exact .inl ⟨x, h, e⟩
    · exact .inr ⟨x, h, e⟩
  · rintro (⟨x, h, e⟩ | ⟨x, h, e⟩)
    · exact ⟨x, .inl h, e⟩
    · exact ⟨x, .inr h, e⟩
theorem inP_nil {i j : Nat} : ¬ InP [] i j := by rintro ⟨x, h, _⟩; cases h
theorem inP_crs {a b : List Int} {A B : Nat → Bool} (ha : ∀ x, x ∈ a ↔ ∃ n : Nat, x = n ∧ A n = true) (hb : ∀ x, x ∈ b ↔ ∃ n : Nat, x = n ∧ B n = true) (i j : Nat) : InP (crsI a b) i j ↔ mixB A B i j = true := by
  unfold InP
  rw [mixB_iff]
  constructor
  · rintro ⟨⟨x, y⟩, h, e⟩
    obtain ⟨h1, h2⟩ := crsI_mem.1 h
    obtain ⟨n, e1, h1'⟩ := (ha _).1 h1
    obtain ⟨m, e2, h2'⟩ := (hb _).1 h2
    dsimp only at e1 e2
    subst e1 e2
    unfold nmP at e
    simp only [Prod.mk.injEq] at e
    rcases Nat.le_total n m with h | h
    · have e1 : n = i := by omega
      have e2 : m = j := by omega
      subst e1 e2; exact ⟨h, .inl ⟨h1', h2'⟩⟩
    · have e1 : m = i := by omega
      have e2 : n = j := by omega
      subst e1 e2; exact ⟨h, .inr ⟨h1', h2'⟩⟩
  · rintro ⟨h, ⟨h1, h2⟩ | ⟨h1, h2⟩⟩
    · exact ⟨((i : Int), (j : Int)), crsI_mem.2 ⟨(ha _).2 ⟨i, rfl, h1⟩, (hb _).2 ⟨j, rfl, h2⟩⟩, by unfold nmP; simp only [Prod.mk.injEq]; omega⟩
    · exact ⟨((j : Int), (i : Int)), crsI_mem.2 ⟨(ha _).2 ⟨j, rfl, h1⟩, (hb _).2 ⟨i, rfl, h2⟩⟩, by unfold nmP; simp only [Prod.mk.injEq]; omega⟩
theorem inP_prs {l : List St} {at_ : Nat} (i j : Nat) : InP (prsI l at_) i j ↔ prL l at_ i j = true := by
  unfold InP
  constructor
  · rintro ⟨x, h, e⟩
    obtain ⟨a, b, rfl, h'⟩ := prsI_mem.1 h
    have hr := prL_rng l at_ a b h'
    unfold nmP at e
    simp only [Prod.mk.injEq] at e
    have e1 : a = i := by omega
    have e2 : b = j := by omega
    subst e1 e2; exact h'
  · intro h
    have hr := prL_rng l at_ i j h
    exact ⟨((i : Int), (j : Int)), prsI_mem.2 ⟨i, j, rfl, h⟩, by unfold nmP; simp only [Prod.mk.injEq]; omega⟩
theorem opsI_memB {l : List St} {at_ : Nat} (x : Int) : x ∈ opsI l at_ ↔ ∃ n : Nat, x = n ∧ opL l at_ n = true := opsI_mem
theorem rngI_memB {a m : Nat} (x : Int) : x ∈ rngI a m ↔ ∃ n : Nat, x = n ∧ rngB a m n = true := rngI_mem
theorem opL_one (s : St) (at_ n : Nat) : opL [s] at_ n = opS s at_ n := by rw [opL, opL, Bool.or_false]
theorem labelsL_one (s : St) : labelsL [s] = labelsS s := by rw [labelsL, labelsL, Nat.add_zero]
theorem prS_one {k : Int} {s : Str} {a b : Ex} {body els : List St} (h : k = 4 ∨ k = 5) (at_ i j : Nat) : prS (.mk k s a b body els) at_ i j = prL body at_ i j := by rw [prS, if_pos h]
theorem prS_if {s : Str} {a b : Ex} {body els : List St} (at_ i j : Nat) : prS (.mk 6 s a b body els) at_ i j = (prL body at_ i j || prL els (at_ + labelsL body) i j) := by rw [prS, if_neg (by omega), if_pos rfl]
theorem prS_for {s : Str} {a b : Ex} {body els : List St} (at_ i j : Nat) : prS (.mk 7 s a b body els) at_ i j = (prL body at_ i j || mixB (opL body at_) (rngB at_ (labelsL body)) i j) := by rw [prS, if_neg (by omega), if_neg (by omega), if_pos rfl]
theorem prS_no {k : Int} {s : Str} {a b : Ex} {body els : List St} (h : k < 4 ∨ 7 < k) (at_ i j : Nat) : prS (.mk k s a b body els) at_ i j = false := by rw [prS, if_neg (by omega), if_neg (by omega), if_neg (by omega)]
theorem opS_async {s : Str} {a b : Ex} {body els : List St} (at_ n : Nat) : opS (.mk 4 s a b body els) at_ n = rngB at_ (labelsL body) n := by rw [opS, if_pos rfl]
theorem opS_if {s : Str} {a b : Ex} {body els : List St} (at_ n : Nat) : opS (.mk 6 s a b body els) at_ n = (opL body at_ n || opL els (at_ + labelsL body) n) := by rw [opS, if_neg (by omega), if_pos rfl]
theorem opS_for {s : Str} {a b : Ex} {body els : List St} (at_ n : Nat) : opS (.mk 7 s a b body els) at_ n = opL body at_ n := by rw [opS, if_neg (by omega), if_neg (by omega), if_pos rfl]
theorem opS_no {k : Int} {s : Str} {a b : Ex} {body els : List St} (h : k ≠ 4 ∧ k ≠ 6 ∧ k ≠ 7) (at_ n : Nat) : opS (.mk k s a b body els) at_ n = false := by rw [opS, if_neg h.1, if_neg h.2.1, if_neg h.2.2]
end Go.Proofs.YtnpgpcnkdocknaaDoor
namespace Go.Proofs.YtnpgpcnkdocknaaDoor
open Go.RowKit
set_option linter.unusedVariables false
theorem okU_and {a b : Nat} (ha : okU a) : okU (a &&& b) := Nat.lt_of_le_of_lt Nat.and_le_left ha
theorem okU_or {a b : Nat} (ha : okU a) (hb : okU b) : okU (a ||| b) := by
  unfold okU at *
  exact Nat.or_lt_two_pow (n := 64) ha hb
def SetOut (w : World) (L : List Nat) (e : Ending) (w' : World) : Prop := ∃ x, e = .returned x ∧ RdU w' (Plus Nowhere w.heap.size w'.heap.size) L x ∧ Below w.heap.size w w'
theorem SetOut.len {w : World} {L : List Nat} {e : Ending} {w' : World} (h : SetOut w L e w') : ∃ A cap, e = .returned (.slice A L.length cap) ∧ RdU w' (Plus Nowhere w.heap.size w'.heap.size) L (.slice A L.length cap) ∧ Below w.heap.size w w' := by
  obtain ⟨x, rfl, r, b⟩ := h
  obtain ⟨A, cap, rfl, _⟩ := r.form
  exact ⟨A, cap, rfl, r, b⟩
set_option maxHeartbeats 400000 in
theorem bsOr1 (a b : Nat) (w : World) (ha : okU a) (hb : okU b) : Calls Tryd.prog 32 #[.int .u64 (a : Int), .int .u64 (b : Int)] w fun e w' => e = .returned (.int .u64 ((a ||| b : Nat) : Int)) ∧ w = w' := by
  have e := u64_or_nat a b ha hb
  generalize a ||| b = c at *
  go_enter Tryd.func32, Tryd.ntmps32
  go_wp2
  go_ret
  exact ⟨rfl, rfl⟩
set_option maxHeartbeats 400000 in
theorem bsSOr_any (l m : List Nat) (w : World) (S T : Blocks) (v u : Value) (hS : Sub S (Upto w.heap.size)) (hT : Sub T (Upto w.heap.size)) (r : RdU w S l v) (r' : RdU w T m u) :
    Calls Tryd.prog 22 #[v, u] w (SetOut w (zipB (fun a b => a ||| b) l m)) := by
  have c := Lib.hid (zip_any 32 (fun a b => a ||| b) (fun a b ha hb => okU_or ha hb) (fun args w => by kernel_rfl) bsOr1 l m w S T v u hS hT r r')
  clear r r'
  go_enter Tryd.func22, Tryd.ntmps22
  go_wp2_with (go_at_call 31; refine c.out.mono ?_; rintro e w' ⟨x, rfl, hx, hb⟩)
  go_ret
  exact ⟨x, rfl, hx, hb⟩
theorem or_is {l m : List Nat} {P Q : Nat → Bool} (h : SetIs l P) (h' : SetIs m Q) : SetIs (zipB (fun a b => a ||| b) l m) (fun n => P n || Q n) :=
  h.zip h' (g := fun a b => a || b) (fun a b ha hb => okU_or ha hb) (fun a b j _ _ _ => Nat.testBit_or a b j) rfl
theorem and_is {l m : List Nat} {P Q : Nat → Bool} (h : SetIs l P) (h' : SetIs m Q) : SetIs (zipB (fun a b => a &&& b) l m) (fun n => P n && Q n) :=
  h.zip h' (g := fun a b => a && b) (fun a b ha _ => okU_and ha) (fun a b j _ _ _ => Nat.testBit_and a b j) rfl
end Go.Proofs.YtnpgpcnkdocknaaDoor
