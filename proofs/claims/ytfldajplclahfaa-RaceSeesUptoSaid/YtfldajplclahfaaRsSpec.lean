/- What each leaf finds, if all are done in an order, plainly; and the two orders of two leaves that race. -/
import Derived.Test.YtfldajplclahfaaGVecSpec
import Derived.Test.YtfldajplclahfaaGSrtSpec
namespace Go.Proofs.Ytfldajplclahfaa
set_option linter.unusedVariables false
/-- the k-th of an order -/
def oA (o : List Int) (k : Nat) : Nat := ((o[k]?).getD 0).toNat
theorem oA_get {o : List Int} {k : Nat} (h : k < o.length) (h0 : 0 ≤ o[k]) : o[k]? = some ((oA o k : Nat) : Int) := by
  unfold oA
  rw [List.getElem?_eq_getElem h]
  simp only [Option.getD_some]
  congr 1; omega
/-- each of the first N numbers once -/
def OkL (N : Nat) (o : List Int) : Prop := o.length = N ∧ (∀ x ∈ o, 0 ≤ x ∧ x < (N : Int)) ∧ o.Nodup
/-- one is done ahead of one that it waits for -/
def Conf (t : Tm) (o : List Int) : Prop := ∃ k j, k < o.length ∧ j < k ∧ t.ahead (oA o k) (oA o j) = true
def GoodO (t : Tm) (o : List Int) : Prop := OkL t.count o ∧ ¬ Conf t o
/-- where each one stands, from one on, behind the first q -/
def atS (N : Nat) (o : List Int) : Nat → List Int
  | 0 => List.replicate N 0
  | q + 1 => (atS N o q).set (oA o q) ((q : Int) + 1)
theorem atS_len (N : Nat) (o : List Int) (q : Nat) : (atS N o q).length = N := by
  induction q with
  | zero => simp [atS]
  | succ q ih => simp [atS, ih]
/-- the first q are each once -/
def OkQ (N : Nat) (o : List Int) (q : Nat) : Prop := (∀ k, k < q → ∃ x, o[k]? = some x ∧ 0 ≤ x ∧ x < (N : Int)) ∧ ∀ j k, j < k → k < q → oA o j ≠ oA o k
theorem oA_lt {N : Nat} {o : List Int} {q k : Nat} (h : OkQ N o q) (hk : k < q) : oA o k < N ∧ o[k]? = some ((oA o k : Nat) : Int) := by
  obtain ⟨x, hx, h0, h1⟩ := h.1 k hk
  unfold oA
  rw [hx]
  simp only [Option.getD_some]
  exact ⟨by omega, by congr 1; omega⟩
theorem atS_at {N : Nat} {o : List Int} : ∀ {q : Nat}, OkQ N o q → ∀ k, k < q → (atS N o q)[oA o k]? = some ((k : Int) + 1) := by
  intro q
  induction q with
  | zero => intro _ k hk; omega
  | succ q ih =>
    intro h k hk
    have hl := (oA_lt h hk).1
    unfold atS
    rw [List.getElem?_set]
    by_cases e : oA o q = oA o k
    · have hkq : k = q := by
        rcases Nat.lt_or_ge k q with h1 | h1
        · exact absurd e.symm (h.2 k q h1 (by omega))
        · omega
      subst hkq
      rw [if_pos rfl, if_pos (by rw [atS_len]; exact hl)]
    · rw [if_neg e]
      have hkq : k < q := by
        rcases Nat.lt_or_ge k q with h1 | h1
        · exact h1
        · exact absurd (by rw [show q = k by omega]) e
      exact ih ⟨fun k hk => h.1 k (by omega), fun j k hj hk => h.2 j k hj (by omega)⟩ k hkq
theorem atS_zero {N : Nat} {o : List Int} : ∀ {q : Nat} {n : Nat}, n < N → (∀ k, k < q → oA o k ≠ n) → (atS N o q)[n]? = some 0 := by
  intro q
  induction q with
  | zero => intro n hn _; simp [atS, hn]
  | succ q ih =>
    intro n hn h
    unfold atS
    rw [List.getElem?_set, if_neg (h q (by omega))]
    exact ih hn (fun k hk => h k (by omega))
theorem OkQ.zero (N : Nat) (o : List Int) : OkQ N o 0 := ⟨fun k h => by omega, fun j k _ h => by omega⟩
theorem OkQ.succ {N : Nat} {o : List Int} {q : Nat} (h : OkQ N o q) {x : Int} (hx : o[q]? = some x) (h0 : 0 ≤ x) (h1 : x < (N : Int)) (hn : ∀ k, k < q → oA o k ≠ x.toNat) : OkQ N o (q + 1) := by
  have e : oA o q = x.toNat := by unfold oA; rw [hx]; rfl
  refine ⟨fun k hk => ?_, fun j k hj hk => ?_⟩
  · rcases Nat.lt_or_ge k q with hkq | hkq
    · exact h.1 k hkq
    · rw [show k = q by omega]; exact ⟨x, hx, h0, h1⟩
  · rcases Nat.lt_or_ge k q with hkq | hkq
    · exact h.2 j k hj hkq
    · rw [show k = q by omega, e]; exact hn j (by omega)
theorem OkQ.whole {N : Nat} {o : List Int} (hl : o.length = N) (h : OkQ N o N) : OkL N o := by
  refine ⟨hl, fun x hx => ?_, ?_⟩
  · obtain ⟨k, hk, rfl⟩ := List.getElem_of_mem hx
    obtain ⟨x, hx, h0, h1⟩ := h.1 k (by omega)
    rw [List.getElem?_eq_getElem hk] at hx
    injection hx with hx
    rw [hx]; exact ⟨h0, h1⟩
  · rw [List.nodup_iff_pairwise_ne, List.pairwise_iff_getElem]
    intro i j hi hj hij e
    have h1 := h.2 i j hij (by omega)
    apply h1
    unfold oA
    rw [List.getElem?_eq_getElem hi, List.getElem?_eq_getElem hj, e]
theorem OkL.okq {N : Nat} {o : List Int} (h : OkL N o) : OkQ N o N := by
  obtain ⟨hl, hr, hd⟩ := h
  have hx : ∀ k, k < N → ∃ x, o[k]? = some x ∧ 0 ≤ x ∧ x < (N : Int) := fun k hk => ⟨o[k], List.getElem?_eq_getElem (by omega), hr _ (List.getElem_mem _)⟩
  refine ⟨hx, fun j k hj hk e => ?_⟩
  rw [List.nodup_iff_pairwise_ne, List.pairwise_iff_getElem] at hd
  have h1 := hd j k (by omega) (by omega) hj
  apply h1
  obtain ⟨x, hx1, h0, _⟩ := hx j (by omega)
  obtain ⟨y, hy1, h2, _⟩ := hx k hk
  unfold oA at e
  rw [hx1, hy1] at e
  simp only [Option.getD_some] at e
  rw [List.getElem?_eq_getElem (by omega)] at hx1 hy1
  injection hx1 with hx1; injection hy1 with hy1
  omega
/-- one that is not: out of the first N, or there already -/
theorem OkL.not {N : Nat} {o : List Int} {q : Nat} {x : Int} (hx : o[q]? = some x) (h : x < 0 ∨ (N : Int) ≤ x ∨ ∃ k, k < q ∧ o[k]? = some x) : ¬ OkL N o := by
  rintro ⟨hl, hr, hd⟩
  have hm := hr x (List.mem_of_getElem? hx)
  rcases h with h | h | ⟨k, hk, h⟩
  · omega
  · omega
  · rw [List.nodup_iff_pairwise_ne, List.pairwise_iff_getElem] at hd
    obtain ⟨h1, h2⟩ := List.getElem?_eq_some_iff.1 h
    obtain ⟨h3, h4⟩ := List.getElem?_eq_some_iff.1 hx
    exact hd k q h1 h3 hk (by rw [h2, h4])
/-- sorted they are the first N -/
theorem okL_sorted {N : Nat} {o : List Int} : OkL N o ↔ (sortZ o).length = N ∧ ∀ i, i < N → (sortZ o)[i]? = some (i : Int) := by
  constructor
  · rintro ⟨hl, hr, hd⟩
    have hlt := sortZ_lt hd
    have hsl : (sortZ o).length = N := by rw [sortZ_len]; exact hl
    have hbd : ∀ i (h : i < (sortZ o).length), 0 ≤ (sortZ o)[i] ∧ (sortZ o)[i] < (N : Int) := fun i h => hr _ ((sortZ_mem o _).1 (List.getElem_mem h))
    have hp := List.pairwise_iff_getElem.1 hlt
    have lo : ∀ i (h : i < (sortZ o).length), (i : Int) ≤ (sortZ o)[i] := by
      intro i
      induction i with
      | zero => intro h; exact (hbd 0 h).1
      | succ i ih => intro h; have h1 := ih (by omega); have h2 := hp i (i + 1) (by omega) h (by omega); omega
    have hi : ∀ d i (h : i < (sortZ o).length), i + d + 1 = N → (sortZ o)[i] ≤ (i : Int) := by
      intro d
      induction d with
      | zero => intro i h e; have := (hbd i h).2; omega
      | succ d ih => intro i h e; have h1 := ih (i + 1) (by omega) (by omega); have h2 := hp i (i + 1) h (by omega) (by omega); omega
    refine ⟨hsl, fun i hi' => ?_⟩
    have hil : i < (sortZ o).length := by omega
    rw [List.getElem?_eq_getElem hil]
    congr 1
    have h1 := lo i hil
    have h2 := hi (N - i - 1) i hil (by omega)
    omega
  · rintro ⟨hl, hs⟩
    have hmem : ∀ x ∈ sortZ o, 0 ≤ x ∧ x < (N : Int) := fun x hx => by
      obtain ⟨i, hi, rfl⟩ := List.getElem_of_mem hx
      have := hs i (by omega)
      rw [List.getElem?_eq_getElem hi] at this
      injection this with this
      omega
    refine ⟨by rw [← sortZ_len]; exact hl, fun x hx => hmem x ((sortZ_mem o x).2 hx), ?_⟩
    have hn : (sortZ o).Nodup := by
      rw [List.nodup_iff_pairwise_ne, List.pairwise_iff_getElem]
      intro i j hi hj hij e
      have h1 := hs i (by omega)
      have h2 := hs j (by omega)
      rw [List.getElem?_eq_getElem hi] at h1
      rw [List.getElem?_eq_getElem hj] at h2
      injection h1 with h1; injection h2 with h2
      omega
    exact (List.mergeSort_perm o _).nodup_iff.1 hn
/-- who waits, by where they stand -/
theorem conf_iff {t : Tm} {o : List Int} (h : OkL t.count o) : Conf t o ↔ ∃ i j, i < j ∧ j < t.count ∧ t.p i < t.p j ∧ ∃ a b, (atS t.count o t.count)[i]? = some a ∧ (atS t.count o t.count)[j]? = some b ∧ b < a := by
  have hq := h.okq
  have hs := (okL_sorted.1 h)
  have hl := h.1
  have hall : ∀ i, i < t.count → ∃ k, k < t.count ∧ oA o k = i := fun i hi => by
    have h1 := hs.2 i hi
    have h2 := (sortZ_mem o _).1 (List.mem_of_getElem? h1)
    obtain ⟨k, hk, hx⟩ := List.getElem_of_mem h2
    refine ⟨k, by omega, ?_⟩
    unfold oA
    rw [List.getElem?_eq_getElem hk, hx]; rfl
  constructor
  · rintro ⟨k, j, hk, hj, ha⟩
    have hkl := (oA_lt hq (k := k) (by omega)).1
    have hjl := (oA_lt hq (k := j) (by omega)).1
    rw [ahead_p t hkl hjl, Bool.and_eq_true, decide_eq_true_eq, decide_eq_true_eq] at ha
    exact ⟨oA o k, oA o j, ha.1, hjl, ha.2, _, _, atS_at hq k (by omega), atS_at hq j (by omega), by omega⟩
  · rintro ⟨i, j, hij, hj, hp, a, b, hA, hB, hba⟩
    obtain ⟨k, hk, rfl⟩ := hall i (by omega)
    obtain ⟨m, hm, rfl⟩ := hall j hj
    rw [atS_at hq k hk] at hA
    rw [atS_at hq m hm] at hB
    injection hA with hA; injection hB with hB
    refine ⟨k, m, by omega, by omega, ?_⟩
    rw [ahead_p t (by omega) hj, decide_eq_true hij, decide_eq_true hp]; rfl
/-- who wrote a cell last, among the first k (-1: none) -/
def lastW (t : Tm) (o : List Int) (c : Int) : Nat → Int
  | 0 => -1
  | k + 1 => if (t.lf (oA o k)).write && decide ((t.lf (oA o k)).cell = c) then ((oA o k : Nat) : Int) else lastW t o c k
/-- what the first k find -/
def seeS (t : Tm) (o : List Int) : Nat → List Int
  | 0 => List.replicate t.count 0
  | k + 1 => (seeS t o k).set (oA o k) (lastW t o (t.lf (oA o k)).cell k)
theorem seeS_len (t : Tm) (o : List Int) (k : Nat) : (seeS t o k).length = t.count := by
  induction k with
  | zero => simp [seeS]
  | succ k ih => simp [seeS, ih]
theorem lastW_bd {t : Tm} {o : List Int} (h : OkQ t.count o t.count) (c : Int) : ∀ k, k ≤ t.count → -1 ≤ lastW t o c k ∧ lastW t o c k < (t.count : Int) ∨ lastW t o c k = -1 := by
  intro k
  induction k with
  | zero => intro _; exact .inr rfl
  | succ k ih =>
    intro hk
    unfold lastW
    split
    · have := (oA_lt h (k := k) (by omega)).1
      exact .inl ⟨by omega, by omega⟩
    · exact ih (by omega)
/-- the others that are ahead of i or of j, among the first n -/
def earlyB (t : Tm) (i j k : Nat) : Bool := t.ahead k i || t.ahead k j
def earlyL (t : Tm) (i j n : Nat) : List Int := ((List.range n).filter fun k => !decide (k = i) && !decide (k = j) && earlyB t i j k).map fun (k : Nat) => (k : Int)
def lateL (t : Tm) (i j n : Nat) : List Int := ((List.range n).filter fun k => !decide (k = i) && !decide (k = j) && !earlyB t i j k).map fun (k : Nat) => (k : Int)
theorem earlyL_succ (t : Tm) (i j n : Nat) : earlyL t i j (n + 1) = if !decide (n = i) && !decide (n = j) && earlyB t i j n then earlyL t i j n ++ [(n : Int)] else earlyL t i j n := by
  unfold earlyL
  rw [List.range_succ, List.filter_append, List.map_append]
  cases h : (!decide (n = i) && !decide (n = j) && earlyB t i j n) <;> simp [h]
theorem lateL_succ (t : Tm) (i j n : Nat) : lateL t i j (n + 1) = if !decide (n = i) && !decide (n = j) && !earlyB t i j n then lateL t i j n ++ [(n : Int)] else lateL t i j n := by
  unfold lateL
  rw [List.range_succ, List.filter_append, List.map_append]
  cases h : (!decide (n = i) && !decide (n = j) && !earlyB t i j n) <;> simp [h]
theorem earlyL_len (t : Tm) (i j n : Nat) : (earlyL t i j n).length ≤ n := by
  unfold earlyL; rw [List.length_map]; exact Nat.le_trans (List.length_filter_le _ _) (by simp)
theorem lateL_len (t : Tm) (i j n : Nat) : (lateL t i j n).length ≤ n := by
  unfold lateL; rw [List.length_map]; exact Nat.le_trans (List.length_filter_le _ _) (by simp)
end Go.Proofs.Ytfldajplclahfaa
