/- sp.Graph, Count and what the reference says of them, plainly: mixing two rows, in how many ways; odd parts and twos; what is odd has an inverse; a table marked term by term. -/
import Derived.Test.YtknaoianhjeccaaDoorSpSpec
import Derived.Test.YtknaoianhjeccaaDoorClSpec
import Derived.Test.YtknaoianhjeccaaDoorMatB
namespace Go.Proofs.YtknaoianhjeccaaDoor
set_option linter.unusedVariables false
def chs (f : Nat → Nat) : Nat → Nat
  | 0 => 1
  | b + 1 => chs f b + f (b + 1)
/-- in how many ways a things and b others may be mixed -/
def ch : Nat → Nat → Nat
  | 0 => fun _ => 1
  | a + 1 => chs (ch a)
theorem ch_zero (a : Nat) : ch a 0 = 1 := by cases a <;> rfl
theorem ch_succ (a b : Nat) : ch (a + 1) (b + 1) = ch (a + 1) b + ch a (b + 1) := rfl
theorem ch_Q (a : Nat) (hP : ∀ b, ch a (b + 1) * (b + 1) = ch a b * (a + b + 1)) : ∀ b, ch (a + 1) b * (a + 1) = ch a b * (a + b + 1)
  | 0 => by rw [ch_zero, ch_zero]
  | b + 1 => by
    rw [ch_succ, Nat.add_mul, ch_Q a hP b, ← hP b, ← Nat.mul_add]
    congr 1; omega
theorem ch_P : ∀ a b, ch a (b + 1) * (b + 1) = ch a b * (a + b + 1)
  | 0, b => by simp [ch]
  | a + 1, b => by
    have hQ := ch_Q a (ch_P a) b
    rw [ch_succ, Nat.add_mul, ch_P a b, ← hQ, ← Nat.mul_add]
    congr 1; omega
theorem ch_pos : ∀ a b, 0 < ch a b
  | a, 0 => by rw [ch_zero]; omega
  | 0, b + 1 => by simp [ch]
  | a + 1, b + 1 => by have := ch_pos (a + 1) b; rw [ch_succ]; omega
theorem ch_le : ∀ a b, ch a b ≤ 2 ^ (a + b)
  | a, 0 => by rw [ch_zero]; exact Nat.one_le_two_pow
  | 0, b + 1 => by simpa [ch] using Nat.one_le_two_pow
  | a + 1, b + 1 => by
    have h1 := ch_le (a + 1) b
    have h2 := ch_le a (b + 1)
    rw [ch_succ, show a + 1 + (b + 1) = (a + 1 + b) + 1 by omega, Nat.pow_succ]
    rw [show a + (b + 1) = a + 1 + b by omega] at h2
    omega
theorem odd_split (x : Nat) (h : 0 < x) : ∃ t m, x = 2 ^ t * (2 * m + 1) := by
  induction x using Nat.strongRecOn with
  | ind x ih =>
    rcases Nat.mod_two_eq_zero_or_one x with e | e
    · obtain ⟨t, m, hm⟩ := ih (x / 2) (by omega) (by omega)
      refine ⟨t + 1, m, ?_⟩
      rw [Nat.pow_succ, Nat.mul_right_comm, ← hm]
      omega
    · exact ⟨0, x / 2, by rw [Nat.pow_zero]; omega⟩
theorem odd_uniq : ∀ (t s m k : Nat), 2 ^ t * (2 * m + 1) = 2 ^ s * (2 * k + 1) → t = s ∧ m = k
  | 0, 0, m, k, h => by rw [Nat.pow_zero] at h; omega
  | 0, s + 1, m, k, h => by rw [Nat.pow_zero, Nat.pow_succ, Nat.mul_right_comm] at h; omega
  | t + 1, 0, m, k, h => by rw [Nat.pow_zero, Nat.pow_succ, Nat.mul_right_comm] at h; omega
  | t + 1, s + 1, m, k, h => by
    rw [Nat.pow_succ, Nat.pow_succ, Nat.mul_right_comm, Nat.mul_right_comm (2 ^ s)] at h
    have := odd_uniq t s m k (by omega)
    omega
theorem odd_mul (x y : Nat) : (2 * x + 1) * (2 * y + 1) = 2 * (2 * x * y + x + y) + 1 := by grind
/-- the state of dchoose, i factors taken in -/
def DcAt (n i out twos : Nat) : Prop := ∃ t m, ch n i = 2 ^ t * (2 * m + 1) ∧ out = (2 * m + 1) % 18446744073709551616 ∧ twos = t
theorem DcAt.start (n : Nat) : DcAt n 0 1 0 := ⟨0, 0, by rw [ch_zero], rfl, rfl⟩
theorem DcAt.step {n i out twos k l p q iv : Nat} (h : DcAt n i out twos) (hx : n + i + 1 = 2 ^ k * (2 * p + 1)) (hy : i + 1 = 2 ^ l * (2 * q + 1)) (hv : (2 * q + 1) * iv % 18446744073709551616 = 1) :
    ∃ out' twos', DcAt n (i + 1) out' twos' ∧ twos' + l = twos + k ∧ out * (2 * p + 1) % 18446744073709551616 * iv % 18446744073709551616 = out' := by
  obtain ⟨t, m, hc, rfl, rfl⟩ := h
  obtain ⟨t', m', hc'⟩ := odd_split (ch n (i + 1)) (ch_pos _ _)
  have hP := ch_P n i
  rw [hc, hc', hx, hy] at hP
  have e1 : 2 ^ (t' + l) * ((2 * m' + 1) * (2 * q + 1)) = 2 ^ (twos + k) * ((2 * m + 1) * (2 * p + 1)) := by
    rw [Nat.pow_add, Nat.pow_add]
    grind
  rw [odd_mul, odd_mul] at e1
  obtain ⟨h1, h2⟩ := odd_uniq _ _ _ _ e1
  have h3 : (2 * m' + 1) * (2 * q + 1) = (2 * m + 1) * (2 * p + 1) := by rw [odd_mul, odd_mul, h2]
  refine ⟨_, t', ⟨t', m', hc', rfl, rfl⟩, h1, ?_⟩
  have e2 : (2 * m' + 1) * ((2 * q + 1) * iv) % 18446744073709551616 = (2 * m' + 1) % 18446744073709551616 := by rw [Nat.mul_mod, hv, Nat.mul_one, Nat.mod_mod]
  rw [← e2, ← Nat.mul_assoc, h3]
  simp only [Nat.mul_mod, Nat.mod_mod]
theorem DcAt.end_ {n m out twos : Nat} (h : DcAt n m out twos) : out * 2 ^ twos % 18446744073709551616 = ch n m % 18446744073709551616 := by
  obtain ⟨t, a, hc, rfl, rfl⟩ := h
  rw [hc, Nat.mul_comm (2 ^ twos)]
  simp only [Nat.mul_mod, Nat.mod_mod]
theorem DcAt.twos_le {n i out twos : Nat} (h : DcAt n i out twos) : twos ≤ n + i := by
  obtain ⟨t, a, hc, rfl, rfl⟩ := h
  have h1 := ch_le n i
  rw [hc] at h1
  have h2 : 2 ^ twos ≤ 2 ^ (n + i) := Nat.le_trans (Nat.le_mul_of_pos_right _ (by omega)) h1
  exact (Nat.pow_le_pow_iff_right (by omega)).1 h2
theorem DcAt.out_lt {n i out twos : Nat} (h : DcAt n i out twos) : out < 18446744073709551616 := by
  obtain ⟨t, a, hc, rfl, rfl⟩ := h; omega
/-- one round of the inverse: what is right doubles -/
theorem inv_step (x y : Int) (e f : Nat) (h : (2 ^ e : Int) ∣ x * y - 1) (hf : f ≤ 2 * e) (hf64 : f ≤ 64) :
    (2 ^ f : Int) ∣ x * (y * ((2 - x * y % 18446744073709551616) % 18446744073709551616) % 18446744073709551616) - 1 := by
  obtain ⟨c, hc⟩ := h
  obtain ⟨a, ha⟩ : (2 ^ f : Int) ∣ 18446744073709551616 := by
    rw [show (18446744073709551616 : Int) = 2 ^ 64 by decide]
    exact ⟨2 ^ (64 - f), by rw [← Int.pow_add]; congr 1; omega⟩
  obtain ⟨b, hb⟩ : (2 ^ f : Int) ∣ 2 ^ e * 2 ^ e := ⟨2 ^ (2 * e - f), by rw [← Int.pow_add, ← Int.pow_add]; congr 1; omega⟩
  rw [Int.emod_def (y * _), Int.emod_def (2 - _), Int.emod_def (x * y)]
  generalize hq3 : (y * (2 - (x * y - 18446744073709551616 * (x * y / 18446744073709551616)) - 18446744073709551616 * ((2 - (x * y - 18446744073709551616 * (x * y / 18446744073709551616))) / 18446744073709551616)) / 18446744073709551616) = q3
  generalize hq2 : ((2 - (x * y - 18446744073709551616 * (x * y / 18446744073709551616))) / 18446744073709551616) = q2
  generalize hq1 : x * y / 18446744073709551616 = q1
  clear hq1 hq2 hq3
  refine ⟨- (b * c * c) + a * (x * y * q1 - x * y * q2 - x * q3), ?_⟩
  generalize (2 ^ f : Int) = F at *
  generalize (2 ^ e : Int) = E at *
  grind
theorem inv_zero (x : Int) (m : Int) (h : x = 2 * m + 1) : (2 ^ 3 : Int) ∣ x * x - 1 := by
  subst h
  have h2 : ∃ k, m * (m + 1) = 2 * k := by
    rcases (show m % 2 = 0 ∨ m % 2 = 1 by omega) with e | e
    · exact ⟨m / 2 * (m + 1), by rw [← Int.mul_assoc]; congr 1; omega⟩
    · exact ⟨m * ((m + 1) / 2), by rw [← Int.mul_assoc, Int.mul_comm 2, Int.mul_assoc]; congr 1; omega⟩
  obtain ⟨k, hk⟩ := h2
  exact ⟨k, by grind⟩
/-- how many of the last places are right after r rounds -/
def invE : Nat → Nat
  | 0 => 3
  | r + 1 => if 2 * invE r ≤ 64 then 2 * invE r else 64
theorem invE_le (r : Nat) : invE (r + 1) ≤ 2 * invE r ∧ invE (r + 1) ≤ 64 := by
  simp only [invE]; split <;> omega
theorem invE_six : invE 6 = 64 := by decide
theorem inv_end {x y : Nat} (h : (2 ^ 64 : Int) ∣ (x : Int) * (y : Int) - 1) : x * y % 18446744073709551616 = 1 := by
  have h1 : ((x * y : Nat) : Int) % 18446744073709551616 = 1 := by
    rw [Int.natCast_mul]
    have := Int.emod_emod_of_dvd
    omega
  omega
/-- in how many orders all may be done -/
def Tm.ways (t : Tm) : Nat :=
  match h : t.two with
  | some (p, a, b) => a.ways * b.ways * (if p then ch a.count b.count else 1)
  | none => 1
termination_by SizeOf.sizeOf t
decreasing_by all_goals (have hs := Tm.two_size h; omega)
theorem Tm.ways_two {t a b : Tm} {p : Bool} (h : t.two = some (p, a, b)) : t.ways = a.ways * b.ways * (if p then ch a.count b.count else 1) := by
  rw [Tm.ways]; split <;> simp_all
theorem Tm.ways_none {t : Tm} (h : t.two = none) : t.ways = 1 := by
  rw [Tm.ways]; split <;> simp_all
theorem mul_m64 (a b : Nat) : ((a % 18446744073709551616 : Nat) : Int) * ((b % 18446744073709551616 : Nat) : Int) % 18446744073709551616 = ((a * b % 18446744073709551616 : Nat) : Int) := by
  rw [← Int.natCast_mul, Nat.mul_mod]; omega
theorem add_m64 (a b : Nat) : (((a % 18446744073709551616 : Nat) : Int) + ((b % 18446744073709551616 : Nat) : Int)) % 18446744073709551616 = (((a + b) % 18446744073709551616 : Nat) : Int) := by omega
/-- the pairs of the first i rows, and of row i the first j -/
def agJ (n : Nat) (P : Nat → Nat → Bool) (i j : Nat) : List (Nat × Nat) := edgU (rowP n P) i ++ ((List.range j).filter (P i)).map fun m => (i, m)
theorem agJ_zero (n : Nat) (P : Nat → Nat → Bool) (i : Nat) : agJ n P i 0 = edgU (rowP n P) i := by simp [agJ]
theorem agJ_all (n : Nat) (P : Nat → Nat → Bool) (i : Nat) : agJ n P i n = edgU (rowP n P) (i + 1) := by rw [edgU_succ]; rfl
theorem agJ_succ (n : Nat) (P : Nat → Nat → Bool) (i j : Nat) : agJ n P i (j + 1) = if P i j then agJ n P i j ++ [(i, j)] else agJ n P i j := by
  unfold agJ
  rw [List.range_succ, List.filter_append, List.map_append, ← List.append_assoc]
  by_cases h : P i j = true
  · rw [if_pos h]; simp [h]
  · rw [if_neg h]; simp [h]
theorem agJ_low (n : Nat) (P : Nat → Nat → Bool) (i j : Nat) (h : ∀ k, k < j → P i k = false) : agJ n P i j = edgU (rowP n P) i := by
  induction j with
  | zero => exact agJ_zero n P i
  | succ j ih => rw [agJ_succ, if_neg (by rw [h j (by omega)]; decide), ih (fun k hk => h k (by omega))]
theorem agJ_len (n : Nat) (P : Nat → Nat → Bool) (i j : Nat) (hi : i < n) (hj : j ≤ n) (hn : n ≤ 200) : (agJ n P i j).length ≤ 40200 := by
  unfold agJ
  rw [List.length_append, List.length_map]
  have h1 := edgU_len (rowP n P) n (rowP_len n _) i
  have h2 := List.length_filter_le (P i) (List.range j)
  rw [List.length_range] at h2
  have h3 : i * n ≤ 200 * 200 := Nat.mul_le_mul (by omega) hn
  omega
/-- is leaf i ahead of leaf j, both of them there? -/
def Tm.ah (t : Tm) (i j : Nat) : Bool := decide (i < t.count ∧ j < t.count) && t.ahead i j
/-- a table, marked by t from `from` on -/
def dmk (t : Tm) (fr : Nat) (R : Nat → Nat → Bool) : Nat → Nat → Bool := fun i j => R i j || (decide (fr ≤ i ∧ fr ≤ j) && t.ah (i - fr) (j - fr))
theorem dmk_none {t : Tm} (h : t.two = none) (fr : Nat) (R : Nat → Nat → Bool) : dmk t fr R = R := by
  funext i j; simp [dmk, Tm.ah, Tm.ahead_none h]
/-- the rows from lo to mid are marked from mid to hi: those up to row I, and of row I those up to J -/
def bxR (R : Nat → Nat → Bool) (lo mid hi I J : Nat) : Nat → Nat → Bool := fun i j => R i j || decide (lo ≤ i ∧ i < I ∧ mid ≤ j ∧ j < hi ∨ i = I ∧ mid ≤ j ∧ j < J)
theorem bxR_start (R : Nat → Nat → Bool) (lo mid hi : Nat) : bxR R lo mid hi lo mid = R := by
  funext i j; simp only [bxR]
  rw [decide_eq_false (by omega), Bool.or_false]
theorem bxR_next (R : Nat → Nat → Bool) (lo mid hi I : Nat) (h : lo ≤ I) : bxR R lo mid hi I hi = bxR R lo mid hi (I + 1) mid := by
  funext i j; simp only [bxR]; congr 1; rw [decide_eq_decide]; omega
theorem bxR_set (R : Nat → Nat → Bool) (lo mid hi I J : Nat) (h : mid ≤ J) : setR (bxR R lo mid hi I J) I J true = bxR R lo mid hi I (J + 1) := by
  funext i j
  simp only [setR, bxR]
  by_cases e : i = I ∧ j = J
  · rw [if_pos e, decide_eq_true (by omega), Bool.or_true]
  · rw [if_neg e]; congr 1; rw [decide_eq_decide]; omega
theorem dmk_two {t a b : Tm} {p : Bool} (h : t.two = some (p, a, b)) (fr i j : Nat) :
    (decide (fr ≤ i ∧ fr ≤ j) && t.ah (i - fr) (j - fr)) = ((decide (fr ≤ i ∧ fr ≤ j) && a.ah (i - fr) (j - fr)) || (decide (fr + a.count ≤ i ∧ fr + a.count ≤ j) && b.ah (i - (fr + a.count)) (j - (fr + a.count))) ||
      (!p && decide (fr ≤ i ∧ i < fr + a.count ∧ fr + a.count ≤ j ∧ j < fr + a.count + b.count))) := by
  simp only [Tm.ah, Tm.ahead_two h, Tm.count_two h]
  rw [show i - (fr + a.count) = i - fr - a.count by omega, show j - (fr + a.count) = j - fr - a.count by omega]
  by_cases h0 : fr ≤ i ∧ fr ≤ j
  · by_cases h1 : i - fr < a.count ∧ j - fr < a.count
    · rw [if_pos h1, decide_eq_true h0, decide_eq_true h1, decide_eq_false (p := fr + a.count ≤ i ∧ fr + a.count ≤ j) (by omega), decide_eq_true (p := i - fr < a.count + b.count ∧ j - fr < a.count + b.count) (by omega),
        decide_eq_false (p := fr ≤ i ∧ i < fr + a.count ∧ fr + a.count ≤ j ∧ j < fr + a.count + b.count) (by omega)]
      simp
    · by_cases h2 : a.count ≤ i - fr ∧ a.count ≤ j - fr
      · rw [if_neg h1, if_pos h2, decide_eq_true h0, decide_eq_false h1, decide_eq_true (p := fr + a.count ≤ i ∧ fr + a.count ≤ j) (by omega),
          decide_eq_false (p := fr ≤ i ∧ i < fr + a.count ∧ fr + a.count ≤ j ∧ j < fr + a.count + b.count) (by omega),
          show decide (i - fr - a.count < b.count ∧ j - fr - a.count < b.count) = decide (i - fr < a.count + b.count ∧ j - fr < a.count + b.count) by rw [decide_eq_decide]; omega]
        simp
      · rw [if_neg h1, if_neg h2, decide_eq_true h0, decide_eq_false h1, decide_eq_false (p := fr + a.count ≤ i ∧ fr + a.count ≤ j) (by omega)]
        simp only [Bool.true_and, Bool.false_and, Bool.false_or]
        cases p
        · simp only [Bool.not_false, Bool.true_and]
          rw [← Bool.decide_and, decide_eq_decide]
          omega
        · simp
  · rw [decide_eq_false h0, decide_eq_false (p := fr + a.count ≤ i ∧ fr + a.count ≤ j) (by omega), decide_eq_false (p := fr ≤ i ∧ i < fr + a.count ∧ fr + a.count ≤ j ∧ j < fr + a.count + b.count) (by omega)]
    simp
theorem dmk_par {t a b : Tm} (h : t.two = some (true, a, b)) (fr : Nat) (R : Nat → Nat → Bool) : dmk b (fr + a.count) (dmk a fr R) = dmk t fr R := by
  funext i j
  have := dmk_two h fr i j
  simp only [Bool.not_true, Bool.false_and, Bool.or_false] at this
  unfold dmk
  rw [this, Bool.or_assoc]
theorem dmk_seq {t a b : Tm} (h : t.two = some (false, a, b)) (fr : Nat) (R : Nat → Nat → Bool) : bxR (dmk b (fr + a.count) (dmk a fr R)) fr (fr + a.count) (fr + a.count + b.count) (fr + a.count) (fr + a.count) = dmk t fr R := by
  funext i j
  have := dmk_two h fr i j
  simp only [Bool.not_false, Bool.true_and] at this
  unfold bxR
  rw [show decide (fr ≤ i ∧ i < fr + a.count ∧ fr + a.count ≤ j ∧ j < fr + a.count + b.count ∨ i = fr + a.count ∧ fr + a.count ≤ j ∧ j < fr + a.count) = decide (fr ≤ i ∧ i < fr + a.count ∧ fr + a.count ≤ j ∧ j < fr + a.count + b.count) by rw [decide_eq_decide]; omega]
  unfold dmk
  rw [this, Bool.or_assoc, Bool.or_assoc, Bool.or_assoc]
/-- all of it, from an empty table on -/
theorem dmk_all (t : Tm) (i j : Nat) (hi : i < t.count) (hj : j < t.count) : dmk t 0 (fun _ _ => false) i j = t.ahead i j := by
  simp [dmk, Tm.ah, hi, hj]
/-- two leaves, the first on the left: by their second places -/
theorem Tm.ahead_lt (t : Tm) {i j x y : Nat} (hx : (t.pos 0)[i]? = some x) (hy : (t.pos 0)[j]? = some y) (h : i < j) : t.ahead i j = decide (x < y) := by
  rw [Bool.eq_iff_iff, t.ahead_pos 0 i j x y hx hy, decide_eq_true_eq]; omega
theorem Tm.ahead_le (t : Tm) {i j : Nat} (hi : i < t.count) (h : j ≤ i) : t.ahead i j = false := by
  have hx : (t.pos 0)[i]? = some ((t.pos 0)[i]'(by rw [Tm.pos_len]; exact hi)) := List.getElem?_eq_getElem _
  have hy : (t.pos 0)[j]? = some ((t.pos 0)[j]'(by rw [Tm.pos_len]; omega)) := List.getElem?_eq_getElem _
  rw [Bool.eq_false_iff]
  intro e
  have := (t.ahead_pos 0 i j _ _ hx hy).1 e
  omega
end Go.Proofs.YtknaoianhjeccaaDoor
