/- The set of numbers, built from sorted ones: as plain lists. -/
import Derived.Test.YthcafocpifjopaaDoorSetSpec
import Derived.Test.YthcafocpifjopaaDoorSrtSpec
namespace Go.Proofs.YthcafocpifjopaaDoor
set_option linter.unusedVariables false
theorem wadd_bit {s n : Nat} (h : s.testBit n = false) : s + 2 ^ n = s ||| 2 ^ n := by
  apply Nat.eq_of_testBit_eq
  intro j
  rw [bit_add j h, Nat.testBit_or, Nat.testBit_two_pow]
  congr 1
  rw [decide_eq_decide]; omega
theorem addB_orB {l : List Nat} {n : Nat} (h : bitB l n = false) : addB l n = orB l n := by
  unfold addB orB
  rw [wadd_bit h]
/-- those of l that a set may have -/
def tickZ (l : List Int) : List Int := l.filter inTick
theorem tickZ_mem {l : List Int} {x : Int} : x ∈ tickZ l ↔ x ∈ l ∧ 0 ≤ x ∧ x ≤ 65535 := by
  unfold tickZ
  rw [List.mem_filter]
  simp [inTick]
theorem tickZ_snoc (l : List Int) (q : Nat) (h : q < l.length) : tickZ (l.take (q + 1)) = if inTick l[q] then tickZ (l.take q) ++ [l[q]] else tickZ (l.take q) := by
  unfold tickZ
  rw [List.take_succ_eq_append_getElem h, List.filter_append]
  by_cases e : inTick l[q] = true
  · rw [if_pos e]; simp [e]
  · rw [if_neg e]; simp [e]
/-- sorted, each once -/
def sortT (l : List Int) : List Int := sortZ (firsts (tickZ l))
theorem sortT_mem {l : List Int} {x : Int} : x ∈ sortT l ↔ x ∈ l ∧ 0 ≤ x ∧ x ≤ 65535 := by
  unfold sortT
  rw [sortZ_mem, firsts_mem, tickZ_mem]
theorem sortT_lt (l : List Int) : (sortT l).Pairwise (· < ·) := sortZ_lt (firsts_nodup _)
def hasT (c : List Int) (q m : Nat) : Bool := (c.take q).contains (m : Int)
theorem hasT_new {c : List Int} (hp : c.Pairwise (· < ·)) {q n : Nat} (hq : q < c.length) (hn : c[q] = (n : Int)) : hasT c q n = false := by
  cases h : hasT c q n with
  | false => rfl
  | true =>
    unfold hasT at h
    rw [List.contains_iff_mem] at h
    obtain ⟨j, hj, e⟩ := List.mem_take_iff_getElem.1 h
    have := List.pairwise_iff_getElem.1 hp j q (by omega) hq (by omega)
    omega
theorem hasT_succ {c : List Int} {q n : Nat} (hq : q < c.length) (hn : c[q] = (n : Int)) (m : Nat) : hasT c (q + 1) m = (hasT c q m || decide (m = n)) := by
  unfold hasT
  rw [List.take_succ_eq_append_getElem hq, hn, Bool.eq_iff_iff]
  simp only [List.contains_iff_mem, List.mem_append, List.mem_singleton, Bool.or_eq_true, decide_eq_true_eq]
  constructor
  · rintro (h | h)
    · exact .inl h
    · exact .inr (by omega)
  · rintro (h | h)
    · exact .inl h
    · exact .inr (by omega)
theorem hasT_all (l : List Int) (m : Nat) : hasT (sortT l) (sortT l).length m = (decide (m ≤ 65535) && l.contains (m : Int)) := by
  unfold hasT
  rw [List.take_length, Bool.eq_iff_iff, List.contains_iff_mem, sortT_mem, Bool.and_eq_true, decide_eq_true_eq, List.contains_iff_mem]
  constructor
  · rintro ⟨h1, h2, h3⟩; exact ⟨by omega, h1⟩
  · rintro ⟨h1, h2⟩; exact ⟨h2, by omega, by omega⟩
theorem set_next {c : List Int} (hp : c.Pairwise (· < ·)) {q n : Nat} (hq : q < c.length) (hn : c[q] = (n : Int)) {Z : List Nat} (h : SetIs Z (hasT c q)) : SetIs (addB Z n) (hasT c (q + 1)) := by
  rw [addB_orB (by rw [h.bit]; exact hasT_new hp hq hn)]
  exact (h.add n).congr fun m => (hasT_succ hq hn m).symm
theorem word_sum {Z : List Nat} {P : Nat → Bool} (h : SetIs Z P) {n : Nat} (hn : bitB Z n = false) : (Z[n / 64]?).getD 0 + 2 ^ (n % 64) < 18446744073709551616 := by
  have hb : ((Z[n / 64]?).getD 0).testBit (n % 64) = false := hn
  rw [wadd_bit hb]
  exact word_or (hand_word h.ok _) (pow_word (Nat.mod_lt _ (by omega)))
end Go.Proofs.YthcafocpifjopaaDoor
