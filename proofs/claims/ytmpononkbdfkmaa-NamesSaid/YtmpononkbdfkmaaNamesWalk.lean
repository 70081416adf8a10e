/- The walk of Names: two lists of constants, compared place by place. -/
import Derived.Test.YtmpononkbdfkmaaBase
namespace Go.Proofs.Ytmpononkbdfkmaa.names
open Go.RowKit
set_option linter.unusedVariables false

/-- the numbers of a block that a literal has just laid -/
theorem laid (w : World) (c : Array Value) (E : TypeId) (L : List Int) (hL : c.toList = L.map (Value.int .i64)) {q : Nat} (hq : q < L.length) :
    (w.alloc (.cells c E)).cell? ⟨w.heap.size, q, none⟩ = some (.int .i64 L[q]) := by
  obtain ⟨c⟩ := c
  simp only at hL
  subst hL
  have h := heap_alloc_new w (.cells (L.map (Value.int .i64)).toArray E)
  unfold World.cell?
  simp only [h]
  simp [List.getElem?_eq_getElem hq]
def ten : List Int := [0, 1, 2, 3, 4, 5, 6, 7, 8, 9]
def many : List Int := [65535, 200, 8, 2000, 400, 16, 16, 0, 1, 2, 3, 1, 2, 3, 1, 2, 3, 4, 5, 6, 7, 8, 9, 1, 2, 3, 1, 2, 3, 4, 5, 6, 7, 1, 2, 3, 4, 1, 2, 3, 1, 2, 3, 4]

set_option maxHeartbeats 1000000 in
set_option maxRecDepth 100000 in
theorem names_walk (w : World) :
    Calls Try.prog 14 #[] w fun e w' => e = .returned (.bool true) ∧ Below w.heap.size w w' := by
  go_enter Try.func14, Try.ntmps14
  go_wp2
  have h10 : ∀ q : Nat, q < 10 → (w.alloc (.cells #[.int .i64 0, .int .i64 1, .int .i64 2, .int .i64 3, .int .i64 4, .int .i64 5, .int .i64 6, .int .i64 7, .int .i64 8, .int .i64 9] 41)).cell? ⟨w.heap.size, q, none⟩ = some (.int .i64 (q : Int)) := by
    intro q hq
    have := laid w #[.int .i64 0, .int .i64 1, .int .i64 2, .int .i64 3, .int .i64 4, .int .i64 5, .int .i64 6, .int .i64 7, .int .i64 8, .int .i64 9] 41 ten rfl (q := q) hq
    rw [this]
    have : ∀ q : Fin 10, ten[q.val]'q.isLt = (q.val : Int) := by decide
    rw [this ⟨q, hq⟩]
  obtain ⟨w1, hw1⟩ : ∃ w1 : World, w1 = w.alloc (.cells #[.int .i64 0, .int .i64 1, .int .i64 2, .int .i64 3, .int .i64 4, .int .i64 5, .int .i64 6, .int .i64 7, .int .i64 8, .int .i64 9] 41) := ⟨_, rfl⟩
  have hb1 : Below w.heap.size w w1 := by rw [hw1]; exact (Below.refl _ _).alloc (Nat.le_refl _) _
  rw [← hw1] at h10 ⊢
  clear hw1
  go_loop [10] (fun t => ∃ q : Nat, q ≤ 10 ∧ t = .int .i64 q) (fun t => 10 - (intOf t).toNat)
  case atStart => exact ⟨0, by omega, rfl⟩
  case round =>
    obtain ⟨q, hq, rfl⟩ := hrel
    by_cases hlt : q < 10
    · have hc := h10 q hlt
      go_wp2
      go_round
      case rel => exact ⟨q + 1, by omega, by go_num⟩
      case measure => simp [intOf]; omega
    · go_wp2_with fail
      have hm1 : ∀ (q : Nat) (hq : q < many.length), ((w1.alloc (.cells #[.int .i64 65535, .int .i64 200, .int .i64 8, .int .i64 2000, .int .i64 400, .int .i64 16, .int .i64 16, .int .i64 0, .int .i64 1, .int .i64 2, .int .i64 3, .int .i64 1, .int .i64 2, .int .i64 3, .int .i64 1, .int .i64 2, .int .i64 3, .int .i64 4, .int .i64 5, .int .i64 6, .int .i64 7, .int .i64 8, .int .i64 9, .int .i64 1, .int .i64 2, .int .i64 3, .int .i64 1, .int .i64 2, .int .i64 3, .int .i64 4, .int .i64 5, .int .i64 6, .int .i64 7, .int .i64 1, .int .i64 2, .int .i64 3, .int .i64 4, .int .i64 1, .int .i64 2, .int .i64 3, .int .i64 1, .int .i64 2, .int .i64 3, .int .i64 4] 3)).alloc (.cells #[.int .i64 65535, .int .i64 200, .int .i64 8, .int .i64 2000, .int .i64 400, .int .i64 16, .int .i64 16, .int .i64 0, .int .i64 1, .int .i64 2, .int .i64 3, .int .i64 1, .int .i64 2, .int .i64 3, .int .i64 1, .int .i64 2, .int .i64 3, .int .i64 4, .int .i64 5, .int .i64 6, .int .i64 7, .int .i64 8, .int .i64 9, .int .i64 1, .int .i64 2, .int .i64 3, .int .i64 1, .int .i64 2, .int .i64 3, .int .i64 4, .int .i64 5, .int .i64 6, .int .i64 7, .int .i64 1, .int .i64 2, .int .i64 3, .int .i64 4, .int .i64 1, .int .i64 2, .int .i64 3, .int .i64 1, .int .i64 2, .int .i64 3, .int .i64 4] 3)).cell? ⟨w1.heap.size, q, none⟩ = some (.int .i64 many[q]) := by
        intro q hq
        rw [World.cell?_alloc_lt _ _ _ (by simp)]
        exact laid w1 #[.int .i64 65535, .int .i64 200, .int .i64 8, .int .i64 2000, .int .i64 400, .int .i64 16, .int .i64 16, .int .i64 0, .int .i64 1, .int .i64 2, .int .i64 3, .int .i64 1, .int .i64 2, .int .i64 3, .int .i64 1, .int .i64 2, .int .i64 3, .int .i64 4, .int .i64 5, .int .i64 6, .int .i64 7, .int .i64 8, .int .i64 9, .int .i64 1, .int .i64 2, .int .i64 3, .int .i64 1, .int .i64 2, .int .i64 3, .int .i64 4, .int .i64 5, .int .i64 6, .int .i64 7, .int .i64 1, .int .i64 2, .int .i64 3, .int .i64 4, .int .i64 1, .int .i64 2, .int .i64 3, .int .i64 1, .int .i64 2, .int .i64 3, .int .i64 4] 3 many rfl hq
      have hm2 : ∀ (q : Nat) (hq : q < many.length), ((w1.alloc (.cells #[.int .i64 65535, .int .i64 200, .int .i64 8, .int .i64 2000, .int .i64 400, .int .i64 16, .int .i64 16, .int .i64 0, .int .i64 1, .int .i64 2, .int .i64 3, .int .i64 1, .int .i64 2, .int .i64 3, .int .i64 1, .int .i64 2, .int .i64 3, .int .i64 4, .int .i64 5, .int .i64 6, .int .i64 7, .int .i64 8, .int .i64 9, .int .i64 1, .int .i64 2, .int .i64 3, .int .i64 1, .int .i64 2, .int .i64 3, .int .i64 4, .int .i64 5, .int .i64 6, .int .i64 7, .int .i64 1, .int .i64 2, .int .i64 3, .int .i64 4, .int .i64 1, .int .i64 2, .int .i64 3, .int .i64 1, .int .i64 2, .int .i64 3, .int .i64 4] 3)).alloc (.cells #[.int .i64 65535, .int .i64 200, .int .i64 8, .int .i64 2000, .int .i64 400, .int .i64 16, .int .i64 16, .int .i64 0, .int .i64 1, .int .i64 2, .int .i64 3, .int .i64 1, .int .i64 2, .int .i64 3, .int .i64 1, .int .i64 2, .int .i64 3, .int .i64 4, .int .i64 5, .int .i64 6, .int .i64 7, .int .i64 8, .int .i64 9, .int .i64 1, .int .i64 2, .int .i64 3, .int .i64 1, .int .i64 2, .int .i64 3, .int .i64 4, .int .i64 5, .int .i64 6, .int .i64 7, .int .i64 1, .int .i64 2, .int .i64 3, .int .i64 4, .int .i64 1, .int .i64 2, .int .i64 3, .int .i64 1, .int .i64 2, .int .i64 3, .int .i64 4] 3)).cell? ⟨w1.heap.size + 1, q, none⟩ = some (.int .i64 many[q]) := by
        intro q hq
        have := laid (w1.alloc (.cells #[.int .i64 65535, .int .i64 200, .int .i64 8, .int .i64 2000, .int .i64 400, .int .i64 16, .int .i64 16, .int .i64 0, .int .i64 1, .int .i64 2, .int .i64 3, .int .i64 1, .int .i64 2, .int .i64 3, .int .i64 1, .int .i64 2, .int .i64 3, .int .i64 4, .int .i64 5, .int .i64 6, .int .i64 7, .int .i64 8, .int .i64 9, .int .i64 1, .int .i64 2, .int .i64 3, .int .i64 1, .int .i64 2, .int .i64 3, .int .i64 4, .int .i64 5, .int .i64 6, .int .i64 7, .int .i64 1, .int .i64 2, .int .i64 3, .int .i64 4, .int .i64 1, .int .i64 2, .int .i64 3, .int .i64 1, .int .i64 2, .int .i64 3, .int .i64 4] 3)) #[.int .i64 65535, .int .i64 200, .int .i64 8, .int .i64 2000, .int .i64 400, .int .i64 16, .int .i64 16, .int .i64 0, .int .i64 1, .int .i64 2, .int .i64 3, .int .i64 1, .int .i64 2, .int .i64 3, .int .i64 1, .int .i64 2, .int .i64 3, .int .i64 4, .int .i64 5, .int .i64 6, .int .i64 7, .int .i64 8, .int .i64 9, .int .i64 1, .int .i64 2, .int .i64 3, .int .i64 1, .int .i64 2, .int .i64 3, .int .i64 4, .int .i64 5, .int .i64 6, .int .i64 7, .int .i64 1, .int .i64 2, .int .i64 3, .int .i64 4, .int .i64 1, .int .i64 2, .int .i64 3, .int .i64 1, .int .i64 2, .int .i64 3, .int .i64 4] 3 many rfl hq
        rw [← this]
        congr 2
        simp
      have hb2 : Below w.heap.size w ((w1.alloc (.cells #[.int .i64 65535, .int .i64 200, .int .i64 8, .int .i64 2000, .int .i64 400, .int .i64 16, .int .i64 16, .int .i64 0, .int .i64 1, .int .i64 2, .int .i64 3, .int .i64 1, .int .i64 2, .int .i64 3, .int .i64 1, .int .i64 2, .int .i64 3, .int .i64 4, .int .i64 5, .int .i64 6, .int .i64 7, .int .i64 8, .int .i64 9, .int .i64 1, .int .i64 2, .int .i64 3, .int .i64 1, .int .i64 2, .int .i64 3, .int .i64 4, .int .i64 5, .int .i64 6, .int .i64 7, .int .i64 1, .int .i64 2, .int .i64 3, .int .i64 4, .int .i64 1, .int .i64 2, .int .i64 3, .int .i64 1, .int .i64 2, .int .i64 3, .int .i64 4] 3)).alloc (.cells #[.int .i64 65535, .int .i64 200, .int .i64 8, .int .i64 2000, .int .i64 400, .int .i64 16, .int .i64 16, .int .i64 0, .int .i64 1, .int .i64 2, .int .i64 3, .int .i64 1, .int .i64 2, .int .i64 3, .int .i64 1, .int .i64 2, .int .i64 3, .int .i64 4, .int .i64 5, .int .i64 6, .int .i64 7, .int .i64 8, .int .i64 9, .int .i64 1, .int .i64 2, .int .i64 3, .int .i64 1, .int .i64 2, .int .i64 3, .int .i64 4, .int .i64 5, .int .i64 6, .int .i64 7, .int .i64 1, .int .i64 2, .int .i64 3, .int .i64 4, .int .i64 1, .int .i64 2, .int .i64 3, .int .i64 1, .int .i64 2, .int .i64 3, .int .i64 4] 3)) := (hb1.alloc hb1.size _).alloc (by have := hb1.size; simp; omega) _
      obtain ⟨w2, hw2⟩ : ∃ w2 : World, w2 = (w1.alloc (.cells #[.int .i64 65535, .int .i64 200, .int .i64 8, .int .i64 2000, .int .i64 400, .int .i64 16, .int .i64 16, .int .i64 0, .int .i64 1, .int .i64 2, .int .i64 3, .int .i64 1, .int .i64 2, .int .i64 3, .int .i64 1, .int .i64 2, .int .i64 3, .int .i64 4, .int .i64 5, .int .i64 6, .int .i64 7, .int .i64 8, .int .i64 9, .int .i64 1, .int .i64 2, .int .i64 3, .int .i64 1, .int .i64 2, .int .i64 3, .int .i64 4, .int .i64 5, .int .i64 6, .int .i64 7, .int .i64 1, .int .i64 2, .int .i64 3, .int .i64 4, .int .i64 1, .int .i64 2, .int .i64 3, .int .i64 1, .int .i64 2, .int .i64 3, .int .i64 4] 3)).alloc (.cells #[.int .i64 65535, .int .i64 200, .int .i64 8, .int .i64 2000, .int .i64 400, .int .i64 16, .int .i64 16, .int .i64 0, .int .i64 1, .int .i64 2, .int .i64 3, .int .i64 1, .int .i64 2, .int .i64 3, .int .i64 1, .int .i64 2, .int .i64 3, .int .i64 4, .int .i64 5, .int .i64 6, .int .i64 7, .int .i64 8, .int .i64 9, .int .i64 1, .int .i64 2, .int .i64 3, .int .i64 1, .int .i64 2, .int .i64 3, .int .i64 4, .int .i64 5, .int .i64 6, .int .i64 7, .int .i64 1, .int .i64 2, .int .i64 3, .int .i64 4, .int .i64 1, .int .i64 2, .int .i64 3, .int .i64 1, .int .i64 2, .int .i64 3, .int .i64 4] 3) := ⟨_, rfl⟩
      rw [← hw2] at hm1 hm2 hb2 ⊢
      clear hw2 h10 hb1
      go_loopw [23] (fun t wr => ∃ q : Nat, q ≤ 44 ∧ t = .int .i64 q ∧ ∃ n, wr = w2.drewN n) (fun t _ => 44 - (intOf t).toNat)
      case atStart => exact ⟨0, by omega, rfl, 0, rfl⟩
      case round =>
        obtain ⟨q, hq, rfl, n, rfl⟩ := hrel
        by_cases hlt : q < 44
        · have hc1 := hm1 q hlt
          have hc2 := hm2 q hlt
          go_wp2
          go_quiet (fail)
          go_wp2
          go_roundw
          case rel => exact ⟨q + 1, by omega, by go_num, _, rfl⟩
          case measure => simp [intOf]; omega
        · go_wp2
          go_ret
          exact ⟨rfl, below_drewN hb2 _⟩
end Go.Proofs.Ytmpononkbdfkmaa.names
