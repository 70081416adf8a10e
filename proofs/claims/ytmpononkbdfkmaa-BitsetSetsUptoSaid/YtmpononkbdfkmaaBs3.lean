/- Walks of math/bits.OnesCount64, bitset.Size and the wrappers. -/
import Derived.Test.YtmpononkbdfkmaaBs2
import Derived.Laws.BitsAllLaws
import Derived.Laws.Bits64b
namespace Go.Proofs.Ytmpononkbdfkmaa
open Go.RowKit
set_option linter.unusedVariables false
theorem m85 : mask 85 8 = 6148914691236517205 := by decide
theorem m51 : mask 51 8 = 3689348814741910323 := by decide
theorem m15 : mask 15 8 = 1085102592571150095 := by decide
theorem and127 (z : Nat) (h : z < 9223372036854775808) : bits .and .i64 (z : Int) 127 = ((z % 128 : Nat) : Int) := by
  have e := bits_mask .i64 63 (by decide) (fun n h0 h1 => by rw [IntKind.wrap_i64]; omega) 7 (by decide) (z : Int) (by omega) (by omega)
  rw [show (127 : Int) = 2 ^ 7 - 1 by decide, e]; omega
set_option maxHeartbeats 400000 in
theorem ones_any (x : Nat) (hx : x < 18446744073709551616) (w : World) :
    Calls Try.prog 87 #[.int .u64 (x : Int)] w fun e w' => e = .returned (.int .i64 (popU x : Nat)) ∧ w = w' := by
  obtain ⟨b3, b4, b5, b6, hp⟩ := pop_fold x
  have hs := w321 8 x
  obtain ⟨y1, e1⟩ : ∃ y, y = w1 8 x := ⟨_, rfl⟩
  obtain ⟨y2, e2⟩ : ∃ y, y = w2 8 y1 := ⟨_, rfl⟩
  obtain ⟨y3, e3⟩ : ∃ y, y = w3 8 y2 := ⟨_, rfl⟩
  have es : sumB 8 x = y3 := by rw [e3, e2, e1, hs]
  rw [es] at b3 b4 b5 b6 hp
  clear hs es
  obtain ⟨z1, f1⟩ : ∃ y, y = g1 y3 := ⟨_, rfl⟩
  obtain ⟨z2, f2⟩ : ∃ y, y = g2 z1 := ⟨_, rfl⟩
  obtain ⟨z3, f3⟩ : ∃ y, y = g3 z2 := ⟨_, rfl⟩
  rw [← f1] at b4 b5 b6 hp
  rw [← f2] at b5 b6 hp
  rw [← f3] at b6 hp
  unfold w1 at e1
  unfold w2 at e2
  unfold w3 at e3
  unfold g1 at f1
  unfold g2 at f2
  unfold g3 at f3
  rw [m85] at e1
  rw [m51] at e2
  rw [m15] at e3
  have A1 := u64_and_nat (x / 2) 6148914691236517205 (by omega) (by decide)
  have A2 := u64_and_nat x 6148914691236517205 hx (by decide)
  have l1 : (x / 2) &&& 6148914691236517205 ≤ 6148914691236517205 := Nat.and_le_right
  have l2 : x &&& 6148914691236517205 ≤ 6148914691236517205 := Nat.and_le_right
  generalize (x / 2) &&& 6148914691236517205 = a1 at A1 e1 l1
  generalize x &&& 6148914691236517205 = a2 at A2 e1 l2
  have B1 := u64_and_nat (y1 / 4) 3689348814741910323 (by omega) (by decide)
  have B2 := u64_and_nat y1 3689348814741910323 (by omega) (by decide)
  have l3 : (y1 / 4) &&& 3689348814741910323 ≤ 3689348814741910323 := Nat.and_le_right
  have l4 : y1 &&& 3689348814741910323 ≤ 3689348814741910323 := Nat.and_le_right
  generalize (y1 / 4) &&& 3689348814741910323 = c1 at B1 e2 l3
  generalize y1 &&& 3689348814741910323 = c2 at B2 e2 l4
  have C1 := u64_and_nat (y2 / 16 + y2) 1085102592571150095 (by omega) (by decide)
  rw [← e3] at C1
  have W1 : IntKind.u64.wrap ((a1 : Int) + (a2 : Int)) = (y1 : Int) := by rw [IntKind.wrap_u64]; omega
  have W2 : IntKind.u64.wrap ((c1 : Int) + (c2 : Int)) = (y2 : Int) := by rw [IntKind.wrap_u64]; omega
  obtain ⟨c3, h3⟩ : ∃ c, c = y2 / 16 + y2 := ⟨_, rfl⟩
  rw [← h3] at C1
  have W3 : IntKind.u64.wrap ((y2 : Int) / 16 + (y2 : Int)) = (c3 : Int) := by rw [IntKind.wrap_u64]; omega
  have W4 : IntKind.u64.wrap ((y3 : Int) + (y3 : Int) / 256) = (z1 : Int) := by rw [IntKind.wrap_u64]; omega
  have W5 : IntKind.u64.wrap ((z1 : Int) + (z1 : Int) / 65536) = (z2 : Int) := by rw [IntKind.wrap_u64]; omega
  have W6 : IntKind.u64.wrap ((z2 : Int) + (z2 : Int) / 4294967296) = (z3 : Int) := by rw [IntKind.wrap_u64]; omega
  have W7 := and127 z3 b6
  have HP := Lib.hid hp
  have ca : ((x / 2 : Nat) : Int) = (x : Int) / 2 := by omega
  have cb : ((y1 / 4 : Nat) : Int) = (y1 : Int) / 4 := by omega
  rw [ca] at A1
  rw [cb] at B1
  have n1 : (6148914691236517205 : Nat) = (6148914691236517205 : Int) := rfl
  have n2 : (3689348814741910323 : Nat) = (3689348814741910323 : Int) := rfl
  have n3 : (1085102592571150095 : Nat) = (1085102592571150095 : Int) := rfl
  rw [n1] at A1 A2
  rw [n2] at B1 B2
  rw [n3] at C1
  clear hp e1 e2 e3 f1 f2 f3 h3 l1 l2 l3 l4 ca cb n1 n2 n3 b3 b4 b5
  have hz : (z3 : Int) ≤ 9223372036854775807 := by omega
  go_enter Try.func87, Try.ntmps87
  go_wp2
  go_ret
  exact ⟨by rw [← HP.out]; rfl, rfl⟩
theorem take_sum (l : List Nat) (q : Nat) (h : q < l.length) : ((l.take (q + 1)).map popU).sum = ((l.take q).map popU).sum + popU l[q] := by
  rw [List.take_succ_eq_append_getElem h, List.map_append, List.sum_append]
  show _ + (popU l[q] + 0) = _
  rw [Nat.add_zero]
set_option maxHeartbeats 400000 in
theorem size_any (l : List Nat) (w : World) (S : Blocks) (v : Value) (r : RdU w S l v) :
    Calls Try.prog 46 #[v] w fun e w' => e = .returned (.int .i64 (cntB (bitB l) (64 * l.length) : Nat)) ∧ w = w' := by
  obtain ⟨A, cap, rfl, hl, hcm, hby⟩ := r.form
  unfold maxLen at hcm
  go_enter Try.func46, Try.ntmps46
  go_wp2
  go_loop [3, 8] (fun s t => ∃ q : Nat, q ≤ l.length ∧ t = .int .i64 q ∧ s = .int .i64 (((l.take q).map popU).sum : Nat)) (fun _ t => l.length - (intOf t).toNat)
  case atStart => exact ⟨0, by omega, rfl, by simp⟩
  case round =>
    obtain ⟨q, hq, rfl, rfl⟩ := hrel
    have hle := sum_le (l.take q)
    have hlt2 : (l.take q).length ≤ q := List.length_take_le _ _
    by_cases hlt : q < l.length
    · obtain ⟨b, off, rfl, hb, hok, hc⟩ := RdU.at1 r hlt
      have HT := Lib.hid (take_sum l q hlt)
      have hp := popU_le l[q]
      have hs : ((l.take q).map popU).sum ≤ 140737488355328 * 64 := by omega
      generalize ((l.take q).map popU).sum = s at HT hs ⊢
      generalize l[q] = x at *
      clear hle hlt2 r
      go_wp2_with (go_at_call 87; refine (ones_any x hok _).mono ?_; rintro e w' ⟨rfl, rfl⟩)
      go_round
      case rel => exact ⟨q + 1, by omega, by go_num, by rw [HT.out]; go_num⟩
      case measure => simp [intOf]; omega
    · have hqn : q = l.length := by omega
      have he := size_eq l l.length (Nat.le_refl _)
      rw [List.take_length] at he
      have HE := Lib.hid he
      clear he
      subst hqn
      go_wp2
      go_ret
      exact ⟨by rw [HE.out]; rfl, rfl⟩
theorem okU_and {a b : Nat} (ha : okU a) : okU (a &&& b) := Nat.lt_of_le_of_lt Nat.and_le_left ha
theorem okU_or {a b : Nat} (ha : okU a) (hb : okU b) : okU (a ||| b) := by
  unfold okU at *
  exact Nat.or_lt_two_pow (n := 64) ha hb
def bsLess (a b : Nat) : Nat := a &&& (18446744073709551615 - b)
set_option maxHeartbeats 400000 in
theorem bsAnd1 (a b : Nat) (w : World) (ha : okU a) (hb : okU b) : Calls Try.prog 84 #[.int .u64 (a : Int), .int .u64 (b : Int)] w fun e w' => e = .returned (.int .u64 ((a &&& b : Nat) : Int)) ∧ w = w' := by
  have e := u64_and_nat a b ha hb
  have hlt : a &&& b < 18446744073709551616 := okU_and ha
  generalize a &&& b = c at *
  go_enter Try.func84, Try.ntmps84
  go_wp2
  go_ret
  exact ⟨rfl, rfl⟩
set_option maxHeartbeats 400000 in
theorem bsOr1 (a b : Nat) (w : World) (ha : okU a) (hb : okU b) : Calls Try.prog 115 #[.int .u64 (a : Int), .int .u64 (b : Int)] w fun e w' => e = .returned (.int .u64 ((a ||| b : Nat) : Int)) ∧ w = w' := by
  have e := u64_or_nat a b ha hb
  generalize a ||| b = c at *
  go_enter Try.func115, Try.ntmps115
  go_wp2
  go_ret
  exact ⟨rfl, rfl⟩
set_option maxHeartbeats 400000 in
theorem bsLess1 (a b : Nat) (w : World) (ha : okU a) (hb : okU b) : Calls Try.prog 86 #[.int .u64 (a : Int), .int .u64 (b : Int)] w fun e w' => e = .returned (.int .u64 ((bsLess a b : Nat) : Int)) ∧ w = w' := by
  have e := u64_andNot_nat a b ha hb
  unfold bsLess
  generalize a &&& (18446744073709551615 - b) = c at *
  go_enter Try.func86, Try.ntmps86
  go_wp2
  go_ret
  exact ⟨rfl, rfl⟩
def SetOut (w : World) (L : List Nat) (e : Ending) (w' : World) : Prop := ∃ x, e = .returned x ∧ RdU w' (Plus Nowhere w.heap.size w'.heap.size) L x ∧ Below w.heap.size w w'
theorem SetOut.len {w : World} {L : List Nat} {e : Ending} {w' : World} (h : SetOut w L e w') : ∃ A cap, e = .returned (.slice A L.length cap) ∧ RdU w' (Plus Nowhere w.heap.size w'.heap.size) L (.slice A L.length cap) ∧ Below w.heap.size w w' := by
  obtain ⟨x, rfl, r, b⟩ := h
  obtain ⟨A, cap, rfl, _⟩ := r.form
  exact ⟨A, cap, rfl, r, b⟩
set_option maxHeartbeats 400000 in
theorem bsAnd_any (l m : List Nat) (w : World) (S T : Blocks) (v u : Value) (hS : Sub S (Upto w.heap.size)) (hT : Sub T (Upto w.heap.size)) (r : RdU w S l v) (r' : RdU w T m u) :
    Calls Try.prog 41 #[v, u] w (SetOut w (zipB (fun a b => a &&& b) l m)) := by
  have c := Lib.hid (zip_any 84 (fun a b => a &&& b) (fun a b ha _ => okU_and ha) (fun args w => by kernel_rfl) bsAnd1 l m w S T v u hS hT r r')
  clear r r'
  go_enter Try.func41, Try.ntmps41
  go_wp2_with (go_at_call 83; refine c.out.mono ?_; rintro e w' ⟨x, rfl, hx, hb⟩)
  go_ret
  exact ⟨x, rfl, hx, hb⟩
set_option maxHeartbeats 400000 in
theorem bsSOr_any (l m : List Nat) (w : World) (S T : Blocks) (v u : Value) (hS : Sub S (Upto w.heap.size)) (hT : Sub T (Upto w.heap.size)) (r : RdU w S l v) (r' : RdU w T m u) :
    Calls Try.prog 85 #[v, u] w (SetOut w (zipB (fun a b => a ||| b) l m)) := by
  have c := Lib.hid (zip_any 115 (fun a b => a ||| b) (fun a b ha hb => okU_or ha hb) (fun args w => by kernel_rfl) bsOr1 l m w S T v u hS hT r r')
  clear r r'
  go_enter Try.func85, Try.ntmps85
  go_wp2_with (go_at_call 83; refine c.out.mono ?_; rintro e w' ⟨x, rfl, hx, hb⟩)
  go_ret
  exact ⟨x, rfl, hx, hb⟩
set_option maxHeartbeats 400000 in
theorem bsOr_any (l m : List Nat) (w : World) (S T : Blocks) (v u : Value) (hS : Sub S (Upto w.heap.size)) (hT : Sub T (Upto w.heap.size)) (r : RdU w S l v) (r' : RdU w T m u) :
    Calls Try.prog 43 #[v, u] w (SetOut w (zipB (fun a b => a ||| b) l m)) := by
  have c := Lib.hid (bsSOr_any l m w S T v u hS hT r r')
  clear r r'
  go_enter Try.func43, Try.ntmps43
  go_wp2_with (go_at_call 85; refine c.out.mono ?_; rintro e w' ⟨x, rfl, hx, hb⟩)
  go_ret
  exact ⟨x, rfl, hx, hb⟩
set_option maxHeartbeats 400000 in
theorem bsLess_any (l m : List Nat) (w : World) (S T : Blocks) (v u : Value) (hS : Sub S (Upto w.heap.size)) (hT : Sub T (Upto w.heap.size)) (r : RdU w S l v) (r' : RdU w T m u) :
    Calls Try.prog 45 #[v, u] w (SetOut w (zipB bsLess l m)) := by
  have c := Lib.hid (zip_any 86 bsLess (fun a b ha _ => okU_and ha) (fun args w => by kernel_rfl) bsLess1 l m w S T v u hS hT r r')
  clear r r'
  go_enter Try.func45, Try.ntmps45
  go_wp2_with (go_at_call 83; refine c.out.mono ?_; rintro e w' ⟨x, rfl, hx, hb⟩)
  go_ret
  exact ⟨x, rfl, hx, hb⟩
set_option maxHeartbeats 400000 in
theorem bsWithin_any (l m : List Nat) (w : World) (S T : Blocks) (v u : Value) (hS : Sub S (Upto w.heap.size)) (hT : Sub T (Upto w.heap.size)) (r : RdU w S l v) (r' : RdU w T m u) :
    Calls Try.prog 48 #[v, u] w fun e w' => e = .returned (.bool ((((zipB bsLess l m).length : Nat) : Int) == 0)) ∧ Below w.heap.size w w' := by
  have c := Lib.hid (bsLess_any l m w S T v u hS hT r r')
  clear r r'
  obtain ⟨L, hL⟩ : ∃ L, L = zipB bsLess l m := ⟨_, rfl⟩
  rw [← hL] at c ⊢
  clear hL
  go_enter Try.func48, Try.ntmps48
  go_wp2_with (go_at_call 45; refine c.out.mono ?_; intro e w' h; obtain ⟨A', cap', rfl, hx, hb⟩ := h.len; clear h)
  go_ret
  exact ⟨rfl, hb⟩
end Go.Proofs.Ytmpononkbdfkmaa
