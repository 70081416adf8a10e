/- The walks of the reference's inverse and dchoose, and of sp.choose. -/
import Derived.Test.YtknaoianhjeccaaDoorSgSpec
import Derived.Test.YtknaoianhjeccaaDoorTzLib
import Derived.Lib.EndianBits
import Derived.BigQuiet
import Derived.Test.YtknaoianhjeccaaDoorBlk
import Derived.Test.YtknaoianhjeccaaDoorInfoU
namespace Go.Proofs.YtknaoianhjeccaaDoor
open Go.RowKit
set_option linter.unusedVariables false
def invI (x : Int) : Nat → Int
  | 0 => x
  | r + 1 => invI x r * ((2 - x * invI x r % 18446744073709551616) % 18446744073709551616) % 18446744073709551616
theorem invI_bd (x : Nat) (h : x < 18446744073709551616) : ∀ r, 0 ≤ invI (x : Int) r ∧ invI (x : Int) r < 18446744073709551616
  | 0 => by simp only [invI]; omega
  | r + 1 => by simp only [invI]; omega
theorem invI_ok (x m : Nat) (ho : x = 2 * m + 1) : ∀ r, (2 ^ invE r : Int) ∣ (x : Int) * invI (x : Int) r - 1
  | 0 => inv_zero x m (by omega)
  | r + 1 => inv_step (x : Int) _ (invE r) (invE (r + 1)) (invI_ok x m ho r) (invE_le r).1 (invE_le r).2
theorem inv_nat (x m : Nat) (hx : x < 18446744073709551616) (ho : x = 2 * m + 1) : ∃ y : Nat, invI (x : Int) 6 = (y : Int) ∧ y < 18446744073709551616 ∧ x * y % 18446744073709551616 = 1 := by
  have h1 := invI_bd x hx 6
  have h2 := invI_ok x m ho 6
  obtain ⟨y, hy⟩ : ∃ y : Nat, invI (x : Int) 6 = (y : Int) := ⟨(invI (x : Int) 6).toNat, by omega⟩
  rw [hy, invE_six] at h2
  exact ⟨y, hy, by omega, inv_end h2⟩
set_option maxHeartbeats 400000 in
theorem inverse_n (x : Nat) (hx : x < 18446744073709551616) (w : World) :
    Calls Tryd.prog 35 #[.int .u64 (x : Int)] w fun e w' => e = .returned (.int .u64 (invI (x : Int) 6)) ∧ w = w' := by
  have H0 := Lib.hid (invI_bd x hx)
  clear hx
  go_enter Tryd.func35, Tryd.ntmps35
  go_wp2
  go_loopw [3, 5] (fun v t wr => ∃ q : Nat, q ≤ 6 ∧ t = .int .i64 q ∧ v = .int .u64 (invI (x : Int) q) ∧ w = wr) (fun _ t _ => 6 - (intOf t).toNat)
  case atStart => exact ⟨0, by omega, rfl, rfl, rfl⟩
  case round =>
    obtain ⟨q, hq, rfl, rfl, rfl⟩ := hrel
    by_cases hlt : q < 6
    · go_wp2
      go_roundw
      case rel => exact ⟨q + 1, by omega, by go_num, by simp only [IntKind.wrap_u64, invI], trivial⟩
      case measure => simp [intOf]; omega
    · have hq6 : q = 6 := by omega
      subst hq6
      go_wp2
      go_ret
      exact ⟨rfl, rfl⟩
set_option maxHeartbeats 1000000 in
theorem dchoose_n (n m : Nat) (hn : n ≤ 1048576) (hm : m ≤ 1048576) (w : World) (hT : Tab w) :
    Calls Tryd.prog 25 #[.int .i64 (n : Int), .int .i64 (m : Int)] w fun e w' => e = .returned (.int .u64 ((ch n m % 18446744073709551616 : Nat) : Int)) ∧ Below w.heap.size w w' := by
  go_enter Tryd.func25, Tryd.ntmps25
  go_wp2
  go_loopw [5, 6, 7] (fun v u t wr => ∃ q : Nat, q ≤ m ∧ t = .int .i64 ((q + 1 : Nat) : Int) ∧ ∃ out twos : Nat, v = .int .u64 (out : Int) ∧ u = .int .i64 (twos : Int) ∧ Hid (DcAt n q out twos) ∧ Below w.heap.size w wr) (fun _ _ t _ => m + 1 - (intOf t).toNat)
  case atStart => exact ⟨0, by omega, rfl, 1, 0, rfl, rfl, Lib.hid (DcAt.start n), Below.refl _ _⟩
  case round =>
    obtain ⟨q, hq, rfl, out, twos, rfl, rfl, H, hb⟩ := hrel
    have hTr := hT.go hb
    have htw := H.out.twos_le
    by_cases hlt : q < m
    · obtain ⟨p, hp, hkb⟩ := Lib.ctzFrom_spec 64 (n + q + 1) (by omega) (by omega)
      obtain ⟨r, hr, hlb⟩ := Lib.ctzFrom_spec 64 (q + 1) (by omega) (by omega)
      have C1 := Lib.hid (tz_n (n + q + 1) (by omega) wr hTr)
      have C2 := Lib.hid (tz_n (q + 1) (by omega) wr hTr)
      have e1 : Lib.ctz 64 (n + q + 1) = Lib.ctzFrom 64 (n + q + 1) := by simp [Lib.ctz]
      have e2 : Lib.ctz 64 (q + 1) = Lib.ctzFrom 64 (q + 1) := by simp [Lib.ctz]
      rw [e1] at C1
      rw [e2] at C2
      generalize Lib.ctzFrom 64 (n + q + 1) = k at *
      generalize Lib.ctzFrom 64 (q + 1) = l at *
      have HP := Lib.hid hp
      have HR := Lib.hid hr
      clear e1 e2 hp hr
      obtain ⟨iv, hiv, hiv1, hiv2⟩ := inv_nat (2 * r + 1) r (by
        have h1 : 2 ^ l * (2 * r + 1) < 18446744073709551616 := by rw [← HR.out]; omega
        exact Nat.lt_of_le_of_lt (Nat.le_mul_of_pos_left _ (Nat.two_pow_pos _)) h1) rfl
      obtain ⟨out', twos', D', et, eo⟩ := H.out.step HP.out HR.out hiv2
      have hout := H.out.out_lt
      have ex : ((n : Int) + ((q : Int) + 1)) / 2 ^ k = ((2 * p + 1 : Nat) : Int) := by
        rw [show (n : Int) + ((q : Int) + 1) = ((n + q + 1 : Nat) : Int) by omega, HP.out, show ((2 : Int) ^ k) = ((2 ^ k : Nat) : Int) by simp, ← Int.natCast_ediv, Nat.mul_div_cancel_left _ (Nat.two_pow_pos _)]
      have ey : ((q : Int) + 1) / 2 ^ l = ((2 * r + 1 : Nat) : Int) := by
        rw [show (q : Int) + 1 = ((q + 1 : Nat) : Int) by omega, HR.out, show ((2 : Int) ^ l) = ((2 ^ l : Nat) : Int) by simp, ← Int.natCast_ediv, Nat.mul_div_cancel_left _ (Nat.two_pow_pos _)]
      have CI := Lib.hid (show ∀ a : Nat, Calls Tryd.prog 35 #[.int .u64 (((q : Int) + 1) / 2 ^ l)] (wr.drewN a) fun e w' => e = .returned (.int .u64 (iv : Int)) ∧ ∃ b, w' = wr.drewN b by
        intro a
        rw [ey]
        refine (inverse_n (2 * r + 1) ?_ (wr.drewN a)).mono ?_
        · have h1 : 2 ^ l * (2 * r + 1) < 18446744073709551616 := by rw [← HR.out]; omega
          exact Nat.lt_of_le_of_lt (Nat.le_mul_of_pos_left _ (Nat.two_pow_pos _)) h1
        · rintro _ _ ⟨rfl, rfl⟩
          exact ⟨by rw [hiv], a, rfl⟩)
      have EO := Lib.hid (show IntKind.u64.wrap (IntKind.u64.wrap ((out : Int) * (((n : Int) + ((q : Int) + 1)) / 2 ^ k)) * (iv : Int)) = (out' : Int) by
        rw [ex, IntKind.wrap_u64, IntKind.wrap_u64, ← eo, ← Int.natCast_mul]
        rw [show (((out * (2 * p + 1) : Nat) : Int) % 18446744073709551616) = ((out * (2 * p + 1) % 18446744073709551616 : Nat) : Int) by omega, ← Int.natCast_mul]
        omega)
      have ET := Lib.hid et
      have D2 := Lib.hid D'
      have htw2 := D'.twos_le
      clear ex ey hiv hiv1 hiv2 eo et D'
      rw [show ((n + q + 1 : Nat) : Int) = (n : Int) + ((q : Int) + 1) by omega] at C1
      rw [show ((q + 1 : Nat) : Int) = (q : Int) + 1 by omega] at C2
      have etk : (twos' : Int) = (twos : Int) + ((k : Int) - (l : Int)) := by have := ET.out; omega
      go_wp2_with fail
      refine C1.out.mono ?_
      rintro _ _ ⟨rfl, rfl⟩
      go_wp2_with fail
      refine C2.out.mono ?_
      rintro _ _ ⟨rfl, rfl⟩
      go_wp2_with fail
      go_quiet (first | exact CI.out _)
      go_wp2_with fail
      go_roundw
      case rel => exact ⟨q + 1, by omega, by go_num, out', twos', by rw [EO.out], by rw [etk], D2, below_drewN hb _⟩
      case measure => simp [intOf]; omega
    · have e : q = m := by omega
      subst e
      have h1 := H.out.end_
      go_wp2
      go_ret
      refine ⟨?_, hb⟩
      have h2 : IntKind.u64.wrap ((out : Int) * 2 ^ min twos 64) = ((ch n q % 18446744073709551616 : Nat) : Int) := by
        rw [IntKind.wrap_u64, show ((2 : Int) ^ min twos 64) = ((2 ^ min twos 64 : Nat) : Int) by simp, ← Int.natCast_mul, ← h1]
        by_cases ht : twos ≤ 64
        · rw [Nat.min_eq_left ht]; omega
        · rw [Nat.min_eq_right (by omega), show twos = 64 + (twos - 64) by omega, Nat.pow_add, show (2 : Nat) ^ 64 = 18446744073709551616 by decide, Nat.mul_left_comm, Nat.mul_mod_right]
          omega
      simp only [h2]
      rfl
/-- a row of words -/
def rowW (n : Nat) (f : Nat → Nat) : List Value := (List.range n).map fun j => Value.int .u64 ((f j % 18446744073709551616 : Nat) : Int)
theorem rowW_get {n : Nat} {f : Nat → Nat} {k : Nat} (h : k < n) : (rowW n f)[k]? = some (.int .u64 ((f k % 18446744073709551616 : Nat) : Int)) := by
  unfold rowW
  rw [List.getElem?_map, List.getElem?_range h]; rfl
theorem rowW_len {n : Nat} {f : Nat → Nat} : (rowW n f).length = n := by simp [rowW]
theorem rowW_congr {n : Nat} {f g : Nat → Nat} (h : ∀ k, k < n → f k = g k) : rowW n f = rowW n g := by
  unfold rowW
  apply List.map_congr_left
  intro k hk
  rw [h k (List.mem_range.1 hk)]
theorem rowW_set {n : Nat} {f g : Nat → Nat} {i : Nat} (y : Nat) (hy : y = g i) (h : ∀ k, k ≠ i → f k = g k) : (rowW n f).set i (.int .u64 ((y % 18446744073709551616 : Nat) : Int)) = rowW n g := by
  apply List.ext_getElem?
  intro j
  rw [List.getElem?_set, rowW_len]
  by_cases hj : j < n
  · rw [rowW_get hj, rowW_get hj]
    by_cases ek : i = j
    · subst ek; rw [if_pos rfl, if_pos hj, hy]
    · rw [if_neg ek, h j (fun e => ek e.symm)]
  · rw [List.getElem?_eq_none (by rw [rowW_len]; omega), List.getElem?_eq_none (by rw [rowW_len]; omega)]
    split
    · rename_i e; subst e; rw [if_neg hj]
    · rfl
theorem rowW_zero (n : Nat) : rowW n (fun _ => 0) = List.replicate n (.int .u64 0) := by unfold rowW; apply List.ext_getElem <;> simp
/-- row q, up to place i already row q + 1 -/
def mixC (q i : Nat) : Nat → Nat := fun j => if j < i then ch (q + 1) j else ch q j
theorem mixC_one (q j : Nat) : mixC q 1 j = ch q j := by
  unfold mixC; split
  · have : j = 0 := by omega
    subst this; rw [ch_zero, ch_zero]
  · rfl
set_option maxHeartbeats 1000000 in
theorem choose_n (n m : Nat) (hn : n ≤ 1048576) (hm : m ≤ 1048576) (w : World) :
    Calls Tryd.prog 62 #[.int .i64 (n : Int), .int .i64 (m : Int)] w fun e w' => e = .returned (.int .u64 ((ch n m % 18446744073709551616 : Nat) : Int)) ∧ Below w.heap.size w w' := by
  obtain ⟨i0, hi, hz0, hz1, hz2⟩ := info_parts infoU
  obtain ⟨z, hz⟩ : ∃ z, z = m + 1 := ⟨_, rfl⟩
  have hmk := fun w => run_make1 (P := Tryd.prog) 50 37 i0 _ Tryd.underlying50 hi hz0 hz1 rfl z (by rw [hz2]; omega) (by omega) w
  have hzI : (m : Int) + 1 = (z : Int) := by omega
  have HZ := Lib.hid hz
  clear hz hz0 hz1 hz2 hi
  go_enter Tryd.func62, Tryd.ntmps62
  go_upto_region 2 with (fail)
  have R0 := Lib.hid (Blk.madeN w z (.int .u64 0) 37 (base := w.heap.size) (Nat.le_refl _))
  have BL := Lib.hid (show Below w.heap.size w (w.alloc (.cells (Array.replicate z (.int .u64 0)) 37)) from (Below.refl _ _).alloc (Nat.le_refl _) _)
  rw [← rowW_zero] at R0
  generalize w.alloc (.cells (Array.replicate z (.int .u64 0)) 37) = W1 at *
  clear hmk
  go_wp2
  go_loopw [6, 13, 15, 16, 17, 18, 19] (fun _ t _ _ _ _ _ wr => ∃ i : Nat, i ≤ z ∧ t = .int .i64 i ∧ Hid (Blk w.heap.size wr w.heap.size (rowW z fun j => if j < i then 1 else 0)) ∧ Hid (Below w.heap.size w wr)) (fun _ t _ _ _ _ _ _ => z - (intOf t).toNat)
  case atStart => exact ⟨0, by omega, rfl, by simpa using R0, BL⟩
  case round =>
    clear R0 BL
    rename_i wr
    obtain ⟨i, hi, rfl, R, BL⟩ := hrel
    by_cases hlt : i < z
    · have hc := R.out.cell i _ (rowW_get hlt)
      have hfr := R.out.fr
      have R1 := Lib.hid (R.out.set (i := i) (by rw [rowW_len]; exact hlt) (.int .u64 1))
      have B1 := Lib.hid (BL.out.setCell (p := ⟨w.heap.size, i, none⟩) (Nat.le_refl _) (.int .u64 1))
      go_wp2
      go_roundw
      case rel => exact ⟨i + 1, by omega, by go_num, by
        have h := R1.out
        rw [show (Value.int .u64 1) = .int .u64 ((1 % 18446744073709551616 : Nat) : Int) from rfl, rowW_set (g := fun j => if j < i + 1 then 1 else 0) 1 (by simp) (fun k hk => by
          by_cases e : k < i
          · rw [if_pos e, if_pos (by omega)]
          · rw [if_neg e, if_neg (by omega)])] at h
        exact Lib.hid h, B1⟩
      case measure => simp [intOf]; omega
    · have e : i = z := by omega
      subst e
      go_wp2
      clear hi hzI
      have R0 := Lib.hid (show Blk w.heap.size wr w.heap.size (rowW i (ch 0)) from by
        have h := R.out
        rwa [rowW_congr (f := fun j => if j < i then 1 else 0) (g := ch 0) (fun k hk => by rw [if_pos hk]; rfl)] at h)
      clear R
      go_loopw [7, 21, 22, 23, 24, 25, 26, 27, 28, 29, 30, 31, 32, 33, 34, 35, 36, 37, 38, 39] (fun _ t _ _ _ _ _ _ _ _ _ _ _ _ _ _ _ _ _ _ wr => ∃ q : Nat, q ≤ n ∧ t = .int .i64 q ∧ Hid (Blk w.heap.size wr w.heap.size (rowW i (ch q))) ∧ Hid (Below w.heap.size w wr)) (fun _ t _ _ _ _ _ _ _ _ _ _ _ _ _ _ _ _ _ _ _ => n - (intOf t).toNat)
      case atStart => exact ⟨0, by omega, rfl, R0, BL⟩
      case round =>
        clear R0 BL
        obtain ⟨q, hq, rfl, R, BL⟩ := hrel
        by_cases hlt : q < n
        · go_wp2
          have R1 := Lib.hid (show Blk w.heap.size wr w.heap.size (rowW i (mixC q (0 + 1))) by rw [rowW_congr (fun k _ => mixC_one q k)]; exact R.out)
          clear R
          go_loopw [7, 23, 24, 25, 26, 27, 28, 29, 30, 31, 32, 33, 34, 35, 36, 37, 38] (fun t _ _ _ _ _ _ _ _ _ _ _ _ _ _ _ _ wr => ∃ k : Nat, k ≤ m ∧ t = .int .i64 ((k : Int) + 1) ∧ Hid (Blk w.heap.size wr w.heap.size (rowW i (mixC q (k + 1)))) ∧ Hid (Below w.heap.size w wr)) (fun t _ _ _ _ _ _ _ _ _ _ _ _ _ _ _ _ _ => m + 1 - (intOf t).toNat)
          case atStart => exact ⟨0, by omega, rfl, R1, BL⟩
          case round =>
            clear R1 BL
            obtain ⟨k, hk, rfl, R, BL⟩ := hrel
            by_cases hlk : k < m
            · have hc0 := R.out.cell k _ (rowW_get (by have := HZ.out; omega))
              have hc1 := R.out.cell (k + 1) _ (rowW_get (by have := HZ.out; omega))
              have hfr := R.out.fr
              have ev : IntKind.u64.wrap (((mixC q (k + 1) (k + 1) : Nat) : Int) % 18446744073709551616 + ((mixC q (k + 1) k : Nat) : Int) % 18446744073709551616) = (((mixC q (k + 2) (k + 1)) % 18446744073709551616 : Nat) : Int) := by
                rw [IntKind.wrap_u64, show mixC q (k + 2) (k + 1) = mixC q (k + 1) k + mixC q (k + 1) (k + 1) by
                  unfold mixC
                  rw [if_pos (by omega), if_pos (by omega), if_neg (by omega), ch_succ]]
                omega
              have R1 := Lib.hid (show Blk w.heap.size ((wr.setCell ⟨w.heap.size, k + 1, none⟩ (.int .u64 (IntKind.u64.wrap (((mixC q (k + 1) (k + 1) : Nat) : Int) % 18446744073709551616 + ((mixC q (k + 1) k : Nat) : Int) % 18446744073709551616)))).drew) w.heap.size (rowW i (mixC q (k + 2))) by
                have h := R.out.set (i := k + 1) (by rw [rowW_len]; have := HZ.out; omega) (.int .u64 (((mixC q (k + 2) (k + 1)) % 18446744073709551616 : Nat) : Int))
                rw [rowW_set (g := mixC q (k + 2)) _ rfl (fun j hj => by unfold mixC; by_cases e : j < k + 1
                                                                         · rw [if_pos e, if_pos (by omega)]
                                                                         · rw [if_neg e, if_neg (by omega)])] at h
                rw [ev]
                exact h.drew)
              have B1 := Lib.hid (show Below w.heap.size w ((wr.setCell ⟨w.heap.size, k + 1, none⟩ (.int .u64 (IntKind.u64.wrap (((mixC q (k + 1) (k + 1) : Nat) : Int) % 18446744073709551616 + ((mixC q (k + 1) k : Nat) : Int) % 18446744073709551616)))).drew) from
                below_drewN (BL.out.setCell (p := ⟨w.heap.size, k + 1, none⟩) (Nat.le_refl _) _) 1)
              clear ev
              have hki : (k : Int) + 1 < (i : Int) := by have := HZ.out; omega
              have hki0 : (k : Int) < (i : Int) := by have := HZ.out; omega
              clear R BL
              go_wp2
              go_region
              go_wp2
              go_roundw
              case rel => exact ⟨k + 1, by omega, by go_num, R1, B1⟩
              case measure => simp [intOf]; omega
            · have e : k = m := by omega
              subst e
              have R2 := Lib.hid (show Blk w.heap.size wr w.heap.size (rowW i (ch (q + 1))) from by
                have h := R.out
                rwa [rowW_congr (f := mixC q (k + 1)) (g := ch (q + 1)) (fun j hj => by unfold mixC; rw [if_pos (by have := HZ.out; omega)])] at h)
              clear R
              go_wp2
              go_roundw
              case rel => exact ⟨q + 1, by omega, by go_num, R2, BL⟩
              case measure => simp [intOf]; omega
        · have e : q = n := by omega
          subst e
          have hc0 := R.out.cell m _ (rowW_get (by have := HZ.out; omega))
          have hki0 : (m : Int) < (i : Int) := by have := HZ.out; omega
          go_wp2
          go_ret
          exact ⟨rfl, BL.out⟩
end Go.Proofs.YtknaoianhjeccaaDoor
