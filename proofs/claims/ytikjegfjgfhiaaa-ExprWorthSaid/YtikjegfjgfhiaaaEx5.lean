/- The walk of the reference's EEval. -/
import Derived.Test.YtikjegfjgfhiaaaEx4
import Derived.Test.YtikjegfjgfhiaaaBlk
namespace Go.Proofs.Ytikjegfjgfhiaaa
open Go.RowKit
set_option linter.unusedVariables false
theorem etwo_no (t : Ex) (ht : t.two = none) (w : World) (S : Blocks) (V : Value) (r : RdE w S t V) :
    Calls Try.prog 21 #[V] w fun e w' => e = .returned (.bool false) ∧ Below w.heap.size w w' := by
  refine (etwo_any t w S V r).mono ?_
  rintro e w' ⟨rfl, h⟩
  exact ⟨by simp [Ex.isTwo, ht], h⟩
theorem etwo_yes (t a b : Ex) (ht : t.two = some (a, b)) (w : World) (S : Blocks) (V : Value) (r : RdE w S t V) :
    Calls Try.prog 21 #[V] w fun e w' => e = .returned (.bool true) ∧ Below w.heap.size w w' := by
  refine (etwo_any t w S V r).mono ?_
  rintro e w' ⟨rfl, h⟩
  exact ⟨by simp [Ex.isTwo, ht], h⟩
/-- a bind of the slice -/
theorem RdBds.at1 {w : World} {S : Blocks} {l : List Bd} {A : Option Addr} {n cap : Nat} (h : RdBds w S l (.slice A n cap)) {q : Nat} (hq : q < l.length) :
    ∃ b off, A = some ⟨b, off, none⟩ ∧ S b ∧ okBd l[q] ∧ w.cell? ⟨b, off + q * 2, none⟩ = some (.string l[q].name) ∧ w.cell? ⟨b, off + q * 2 + 1, none⟩ = some (.int .i64 l[q].val) := by
  obtain ⟨b, off, hA, hb, hok, hc⟩ := h.flat hq
  exact ⟨b, off, hA, hb, hok, hc 0 _ rfl, by rw [Nat.add_assoc]; exact hc 1 _ rfl⟩
def EEv (env : List Bd) (t : Ex) : Prop := ∀ (w : World) (S : Blocks) (V Ve : Value), Sub S (Upto w.heap.size) → RdE w S t V → RdBds w S env Ve →
  Calls Try.prog 7 #[V, Ve] w fun e w' => e = .returned (.int .i64 (t.worth env)) ∧ inI (t.worth env) ∧ Below w.heap.size w w'
set_option maxHeartbeats 1000000 in
set_option maxRecDepth 100000 in
theorem eev_one (env : List Bd) (t : Ex) (ht : t.two = none) : EEv env t := by
  intro w S V Ve hS r re
  obtain ⟨k, c, s, args, v, rfl, rfl, hk, hc, hs, hargs⟩ := id r
  obtain ⟨A, cap, rfl, _, _, _⟩ := hargs.form
  obtain ⟨Ae, cape, rfl, hel, hem, _⟩ := re.form
  have bel : Below w.heap.size w (w.alloc (.cells #[.int .i64 k, .int .i64 c, .string s, .slice A args.length cap] 24)) := (Below.refl _ _).alloc (Nat.le_refl _) _
  have RA := Lib.hid (r.go bel hS)
  have BEL := Lib.hid bel
  have HT := Lib.hid ht
  have HW := Lib.hid (Ex.worth_none env ht)
  have HBX := Lib.hid (Blk.made w [.int .i64 k, .int .i64 c, .string s, .slice A args.length cap] 24 (base := 0) (Nat.zero_le _))
  have HS := Lib.hid hS
  have HOK := Lib.hid re.oks
  have RE := Lib.hid re
  have HC := Lib.hid hc
  unfold maxLen at hem
  unfold exV
  clear hargs ht r bel re hk hc hs hS
  go_enter Try.func7, Try.ntmps7
  go_wp2_with fail
  refine (etwo_no _ HT.out _ S _ RA.out).mono ?_
  rintro e w1 ⟨rfl, b1⟩
  have BX1 := HBX.out.below b1
  have hz1 := BEL.out.size
  have hz2 := b1.size
  rw [World.size_alloc] at hz1 hz2
  have k0 := BX1.cell 0 _ rfl
  have k1 := BX1.cell 1 _ rfl
  have k2 := BX1.cell 2 _ rfl
  have BEL1 := Lib.hid (BEL.out.trans (b1.mono (by simp)))
  have REW := Lib.hid (RE.out.keep Flat.keeps (Sub.refl _) (same_of_below BEL1.out HS.out))
  have hzl : w.heap.size < w1.heap.size := by omega
  clear b1 BEL RA HBX BX1 RE
  have BELw := BEL1
  obtain ⟨z, hz⟩ : ∃ z, z = w.heap.size := ⟨_, rfl⟩
  rw [← hz]
  rw [← hz] at k0 k1 k2 HS BEL1 hzl
  clear hz hz1 hz2
  by_cases h1 : k = 1
  · subst h1
    have HX := Lib.hid (show (Ex.mk 1 c s args).worth env = c by rw [HW.out]; simp [Ex.kind, Ex.num])
    go_wp2
    go_loopw [5, 18] (fun v t wr => ∃ q : Nat, q ≤ env.length ∧ t = .int .i64 q ∧ v = .int .i64 (c) ∧ Below w1.heap.size w1 wr) (fun _ t _ => env.length - (intOf t).toNat)
    case atStart => exact ⟨0, by omega, rfl, rfl, Below.refl _ _⟩
    case round =>
      obtain ⟨q, hq, rfl, rfl, hbel⟩ := hrel
      have hsz := hbel.size
      have g0 := (hbel.cell (p := ⟨z, 0, none⟩) hzl).trans k0
      have g2 := (hbel.cell (p := ⟨z, 2, none⟩) hzl).trans k2
      have hzr : z < wr.heap.size := by omega
      have hzr1 : z < wr.heap.size + 1 := by omega
      by_cases hlt : q < env.length
      · obtain ⟨b, off, rfl, hb, hok, hc0, hc1⟩ := RdBds.at1 REW.out hlt
        have hb := HS.out _ hb
        have hbw : b < w1.heap.size := Nat.lt_trans hb hzl
        have e0 := (hbel.cell (p := ⟨b, off + q * 2, none⟩) hbw).trans hc0
        have e1 := (hbel.cell (p := ⟨b, off + q * 2 + 1, none⟩) hbw).trans hc1
        have hq1 : (q : Int) < (env.length : Int) := by omega
        have hq0 : (0 : Int) ≤ (q : Int) := by omega
        clear hc0 hc1 hok
        go_wp2
        all_goals go_roundw
        all_goals try (case rel => exact ⟨q + 1, by omega, by go_num, rfl, hbel.alloc (by omega) _⟩)
        all_goals try (case measure => simp [intOf]; omega)
      · have HF := Lib.hid hbel
        have hqe : q = env.length := by omega
        subst hqe
        clear hbel
        go_wp2
        go_ret
        exact ⟨by rw [HX.out]; rfl, by rw [HX.out]; exact HC.out, BELw.out.trans (HF.out.mono BELw.out.size)⟩
  · by_cases h2 : k = 2
    · subst h2
      have HX := Lib.hid (show (Ex.mk 2 c s args).worth env = look env s by rw [HW.out]; simp [Ex.kind, Ex.name])
      have HX2 := Lib.hid (fun q (hq : q < env.length) => look_take env s hq)
      go_wp2
      go_loopw [5, 18] (fun v t wr => ∃ q : Nat, q ≤ env.length ∧ t = .int .i64 q ∧ v = .int .i64 (look (env.take q) s) ∧ Below w1.heap.size w1 wr) (fun _ t _ => env.length - (intOf t).toNat)
      case atStart => exact ⟨0, by omega, rfl, rfl, Below.refl _ _⟩
      case round =>
        obtain ⟨q, hq, rfl, rfl, hbel⟩ := hrel
        have hsz := hbel.size
        have g0 := (hbel.cell (p := ⟨z, 0, none⟩) hzl).trans k0
        have g2 := (hbel.cell (p := ⟨z, 2, none⟩) hzl).trans k2
        have hzr : z < wr.heap.size := by omega
        have hzr1 : z < wr.heap.size + 1 := by omega
        by_cases hlt : q < env.length
        · obtain ⟨b, off, rfl, hb, hok, hc0, hc1⟩ := RdBds.at1 REW.out hlt
          have hb := HS.out _ hb
          have hbw : b < w1.heap.size := Nat.lt_trans hb hzl
          have e0 := (hbel.cell (p := ⟨b, off + q * 2, none⟩) hbw).trans hc0
          have e1 := (hbel.cell (p := ⟨b, off + q * 2 + 1, none⟩) hbw).trans hc1
          have hq1 : (q : Int) < (env.length : Int) := by omega
          have hq0 : (0 : Int) ≤ (q : Int) := by omega
          have hl := Lib.hid (HX2.out q hlt)
          clear hc0 hc1 hok
          by_cases hs : env[q].name = s
          · have HL := Lib.hid (show look (env.take (q + 1)) s = env[q].val by rw [hl.out, if_pos hs])
            have es : (env[q].name.toList == s.toList) = true := by rw [hs]; simp
            clear hs
            go_wp2
            all_goals go_roundw
            all_goals try (case rel => exact ⟨q + 1, by omega, by go_num, by rw [HL.out], hbel.alloc (by omega) _⟩)
            all_goals try (case measure => simp [intOf]; omega)
          · have HL := Lib.hid (show look (env.take (q + 1)) s = look (env.take q) s by rw [hl.out, if_neg hs])
            have es : (env[q].name.toList == s.toList) = false := name_ne hs
            clear hs
            go_wp2
            all_goals go_roundw
            all_goals try (case rel => exact ⟨q + 1, by omega, by go_num, by rw [HL.out], hbel.alloc (by omega) _⟩)
            all_goals try (case measure => simp [intOf]; omega)
        · have HF := Lib.hid hbel
          have hqe : q = env.length := by omega
          subst hqe
          clear hbel
          go_wp2
          go_ret
          exact ⟨by rw [HX.out, List.take_length]; rfl, by rw [HX.out]; exact look_in _ _ HOK.out, BELw.out.trans (HF.out.mono BELw.out.size)⟩
    · have HX := Lib.hid (show (Ex.mk k c s args).worth env = 0 by rw [HW.out]; simp [Ex.kind, h1, h2])
      have e1 : (k == 1) = false := by simpa using h1
      have e2 : (k == 2) = false := by simpa using h2
      clear h1 h2
      go_wp2
      go_loopw [5, 18] (fun v t wr => ∃ q : Nat, q ≤ env.length ∧ t = .int .i64 q ∧ v = .int .i64 (0) ∧ Below w1.heap.size w1 wr) (fun _ t _ => env.length - (intOf t).toNat)
      case atStart => exact ⟨0, by omega, rfl, rfl, Below.refl _ _⟩
      case round =>
        obtain ⟨q, hq, rfl, rfl, hbel⟩ := hrel
        have hsz := hbel.size
        have g0 := (hbel.cell (p := ⟨z, 0, none⟩) hzl).trans k0
        have g2 := (hbel.cell (p := ⟨z, 2, none⟩) hzl).trans k2
        have hzr : z < wr.heap.size := by omega
        have hzr1 : z < wr.heap.size + 1 := by omega
        by_cases hlt : q < env.length
        · obtain ⟨b, off, rfl, hb, hok, hc0, hc1⟩ := RdBds.at1 REW.out hlt
          have hb := HS.out _ hb
          have hbw : b < w1.heap.size := Nat.lt_trans hb hzl
          have e0 := (hbel.cell (p := ⟨b, off + q * 2, none⟩) hbw).trans hc0
          have e1' := (hbel.cell (p := ⟨b, off + q * 2 + 1, none⟩) hbw).trans hc1
          have hq1 : (q : Int) < (env.length : Int) := by omega
          have hq0 : (0 : Int) ≤ (q : Int) := by omega
          clear hc0 hc1 hok
          go_wp2
          all_goals go_roundw
          all_goals try (case rel => exact ⟨q + 1, by omega, by go_num, rfl, hbel.alloc (by omega) _⟩)
          all_goals try (case measure => simp [intOf]; omega)
        · have HF := Lib.hid hbel
          have hqe : q = env.length := by omega
          subst hqe
          clear hbel
          go_wp2
          go_ret
          exact ⟨by rw [HX.out]; rfl, by rw [HX.out]; decide, BELw.out.trans (HF.out.mono BELw.out.size)⟩
end Go.Proofs.Ytikjegfjgfhiaaa
