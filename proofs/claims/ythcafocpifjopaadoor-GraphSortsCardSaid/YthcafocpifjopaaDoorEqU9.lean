/- slices.Equal at words, EqualFunc at sets; the reference's SameSets; the walk of the law GraphSorts. -/
import Derived.Test.YthcafocpifjopaaDoorBbh1
import Derived.Test.YthcafocpifjopaaDoorBst1
import Derived.Test.YthcafocpifjopaaDoorEqI
namespace Go.Proofs.YthcafocpifjopaaDoor
open Go.RowKit
set_option linter.unusedVariables false
set_option maxHeartbeats 400000 in
theorem equalUs9 (l : List Nat) (w : World) (S T : Blocks) (v u : Value) (hS : Sub S (Upto w.heap.size)) (hT : Sub T (Upto w.heap.size)) (r : RdU w S l v) (r' : RdU w T l u) :
    Calls Tryd.prog 5 #[v, u] w fun e w' => e = .returned (.bool true) ∧ Below w.heap.size w w' := by
  obtain ⟨A, cap, rfl, hl, hcm, hby⟩ := r.form
  obtain ⟨A', cap', rfl, hl', hcm', _⟩ := r'.form
  unfold maxLen at hcm hcm'
  go_enter Tryd.func5, Tryd.ntmps5
  go_wp2
  go_loopw [13] (fun t wr => ∃ q : Nat, q ≤ l.length ∧ t = .int .i64 q ∧ Below w.heap.size w wr) (fun t _ => l.length - (intOf t).toNat)
  case atStart => exact ⟨0, by omega, rfl, Below.refl _ _⟩
  case round =>
    obtain ⟨q, hq, rfl, hbel⟩ := hrel
    by_cases hlt : q < l.length
    · obtain ⟨b, off, rfl, hb, hok, hc⟩ := RdU.at1 r hlt
      obtain ⟨b', off', rfl, hb', hok', hc'⟩ := RdU.at1 r' hlt
      have e0 := (hbel.cell (p := ⟨b, off + q, none⟩) (hS _ hb)).trans hc
      have e1 := (hbel.cell (p := ⟨b', off' + q, none⟩) (hT _ hb')).trans hc'
      have hq1 : (q : Int) < (l.length : Int) := by omega
      have hq0 : (0 : Int) ≤ (q : Int) := by omega
      clear r r' hc hc'
      go_wp2
      all_goals (try go_quiet (fail))
      all_goals (try go_wp2)
      go_roundw
      case rel => exact ⟨q + 1, by omega, by go_num, below_drewN hbel _⟩
      case measure => simp [intOf]; omega
    · go_wp2
      go_ret
      exact ⟨rfl, hbel⟩
set_option maxHeartbeats 400000 in
theorem same1 (l : List Nat) (w : World) (S T : Blocks) (v u : Value) (hS : Sub S (Upto w.heap.size)) (hT : Sub T (Upto w.heap.size)) (r : RdU w S l v) (r' : RdU w T l u) :
    Calls Tryd.prog 29 #[v, u] w fun e w' => e = .returned (.bool true) ∧ Below w.heap.size w w' := by
  have C := Lib.hid (equalUs9 l w S T v u hS hT r r')
  clear r r'
  go_enter Tryd.func29, Tryd.ntmps29
  go_wp2_with fail
  refine C.out.mono ?_
  rintro e w' ⟨rfl, hb⟩
  go_wp2
  go_ret
  exact ⟨rfl, hb⟩
set_option maxHeartbeats 800000 in
theorem eqFunc (n : Nat) (P : Nat → Nat → Bool) (hF : ∀ (args : Array Value) (w : World), (callFunc 29 args).run Tryd.prog w = .ok (.enter 29 args) w) (w : World) (v u : Value) (r : SetsV w n P v) (r' : SetsV w n P u) :
    Calls Tryd.prog 28 #[v, u, .func (.func 29) #[] #[]] w fun e w' => e = .returned (.bool true) ∧ Below w.heap.size w w' := by
  obtain ⟨A, cap, rfl, hn, h⟩ := r
  obtain ⟨A', cap', rfl, _, h'⟩ := r'
  have H := Lib.hid h
  have H' := Lib.hid h'
  clear h h'
  go_enter Tryd.func28, Tryd.ntmps28
  go_wp2
  go_loopw [17] (fun t wr => ∃ q : Nat, q ≤ n ∧ t = .int .i64 q ∧ Below w.heap.size w wr) (fun t _ => n - (intOf t).toNat)
  case atStart => exact ⟨0, by omega, rfl, Below.refl _ _⟩
  case round =>
    obtain ⟨q, hq, rfl, hb⟩ := hrel
    by_cases hlt : q < n
    · obtain ⟨b, off, T, l, A1, c1, rfl, h1, h2, h3, h4, h5⟩ := H.out q hlt
      obtain ⟨b', off', T', l', A2, c2, rfl, h1', h2', h3', h4', h5'⟩ := H'.out q hlt
      have e0 := (hb.cell (p := ⟨b, off + q, none⟩) h1).trans h5
      have e1 := (hb.cell (p := ⟨b', off' + q, none⟩) h1').trans h5'
      have hll := h3.uniq h3'
      subst hll
      have C := Lib.hid (same1 l wr T T' _ _ (h2.trans (Sub.upto hb.size)) (h2'.trans (Sub.upto hb.size)) (h4.keep Flat.keeps (Sub.refl _) (same_of_below hb h2)) (h4'.keep Flat.keeps (Sub.refl _) (same_of_below hb h2')))
      have HB := Lib.hid hb
      clear h2 h2' h3 h3' h4 h4' h5 h5' hb
      go_wp2_with fail
      refine C.out.mono ?_
      rintro e w2 ⟨rfl, hb2⟩
      have HB2 := Lib.hid (HB.out.trans (hb2.mono HB.out.size))
      clear hb2 C
      go_wp2_with fail
      go_roundw
      case rel => exact ⟨q + 1, by omega, by go_num, HB2.out⟩
      case measure => simp [intOf]; omega
    · go_wp2
      go_ret
      exact ⟨rfl, hb⟩
set_option maxHeartbeats 400000 in
theorem sameSets (n : Nat) (P : Nat → Nat → Bool) (w : World) (v u : Value) (r : SetsV w n P v) (r' : SetsV w n P u) :
    Calls Tryd.prog 15 #[v, u] w fun e w' => e = .returned (.bool true) ∧ Below w.heap.size w w' := by
  have C := Lib.hid (eqFunc n P (fun args w => by kernel_rfl) w v u r r')
  clear r r'
  go_enter Tryd.func15, Tryd.ntmps15
  go_wp2_with fail
  refine C.out.mono ?_
  rintro e w' ⟨rfl, hb⟩
  go_wp2
  go_ret
  exact ⟨rfl, hb⟩
def seW (N : Int) (ps : List (Int × Int)) : Nat := if wrongE N ps = 0 then N.toNat else 0
theorem sets_rd {N : Int} {ps : List (Int × Int)} {w' : World} {x : Value} (h1 : wrongE N ps = 0 → SetsV w' N.toNat (waysE N.toNat (natsP ps)) x) (h2 : wrongE N ps ≠ 0 → x = .slice none 0 0) :
    SetsV w' (seW N ps) (waysE N.toNat (natsP ps)) x := by
  unfold seW
  by_cases hw : wrongE N ps = 0
  · rw [if_pos hw]; exact h1 hw
  · rw [if_neg hw, h2 hw]; exact SetsV.nil _ _ _ _
set_option maxHeartbeats 1600000 in
set_option maxRecDepth 100000 in
theorem graphSorts_walk (N : Int) (hNi : inI N) (ps : List (Int × Int)) (w : World) (ve : Value) (hT : Tab w) (r : RdP w (Upto w.heap.size) ps ve) :
    Calls Tryd.prog 4 #[.agg #[.int .i64 N, ve]] w fun e w' => e = .returned (.bool true) ∧ Below w.heap.size w w' := by
  obtain ⟨A, cap, rfl, hl, hcm, hby⟩ := r.form
  have bel : Below w.heap.size w (w.alloc (.cells #[.int .i64 N, .slice A ps.length cap] 32)) := (Below.refl _ _).alloc (Nat.le_refl _) _
  have hsz : w.heap.size ≤ ((w.alloc (.cells #[.int .i64 N, .slice A ps.length cap] 32))).heap.size := by rw [World.size_alloc]; omega
  have BB := Blk.made w [.int .i64 N, .slice A ps.length cap] 32 (base := 0) (Nat.zero_le _)
  have k0 := BB.cell 0 _ rfl
  have k1 := BB.cell 1 _ rfl
  have HB := Lib.hid BB
  have BEL := Lib.hid bel
  have RA := Lib.hid (r.go Flat.keeps bel (Sub.refl _) (Sub.refl _))
  have HT := Lib.hid (hT.go bel)
  have C1 := Lib.hid (gsort_any N hNi ps (w.alloc (.cells #[.int .i64 N, .slice A ps.length cap] 32)) (Upto w.heap.size) _ (Sub.upto hsz) (hT.go bel) (r.go Flat.keeps bel (Sub.refl _) (Sub.refl _)))
  clear bel r BB hT
  go_enter Tryd.func4, Tryd.ntmps4
  go_upto_region 1 with (fail)
  generalize (w.alloc (.cells #[.int .i64 N, .slice A ps.length cap] 32)) = W at *
  have hWw := BEL.out.size
  have hSu := Lib.hid (Sub.upto hWw)
  go_wp2_with fail
  refine C1.out.mono ?_
  rintro e w1 ⟨x1, rfl, h1, h2, hb1⟩
  have X1 := Lib.hid (show RdI w1 (Plus Nowhere W.heap.size w1.heap.size) (if wrongE N ps = 0 then castL (takeG N.toNat (natsP ps)) else []) x1 from by
    by_cases hw : wrongE N ps = 0
    · rw [if_pos hw]
      have hz := wrongE_zero hw
      have ho := h1 hw
      have hlen := (takeG_end N.toNat (natsP ps)).1.len
      exact ho.toRd (bytes := 8) Flat.keeps (by rw [castL_len]; omega) (Sub.nowhere _) (fun b a1 a2 => .inr ⟨a1, a2⟩)
    · rw [if_neg hw, h2 hw]
      exact RdL.nil (by unfold maxLen; omega))
  have K1 := Lib.hid hb1
  have B1 := Lib.hid (HB.out.below hb1)
  have C2 := Lib.hid (bsort_any N hNi ps w1 (Upto w.heap.size) _ (hSu.out.trans (Sub.upto hb1.size)) (RA.out.go Flat.keeps hb1 hSu.out (Sub.refl _)))
  clear h1 h2 hb1 k0 k1 C1
  have k0 := B1.out.cell 0 _ rfl
  have k1 := B1.out.cell 1 _ rfl
  go_wp2_with fail
  refine C2.out.mono ?_
  rintro e w2 ⟨x2, rfl, h2, hb2⟩
  have X2 := Lib.hid h2
  have K2 := Lib.hid (K1.out.trans (hb2.mono K1.out.size))
  have X1b := Lib.hid (X1.out.go Flat.keeps hb2 plus_upto (Sub.refl _))
  have B2 := Lib.hid (B1.out.below hb2)
  have hz2 := hb2.size
  have C3 := Lib.hid (behind_any N hNi ps w2 (Upto w.heap.size) _ (hSu.out.trans (Sub.upto K2.out.size)) (HT.out.go K2.out) (RA.out.go Flat.keeps K2.out hSu.out (Sub.refl _)))
  clear h2 hb2 k0 k1 C2 X1
  have k0 := B2.out.cell 0 _ rfl
  have k1 := B2.out.cell 1 _ rfl
  go_wp2_with fail
  refine C3.out.mono ?_
  rintro e w3 ⟨x3, rfl, h1, h2, hb3⟩
  have X3 := Lib.hid (sets_rd (x := x3) (fun hw => by
    obtain ⟨g, vs, e, h⟩ := h1 hw
    have hz := wrongE_zero hw
    rw [e]
    exact h.setsV (by omega)) h2)
  have K3 := Lib.hid (K2.out.trans (hb3.mono K2.out.size))
  have X1c := Lib.hid (X1b.out.go Flat.keeps hb3 (plus_upto.trans (Sub.upto hz2)) (Sub.refl _))
  have X2b := Lib.hid (X2.out.go Flat.keeps hb3 plus_upto (Sub.refl _))
  have B3 := Lib.hid (B2.out.below hb3)
  have hz3 := hb3.size
  have C4 := Lib.hid (bbehind_any N hNi ps w3 (Upto w.heap.size) _ (hSu.out.trans (Sub.upto K3.out.size)) (RA.out.go Flat.keeps K3.out hSu.out (Sub.refl _)))
  clear h1 h2 hb3 k0 k1 C3 X1b X2
  have k0 := B3.out.cell 0 _ rfl
  have k1 := B3.out.cell 1 _ rfl
  go_wp2_with fail
  refine C4.out.mono ?_
  rintro e w4 ⟨x4, rfl, h1, h2, hb4⟩
  have X4 := Lib.hid (sets_rd h1 h2)
  have X3b := Lib.hid (X3.out.below hb4)
  have K4 := Lib.hid (K3.out.trans (hb4.mono K3.out.size))
  have hz4 := hb4.size
  have X1d := Lib.hid (X1c.out.go Flat.keeps hb4 (plus_upto.trans (Sub.upto (Nat.le_trans hz2 hz3))) (Sub.refl _))
  have X2c := Lib.hid (X2b.out.go Flat.keeps hb4 (plus_upto.trans (Sub.upto hz3)) (Sub.refl _))
  have E1 := Lib.hid (equalIs _ w4 _ _ x1 x2 (plus_upto.trans (Sub.upto (Nat.le_trans hz2 (Nat.le_trans hz3 hz4)))) (plus_upto.trans (Sub.upto (Nat.le_trans hz3 hz4))) X1d.out X2c.out)
  have E2 := Lib.hid (fun (w5 : World) (hb5 : Below w4.heap.size w4 w5) => sameSets _ _ w5 x3 x4 (X3b.out.below hb5) (X4.out.below hb5))
  clear h1 h2 hb4 k0 k1 C4 X1c X2b X3 X4 X3b X1d X2c
  go_wp2_with fail
  refine E1.out.mono ?_
  rintro e w5 ⟨rfl, hb5⟩
  have C6 := Lib.hid (E2.out w5 hb5)
  have K5 := Lib.hid (K4.out.trans (hb5.mono K4.out.size))
  clear hb5 E1 E2
  go_wp2_with fail
  refine C6.out.mono ?_
  rintro e w6 ⟨rfl, hb6⟩
  have K6 := Lib.hid (K5.out.trans (hb6.mono K5.out.size))
  clear hb6 C6
  go_wp2
  go_ret
  exact ⟨rfl, BEL.out.trans (K6.out.mono hWw)⟩
end Go.Proofs.YthcafocpifjopaaDoor
