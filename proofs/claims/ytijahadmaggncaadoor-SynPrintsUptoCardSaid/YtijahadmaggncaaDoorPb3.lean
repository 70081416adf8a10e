/- The walks of the printer's signOf and name. -/
import Derived.Test.YtijahadmaggncaaDoorPb2
import Derived.Test.YtijahadmaggncaaDoorFmtLib
import Derived.Test.YtijahadmaggncaaDoorLex5
namespace Go.Proofs.YtijahadmaggncaaDoor
open Go.RowKit
set_option linter.unusedVariables false
theorem sgn_at (k : Int) (h0 : 3 ≤ k) (h1 : k ≤ 9) : ∃ q : Nat, q < 7 ∧ k = 3 + q ∧ (#[Value.string ⟨#[43]⟩, .string ⟨#[45]⟩, .string ⟨#[42]⟩, .string ⟨#[47]⟩, .string ⟨#[37]⟩, .string ⟨#[60]⟩, .string ⟨#[61, 61]⟩] : Array Value)[q]? = some (.string (sgn k)) := by
  refine ⟨(k - 3).toNat, by omega, by omega, ?_⟩
  unfold sgn
  obtain ⟨q, hq⟩ : ∃ q, q = (k - 3).toNat := ⟨_, rfl⟩
  have hlt : q < 7 := by omega
  rw [← hq]
  match q, hlt with
  | 0, _ => rfl
  | 1, _ => rfl
  | 2, _ => rfl
  | 3, _ => rfl
  | 4, _ => rfl
  | 5, _ => rfl
  | 6, _ => rfl
  | n + 7, h => omega
set_option maxHeartbeats 1000000 in
set_option maxRecDepth 100000 in
theorem sign_any (k : Int) (h0 : 3 ≤ k) (h1 : k ≤ 9) (w : World) (hN : FmtT w) :
    Calls Tryd.prog 109 #[.int .i64 k] w fun e w' => e = .returned (.string (sgn k)) ∧ Below w.heap.size w w' := by
  obtain ⟨q, hq, rfl, hs⟩ := sgn_at k h0 h1
  generalize sgn (3 + (q : Int)) = sg at hs
  have HN := Lib.hid hN
  clear hN h0 h1
  go_enter Tryd.func109, Tryd.ntmps109
  go_wp2_with (go_at_call 141; refine (fields_n _ HN.out).mono ?_)
  rintro e w1 ⟨rfl, rfl⟩
  have hw1 : Below w.heap.size w (w.alloc (.cells #[.string ⟨#[43]⟩, .string ⟨#[45]⟩, .string ⟨#[42]⟩, .string ⟨#[47]⟩, .string ⟨#[37]⟩, .string ⟨#[60]⟩, .string ⟨#[61, 61]⟩] 9)) := (Below.refl _ _).alloc (Nat.le_refl _) _
  have HB := Lib.hid hw1
  have e0 : (w.alloc (.cells #[.string ⟨#[43]⟩, .string ⟨#[45]⟩, .string ⟨#[42]⟩, .string ⟨#[47]⟩, .string ⟨#[37]⟩, .string ⟨#[60]⟩, .string ⟨#[61, 61]⟩] 9)).cell? ⟨w.heap.size, q, none⟩ = some (.string sg) := by
    rw [(BoxIs.made w _ 9).cell q]; exact hs
  generalize (w.alloc (.cells #[.string ⟨#[43]⟩, .string ⟨#[45]⟩, .string ⟨#[42]⟩, .string ⟨#[47]⟩, .string ⟨#[37]⟩, .string ⟨#[60]⟩, .string ⟨#[61, 61]⟩] 9)) = W at *
  have e5 : (3 : Int) + (q : Int) - 3 = q := by omega
  go_wp2
  go_ret
  exact ⟨rfl, HB.out⟩
set_option maxHeartbeats 1000000 in
set_option maxRecDepth 100000 in
theorem pname_any {base p : Nat} {w : World} {acc : List UInt8} {bad : Bool} (s : ByteArray) (h : PrAt base p w acc bad) (hs : s.size ≤ 4398046511103) (hb : base ≤ w.heap.size) (hl : acc.length + (s.size + 1) ≤ 140737488355328) :
    Calls Tryd.prog 64 #[.pointer (some ⟨p, 0, none⟩), .string s] w fun e w' => (∃ x, e = .returned x) ∧ PrAt base p w' (putL acc [s]) (bad || !knameB s) ∧ PrGo base p w w' := by
  have key : ∀ (w1 : World) (b2 : Bool), PrAt base p w1 acc b2 → PrGo base p w w1 → ∀ v1, w1.cell? ⟨p, 2, none⟩ = some v1 → w1.frozen? ⟨p, 2, none⟩ = false ∧ PrAt base p (w1.setCell ⟨p, 2, none⟩ (.bool (bad || !knameB s))) acc (bad || !knameB s) ∧ PrGo base p w (w1.setCell ⟨p, 2, none⟩ (.bool (bad || !knameB s))) := by
    intro w1 b2 h1 g1 _ _
    obtain ⟨v, a, ha, h1⟩ := h1
    exact ⟨h1.fr 2, ⟨v, a, ha, h1.set2 _⟩, g1.be.setCell (p := ⟨p, 2, none⟩) h1.ge _, g1.ok.setCell ⟨p, 2, none⟩ rfl _⟩
  have c2 : w.cell? ⟨p, 2, none⟩ = some (.bool bad) := by obtain ⟨v, a, ha, h1⟩ := h; exact h1.c2
  have KEY := Lib.hid key
  have H := Lib.hid h
  have hpl := h.lt
  have HL := Lib.hid (show acc.length + tsz [s] ≤ 140737488355328 by rw [tsz_one]; exact hl)
  clear key h hl
  cases bad
  · go_enter Tryd.func64, Tryd.ntmps64
    go_upto_region 1 with (go_at_call 107; refine (name_any s hs _).mono ?_)
    rintro e w1 ⟨rfl, hb1⟩
    have d2 : w1.cell? ⟨p, 2, none⟩ = some (.bool false) := (hb1.cell (p := ⟨p, 2, none⟩) hpl).trans c2
    obtain ⟨k1, k2, k3⟩ := KEY.out w1 false (H.out.below hb1) (PrGo.of_below hb1 hb) _ d2
    have K2 := Lib.hid k2
    have K3 := Lib.hid k3
    have hz := hb1.size
    clear k2 k3 KEY H
    simp only [Bool.false_or] at K2 K3 ⊢
    go_upto_region 1 with (fail)
    have hbz : base ≤ (w1.setCell ⟨p, 2, none⟩ (.bool (!knameB s))).heap.size := by rw [size_setCell]; omega
    generalize (w1.setCell ⟨p, 2, none⟩ (.bool (!knameB s))) = W at *
    clear d2 k1 c2 hb1 hz
    go_wp2_with (go_at_call 63; refine (put_new [s] K2.out hbz HL.out).mono ?_)
    rintro e w2 ⟨⟨x, rfl⟩, h2, g2⟩
    have H2 := Lib.hid h2
    have G2 := Lib.hid (K3.out.trans g2)
    clear h2 g2
    go_wp2
    go_end0
    exact ⟨⟨_, rfl⟩, by rw [Bool.false_or]; exact H2.out, G2.out⟩
  · obtain ⟨k1, k2, k3⟩ := KEY.out w true H.out (PrGo.refl _ _ _) _ c2
    have K2 := Lib.hid k2
    have K3 := Lib.hid k3
    clear k2 k3 KEY H
    simp only [Bool.true_or] at K2 K3 ⊢
    go_enter Tryd.func64, Tryd.ntmps64
    go_upto_region 1 with (fail)
    have hbz : base ≤ (w.setCell ⟨p, 2, none⟩ (.bool true)).heap.size := by rw [size_setCell]; omega
    generalize (w.setCell ⟨p, 2, none⟩ (.bool true)) = W at *
    clear c2 k1
    go_wp2_with (go_at_call 63; refine (put_new [s] K2.out hbz HL.out).mono ?_)
    rintro e w2 ⟨⟨x, rfl⟩, h2, g2⟩
    have H2 := Lib.hid h2
    have G2 := Lib.hid (K3.out.trans g2)
    clear h2 g2
    go_wp2
    go_end0
    exact ⟨⟨_, rfl⟩, H2.out, G2.out⟩
end Go.Proofs.YtijahadmaggncaaDoor
