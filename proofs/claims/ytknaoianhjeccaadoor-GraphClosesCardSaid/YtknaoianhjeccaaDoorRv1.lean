/- The walk of slices.Reverse at integers. -/
import Derived.Test.YtknaoianhjeccaaDoorFlat
import Derived.Test.YtknaoianhjeccaaDoorBut
import Derived.BigRegion
namespace Go.Proofs.YtknaoianhjeccaaDoor
open Go.RowKit
set_option linter.unusedVariables false
/-- the first i and the last i have changed places -/
def revL (l : List Int) (i : Nat) : List Int := (List.range l.length).map fun k => if k < i ∨ l.length ≤ k + i then l.reverse[k]?.getD 0 else l[k]?.getD 0
theorem revL_len (l : List Int) (i : Nat) : (revL l i).length = l.length := by simp [revL]
theorem revL_get (l : List Int) (i k : Nat) (hk : k < (revL l i).length) : (revL l i)[k] = if k < i ∨ l.length ≤ k + i then l.reverse[k]?.getD 0 else l[k]?.getD 0 := by simp [revL]
theorem revL_zero (l : List Int) : revL l 0 = l := by
  apply List.ext_getElem (by simp [revL])
  intro k h1 h2
  rw [revL_get, if_neg (by omega), List.getElem?_eq_getElem h2]; rfl
theorem revL_all (l : List Int) (i : Nat) (h : l.length ≤ 2 * i + 1) : revL l i = l.reverse := by
  apply List.ext_getElem (by simp [revL])
  intro k h1 h2
  rw [revL_len] at h1
  rw [revL_get]
  by_cases hk : k < i ∨ l.length ≤ k + i
  · rw [if_pos hk, List.getElem?_eq_getElem h2]; rfl
  · rw [if_neg hk, List.getElem?_eq_getElem h1, List.getElem_reverse]
    have : l.length - 1 - k = k := by omega
    simp only [this]; rfl
theorem revL_at (l : List Int) (i : Nat) {k : Nat} (h1 : i ≤ k) (h2 : k + i < l.length) (hk : k < (revL l i).length) : (revL l i)[k] = l[k]'(by rw [revL_len] at hk; exact hk) := by
  rw [revL_get, if_neg (by omega), List.getElem?_eq_getElem (by rw [revL_len] at hk; exact hk)]; rfl
theorem revL_step (l : List Int) (i : Nat) (h : 2 * i + 1 < l.length) : ((revL l i).set i (l[l.length - 1 - i]'(by omega))).set (l.length - 1 - i) (l[i]'(by omega)) = revL l (i + 1) := by
  apply List.ext_getElem (by simp [revL])
  intro k h1 h2
  rw [revL_len] at h2
  rw [List.getElem_set, List.getElem_set, revL_get, revL_get]
  by_cases e1 : l.length - 1 - i = k
  · rw [if_pos e1, if_pos (by omega), List.getElem?_eq_getElem (by simp; omega), Option.getD_some, List.getElem_reverse]
    have : l.length - 1 - k = i := by omega
    simp only [this]
  · rw [if_neg e1]
    by_cases e2 : i = k
    · rw [if_pos e2, if_pos (by omega), List.getElem?_eq_getElem (by simp; omega), Option.getD_some, List.getElem_reverse]
      subst e2; rfl
    · rw [if_neg e2]
      by_cases h3 : k < i ∨ l.length ≤ k + i
      · rw [if_pos h3, if_pos (by omega)]
      · rw [if_neg h3, if_neg (by omega)]
set_option maxHeartbeats 800000 in
set_option maxRecDepth 100000 in
theorem reverse_any (l : List Int) (w : World) (base : Nat) (v : Value) (o : OwnI 3 w base Nowhere l v) :
    Calls Tryd.prog 27 #[v] w fun e w' => e = .returned (.tuple #[]) ∧ OwnI 3 w' base Nowhere l.reverse v ∧ But (fun k => v.ownBlock = some k) w w' := by
  rcases Nat.eq_zero_or_pos l.length with h0 | h0
  · have hnil : l = [] := List.eq_nil_of_length_eq_zero h0
    subst hnil
    obtain ⟨A, cap, rfl⟩ := o.form
    have HO := Lib.hid o
    clear o h0
    go_enter Tryd.func27, Tryd.ntmps27
    go_wp2
    go_loopw [2, 3] (fun s t wr => s = .int .i64 0 ∧ t = .int .i64 (-1) ∧ w = wr) (fun _ _ _ => 0)
    case atStart => exact ⟨rfl, rfl, rfl⟩
    case round =>
      obtain ⟨rfl, rfl, rfl⟩ := hrel
      go_wp2
      go_end0
      exact ⟨rfl, HO.out, But.refl _ _⟩
  · obtain ⟨g, cap, rfl, hg, hgw, hlc, hcm, hfr, hce⟩ := OwnI.open_ o h0
    have HO := Lib.hid o
    clear o hfr hce
    unfold maxLen at hcm
    go_enter Tryd.func27, Tryd.ntmps27
    go_wp2
    go_loopw [2, 3] (fun s t wr => ∃ i : Nat, 2 * i ≤ l.length + 1 ∧ s = .int .i64 i ∧ t = .int .i64 ((l.length : Int) - 1 - i) ∧ Hid (OwnI 3 wr base Nowhere (revL l i) (.slice (some ⟨g, 0, none⟩) l.length cap)) ∧ But (Is g) w wr) (fun s t _ => (intOf t - intOf s).toNat)
    case atStart => exact ⟨0, by omega, rfl, by congr 1; omega, Lib.hid (by rw [revL_zero]; exact HO.out), But.refl _ _⟩
    case round =>
      obtain ⟨i, hi, rfl, rfl, O, hb⟩ := hrel
      by_cases hlt : 2 * i + 1 < l.length
      · obtain ⟨j, hj⟩ : ∃ j, j = l.length - 1 - i := ⟨_, rfl⟩
        have hji : ((l.length : Int) - 1 - i) = (j : Int) := by omega
        rw [hji]
        have hlen := revL_len l i
        obtain ⟨g', cap', hv, _, _, _, _, hfr, hce⟩ := OwnI.open_ O.out (by rw [hlen]; omega)
        injection hv with hA hn9 hcc
        clear hn9
        injection hA with hA
        injection hA with hA
        subst hA
        have c0 := (hce i (by rw [hlen]; omega)).2
        have c1 := (hce j (by rw [hlen]; omega)).2
        rw [revL_at l i (Nat.le_refl _) (by omega)] at c0
        rw [revL_at l i (by omega) (by omega)] at c1
        have f0 := hfr i
        have f1 := hfr j
        have ok0 := (hce i (by rw [hlen]; omega)).1
        have ok1 := (hce j (by rw [hlen]; omega)).1
        rw [revL_at l i (Nat.le_refl _) (by omega)] at ok0
        rw [revL_at l i (by omega) (by omega)] at ok1
        obtain ⟨x, hx⟩ : ∃ x, x = l[i]'(by omega) := ⟨_, rfl⟩
        obtain ⟨y, hy⟩ : ∃ y, y = l[j]'(by omega) := ⟨_, rfl⟩
        rw [← hx] at c0 ok0
        rw [← hy] at c1 ok1
        have O2 := OwnI.set_ (OwnI.set_ O.out (q := i) (by rw [hlen]; omega) y ok1) (q := j) (by rw [List.length_set, hlen]; omega) x ok0
        have hst := revL_step l i hlt
        simp only [← hj] at hst
        rw [hx, hy, hst] at O2
        rw [← hx, ← hy] at O2
        have HO2 := Lib.hid (O2.keep Flat.keeps (Below.refl _ _).drew)
        have HB2 := Lib.hid (((hb.setCell (p := ⟨g, i, none⟩) (show Is g g from rfl) (.int .i64 y)).setCell (p := ⟨g, j, none⟩) (show Is g g from rfl) (.int .i64 x)).drew)
        have hne : i ≠ j := by omega
        clear O O2 hb hx hy hst hce hfr ok0 ok1 hcc
        have hli : (i : Int) < (j : Int) := by omega
        have hjl : j < l.length := by omega
        have hil : i < l.length := by omega
        have HJ := Lib.hid hj
        have HI := Lib.hid (show 2 * (i + 1) ≤ l.length + 1 by omega)
        clear hj hji hlen hlt hi
        go_wp2
        go_region
        all_goals
          go_wp2_with fail
          go_roundw
          case rel => exact ⟨i + 1, HI.out, by go_num, by have hj := HJ.out; congr 1; omega, HO2, HB2.out⟩
          case measure => have hj := HJ.out; simp [intOf]; omega
      · have hr := revL_all l i (by omega)
        rw [hr] at O
        have hge : ¬ (i : Int) < (l.length : Int) - 1 - i := by omega
        go_wp2
        go_end0
        exact ⟨rfl, O.out, hb.sub (fun k h => by rw [show k = g from h]; rfl)⟩
end Go.Proofs.YtknaoianhjeccaaDoor
