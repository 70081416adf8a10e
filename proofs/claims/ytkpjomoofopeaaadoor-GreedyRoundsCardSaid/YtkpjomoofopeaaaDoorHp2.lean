/- The walk of a heap's pop. -/
import Derived.Test.YtkpjomoofopeaaaDoorHp1
namespace Go.Proofs.YtkpjomoofopeaaaDoor
open Go.RowKit
set_option linter.unusedVariables false
/-- the first m of a row -/
theorem OwnI.cut {E : TypeId} {w : World} {base : Nat} {S : Blocks} {l : List Int} {g n cap : Nat} (h : OwnI E w base S l (.slice (some ⟨g, 0, none⟩) n cap)) {m : Nat} (hm : m ≤ l.length) :
    OwnI E w base S (l.take m) (.slice (some ⟨g, 0, none⟩) m cap) := by
  obtain ⟨T, css, t1, t2, t3, h1, h2, h3, h4⟩ := h
  have hflat := flat_one (f := fun (x : Int) => Value.int .i64 x) (ok := inI) h1 h4
  rw [hflat] at h3
  obtain ⟨hl, h3⟩ := h3
  rcases h3 with ⟨hv, _⟩ | ⟨g', cap', cur, hv, hbg, hg, hn, hcap, hsz, htake⟩
  · cases hv
  · injection hv with e1 e2 e3
    injection e1 with e1
    injection e1 with e1
    subst e1 e2 e3
    have hf : ∀ r : List Int, (r.map fun y => [Value.int .i64 y]).flatten = r.map fun (x : Int) => Value.int .i64 x := fun r => by
      induction r with
      | nil => rfl
      | cons a r ih => simp [ih]
    refine ⟨T, (l.take m).map fun y => [Value.int .i64 y], t1, t2, t3, by simp, (fun cs hcs => by obtain ⟨y, _, rfl⟩ := List.mem_map.1 hcs; rfl), ⟨by rw [hf]; simp, .inr ⟨g, cap, cur, by rw [List.length_take, Nat.min_eq_left hm], hbg, hg, by rw [List.length_take]; omega, hcap, hsz, ?_⟩⟩, fun i e cs hi hc => ?_⟩
    · rw [hf, List.map_take, ← htake, List.take_take, List.length_take, Nat.mul_one, Nat.mul_one, Nat.min_eq_left hm]
    · rw [List.getElem?_map, hi] at hc
      simp at hc
      subst hc
      refine ⟨rfl, ?_⟩
      have hil : i < l.length := by
        have := (List.getElem?_eq_some_iff.1 hi).1
        rw [List.length_take] at this; omega
      have him : i < m := by
        have := (List.getElem?_eq_some_iff.1 hi).1
        rw [List.length_take] at this; omega
      rw [List.getElem?_take_of_lt him] at hi
      exact (h4 i e _ hi (List.getElem?_eq_getElem (by omega))).2
/-- the least of i and of those below it that lie ahead of k -/
def LeastOf (h : List Int) (i c k : Nat) : Prop := (c = i ∨ ((c = 2 * i + 1 ∨ c = 2 * i + 2) ∧ c < h.length ∧ atZ h c < atZ h i)) ∧ ∀ m, 2 * i + 1 ≤ m → m < k → m < h.length → atZ h c ≤ atZ h m
theorem LeastOf.start (h : List Int) (i : Nat) : LeastOf h i i (2 * i + 1) := ⟨.inl rfl, fun m h1 h2 => by omega⟩
theorem LeastOf.yes {h : List Int} {i c k : Nat} (L : LeastOf h i c k) (h1 : 2 * i + 1 ≤ k) (h2 : k ≤ 2 * i + 2) (hk : k < h.length) (hlt : atZ h k < atZ h c) : LeastOf h i k (k + 1) := by
  obtain ⟨L1, L2⟩ := L
  refine ⟨.inr ⟨by omega, hk, ?_⟩, fun m a b c' => ?_⟩
  · rcases L1 with e | ⟨_, _, e⟩
    · rw [e] at hlt; exact hlt
    · omega
  · by_cases e : m = k
    · rw [e]; omega
    · have := L2 m a (by omega) c'
      omega
theorem LeastOf.no {h : List Int} {i c k : Nat} (L : LeastOf h i c k) (hge : ¬ atZ h k < atZ h c) : LeastOf h i c (k + 1) := by
  obtain ⟨L1, L2⟩ := L
  refine ⟨L1, fun m a b c' => ?_⟩
  by_cases e : m = k
  · rw [e]; omega
  · exact L2 m a (by omega) c'
theorem LeastOf.stay {h : List Int} {i k : Nat} (L : LeastOf h i i k) (hk : 2 * i + 2 < k ∨ h.length ≤ k) (D : dnOK h i) : isHp h := dn_done D fun m hm hl => L.2 m (by omega) (by omega) hl
theorem LeastOf.go {h : List Int} {i c k : Nat} (L : LeastOf h i c k) (hk : 2 * i + 2 < k ∨ h.length ≤ k) (D : dnOK h i) (hne : c ≠ i) : c < h.length ∧ i < c ∧ dnOK (swZ h i c) c := by
  obtain ⟨L1, L2⟩ := L
  rcases L1 with e | ⟨e1, e2, e3⟩
  · exact absurd e hne
  · exact ⟨e2, by omega, dn_step D e1 e2 e3 fun m hm hl => L2 m (by omega) (by omega) hl⟩
theorem LeastOf.lt {h : List Int} {i c k : Nat} (L : LeastOf h i c k) (hi : i < h.length) : c < h.length := by
  rcases L.1 with e | ⟨_, e, _⟩
  · omega
  · exact e
/-- how a heap stands in the middle of a pop -/
def PopAt (X : Blocks) (W : World) (p g cap n : Nat) (h : List Int) (wr : World) : Prop :=
  Blk 0 wr p [.slice (some ⟨g, 0, none⟩) n cap] ∧ OwnI 3 wr 0 Nowhere h (.slice (some ⟨g, 0, none⟩) n cap) ∧ But (fun k => ¬ X k) W wr
theorem PopAt.drewN {X : Blocks} {W wr : World} {p g cap n : Nat} {h : List Int} (P : PopAt X W p g cap n h wr) (k : Nat) : PopAt X W p g cap n h (wr.drewN k) :=
  ⟨P.1.drewN k, P.2.1.keep Flat.keeps (below_drewN (Below.refl _ _) k), P.2.2.drewN k⟩
theorem PopAt.drew {X : Blocks} {W wr : World} {p g cap n : Nat} {h : List Int} (P : PopAt X W p g cap n h wr) : PopAt X W p g cap n h wr.drew :=
  ⟨P.1.drew, P.2.1.keep Flat.keeps (Below.refl _ _).drew, P.2.2.drew⟩
set_option maxHeartbeats 3200000 in
set_option maxRecDepth 100000 in
theorem pop_any (X : Blocks) (l : List Int) (hl : l.length ≤ 1000000) (h0 : 0 < l.length) (W : World) (p : Nat) (H : HeapAt X W p l) (hh : isHp l) :
    Calls Tryd.prog 53 #[.pointer (some ⟨p, 0, none⟩)] W fun e w' => e = .returned (.int .i64 (atZ l 0)) ∧ ∃ l', HeapAt X w' p l' ∧ isHp l' ∧ (atZ l 0 :: l').Perm l ∧ But (fun k => ¬ X k) W w' := by
  obtain ⟨v, B, O, D⟩ := H.ex
  obtain ⟨g, cap, rfl, _, hgl, hlc, hcm, hfr, hce⟩ := OwnI.open_ O h0
  obtain ⟨n, hn⟩ : ∃ n, l.length = n + 1 := ⟨l.length - 1, by omega⟩
  rw [hn] at B O D hlc
  have HX := Lib.hid (And.intro H.sub H.np)
  have hgp := (D g rfl).2
  have hgx := (D g rfl).1
  have k0 := B.cell 0 _ rfl
  have f0 := B.fr 0
  have c0 := (hce 0 h0).2
  have c1 := (hce n (by omega)).2
  have ok1 := (hce n (by omega)).1
  have g0 := hfr 0
  rw [← atZ_lt] at c0
  rw [← atZ_lt] at c1 ok1
  obtain ⟨x, hx⟩ : ∃ x, x = atZ l 0 := ⟨_, rfl⟩
  obtain ⟨y, hy⟩ : ∃ y, y = atZ l n := ⟨_, rfl⟩
  rw [← hx] at c0 ⊢
  rw [← hy] at c1 ok1
  have O2 := OwnI.set_ O (q := 0) h0 y ok1
  have B2 := Lib.hid (B.other (p := ⟨g, 0, none⟩) hgp (.int .i64 y))
  have HB2 := Lib.hid ((But.refl (fun k => ¬ X k) W).setCell (p := ⟨g, 0, none⟩) hgx (.int .i64 y))
  have hd0 := Lib.hid (show dnOK ((l.set 0 y).take n) 0 from dn_start hh y (by omega))
  have HP := Lib.hid (show (x :: (l.set 0 y).take n).Perm l by
    have h1 := hp_cut2 hn
    rw [← hx, ← hy] at h1
    exact h1)
  have HLEN := Lib.hid (show ((l.set 0 y).take n).length = n by rw [List.length_take, List.length_set]; omega)
  have HO2 := Lib.hid O2
  have HN := Lib.hid hn
  have hnb : n ≤ 1000000 := by omega
  clear O2 hfr hce H D B O hx hy hh hn h0
  go_enter Tryd.func53, Tryd.ntmps53
  go_upto_region 1 with (fail)
  go_quiet (fail)
  go_upto_region 2 with (fail)
  have k0' : (W.drewN nq).cell? ⟨p, 0, none⟩ = some (.slice (some ⟨g, 0, none⟩) (n + 1) cap) := k0
  have f0' : (W.drewN nq).frozen? ⟨p, 0, none⟩ = false := f0
  have c0' : (W.drewN nq).cell? ⟨g, 0, none⟩ = some (.int .i64 x) := c0
  have c1' : (W.drewN nq).cell? ⟨g, n, none⟩ = some (.int .i64 y) := c1
  have g0' : (W.drewN nq).frozen? ⟨g, 0, none⟩ = false := g0
  have P2 : Hid (PopAt X W p g cap (n + 1) (l.set 0 y) ((W.drewN nq).setCell ⟨g, 0, none⟩ (.int .i64 y))) := Lib.hid (PopAt.drewN ⟨B2.out, HO2.out, HB2.out⟩ nq)
  clear k0 f0 c0 c1 g0 B2 HO2 HB2
  generalize W.drewN nq = W2 at *
  go_region
  all_goals
    have Q2 := Lib.hid P2.out.drew
    have q0 := Q2.out.1.cell 0 _ rfl
    have q1 := Q2.out.1.fr 0
    clear k0' f0' c0' c1' g0' P2
    generalize (W2.setCell ⟨g, 0, none⟩ (.int .i64 y)).drew = W3 at *
    have Q3 : Hid (PopAt X W p g cap n ((l.set 0 y).take n) (W3.setCell ⟨p, 0, none⟩ (.slice (some ⟨g, 0, none⟩) n cap))) := Lib.hid ⟨Q2.out.1.set (i := 0) (by simp) _, (OwnI.cut Q2.out.2.1 (by rw [List.length_set, HN.out]; omega)).but ((But.refl (Is p) _).setCell (p := ⟨p, 0, none⟩) (show Is p p from rfl) _) (fun k e hk => hgp (by injection e with e; exact e.trans hk)), Q2.out.2.2.setCell (p := ⟨p, 0, none⟩) HX.out.2 _⟩
    clear Q2
    go_upto_region 5 with (fail)
    generalize W3.setCell ⟨p, 0, none⟩ (.slice (some ⟨g, 0, none⟩) n cap) = W4 at *
    clear q0 q1
    obtain ⟨h1, hh1⟩ : ∃ h1, h1 = (l.set 0 y).take n := ⟨_, rfl⟩
    rw [← hh1] at Q3 hd0 HP HLEN
    clear hh1
    go_wp2_with fail
    go_loopw [5] (fun t wr => ∃ (i : Nat) (h : List Int), i ≤ n ∧ t = .int .i64 i ∧ Hid (h.length = n ∧ (i = 0 ∨ i < n)) ∧ Hid (dnOK h i) ∧ Hid ((x :: h).Perm l) ∧ Hid (PopAt X W p g cap n h wr)) (fun t _ => n - (intOf t).toNat)
    case atStart => exact ⟨0, h1, Nat.zero_le _, rfl, Lib.hid ⟨HLEN.out, .inl rfl⟩, hd0, HP, Q3⟩
    case round =>
      clear hd0 HP Q3 HLEN
      obtain ⟨i, h, hin, rfl, HL, D, P, Q⟩ := hrel
      obtain ⟨Wr, hWr⟩ : ∃ Wr : World, Wr = wr := ⟨_, rfl⟩
      subst hWr
      go_upto_region 6 with (fail)
      go_wp2_with fail
      go_loopw [6, 7] (fun s t wr => ∃ (c k : Nat), 2 * i + 1 ≤ k ∧ k ≤ 2 * i + 3 ∧ s = .int .i64 c ∧ t = .int .i64 k ∧ Hid (LeastOf h i c k) ∧ Hid (PopAt X W p g cap n h wr)) (fun _ t _ => 2 * i + 3 - (intOf t).toNat)
      case atStart => exact ⟨i, 2 * i + 1, by omega, by omega, rfl, by go_num, Lib.hid (LeastOf.start h i), Q⟩
      case round =>
        clear Q
        obtain ⟨c, k, hk1, hk2, rfl, rfl, L, Q⟩ := hrel
        by_cases hin2 : k ≤ 2 * i + 2 ∧ k < n
        · skip
          obtain ⟨hk3, hk4⟩ := hin2
          have hc : c < n := by have := L.out.lt (by have := HL.out; omega); rw [HL.out.1] at this; exact this
          obtain ⟨B, O, HB⟩ := Q.out
          have k0 := B.cell 0 _ rfl
          obtain ⟨g', cap', hv, _, _, _, _, _, hce⟩ := OwnI.open_ O (by rw [HL.out.1]; omega)
          rw [HL.out.1] at hv
          injection hv with hA hn9 hcc
          clear hn9
          injection hA with hA
          injection hA with hA
          subst hA hcc
          have c0 := (hce k (by rw [HL.out.1]; exact hk4)).2
          have c1 := (hce c (by rw [HL.out.1]; exact hc)).2
          rw [← atZ_lt] at c0 c1
          obtain ⟨y, hy⟩ : ∃ y, y = atZ h k := ⟨_, rfl⟩
          obtain ⟨z, hz⟩ : ∃ z, z = atZ h c := ⟨_, rfl⟩
          rw [← hy] at c0
          rw [← hz] at c1
          have HYZ := Lib.hid (And.intro hy hz)
          clear hy hz hce B O HB
          by_cases hlt : y < z
          · have L2 := Lib.hid (L.out.yes hk1 hk3 (by rw [HL.out.1]; exact hk4) (by rw [← HYZ.out.1, ← HYZ.out.2]; exact hlt))
            clear L
            go_upto_region 9 with (fail)
            go_quiet (fail)
            go_wp2_with fail
            go_roundw
            case rel => exact ⟨k, k + 1, by omega, by omega, rfl, by go_num, L2, Lib.hid (Q.out.drewN _)⟩
            case measure => simp [intOf]; omega
          · have L2 := Lib.hid (L.out.no (by rw [← HYZ.out.1, ← HYZ.out.2]; exact hlt))
            clear L
            go_upto_region 9 with (fail)
            go_quiet (fail)
            go_wp2_with fail
            go_roundw
            case rel => exact ⟨c, k + 1, by omega, by omega, rfl, by go_num, L2, Lib.hid (Q.out.drewN _)⟩
            case measure => simp [intOf]; omega
        · skip
          have hend := Lib.hid (show 2 * i + 2 < k ∨ h.length ≤ k by rw [HL.out.1]; omega)
          obtain ⟨B, O, HB⟩ := Q.out
          by_cases hci : c = i
          · subst hci
            have HR := Lib.hid (L.out.stay hend.out D.out)
            go_wp2_with fail
            all_goals
             go_ret
             exact ⟨rfl, h, ⟨HX.out.1.lift HB.size, HX.out.2, _, B, by rw [← HL.out.1] at O ⊢; exact O, fun k e => by injection e with e; subst e; exact ⟨hgx, hgp⟩⟩, HR.out, P.out, HB⟩
          · obtain ⟨hcl, hic, D2⟩ := L.out.go hend.out D.out hci
            rw [HL.out.1] at hcl
            have k0 := B.cell 0 _ rfl
            obtain ⟨g', cap', hv, _, _, _, _, hfr, hce⟩ := OwnI.open_ O (by rw [HL.out.1]; omega)
            rw [HL.out.1] at hv
            injection hv with hA hn9 hcc
            clear hn9
            injection hA with hA
            injection hA with hA
            subst hA hcc
            have c0 := (hce i (by rw [HL.out.1]; omega)).2
            have c1 := (hce c (by rw [HL.out.1]; exact hcl)).2
            have ok0 := (hce i (by rw [HL.out.1]; omega)).1
            have ok1 := (hce c (by rw [HL.out.1]; exact hcl)).1
            have f0 := hfr i
            have f1 := hfr c
            rw [← atZ_lt] at c0 c1 ok0 ok1
            have P2 := Lib.hid (((swZ_perm (l := h) (i := i) (j := c) (by rw [HL.out.1]; omega) (by rw [HL.out.1]; exact hcl)).cons x).trans P.out)
            have O2 := OwnI.set_ (OwnI.set_ O (q := i) (by rw [HL.out.1]; omega) (atZ h c) ok1) (q := c) (by rw [List.length_set, HL.out.1]; omega) (atZ h i) ok0
            have HL2 := Lib.hid (show (swZ h i c).length = n ∧ (c = 0 ∨ c < n) from ⟨by rw [swZ_len]; exact HL.out.1, .inr hcl⟩)
            have Q2 := Lib.hid (show PopAt X W p g cap n (swZ h i c) ((wr.setCell ⟨g, i, none⟩ (.int .i64 (atZ h c))).setCell ⟨g, c, none⟩ (.int .i64 (atZ h i))) from
              ⟨(B.other (p := ⟨g, i, none⟩) hgp _).other (p := ⟨g, c, none⟩) hgp _, O2, (HB.setCell (p := ⟨g, i, none⟩) hgx _).setCell (p := ⟨g, c, none⟩) hgx _⟩)
            have HD2 := Lib.hid D2
            generalize atZ h i = y at *
            generalize atZ h c = z at *
            clear O2 hfr hce ok0 ok1 L HL D P Q D2 B O HB hend
            have hne : i ≠ c := fun e => hci e.symm
            go_wp2_with fail
            all_goals
             go_region
            all_goals
              go_wp2_with fail
              go_roundw
              case rel => exact ⟨c, swZ h i c, by omega, by go_num, HL2, HD2, P2, Lib.hid Q2.out.drew⟩
              case measure => simp [intOf]; omega
end Go.Proofs.YtkpjomoofopeaaaDoor
