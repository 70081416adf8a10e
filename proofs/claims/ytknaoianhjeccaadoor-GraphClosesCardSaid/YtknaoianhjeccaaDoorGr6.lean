/- The walk of graph.Sort; a row of sets. -/
import Derived.Test.YtknaoianhjeccaaDoorGr2
import Derived.Test.YtknaoianhjeccaaDoorGrSpec4
namespace Go.Proofs.YtknaoianhjeccaaDoor
open Go.RowKit
set_option linter.unusedVariables false
def castL (l : List Nat) : List Int := l.map fun (n : Nat) => (n : Int)
theorem castL_len (l : List Nat) : (castL l).length = l.length := by simp [castL]
theorem castL_at (l : List Nat) {q : Nat} (h : q < (castL l).length) : (castL l)[q] = ((l[q]'(by rw [castL_len] at h; exact h) : Nat) : Int) := by simp [castL]
set_option maxHeartbeats 800000 in
set_option maxRecDepth 100000 in
theorem gsort_any (N : Int) (hNi : inI N) (ps : List (Int × Int)) (w : World) (S : Blocks) (ve : Value) (hS : Sub S (Upto w.heap.size)) (hT : Tab w) (r : RdP w S ps ve) :
    Calls Tryd.prog 26 #[.agg #[.int .i64 N, ve]] w fun e w' => ∃ x, e = .returned (.tuple #[x, .int .i64 (wrongE N ps)]) ∧ (wrongE N ps = 0 → OwnI 3 w' w.heap.size Nowhere (castL (takeG N.toNat (natsP ps))) x) ∧ (wrongE N ps ≠ 0 → x = .slice none 0 0) ∧ Below w.heap.size w w' := by
  obtain ⟨A, cap, rfl, hl, hcm, hby⟩ := r.form
  unfold maxLen at hcm
  have b0 := Blk.made w [.int .i64 N, .slice A ps.length cap] 24 (base := 0) (Nat.zero_le _)
  have bl : Below w.heap.size w (w.alloc (.cells #[.int .i64 N, .slice A ps.length cap] 24)) := (Below.refl _ _).alloc (Nat.le_refl _) _
  have hsz0 : w.heap.size ≤ ((w.alloc (.cells #[.int .i64 N, .slice A ps.length cap] 24))).heap.size := by rw [World.size_alloc]; omega
  have k0 := b0.cell 0 _ rfl
  have k1 := b0.cell 1 _ rfl
  have HB0 := Lib.hid b0
  have BL := Lib.hid bl
  have HT := Lib.hid (hT.go bl)
  have HS := Lib.hid hS
  have RA := Lib.hid (r.go Flat.keeps bl hS (Sub.refl _))
  have C1 := Lib.hid (wrong_any N hNi ps (w.alloc (.cells #[.int .i64 N, .slice A ps.length cap] 24)) S _ (hS.trans (Sub.upto hsz0)) (hT.go bl) (r.go Flat.keeps bl hS (Sub.refl _)))
  clear b0 bl hT r hS
  go_enter Tryd.func26, Tryd.ntmps26
  go_upto_region 1 with (fail)
  generalize (w.alloc (.cells #[.int .i64 N, .slice A ps.length cap] 24)) = W0 at *
  go_wp2_with fail
  refine C1.out.mono ?_
  rintro e w1 ⟨rfl, hb1⟩
  have BL1 := Lib.hid (BL.out.trans (hb1.mono BL.out.size))
  have HB1 := Lib.hid (HB0.out.below hb1)
  have HT1 := Lib.hid (HT.out.go hb1)
  have R1 := Lib.hid (RA.out.go Flat.keeps hb1 (HS.out.trans (Sub.upto BL.out.size)) (Sub.refl _))
  clear C1 BL HB0 hb1 k0 k1 hsz0 RA HT
  by_cases hw : wrongE N ps = 0
  · obtain ⟨hn0, hn2, hgd, hrd⟩ := wrongE_zero hw
    obtain ⟨hps, hval⟩ := good_ps hgd
    obtain ⟨n, hnn⟩ : ∃ n : Nat, N = (n : Int) := ⟨N.toNat, by omega⟩
    subst hnn
    rw [Int.toNat_natCast] at hval
    have C2 := Lib.hid (take_any n (by omega) (natsP ps) hval w1 S _ (HS.out.trans (Sub.upto BL1.out.size)) HT1.out (by rw [hps]; exact R1.out))
    have k0 := HB1.out.cell 0 _ rfl
    have k1 := HB1.out.cell 1 _ rfl
    have HW0 := Lib.hid hw
    rw [hw]
    clear hw hgd hrd hps hval R1 HT1
    go_wp2_with fail
    refine C2.out.mono ?_
    rintro e w2 ⟨x, rfl, ho, hb2⟩
    have HO := Lib.hid (ho.low (base' := w.heap.size) BL1.out.size)
    have BZ := Lib.hid (BL1.out.trans (hb2.mono BL1.out.size))
    clear C2 ho hb2 k0 k1
    go_wp2
    go_ret2
    exact ⟨x, by rw [HW0.out]; rfl, fun _ => HO.out, fun h => absurd HW0.out h, BZ.out⟩
  · have HW := Lib.hid hw
    go_wp2_with fail
    go_ret2
    exact ⟨_, rfl, fun h => absurd h HW.out, fun _ => rfl, BL1.out⟩
/-- block g holds n sets, slices of words, one by one; none lies in g or below lo -/
structure SetsAt (lo : Nat) (w : World) (g n : Nat) (P : Nat → Nat → Bool) (vs : List Value) : Prop where
  out : Blk 0 w g vs
  len : vs.length = n
  row : ∀ (i : Nat) v, vs[i]? = some v → ∃ T l, Sub T (Upto w.heap.size) ∧ (∀ k, T k → lo ≤ k) ∧ ¬ T g ∧ SetIs l (P i) ∧ RdU w T l v
section
variable {lo g n : Nat} {w w' : World} {P : Nat → Nat → Bool} {vs : List Value}
theorem SetsAt.below (h : SetsAt lo w g n P vs) (hb : Below w.heap.size w w') : SetsAt lo w' g n P vs :=
  ⟨h.out.below hb, h.len, fun i v hi => by
    obtain ⟨T, l, h1, h2, h3, h4, h5⟩ := h.row i v hi
    exact ⟨T, l, h1.lift hb.size, h2, h3, h4, h5.keep Flat.keeps (Sub.refl _) (same_of_below hb h1)⟩⟩
theorem SetsAt.congr (h : SetsAt lo w g n P vs) {Q : Nat → Nat → Bool} (e : ∀ i j, i < n → P i j = Q i j) : SetsAt lo w g n Q vs :=
  ⟨h.out, h.len, fun i v hi => by
    obtain ⟨T, l, h1, h2, h3, h4, h5⟩ := h.row i v hi
    exact ⟨T, l, h1, h2, h3, h4.congr (fun j => e i j (by rw [← h.len]; exact (List.getElem?_eq_some_iff.1 hi).1)), h5⟩⟩
theorem SetsAt.nil (lo : Nat) (h : Blk 0 w g (List.replicate n (.slice none 0 0))) : SetsAt lo w g n (fun _ _ => false) (List.replicate n (.slice none 0 0)) :=
  ⟨h, by simp, fun i v hi => by
    rw [List.getElem?_replicate] at hi
    split at hi
    · injection hi with hi; subst hi
      exact ⟨Nowhere, [], Sub.nowhere _, fun _ h => h.elim, fun h => h, SetIs.nil, RdL.nil (by unfold maxLen; omega)⟩
    · cases hi⟩
theorem SetsAt.mono (h : SetsAt lo w g n P vs) {lo' : Nat} (hl : lo' ≤ lo) : SetsAt lo' w g n P vs :=
  ⟨h.out, h.len, fun i v hi => by
    obtain ⟨T, l, h1, h2, h3, h4⟩ := h.row i v hi
    exact ⟨T, l, h1, fun k hk => Nat.le_trans hl (h2 k hk), h3, h4⟩⟩
theorem SetsAt.at_ (h : SetsAt lo w g n P vs) {i : Nat} (hi : i < n) : ∃ T l A cap, Sub T (Upto w.heap.size) ∧ (∀ k, T k → lo ≤ k) ∧ ¬ T g ∧ SetIs l (P i) ∧ RdU w T l (.slice A l.length cap) ∧ w.cell? ⟨g, i, none⟩ = some (.slice A l.length cap) ∧ vs[i]? = some (.slice A l.length cap) := by
  have hlt : i < vs.length := by rw [h.len]; exact hi
  have e : vs[i]? = some vs[i] := List.getElem?_eq_getElem hlt
  obtain ⟨T, l, h1, h2, h3, h4, h5⟩ := h.row i _ e
  obtain ⟨A, cap, hv, _⟩ := h5.form
  have hc := h.out.cell i _ e
  rw [hv] at h5 hc e
  exact ⟨T, l, A, cap, h1, h2, h3, h4, h5, hc, e⟩
/-- a set is stored -/
theorem SetsAt.set (h : SetsAt lo w g n P vs) {i : Nat} (hi : i < n) {T : Blocks} {l : List Nat} {v : Value} {Q : Nat → Bool} (h1 : Sub T (Upto w.heap.size)) (h2 : ∀ k, T k → lo ≤ k) (h3 : ¬ T g) (h4 : SetIs l Q) (h5 : RdU w T l v) :
    SetsAt lo (w.setCell ⟨g, i, none⟩ v) g n (fun j => if j = i then Q else P j) (vs.set i v) := by
  have hlt : i < vs.length := by rw [h.len]; exact hi
  refine ⟨h.out.set hlt v, by rw [List.length_set]; exact h.len, fun j u hj => ?_⟩
  rw [List.getElem?_set] at hj
  by_cases e : i = j
  · subst e
    rw [if_pos rfl, if_pos hlt] at hj
    injection hj with hj; subst hj
    exact ⟨T, l, by rw [size_setCell]; exact h1, h2, h3, by rw [if_pos rfl]; exact h4, h5.stored Flat.keeps (p := ⟨g, i, none⟩) h3 v⟩
  · rw [if_neg e] at hj
    obtain ⟨U, m, a1, a2, a3, a4, a5⟩ := h.row j u hj
    exact ⟨U, m, by rw [size_setCell]; exact a1, a2, a3, by rw [if_neg (fun h => e h.symm)]; exact a4, a5.stored Flat.keeps (p := ⟨g, i, none⟩) a3 v⟩
/-- blocks below lo other than g do not matter -/
theorem SetsAt.low {T : Blocks} (h : SetsAt lo w g n P vs) (hb : But T w w') (h1 : ¬ T g) (h2 : ∀ k, T k → k < lo) : SetsAt lo w' g n P vs :=
  ⟨h.out.but hb h1, h.len, fun i v hi => by
    obtain ⟨U, l, a1, a2, a3, a4, a5⟩ := h.row i v hi
    exact ⟨U, l, a1.lift hb.size, a2, a3, a4, a5.keep Flat.keeps (Sub.refl _) (hb.same a1 (fun k hk ht => by have := a2 k hk; have := h2 k ht; omega))⟩⟩
end
end Go.Proofs.YtknaoianhjeccaaDoor
