/- The walk of graph.edges: in a loop, a range over a function whose body appends a pair to a row in a box. -/
import Derived.Test.YtknaoianhjeccaaDoorGs2
import Derived.Test.YtknaoianhjeccaaDoorMks
import Derived.Test.YtknaoianhjeccaaDoorClSpec
import Derived.Test.YtknaoianhjeccaaDoorPairRow
import Derived.Test.YtknaoianhjeccaaDoorGrSpec3
import Derived.RangeFuncBox
namespace Go.Proofs.YtknaoianhjeccaaDoor
open Go.RowKit Go.Shelf
set_option linter.unusedVariables false
attribute [local go_sem] Oper.semAt_some
theorem infoEd : (Tryd.prog.info? 49).map (fun i => (i.zero, i.size, i.bytes)) = some (some (.agg #[.int .i64 0, .int .i64 0]), 2, 16) := by kernel_rfl
/-- a row of sets: row i has the numbers for which P i holds -/
def SetsR (w : World) (B : Nat) (n : Nat) (P : Nat → Nat → Bool) (v : Value) : Prop := ∃ A cap, v = .slice A n cap ∧ n ≤ cap ∧ cap ≤ maxLen ∧ n ≤ 200 ∧ ∀ i, i < n → ∃ b off T l A' c', A = some ⟨b, off, none⟩ ∧ b < B ∧ Sub T (Upto B) ∧ SetIs l (P i) ∧ RdU w T l (.slice A' l.length c') ∧ w.cell? ⟨b, off + i, none⟩ = some (.slice A' l.length c')
theorem SetsR.below {w w' : World} {B n : Nat} {P : Nat → Nat → Bool} {v : Value} (h : SetsR w B n P v) (hb : Below B w w') : SetsR w' B n P v := by
  obtain ⟨A, cap, e, h1, h2, hn, h⟩ := h
  refine ⟨A, cap, e, h1, h2, hn, fun i hi => ?_⟩
  obtain ⟨b, off, T, l, A', c', h1, h2, h3, h4, h5, h6⟩ := h i hi
  exact ⟨b, off, T, l, A', c', h1, h2, h3, h4, h5.keep Flat.keeps (Sub.refl _) (same_of_below hb h3), (hb.cell (p := ⟨b, off + i, none⟩) h2).trans h6⟩
def encE (x : Nat × Nat) : List Value := [.int .i64 (x.1 : Int), .int .i64 (x.2 : Int)]
def cellsE (l : List (Nat × Nat)) : List Value := l.flatMap encE
theorem cellsE_snoc (l : List (Nat × Nat)) (x : Nat × Nat) : cellsE (l ++ [x]) = cellsE l ++ encE x := by unfold cellsE; rw [List.flatMap_append]; simp
theorem own_readsE {W : World} {base : Nat} {l : List (Nat × Nat)} {v : Value} (h : W.ownsRow base 49 2 v l.length (cellsE l)) (hl : ∀ x ∈ l, inI (x.1 : Int) ∧ inI (x.2 : Int)) (hb : l.length * 16 ≤ 140737488355328) :
    RdP W (Plus Nowhere base W.heap.size) (l.map ceE) v := by
  have ho : OwnP 49 W base Nowhere (l.map ceE) v := by
    refine ⟨Nowhere, l.map encE, Sub.refl _, Sub.nowhere _, fun _ _ h => h, by simp, fun cs hc => ?_, ?_, fun i e cs hi hc => ?_⟩
    · obtain ⟨x, _, rfl⟩ := List.mem_map.1 hc; rfl
    · rw [List.length_map]; exact h
    · rw [List.getElem?_map] at hi hc
      obtain ⟨x, hx, rfl⟩ := Option.map_eq_some_iff.1 hi
      rw [hx] at hc
      simp at hc; subst hc
      exact ⟨rfl, hl x (List.mem_of_getElem? hx)⟩
  exact ho.toRd (bytes := 16) Flat.keeps (by simpa using hb) (Sub.nowhere _) (fun b h1 h2 => .inr ⟨h1, h2⟩)
set_option maxHeartbeats 1600000 in
set_option maxRecDepth 100000 in
theorem edges_any (n : Nat) (P : Nat → Nat → Bool) (hP : ∀ i m, n ≤ m → P i m = false) (w : World) (v : Value) (hT : Tab w) (r : SetsR w w.heap.size n P v) :
    Calls Tryd.prog 14 #[v] w fun e w' => ∃ u, e = .returned u ∧ RdP w' (Plus Nowhere w.heap.size w'.heap.size) ((edgU (rowP n P) n).map ceE) u ∧ Below w.heap.size w w' := by
  obtain ⟨A, cap, rfl, hl, hcm, hn, hrow⟩ := r
  have R := Lib.hid hrow
  have HT := Lib.hid hT
  have HP := Lib.hid hP
  clear hrow hT hP
  obtain ⟨i0, hi, hz0, hz1, hz2⟩ := info_parts infoEd
  refine (callsIn_wide (n := 3)).1 ?_
  refine callsIn_of_wp_marks Tryd.func14 rfl trivial ?_ rfl
  simp only [Tryd.ntmps14, List.size_toArray, List.length_cons, List.length_nil, Nat.reduceAdd, Nat.reduceSub, Array.replicate_succ, Array.replicate_zero, List.push_toArray, List.append_toArray, List.nil_append, List.cons_append]
  gi_wp2
  have hB0 : Boxed (w.alloc (.cells #[.slice none 0 0] 22)) w.heap.size 22 (.slice none 0 0) := Boxed.new _ _ _
  have hBel : Below w.heap.size w (w.alloc (.cells #[.slice none 0 0] 22)) := (Below.refl _ _).alloc (Nat.le_refl _) _
  have hsz : w.heap.size < (w.alloc (.cells #[.slice none 0 0] 22)).heap.size := by simp
  have hg0 : 0 < w.heap.size := HT.out.2
  generalize w.alloc (.cells #[.slice none 0 0] 22) = W0 at *
  refine wpIn_loop (fun a' wr => ∃ (u4 u5 u9 u10 u11 u12 u13 u14 u15 u23 : Value) (ds : List Deferred), (∃ i : Nat, i ≤ n ∧ u9 = .int .i64 i ∧ ∃ v, Boxed wr w.heap.size 22 v ∧ wr.ownsRow w.heap.size 49 2 v (edgU (rowP n P) i).length (cellsE (edgU (rowP n P) i)) ∧
      Below w.heap.size w wr ∧ w.heap.size < wr.heap.size ∧ Marks w.heap.size wr ds) ∧ a' = { tmps := #[.slice A n cap, undef, .slice none 0 0, .pointer (some ⟨w.heap.size, 0, none⟩), u4, u5, undef, .slice A n cap, .int .i64 (n : Int), u9, u10, u11, u12, u13, u14, u15, undef, undef, undef, undef, undef, undef, undef, u23, undef], defers := ds }) (fun a' _ => n - (intOf (a'.tmps.getD 9 undef)).toNat) ?start ?round
  case start =>
    (repeat apply Exists.intro)
    refine ⟨⟨0, by omega, rfl, _, hB0, World.ownsRow_nil _ _ _ _, hBel, hsz, Marks.nil _ _⟩, rfl⟩
  case round =>
    clear hB0 hBel hsz
    rintro a' wr ⟨u4, u5, u9, u10, u11, u12, u13, u14, u15, u23, ds, ⟨i, hin, rfl, v, hv, hown, hbel, hsz, hM⟩, rfl⟩
    try dsimp only
    by_cases hlt : i < n
    · obtain ⟨b, off, T, l, A', c', rfl, hb, hTs, hset, hrd, hce⟩ := R.out i hlt
      have e0 := (hbel.cell (p := ⟨b, off + i, none⟩) hb).trans hce
      have hmem : memB l l.length = rowP n P i := hset.mem (HP.out i)
      have hrl := rowP_len n P i
      have hel := edgU_len (rowP n P) n (rowP_len n P) i
      have hll : l.length ≤ maxLen := by
        obtain ⟨_, _, e9, q1, q2, _⟩ := hrd.form
        injection e9 with _ _ e9
        omega
      clear hce
      gi_wp2
      refine ⟨trivial, ?_⟩
      refine (all_in _ _ _ _ _).mono ?_
      rintro e w2 ⟨rfl, rfl⟩
      gi_wp2
      have b1 : Below w.heap.size w ((wr.alloc (.cells #[.int .i64 (i : Int)] 3)).alloc (.cells #[.slice A' l.length c'] 53)) := (hbel.alloc hbel.size _).alloc (by have := hbel.size; simp; omega) _
      have b2 : Below wr.heap.size wr ((wr.alloc (.cells #[.int .i64 (i : Int)] 3)).alloc (.cells #[.slice A' l.length c'] 53)) := ((Below.refl _ _).alloc (Nat.le_refl _) _).alloc (by simp) _
      have hcS : (((wr.alloc (.cells #[.int .i64 (i : Int)] 3)).alloc (.cells #[.slice A' l.length c'] 53))).cell? ⟨wr.heap.size + 1, 0, none⟩ = some (.slice A' l.length c') := by
        have := (Boxed.new (wr.alloc (.cells #[.int .i64 (i : Int)] 3)) 53 (.slice A' l.length c')).cell
        rwa [show (wr.alloc (.cells #[.int .i64 (i : Int)] 3)).heap.size = wr.heap.size + 1 by simp] at this
      have hvb : Boxed ((wr.alloc (.cells #[.int .i64 (i : Int)] 3)).alloc (.cells #[.slice A' l.length c'] 53)) w.heap.size 22 v := (hv.alloc _).alloc _
      have hib : Boxed ((wr.alloc (.cells #[.int .i64 (i : Int)] 3)).alloc (.cells #[.slice A' l.length c'] 53)) wr.heap.size 3 (.int .i64 (i : Int)) := (Boxed.new wr 3 (.int .i64 (i : Int))).alloc _
      have how : (((wr.alloc (.cells #[.int .i64 (i : Int)] 3)).alloc (.cells #[.slice A' l.length c'] 53))).ownsRow w.heap.size 49 2 v (edgU (rowP n P) i).length (cellsE (edgU (rowP n P) i)) := (hown.alloc _).alloc _
      have REW := Lib.hid (hrd.keep Flat.keeps (Sub.refl _) (same_of_below b1 hTs))
      have TW := HT.out.go b1
      have hsz0 : (((wr.alloc (.cells #[.int .i64 (i : Int)] 3)).alloc (.cells #[.slice A' l.length c'] 53))).heap.size = wr.heap.size + 1 + 1 := by simp
      have hMB := (hM.below b2).held (Nat.le_refl _)
      obtain ⟨W0, hW0⟩ : ∃ W0, ((wr.alloc (.cells #[.int .i64 (i : Int)] 3)).alloc (.cells #[.slice A' l.length c'] 53)) = W0 := ⟨_, rfl⟩
      rw [hW0] at hcS hvb hib how b1 REW TW hsz0 hMB ⊢
      clear hW0 b2
      have htop := Nat.le_of_eq hsz0
      have htop2 := Nat.le_of_eq hsz0.symm
      have hzw := b1.size
      clear hsz0
      have HTS := Lib.hid hTs
      have HMEM := Lib.hid hmem
      clear hTs hmem hM hown hv hbel hrd
      refine wpIn_rangeFunc_ownH rfl (by omega) (gf := 30) (lb := #[.pointer (some ⟨wr.heap.size + 1, 0, none⟩)]) rfl trivial (enters_of Tryd.func30 (by kernel_rfl) rfl)
        (all_stops _ (by omega) (wr.heap.size + 1) w.heap.size A' c' l T HTS.out W0 (by omega) hzw TW hg0 hcS REW.out) belowK_t (belowK_b hzw) (Below.refl _ _) (fun _ => rfl)
        (fun pre W => ((∃ v, Boxed W w.heap.size 22 v ∧ W.ownsRow w.heap.size 49 2 v (edgU (rowP n P) i ++ pre.map fun m => (i, m)).length (cellsE (edgU (rowP n P) i ++ pre.map fun m => (i, m))) ∧ True) ∧ Boxed W wr.heap.size 3 (.int .i64 (i : Int))) ∧ (MarksB w.heap.size W0.heap.size W ds ∧ Below w.heap.size w W))
        (fun c pre W => False)
        (OwnFrom.and (OwnFrom.and (Own.from (holdsRow_own w.heap.size w.heap.size 22 49 2 (fun pre : List Nat => (edgU (rowP n P) i ++ pre.map fun m => (i, m)).length) (fun pre => cellsE (edgU (rowP n P) i ++ pre.map fun m => (i, m))) (fun _ _ => True)) _) (fun _ _ _ _ hs hg hr => hs.kept hg (fun e => by have := (hr _ e.symm).1; omega)))
          (OwnFrom.and (MarksB.from _ _ _) (ownFrom_below (Nat.le_refl _) hzw)))
        (fun c => fun _ _ _ _ h _ _ => h)
        ⟨⟨⟨_, hvb, by simpa using how, trivial⟩, hib⟩, hMB, b1⟩
        (fun x a' W => a' = { tmps := #[.slice (some ⟨b, off, none⟩) n cap, undef, .slice none 0 0, .pointer (some ⟨w.heap.size, 0, none⟩), .pointer (some ⟨wr.heap.size, 0, none⟩), .slice A' l.length c', .int .i64 (x : Int), .slice (some ⟨b, off, none⟩) n cap, .int .i64 (n : Int), .int .i64 (i : Int), .bool true, .int .i64 (i : Int), .pointer (some ⟨b, off + i, none⟩), .slice A' l.length c', .slice A' l.length c',
          .func (.func 30) #[] #[.pointer (some ⟨wr.heap.size + 1, 0, none⟩)], .int .i64 (x : Int), undef, undef, undef, undef, undef, undef, u23, undef], defers := [] })
        (fun x a' _ X Y row hs hg hr => hs)
        ?assign ?body ?done ?stop
      case assign =>
        rintro l' pre x W K hI hK
        gi_wp2
        exact hK _ _ (KeepsFrom.refl _ _) (Below.refl _ _) hI rfl
      case body =>
        rintro l' pre x a' W hl' ⟨r, hr⟩ ⟨⟨⟨v, hv, hrow, _⟩, hib⟩, hMB, hB1⟩ rfl hlt2
        have hsz2 := hB1.size
        have cv := hv.cell
        have fv := hv.frozen
        have ci := hib.cell
        have hpl : pre.length < n := by
          rw [HMEM.out] at hlt2
          omega
        have hedl := edgU_len (rowP n P) n (rowP_len n P) i
        have hin2 : i * n ≤ 200 * 200 := Nat.mul_le_mul (by omega) hn
        have HLEN := Lib.hid (show (edgU (rowP n P) i ++ pre.map fun m => (i, m)).length = (edgU (rowP n P) i).length + pre.length by simp)
        have HC := Lib.hid (Blk.made W (encE (i, x)) 49 (base := 0) (Nat.zero_le _)).cell
        gi_wp2_with (gi_at_builtin; refine wpListIn_append_own _ rfl _ _ 22 rfl w.heap.size 49 i0 _ 2 16 Tryd.underlying22 hi hz0 hz1 hz2 rfl (by decide) v (edgU (rowP n P) i ++ pre.map fun m => (i, m)).length (cellsE (edgU (rowP n P) i ++ pre.map fun m => (i, m))) ?hs (hrow.alloc _) ⟨W.heap.size, 0, none⟩ 1 1 (encE (i, x)) ?hx rfl ?hc ?h1c ?m1 ?m2 ?m3 ?_)
        case hs => rfl
        case hx => rfl
        case hc =>
          intro j u hj
          rw [show (⟨W.heap.size, 0, none⟩ : Addr).add j = ⟨W.heap.size, j, none⟩ from by unfold Addr.add; split <;> simp_all]
          exact HC.out j u hj
        case h1c => intro u hu; simp [encE] at hu; rcases hu with rfl | rfl <;> rfl
        case m1 => rw [HLEN.out]; unfold maxLen; omega
        case m2 => rw [HLEN.out]; omega
        case m3 => simp; omega
        intro v' w1 hown' hgrow _
        obtain ⟨hx1, hx2, hx3, hx4, hx5⟩ := hv.appended (by decide) hrow hsz2 (Nat.le_refl _) hown' hgrow
        obtain ⟨g, c, rfl⟩ := ownsRow_succ hown'
        have cv1 := hx1.cell
        have fv1 := hx1.frozen
        have HIB2 := Lib.hid (show ∀ u, Boxed (w1.setCell ⟨w.heap.size, 0, none⟩ u) wr.heap.size 3 (.int .i64 (i : Int)) from by
          intro u
          have h0 := (hib.alloc _).kept hgrow (fun e => by
            rcases hrow.2 with ⟨e9, _⟩ | ⟨g', cap', cur', e9, _, hgb, _⟩
            · rw [e9] at e; simp [Value.ownBlock] at e
            · rw [e9] at e
              obtain rfl : wr.heap.size = g' := by simpa [Value.ownBlock] using e
              rw [show W.heap[wr.heap.size]? = _ from hib] at hgb
              simp at hgb)
          exact h0.kept (grownBy_setCell' _ _ _) (fun e => by injection e with e; omega))
        clear hown' hgrow
        gi_wp2
        have e1 : edgU (rowP n P) i ++ (pre ++ [x]).map (fun m => (i, m)) = (edgU (rowP n P) i ++ pre.map fun m => (i, m)) ++ [(i, x)] := by simp
        have e2 : (edgU (rowP n P) i ++ (pre ++ [x]).map (fun m => (i, m))).length = (edgU (rowP n P) i).length + pre.length + 1 := by simp; omega
        exact ⟨hx4.from _, hx5, ⟨⟨⟨_, hx2, by rw [e2, e1, cellsE_snoc]; simpa using hx3, trivial⟩, HIB2.out _⟩, hMB.keeps hx4, hB1.trans hx5⟩⟩
      case done =>
        rintro D ys W hD hys ⟨⟨⟨v, hv, hrow, _⟩, hib⟩, hMB, hB1⟩ hK
        have e1 : edgU (rowP n P) i ++ ys.map (fun m => (i, m)) = edgU (rowP n P) (i + 1) := by
          have : ys = memB l l.length := hys
          rw [edgU_succ, this, HMEM.out]
        rw [e1] at hrow
        have hM2 := hMB.more (by omega) hD hK
        have hzD := (Array.getElem?_eq_some_iff.1 hK).1
        clear hib hMB hK e1
        gi_wp2
        refine ⟨?rel, ?measure⟩
        case rel =>
          (repeat apply Exists.intro)
          refine ⟨?_, rfl⟩
          exact ⟨i + 1, by omega, by go_num, v, hv, hrow, hB1, by omega, hM2⟩
        case measure => simp [intOf]; omega
      case stop =>
        rintro D c' pre W hD hpre h hK
        exact h.elim
    · have hie : i = n := by omega
      subst hie
      have cv := hv.cell
      have hel := edgU_len (rowP i P) i (rowP_len i P) i
      have hin2 : i * i ≤ 200 * 200 := Nat.mul_le_mul (by omega) (by omega)
      gi_wp2
      refine leaves_all hM (J := fun W => W.ownsRow w.heap.size 49 2 v (edgU (rowP i P) i).length (cellsE (edgU (rowP i P) i)) ∧ Below w.heap.size w W) ?_ ⟨hown, hbel⟩ ?_
      · rintro _ W W' row ⟨h1, h2⟩ hg hr
        refine ⟨h1.kept hg ?_, h2.grown hg h2.size (fun k e => (hr k e).1)⟩
        rcases h1.2 with ⟨rfl, _⟩ | ⟨g, cap9, cur, rfl, _, hgb, _⟩
        · exact .inl rfl
        · refine .inr fun e' => ?_
          obtain ⟨_, o, ho, hc⟩ := hr g (by simpa [Value.ownBlock] using e'.symm)
          rw [hgb] at ho; cases ho; cases hc
      · rintro W ⟨h1, h2⟩
        refine ⟨v, ?_, v, rfl, own_readsE h1 (fun x hx => ?_) (by omega), h2⟩
        · simp [results, Tryd.f14, go_sem]
        · obtain ⟨a, b⟩ := x
          obtain ⟨q1, q2⟩ := edgU_mem hx
          obtain ⟨q3, _⟩ := rowP_mem q2
          unfold inI; omega
end Go.Proofs.YtknaoianhjeccaaDoor
