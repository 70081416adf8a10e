/- The walk of greedy.Rounds (printed in part by a program out of the walk of graph.take). -/
import Derived.Test.YtkpjomoofopeaaaDoorGr2
import Derived.Test.YtkpjomoofopeaaaDoorGr6
import Derived.Test.YtkpjomoofopeaaaDoorHp3
import Derived.Test.YtkpjomoofopeaaaDoorGdSpec
import Derived.Test.YtkpjomoofopeaaaDoorNxStep
import Derived.Test.YtkpjomoofopeaaaDoorPairRow
import Derived.Deep.RegionLaw
namespace Go.Proofs.YtkpjomoofopeaaaDoor
open Go.RowKit
set_option linter.unusedVariables false
def rdI1 (w : World) (S : Blocks) (l : List Int) (cs : List Value) : Prop := ∃ v, cs = [v] ∧ RdI w S l v
theorem rdI1_keeps : Keeps rdI1 := fun w w' S S' x cs hS hk h => by
  obtain ⟨v, h1, h2⟩ := h
  exact ⟨v, h1, h2.keep Flat.keeps hS hk⟩
abbrev RdIs := RdL rdI1 1 24
/-- how things stand behind q edges -/
def Aft2 (N : Nat) (es : List (Nat × Nat)) (w : World) (h : Nat) (A : Option Addr) (cap q : Nat) (wr : World) : Prop := ∃ vs : List Value,
  Hid (Blk 0 wr w.heap.size [.int .i64 (N : Int), .slice A es.length cap]) ∧ Hid (Blk 0 wr h (rowN N (wtE (es.take q) []))) ∧
  Hid (NextT (h + 1 + 1) wr (h + 1) N (nxI (es.take q)) vs) ∧ Below w.heap.size w wr ∧ h + 1 + 1 ≤ wr.heap.size
theorem But.newer {T U : Blocks} {a b c : World} (h : But T a b) (k : But U b c) (hU : ∀ i, i < a.heap.size → U i → T i) : But T a c :=
  ⟨k.os.trans h.os, k.tape.trans h.tape, k.output.trans h.output, Nat.le_trans h.size k.size, fun i hi ht => (k.block i (Nat.lt_of_lt_of_le hi h.size) (fun hn => ht (hU i hi hn))).trans (h.block i hi ht)⟩
/-- a row of the call's own, while others' blocks turn -/
theorem OwnL.but2 {α : Type} {rd : World → Blocks → α → List Value → Prop} {size : Nat} {E : TypeId} {w w' : World} {base : Nat} {S T : Blocks} {l : List α} {v : Value} (h : OwnL rd size E w base S l v) (hr : Keeps rd) (hb : But T w w') (hv : ∀ k, v.ownBlock = some k → ¬ T k) (hS : ∀ k, S k → ¬ T k) : OwnL rd size E w' base S l v := by
  obtain ⟨U, css, t1, t2, t3, h1, h2, h3, h4⟩ := h
  refine ⟨U, css, t1, t2.lift hb.size, t3, h1, h2, ?_, fun i e cs a b => hr _ _ _ _ _ _ (Sub.refl _) (hb.same t2 (fun k hk => hS k (t1 k hk))) (h4 i e cs a b)⟩
  obtain ⟨e, h3⟩ := h3
  refine ⟨e, ?_⟩
  rcases h3 with h3 | ⟨g, cap, cur, rfl, hbg, hg, hn, hcap, hsz, htake⟩
  · exact .inl h3
  · refine .inr ⟨g, cap, cur, rfl, hbg, ?_, hn, hcap, hsz, htake⟩
    rw [hb.block g (Array.getElem?_eq_some_iff.1 hg).1 (hv g rfl)]; exact hg
/-- what a take of k has left -/
theorem taken_now {N k : Nat} {es : List (Nat × Nat)} {D : List Nat} {l T r : List Int} (hl : HpIs N (fun m => decide (m < N) && rdyE es D m) l) (K : Taken l T r) (hT : T.length = min k l.length) :
    T = castL (nowL N es k D) ∧ HpIs N (gkS N es D (nowL N es k D) D) r := by
  have e0 : (List.range N).filter (fun m => decide (m < N) && rdyE es D m) = rdyL N es D := List.filter_congr fun m hm => by rw [decide_eq_true (List.mem_range.1 hm), Bool.true_and]
  unfold HpIs at hl
  rw [e0] at hl
  have hlen : l.length = (rdyL N es D).length := by rw [hl.length_eq, List.length_map]
  have hup : (castL (rdyL N es D)).Pairwise (· < ·) := by
    unfold castL
    rw [List.pairwise_map]
    exact (rdyL_up N es D).imp fun h => by omega
  obtain ⟨h1, h2⟩ := taken_first (S := castL (rdyL N es D)) ⟨K.1.trans hl, K.2⟩ hup
  have ht : (castL (rdyL N es D)).take T.length = castL (nowL N es k D) := by
    unfold nowL castL
    rw [← List.map_take, hT, hlen]
    congr 1
    rcases Nat.le_total k (rdyL N es D).length with h | h
    · rw [Nat.min_eq_left h]
    · rw [Nat.min_eq_right h, List.take_of_length_le (Nat.le_refl _), List.take_of_length_le h]
  have hd : (castL (rdyL N es D)).drop T.length = castL ((rdyL N es D).drop k) := by
    unfold castL
    rw [← List.map_drop, hT, hlen]
    congr 1
    rcases Nat.le_total k (rdyL N es D).length with h | h
    · rw [Nat.min_eq_left h]
    · rw [Nat.min_eq_right h, List.drop_of_length_le (Nat.le_refl _), List.drop_of_length_le h]
  rw [ht] at h1
  rw [hd, drop_rest] at h2
  exact ⟨h1, h2⟩
/-- a row of numbers, up to its length -/
theorem OwnI.rdg {E : TypeId} {w : World} {base : Nat} {S : Blocks} {l : List Int} {g n cap : Nat} (h : OwnI E w base S l (.slice (some ⟨g, 0, none⟩) n cap)) (h0 : 0 < l.length) (hby : l.length * 8 ≤ 140737488355328) : RdI w (Is g) l (.slice (some ⟨g, 0, none⟩) l.length l.length) := by
  obtain ⟨g', cc, hv, _, h2, h3, h4, h5, h6⟩ := OwnI.open_ h h0
  injection hv with hA hn9 hcc
  injection hA with hA
  injection hA with hA
  subst hA
  exact ⟨_, l.length, l.map fun x => [.int .i64 x], rfl, Nat.le_refl _, Nat.le_trans h3 h4, hby, by simp, ⟨fun cs hcs => by obtain ⟨x, _, rfl⟩ := List.mem_map.1 hcs; rfl, fun _ => ⟨g, 0, rfl, rfl, fun i cs hi j v hv => by
    rw [List.getElem?_map] at hi
    obtain ⟨y, hy, rfl⟩ := Option.map_eq_some_iff.1 hi
    have hi' := (List.getElem?_eq_some_iff.1 hy).1
    have hj : j = 0 := by have := (List.getElem?_eq_some_iff.1 hv).1; simp at this; exact this
    subst hj
    simp at hv; subst hv
    have hc := (h6 i hi').2
    rw [(List.getElem?_eq_some_iff.1 hy).2] at hc
    simpa using hc⟩⟩, fun i e cs hi hc => by
    rw [List.getElem?_map, hi] at hc
    simp at hc; subst hc
    obtain ⟨q, hq, rfl⟩ := List.getElem_of_mem (List.mem_of_getElem? hi)
    exact ⟨rfl, (h6 q hq).1⟩⟩
theorem clip_any (g n cap : Nat) (hn : n ≤ cap) (hc : cap ≤ maxLen) (w : World) :
    Calls Tryd.prog 26 #[.slice (some ⟨g, 0, none⟩) n cap] w fun e w' => e = .returned (.slice (some ⟨g, 0, none⟩) n n) ∧ w = w' := by
  unfold maxLen at hc
  go_enter Tryd.func26, Tryd.ntmps26
  go_wp2
  go_ret
  exact ⟨rfl, rfl⟩
set_option maxHeartbeats 3200000 in
set_option maxRecDepth 100000 in
theorem rounds_ok (N : Nat) (hN : N ≤ 200) (k : Nat) (hk1 : 1 ≤ k) (hk2 : k ≤ 16) (es : List (Nat × Nat)) (hv : ∀ a b, (a, b) ∈ es → a < N ∧ b < N) (hr : roundE N es = false) (hw : wrongE (N : Int) (es.map ceE) = 0) (w : World) (S : Blocks) (ve : Value) (hS : Sub S (Upto w.heap.size)) (hT : Tab w) (r : RdP w S (es.map ceE) ve) :
    Calls Tryd.prog 7 #[.agg #[.int .i64 N, ve], .int .i64 (k : Int)] w fun e w' => ∃ x L, e = .returned (.tuple #[x, .int .i64 0]) ∧ RoundsIs N es k L ∧ RdIs w' (Plus Nowhere w.heap.size w'.heap.size) (L.map castL) x ∧ Below w.heap.size w w' := by
  have C0 := Lib.hid (fun (W : World) (hb : Below w.heap.size w W) => wrong_any (N : Int) (by unfold inI; omega) (es.map ceE) W S ve (hS.trans (Sub.upto hb.size)) (hT.go hb) (r.go Flat.keeps hb hS (Sub.refl _)))
  obtain ⟨A, cap, rfl, hl, hcm, hby⟩ := r.form
  unfold maxLen at hcm
  rw [List.length_map] at r hl hby C0 ⊢
  obtain ⟨i0, hi, hz0, hz1, hz2⟩ := info_parts infoII
  obtain ⟨i1, hj, hy0, hy1, hy2⟩ := info_parts infoIIs
  have hmk := fun w => run_make1 (P := Tryd.prog) 54 3 i0 _ Tryd.underlying54 hi hz0 hz1 rfl N (by rw [hz2]; omega) (by omega) w
  have hmk2 := fun w => run_make1 (P := Tryd.prog) 25 54 i1 _ Tryd.underlying25 hj hy0 hy1 rfl N (by rw [hy2]; omega) (by omega) w
  have R := Lib.hid r
  have HS := Lib.hid hS
  have HT := Lib.hid hT
  have HV := Lib.hid hv
  have HR := Lib.hid hr
  have bl : Below w.heap.size w (w.alloc (.cells #[.int .i64 (N : Int), .slice A es.length cap] 24)) := (Below.refl _ _).alloc (Nat.le_refl _) _
  have C1 := Lib.hid (C0.out (w.alloc (.cells #[.int .i64 (N : Int), .slice A es.length cap] 24)) bl)
  have B0 := Lib.hid (Blk.made w [.int .i64 (N : Int), .slice A es.length cap] 24 (base := 0) (Nat.zero_le _))
  have BL := Lib.hid bl
  have hsa : ((w.alloc (.cells #[.int .i64 (N : Int), .slice A es.length cap] 24))).heap.size = w.heap.size + 1 := by simp
  have k0 := B0.out.cell 0 _ rfl
  have k1 := B0.out.cell 1 _ rfl
  clear r hS hT hv hr C0 bl
  go_enter Tryd.func7, Tryd.ntmps7
  go_upto_region 1 with (fail)
  generalize (w.alloc (.cells #[.int .i64 (N : Int), .slice A es.length cap] 24)) = WA at *
  go_wp2_with fail
  refine C1.out.mono ?_
  rintro e w1 ⟨rfl, hb1⟩
  rw [hw]
  have B1 := Lib.hid (B0.out.below hb1)
  have BL1 := Lib.hid (BL.out.trans (hb1.mono BL.out.size))
  have hz1s := hb1.size
  clear hb1 C1 B0 BL k0 k1 hw
  have hbh : w.heap.size < w1.heap.size := by omega
  have k0 := B1.out.cell 0 _ rfl
  have k1 := B1.out.cell 1 _ rfl
  have hc1 : ¬ (k : Int) < 1 := by omega
  have hc2 : ¬ (16 : Int) < (k : Int) := by omega
  clear hz1s hsa
  go_upto_region 8 with (fail)
  clear hmk hmk2 hc1 hc2
  have bB : Below (w1).heap.size w1 ((w1).alloc (.cells (Array.replicate N (.int .i64 0)) 3)) := (Below.refl _ _).alloc (Nat.le_refl _) _
  have bC : Below (((w1).alloc (.cells (Array.replicate N (.int .i64 0)) 3))).heap.size ((w1).alloc (.cells (Array.replicate N (.int .i64 0)) 3)) ((((w1).alloc (.cells (Array.replicate N (.int .i64 0)) 3))).alloc (.cells (Array.replicate N (.slice none 0 0)) 54)) := (Below.refl _ _).alloc (Nat.le_refl _) _
  have b0 := (B1.out.below bB).below bC
  have m0 := (Blk.madeN w1 N (.int .i64 0) 3 (base := 0) (Nat.zero_le _)).below bC
  have x0 := NextT.made ((w1).alloc (.cells (Array.replicate N (.int .i64 0)) 3)) N 54 (base := w1.heap.size + 1 + 1) (by simp)
  have BL := Lib.hid (show Below w.heap.size w ((((w1).alloc (.cells (Array.replicate N (.int .i64 0)) 3))).alloc (.cells (Array.replicate N (.slice none 0 0)) 54)) from (BL1.out.trans (bB.mono (by omega))).trans (bC.mono (by simp; omega)))
  have hsz : (((((w1).alloc (.cells (Array.replicate N (.int .i64 0)) 3))).alloc (.cells (Array.replicate N (.slice none 0 0)) 54))).heap.size = w1.heap.size + 1 + 1 := by simp
  rw [show (((w1).alloc (.cells (Array.replicate N (.int .i64 0)) 3))).heap.size = w1.heap.size + 1 by simp] at x0
  rw [rowN_zero] at m0
  clear bB bC
  generalize ((((w1).alloc (.cells (Array.replicate N (.int .i64 0)) 3))).alloc (.cells (Array.replicate N (.slice none 0 0)) 54)) = W0 at *
  have HB0 := Lib.hid b0
  have HM0 := Lib.hid m0
  have HX0 := Lib.hid x0
  clear b0 m0 x0 k0 k1 B1 BL1
  have k0 := HB0.out.cell 0 _ rfl
  have k1 := HB0.out.cell 1 _ rfl
  go_wp2
  go_loopw [40] (fun t wr => ∃ q : Nat, q ≤ es.length ∧ t = .int .i64 q ∧ Aft2 N es w w1.heap.size A cap q wr) (fun t _ => es.length - (intOf t).toNat)
  case atStart =>
    refine ⟨0, by omega, rfl, List.replicate N (.slice none 0 0), HB0, ?_, ?_, BL.out, by omega⟩
    · exact Lib.hid (HM0.out.congrN fun k _ => by simp [wtE])
    · exact Lib.hid (HX0.out.congr fun i _ => by simp [nxI, nxE])
  case round =>
    obtain ⟨q, hq, rfl, vs, B1, M1, X1, BL1, hsz1⟩ := hrel
    have k0 := B1.out.cell 0 _ rfl
    have k1 := B1.out.cell 1 _ rfl
    by_cases hlt : q < es.length
    · skip
      have hlt2 : q < (es.map ceE).length := by rw [List.length_map]; exact hlt
      obtain ⟨bb, off, rfl, hbS, hok, hc1, hc2⟩ := RdP.at1 (R.out.go Flat.keeps BL1 HS.out (Sub.refl _)) hlt2
      obtain ⟨a, b, hab⟩ : ∃ a b, es[q] = (a, b) := ⟨_, _, rfl⟩
      rw [ceE_at hlt hab hlt2] at hc1 hc2
      have hmem : (a, b) ∈ es := by rw [← hab]; exact List.getElem_mem hlt
      have haN := (HV.out a b hmem).1
      have hbN := (HV.out a b hmem).2
      have htk := Lib.hid (show es.take (q + 1) = es.take q ++ [(a, b)] by rw [List.take_succ_eq_append_getElem hlt, hab])
      have hwle : wtE (es.take q) [] b ≤ 8796093022208 := by have := wtE_le (es.take q) [] b; simp at this; omega
      have hnle : (nxI (es.take q) a).length ≤ 8796093022208 := by rw [nxI_len]; have := nxE_len (es.take q) a; simp at this; omega
      simp only at hc1 hc2
      clear hok hab hmem hlt2
      have HRW := Lib.hid (fun v (h : vs[a]? = some v) => (X1.out.row a v h).lt)
      have hbx := (Below.refl wr.heap.size wr).alloc (Nat.le_refl _) (.cells #[.int .i64 (a : Int), .int .i64 (b : Int)] 56)
      have E1 := Lib.hid (Blk.made wr [.int .i64 (a : Int), .int .i64 (b : Int)] 56 (base := 0) (Nat.zero_le _))
      have M2 := Lib.hid (M1.out.below hbx)
      have B2 := Lib.hid (B1.out.below hbx)
      have X2 := Lib.hid (X1.out.below hbx)
      have BL2 := Lib.hid (BL1.trans (hbx.mono BL1.size))
      have hsz2 : w1.heap.size + 1 + 1 ≤ (wr.alloc (.cells #[.int .i64 (a : Int), .int .i64 (b : Int)] 56)).heap.size := by rw [World.size_alloc]; omega
      have hrs : wr.heap.size < (wr.alloc (.cells #[.int .i64 (a : Int), .int .i64 (b : Int)] 56)).heap.size := by rw [World.size_alloc]; omega
      clear hbx
      go_upto_region 11 with (fail)
      have e0 := E1.out.cell 0 _ rfl
      have e1 := E1.out.cell 1 _ rfl
      have m0 := M2.out.atN hbN
      have mf := M2.out.fr b
      generalize hW1 : wr.alloc (.cells #[.int .i64 (a : Int), .int .i64 (b : Int)] 56) = W1 at *
      clear hW1
      obtain ⟨y, hy⟩ : ∃ y, y = wtE (es.take q) [] b := ⟨_, rfl⟩
      rw [← hy] at m0 hwle
      have M3 := M2.out.setN (k := b) (y := y + 1) hbN
      have ey : (((y + 1 : Nat)) : Int) = (y : Int) + 1 := by omega
      rw [ey] at M3
      have HM3 := Lib.hid M3
      have hb3 : But (Is (w1.heap.size)) W1 (W1.setCell ⟨w1.heap.size, b, none⟩ (.int .i64 ((y : Int) + 1))) := (But.refl (Is (w1.heap.size)) W1).setCell (p := ⟨w1.heap.size, b, none⟩) (show Is _ _ from rfl) _
      have B3 := Lib.hid (B2.out.but hb3 (by unfold Is; omega))
      have E3 := Lib.hid (E1.out.but hb3 (by unfold Is; omega))
      have X3 := Lib.hid (X2.out.low hb3 (by unfold Is; omega) (fun k hk => by unfold Is at hk; omega))
      have BL3 := Lib.hid (BL2.out.setCell (p := ⟨w1.heap.size, b, none⟩) (by show w.heap.size ≤ w1.heap.size; omega) (.int .i64 ((y : Int) + 1)))
      have HY := Lib.hid hy
      rw [← size_setCell W1 ⟨w1.heap.size, b, none⟩ (.int .i64 ((y : Int) + 1))] at hsz2 hrs
      clear M3 ey hb3 M2 B2 X2 BL2 E1 hy M1 B1 X1
      go_upto_region 12 with (fail)
      generalize W1.setCell ⟨w1.heap.size, b, none⟩ (.int .i64 ((y : Int) + 1)) = W3 at *
      clear e0 e1 m0 mf k0 k1 hc1 hc2
      have HKEY := Lib.hid (show ∀ (Ai : Option Addr) (ci : Nat) (v' : Value) (w2 : World), vs[a]? = some (.slice Ai (nxI (es.take q) a).length ci) → OwnI 3 w2 (w1.heap.size + 1 + 1) Nowhere (nxI (es.take q) a ++ [(b : Int)]) v' →
          (W3.alloc (.cells #[.int .i64 (b : Int)] 3)).drew.grownBy w2 (Value.slice Ai (nxI (es.take q) a).length ci).ownBlock →
          (v'.ownBlock = (Value.slice Ai (nxI (es.take q) a).length ci).ownBlock ∨ v'.ownBlock = some (W3.alloc (.cells #[.int .i64 (b : Int)] 3)).drew.heap.size) →
          Aft2 N es w w1.heap.size (some ⟨bb, off, none⟩) cap (q + 1) (w2.setCell ⟨w1.heap.size + 1, a, none⟩ v') from by
        intro Ai ci v' w2 hvs ho1 hg1 hw1
        have hbl := (Below.refl W3.heap.size W3).alloc (Nat.le_refl _) (.cells #[.int .i64 (b : Int)] 3) |>.drew
        have hvl := (X3.out.row a _ hvs).lt
        have hbg := (But.of_below hbl).trans ((But.of_grown hg1).sub (U := fun k => (Value.slice Ai (nxI (es.take q) a).length ci).ownBlock = some k) (fun _ h => h))
        have X5 := (X3.out.below hbl).app hvs hg1 ho1 hw1 (Nat.le_refl _)
        refine ⟨_, Lib.hid ((B3.out.but hbg (fun e => by have := hvl _ e; omega)).other (p := ⟨w1.heap.size + 1, a, none⟩) (by show w1.heap.size + 1 ≠ w.heap.size; omega) _),
          Lib.hid (((HM3.out.but hbg (fun e => by have := hvl _ e; omega)).other (p := ⟨w1.heap.size + 1, a, none⟩) (by show w1.heap.size + 1 ≠ w1.heap.size; omega) _).congrN fun k _ => ?_), Lib.hid (X5.congr fun i _ => ?_), (BL3.out.trans (hbg.below BL3.out.size (fun k e => by have := hvl _ e; omega))).setCell (p := ⟨w1.heap.size + 1, a, none⟩) (by show w.heap.size ≤ w1.heap.size + 1; omega) _, by rw [size_setCell]; exact Nat.le_trans hsz2 hbg.size⟩
        · rw [htk.out, wtE_snoc]
          by_cases e : k = b
          · subst e; rw [if_pos rfl, if_pos rfl, HY.out]
          · rw [if_neg e, if_neg (fun h => e h.symm)]
        · rw [htk.out]
          unfold nxI
          rw [nxE_snoc]
          by_cases e : i = a
          · subst e; rw [if_pos rfl, if_pos rfl, List.map_append]; rfl
          · rw [if_neg e, if_neg (fun h => e h.symm)])
      have e0 := E3.out.cell 0 _ rfl
      have e1 := E3.out.cell 1 _ rfl
      obtain ⟨Ai, ci, hvs, hx, ho⟩ := X3.out.at_ haN
      have hbl := (Below.refl W3.heap.size W3).alloc (Nat.le_refl _) (.cells #[.int .i64 (b : Int)] 3) |>.drew
      have H2d := Lib.hid (ho.keep Flat.keeps hbl)
      have HRD := Lib.hid (show RdI (W3.alloc (.cells #[.int .i64 (b : Int)] 3)).drew (fun _ => True) [(b : Int)] (.slice (some ⟨W3.heap.size, 0, none⟩) 1 1) from rd_one (enc := encI) (x := (b : Int)) rfl (cells_newAt W3 [.int .i64 (b : Int)] 3 rfl) (by unfold inI; omega) trivial (by decide))
      have E4 := Lib.hid (E3.out.below hbl)
      have X4 := Lib.hid (X3.out.below hbl)
      have M4 := Lib.hid (HM3.out.below hbl)
      have B4 := Lib.hid (B3.out.below hbl)
      have BL4 := Lib.hid (BL3.out.trans (hbl.mono BL3.out.size))
      have m1 := Lib.hid (show (nxI (es.take q) a).length + [(b : Int)].length ≤ maxLen by unfold maxLen; simp; omega)
      have m2 := Lib.hid (show ((nxI (es.take q) a).length + [(b : Int)].length) * 8 ≤ 140737488355328 by simp; omega)
      have HBB := Lib.hid (show w1.heap.size + 1 + 1 ≤ (W3.alloc (.cells #[.int .i64 (b : Int)] 3)).drew.heap.size from Nat.le_trans hsz2 hbl.size)
      have HND := Lib.hid (show (Value.slice Ai (nxI (es.take q) a).length ci).ownBlock ≠ some (w1.heap.size + 1) from fun e => by have := (ho.lt _ e).1; omega)
      have HNE := Lib.hid (show (Value.slice Ai (nxI (es.take q) a).length ci).ownBlock ≠ some wr.heap.size from fun e => by have := (HRW.out _ hvs _ e).2; omega)
      have HOL := Lib.hid (ho.lt)
      have ha0 : (W3.alloc (.cells #[.int .i64 (b : Int)] 3)).cell? ⟨w1.heap.size + 1, a, none⟩ = some (.slice Ai (nxI (es.take q) a).length ci) := X4.out.out.cell a _ hvs
      have ha1 : (W3.alloc (.cells #[.int .i64 (b : Int)] 3)).cell? ⟨wr.heap.size, 0, none⟩ = some (.int .i64 (a : Int)) := E4.out.cell 0 _ rfl
      clear hbl ho
      go_region_law ((refine step_append_list (by rfl) (.tmp 58) (.tmp 61) 54 (by rfl) (by rfl) (by rfl) i0 _ Tryd.underlying54 hi hz0 hz1 hz2 rfl (by decide) Flat.keeps (l := nxI (es.take q) a) (m := [(b : Int)]) (base := w1.heap.size + 1 + 1) (S := Nowhere) (Tx := Nowhere) (U := fun _ => True) (v := .slice Ai (nxI (es.take q) a).length ci) (RdL.bare HRD.out _) H2d.out (Sub.nowhere _) (Sub.nowhere _) not_nowhere oneI m1.out m2.out HBB.out ?_; intro v' w2 ho1 hg1 hw1; obtain ⟨A', c', rfl⟩ := ho1.form; have q0 : w2.cell? ⟨w1.heap.size + 1, a, none⟩ = some (.slice Ai (nxI (es.take q) a).length ci) := grown_cell hg1 (X4.out.out.cell a _ hvs) HND.out; have qf : w2.frozen? ⟨w1.heap.size + 1, a, none⟩ = false := grown_frozen hg1 (X4.out.out.fr a) X4.out.out.lt HND.out; have q1 : w2.cell? ⟨wr.heap.size, 0, none⟩ = some (.int .i64 (a : Int)) := grown_cell hg1 (E4.out.cell 0 _ rfl) HNE.out))
      all_goals
        have hkey := HKEY.out _ _ _ _ hvs ho1 hg1 hw1
        rw [show (nxI (es.take q) a ++ [(b : Int)]).length = (nxI (es.take q) a).length + 1 by simp] at hkey
        obtain ⟨vs', B5, M5, X5, BL5, hsz5⟩ := hkey
        clear HKEY ho1 hg1 hw1 X3 B3 HM3 BL3 X4 M4 B4 BL4 E3 E4 hi hj q0 q1 qf e0 e1 hx H2d HRD ha0 ha1
        go_wp2_with fail
        go_roundw
        case rel => exact ⟨q + 1, by omega, by go_num, vs', B5, M5, X5, BL5, hsz5⟩
        case measure => simp [intOf]; omega
    · skip
      have hqe : q = es.length := by omega
      subst hqe
      obtain ⟨W1, hW1⟩ : ∃ W1 : World, W1 = wr := ⟨_, rfl⟩
      subst hW1
      rw [List.take_length] at M1 X1
      clear hq hlt k0 k1 R HS HT HB0 HM0 HX0 BL B1
      have hb2 := (Below.refl W1.heap.size W1).alloc (Nat.le_refl _) (.cells #[.slice none 0 0] 58)
      have H2 := Lib.hid (show HeapAt (Upto W1.heap.size) (W1.alloc (.cells #[.slice none 0 0] 58)) W1.heap.size [] from
        ⟨Sub.upto hb2.size, Nat.lt_irrefl _, .slice none 0 0, Blk.made W1 [.slice none 0 0] _ (Nat.zero_le _), OwnL.nil _ _ _, fun k e => by simp [Value.ownBlock] at e⟩)
      have B2 := Lib.hid hb2
      clear hb2
      go_upto_region 15 with (fail)
      generalize hW2 : W1.alloc (.cells #[.slice none 0 0] 58) = W2 at *
      clear hW2
      go_wp2
      go_loopw [67] (fun t wr => ∃ (q : Nat) (l : List Int), q ≤ N ∧ t = .int .i64 q ∧ Hid (HeapAt (Upto W1.heap.size) wr W1.heap.size l) ∧ Hid (isHp l) ∧ Hid (HpIs N (fun m => decide (m < q) && rdyE es [] m) l) ∧ Hid (Below W1.heap.size W1 wr)) (fun t _ => N - (intOf t).toNat)
      case atStart =>
        refine ⟨0, [], by omega, rfl, H2, Lib.hid (fun j h0 hj => by simp at hj), Lib.hid ?_, B2⟩
        show List.Perm _ _
        rw [List.filter_eq_nil_iff.2 (fun m _ => by simp)]
        exact List.Perm.refl _
      case round =>
        clear H2 B2
        obtain ⟨q, l, hq, rfl, H, I, P, BW⟩ := hrel
        by_cases hlt : q < N
        · skip
          have M2 := Lib.hid (M1.out.below BW.out)
          have m0 := M2.out.atN hlt
          by_cases hz : wtE es [] q = 0
          · have m1 : wr.cell? ⟨w1.heap.size, q, none⟩ = some (.int .i64 0) := by rw [m0, hz]; rfl
            have C := Lib.hid (push_any (Upto W1.heap.size) l (by have := P.out.len; omega) (q : Int) (by unfold inI; omega) wr W1.heap.size H.out I.out)
            have HZ := Lib.hid hz
            clear m0 hz
            go_wp2_with fail
            refine C.out.mono ?_
            rintro e w3 ⟨⟨v, rfl⟩, l', H3, I3, P3, B3⟩
            have H4 := Lib.hid H3
            have I4 := Lib.hid I3
            have P4 := Lib.hid (((P.out.add (n := q) hlt (by simp) P3).congrN (Q := fun m => decide (m < q + 1) && rdyE es [] m) fun m hm => by
              by_cases e : m = q
              · subst e
                have : rdyE es [] m = true := by unfold rdyE; rw [HZ.out]; rfl
                simp [this]
              · rw [decide_eq_false e, Bool.or_false, decide_eq_decide.2 (show m < q ↔ m < q + 1 by omega)]))
            have B4 := Lib.hid (show Below W1.heap.size W1 w3 from BW.out.trans (B3.below BW.out.size (fun k hk => Nat.le_of_not_lt hk)))
            clear H3 I3 P3 B3 C H I P BW M2 m1
            go_wp2_with fail
            go_roundw
            case rel => exact ⟨q + 1, l', by omega, by go_num, H4, I4, P4, B4⟩
            case measure => simp [intOf]; omega
          · have P4 := Lib.hid (P.out.congrN (Q := fun m => decide (m < q + 1) && rdyE es [] m) fun m hm => by
              by_cases e : m = q
              · subst e
                have : rdyE es [] m = false := by unfold rdyE; simp [hz]
                simp [this]
              · rw [decide_eq_decide.2 (show m < q ↔ m < q + 1 by omega)])
            obtain ⟨y, hy⟩ : ∃ y, y = wtE es [] q := ⟨_, rfl⟩
            rw [← hy] at m0 hz
            have hyl : y ≤ 8796093022208 := by have := wtE_le es [] q; omega
            have hne : ¬ (y : Int) = 0 := by omega
            clear hy P hz M2
            go_wp2_with fail
            go_roundw
            case rel => exact ⟨q + 1, l, by omega, by go_num, H, I, P4, BW⟩
            case measure => simp [intOf]; omega
        · skip
          have hqn : q = N := by omega
          subst hqn
          go_upto_region 22 with (fail)
          obtain ⟨W3, hW3⟩ : ∃ W3 : World, W3 = wr := ⟨_, rfl⟩
          subst hW3
          have M3 := Lib.hid ((M1.out.below BW.out))
          have B3 := Lib.hid (show But (Is w1.heap.size) W1 W3 from But.of_below BW.out)
          clear BW hq hlt
          go_wp2
          go_loopw [14] (fun o wr => ∃ (j : Nat) (D : List Nat) (L : List (List Nat)) (X S : Blocks) (l : List Int), Hid (GdAt q es k j D L) ∧ Hid (Sub (Upto W1.heap.size) X) ∧ Hid (HeapAt X wr W1.heap.size l) ∧ Hid (isHp l) ∧ Hid (HpIs q (fun m => decide (m < q) && rdyE es D m) l) ∧ Hid (OwnL rdI1 1 54 wr W1.heap.size S (L.map castL) o) ∧ Hid (Sub S X) ∧ Hid (∀ k, o.ownBlock = some k → X k) ∧ Hid (∀ k, S k → W1.heap.size ≤ k) ∧ Hid (Blk 0 wr w1.heap.size (rowN q (wtE es D))) ∧ Hid (But (Is w1.heap.size) W1 wr)) (fun o _ => q - lenH o)
          case atStart =>
            exact ⟨0, [], [], Upto W1.heap.size, Nowhere, l, Lib.hid (GdAt.start _ _ _), Lib.hid (Sub.refl _), H, I, P, Lib.hid (OwnL.nil _ _ _), Lib.hid (fun _ h => h.elim), Lib.hid (fun k e => by simp [Value.ownBlock] at e), Lib.hid (fun k h => h.elim), M3, B3⟩
          case round =>
            clear M3 B3 H I P l
            obtain ⟨j, D, L, X, S, l, G, XU, H, I, P, O, SX, OX, SL, M, B⟩ := hrel
            obtain ⟨Ao, co, rfl⟩ := O.out.form
            obtain ⟨vh, Bp, Or, Dh⟩ := H.out.ex
            obtain ⟨Ah, ch, rfl⟩ := Or.form
            have k0 := Bp.cell 0 _ rfl
            have hLl : (L.map castL).length = j := by rw [List.length_map]; exact G.out.len
            rw [hLl] at O OX ⊢
            have HBP := Lib.hid Bp
            clear Bp Or Dh
            by_cases h0 : 0 < l.length
            · skip
              have hlN : D.length < q := by
                have h2 := P.out.length_eq
                rw [List.length_map] at h2
                obtain ⟨m, hm⟩ : ∃ m, m ∈ (List.range q).filter (fun m => decide (m < q) && rdyE es D m) := List.exists_mem_of_length_pos (by omega)
                obtain ⟨h3, h4⟩ := List.mem_filter.1 hm
                have := (G.out.go.snoc (List.mem_range.1 h3) (by simpa [List.mem_range.1 h3] using h4)).len
                rw [List.length_append] at this
                simp at this; omega
              have hll := P.out.len
              have C := Lib.hid (htake_any X l (by omega) k (by omega) wr W1.heap.size H.out I.out)
              have hjq : j < q := by have := G.out.le; omega
              have hwr : W1.heap.size ≤ wr.heap.size := B.out.size
              clear hll
              go_wp2_with fail
              refine C.out.mono ?_
              rintro e w2 ⟨T, v, r, rfl, ho, H2, I2, K2, hTl, B2⟩
              obtain ⟨hTe, hP2⟩ := taken_now P.out K2 hTl
              subst hTe
              obtain ⟨now, hnow⟩ : ∃ now, now = nowL q es k D := ⟨_, rfl⟩
              rw [← hnow] at ho hTl hP2
              obtain ⟨Av, cv, rfl⟩ := ho.form
              rw [castL_len] at ho H2 hTl ⊢
              have hn0 : 0 < now.length := by omega
              have HN := Lib.hid hnow
              have NW := Lib.hid (fun m (hm : m ∈ now) => nowL_mem (by rw [← hnow]; exact hm))
              have ND := Lib.hid (show now.Nodup by rw [hnow]; exact nowL_nodup _ _ _ _)
              have O2 := Lib.hid (O.out.but2 rdI1_keeps B2 (fun k e hk => hk (OX.out k e)) (fun k e hk => hk (SX.out k e)))
              have M2 := Lib.hid (M.out.but B2 (fun hn => hn (XU.out _ (show _ < _ by omega))))
              have B3 := Lib.hid (B.out.newer B2 (fun i hi hn => absurd (XU.out i hi) hn))
              have HO := Lib.hid ho
              have H3 := Lib.hid H2
              have I3 := Lib.hid I2
              have P3 := Lib.hid hP2
              have hw2 : wr.heap.size ≤ w2.heap.size := B2.size
              have HOL := Lib.hid (fun k e => (O.out.lt k e).2)
              have hnl : now.length ≤ q := nodup_le ND.out (fun m hm => (NW.out m hm).1)
              clear hnow ho H2 I2 K2 hTl B2 hP2 C H I P O M B HBP k0 h0
              obtain ⟨g, cv', hv9, hgw, hg2, hlc, hcm9, _, _⟩ := OwnI.open_ HO.out (by rw [castL_len]; exact hn0)
              rw [castL_len] at hv9 hlc
              injection hv9 with hA hn9 hcc
              clear hn9
              subst hA hcc
              go_wp2
              go_loopw [85] (fun t wr => ∃ (c : Nat) (l : List Int), c ≤ now.length ∧ t = .int .i64 c ∧ Hid (HeapAt (AndB X (.slice (some ⟨g, 0, none⟩) now.length cv)) wr W1.heap.size l) ∧ Hid (isHp l) ∧ Hid (HpIs q (gkS q es D now (D ++ now.take c)) l) ∧ Hid (Blk 0 wr w1.heap.size (rowN q (wtE es (D ++ now.take c)))) ∧ Hid (But (fun k => ¬ AndB X (.slice (some ⟨g, 0, none⟩) now.length cv) k ∨ k = w1.heap.size) w2 wr)) (fun t _ => now.length - (intOf t).toNat)
              case atStart => exact ⟨0, r, by omega, rfl, H3, I3, Lib.hid (P3.out.congr fun m => by simp), Lib.hid (M2.out.congrN fun m _ => by simp), Lib.hid (But.refl _ _)⟩
              case round =>
                clear H3 I3 P3 M2
                obtain ⟨c, l, hc, rfl, H, I, P, M, B⟩ := hrel
                have hhW : w1.heap.size < W1.heap.size := by omega
                by_cases hlt : c < now.length
                · skip
                  have OT := HO.out.but B.out (fun k e hk => by
                    have e2 : g = k := by injection e
                    subst e2
                    exact hk.elim (fun h => h (.inr rfl)) (fun h => by omega))
                  obtain ⟨g', cc, hv9, _, _, _, _, _, hcells⟩ := OwnI.open_ OT (by rw [castL_len]; omega)
                  rw [castL_len] at hv9
                  injection hv9 with hA hn9 hcc
                  clear hn9
                  injection hA with hA
                  injection hA with hA
                  subst hA hcc
                  have ct := (hcells c (by rw [castL_len]; exact hlt)).2
                  rw [castL_at] at ct
                  obtain ⟨n, hn⟩ : ∃ n, n = now[c] := ⟨_, rfl⟩
                  rw [← hn] at ct
                  have hnm : n ∈ now := by rw [hn]; exact List.getElem_mem _
                  obtain ⟨hnq, hrd⟩ := NW.out n hnm
                  have htk : now.take (c + 1) = now.take c ++ [n] := by rw [List.take_succ_eq_append_getElem hlt, hn]
                  obtain ⟨out, hout⟩ : ∃ out, out = D ++ now.take c := ⟨_, rfl⟩
                  have hno : n ∉ out := by
                    rw [hout, List.mem_append]
                    rintro (h | h)
                    · exact (rdyE_iff.1 hrd).1 h
                    · have h1 := ND.out
                      rw [← List.take_append_drop (c + 1) now, htk] at h1
                      have h2 := (List.nodup_append.1 (List.nodup_append.1 h1).1).2.2
                      exact h2 n h n (by simp) rfl
                  have HOUT := Lib.hid (show D ++ now.take (c + 1) = out ++ [n] by rw [htk, hout, List.append_assoc])
                  have HNEW := Lib.hid (show ∀ m ∈ nxE es n, (D ++ now).contains m = false from fun m hm => gk_new G.out.go (fun m hm => (NW.out m hm).2) hnm hm)
                  rw [← hout] at P M
                  have hB6 := B3.out.newer B.out (fun i hi h => h.elim (fun h => absurd (.inl (XU.out i hi)) h) (fun h => h))
                  have X6 := X1.out.low hB6 (by unfold Is; omega) (fun k hk => by unfold Is at hk; omega)
                  obtain ⟨Ai, ci, hvs, hx, hro⟩ := X6.at_ hnq
                  have HRO := Lib.hid hro
                  have HNX := Lib.hid (show ∀ j, (Value.slice Ai (nxI es n).length ci).ownBlock = some j → Upto W1.heap.size j from fun j hj => (X1.out.row n _ hvs).lt j hj |>.2)
                  have hxl : (nxI es n).length ≤ es.length := by rw [nxI_len]; exact nxE_len es n
                  have P0 := Lib.hid (P.out.congr (Q := gkE q es D now out n 0) fun m => (gkE_zero m).symm)
                  have M0 := Lib.hid (M.out.congrN (g := wkE es out n 0) (fun k _ => (wkE_zero es out n k).symm))
                  have HW6 := Lib.hid (And.intro (show w2.heap.size ≤ wr.heap.size from B.out.size) hB6.size)
                  obtain ⟨W6, hW6⟩ : ∃ W6 : World, W6 = wr := ⟨_, rfl⟩
                  subst hW6
                  have HRD := Lib.hid hrd
                  clear P M OT hcells hn hnm hrd htk hout hB6 X6 hro hvs
                  go_wp2
                  clear hx ct
                  go_loopw [94] (fun t wr => ∃ (e : Nat) (l : List Int), e ≤ (nxI es n).length ∧ t = .int .i64 e ∧ Hid (HeapAt (AndB X (.slice (some ⟨g, 0, none⟩) now.length cv)) wr W1.heap.size l) ∧ Hid (isHp l) ∧ Hid (HpIs q (gkE q es D now out n e) l) ∧ Hid (Blk 0 wr w1.heap.size (rowN q (wkE es out n e))) ∧ Hid (But (fun k => ¬ AndB X (.slice (some ⟨g, 0, none⟩) now.length cv) k ∨ k = w1.heap.size) W6 wr)) (fun t _ => (nxI es n).length - (intOf t).toNat)
                  case atStart => exact ⟨0, l, by omega, rfl, H, I, P0, M0, Lib.hid (But.refl _ _)⟩
                  case round =>
                    clear H I P0 M0
                    obtain ⟨e, l, he, rfl, H, I, P, M, BW⟩ := hrel
                    by_cases hlt5 : e < (nxI es n).length
                    · skip
                      have hltE : e < (nxE es n).length := by rw [← nxI_len]; exact hlt5
                      have hxk : ∀ j, (Value.slice Ai (nxI es n).length ci).ownBlock = some j → w1.heap.size + 1 + 1 ≤ j := fun j hj => (HRO.out.lt j hj).1
                      have hxw : ∀ j, (Value.slice Ai (nxI es n).length ci).ownBlock = some j → AndB X (.slice (some ⟨g, 0, none⟩) now.length cv) j := fun j hj => .inl (XU.out j (HNX.out j hj))
                      have hro2 := HRO.out.but BW.out (fun j hj hk => hk.elim (fun h => h (hxw j hj)) (fun h => by have := hxk j hj; omega))
                      obtain ⟨gx, cc, hv, _, _, _, _, _, hcells⟩ := OwnI.open_ hro2 (by omega)
                      injection hv with hA hn9 hcc
                      clear hn9
                      subst hA hcc
                      obtain ⟨m, hm⟩ : ∃ m, m = (nxE es n)[e] := ⟨_, rfl⟩
                      have hcell := (hcells e hlt5).2
                      rw [show (nxI es n)[e] = (m : Int) by rw [hm]; simp [nxI]] at hcell
                      have hmN : m < q := (HV.out n m (nxE_mem.1 (by rw [hm]; exact List.getElem_mem _))).2
                      have m0 := M.out.atN hmN
                      have mf := M.out.fr m
                      have hwp := wkE_pos hno hltE
                      have hwl := wkE_le es out n e m
                      have HWS := Lib.hid (fun x => wkE_succ hno hltE x)
                      have HMM := Lib.hid hm
                      rw [← hm] at hwp HWS
                      obtain ⟨y, hy⟩ : ∃ y, y = wkE es out n e m := ⟨_, rfl⟩
                      rw [← hy] at m0 hwp hwl
                      have HY := Lib.hid hy
                      have hpX : ¬ AndB X (.slice (some ⟨g, 0, none⟩) now.length cv) w1.heap.size → False := fun h => h (.inl (XU.out _ (show _ < _ by omega)))
                      have hxp : W1.heap.size ≠ w1.heap.size := by omega
                      clear hy hm hro2 hcells hxk hxw
                      have hb7 : ∀ u : Value, But (Is w1.heap.size) wr (wr.setCell ⟨w1.heap.size, m, none⟩ u) := fun u => (But.refl _ _).setCell (p := ⟨w1.heap.size, m, none⟩) (show Is _ _ from rfl) u
                      by_cases h1 : y = 1
                      · subst h1
                        have m2 : wr.cell? ⟨w1.heap.size, m, none⟩ = some (.int .i64 1) := m0
                        clear m0 hwp hwl
                        have M7 := Lib.hid ((M.out.setN (k := m) (y := 0) hmN).congrN (g := wkE es out n (e + 1)) fun x _ => by
                          rw [HWS.out x]
                          by_cases e : x = m
                          · subst e; rw [if_pos rfl, if_pos rfl, ← HY.out]
                          · rw [if_neg e, if_neg e])
                        have H7 := Lib.hid (H.out.but (hb7 (.int .i64 0)) hxp (fun k hk => .inl (XU.out k (show k < _ by rw [show k = w1.heap.size from hk]; omega))))
                        have BW7 := Lib.hid (BW.out.setCell (p := ⟨w1.heap.size, m, none⟩) (.inr rfl) (.int .i64 0))
                        have hz : wkE es out n (e + 1) m = 0 := by rw [HWS.out m, if_pos rfl, ← HY.out]
                        have HZE := Lib.hid (show ∀ x, gkE q es D now out n (e + 1) x = (gkE q es D now out n e x || decide (x = m)) from fun x => by
                          have := gkE_yes HV.out HNEW.out hno hltE (by rw [← HMM.out]; exact hz) x
                          rwa [← HMM.out] at this)
                        have HWAS := Lib.hid (show gkE q es D now out n e m = false by have := gkE_was (N := q) (D := D) (now := now) hno hltE; rwa [← HMM.out] at this)
                        have m7 := M7.out.atN hmN
                        rw [hz] at m7
                        have m8 : (wr.setCell ⟨w1.heap.size, m, none⟩ (.int .i64 0)).cell? ⟨w1.heap.size, m, none⟩ = some (.int .i64 0) := m7
                        have C := Lib.hid (push_any _ l (by have := P.out.len; omega) (m : Int) (by unfold inI; omega) _ W1.heap.size H7.out I.out)
                        clear m7 hz M BW HWS HY H H7 hb7
                        go_upto_region 31 with (fail)
                        generalize wr.setCell ⟨w1.heap.size, m, none⟩ (.int .i64 0) = W7 at *
                        clear hcell m2 mf
                        go_wp2_with fail
                        refine C.out.mono ?_
                        rintro e' w8 ⟨⟨v8, rfl⟩, l', H8, I8, P8, B8⟩
                        have H9 := Lib.hid H8
                        have I9 := Lib.hid I8
                        have P9 := Lib.hid ((P.out.add hmN HWAS.out P8).congr fun x => (HZE.out x).symm)
                        have M9 := Lib.hid (M7.out.but B8 (fun h => hpX h))
                        have BW9 := Lib.hid (BW7.out.trans (B8.sub fun k h => .inl h))
                        clear C H8 I8 P8 B8 M7 BW7 m8 I P HZE HWAS
                        go_wp2_with fail
                        go_roundw
                        case rel => exact ⟨e + 1, l', by omega, by go_num, H9, I9, P9, M9, BW9⟩
                        case measure => simp [intOf]; omega
                      · have M7 := M.out.setN (k := m) (y := y - 1) hmN
                        have hyc : ((y - 1 : Nat) : Int) = (y : Int) - 1 := by omega
                        rw [hyc] at M7
                        have M8 := Lib.hid (M7.congrN (g := wkE es out n (e + 1)) fun x _ => by
                          rw [HWS.out x]
                          by_cases e : x = m
                          · subst e; rw [if_pos rfl, if_pos rfl, ← HY.out]
                          · rw [if_neg e, if_neg e])
                        have H7 := Lib.hid (H.out.but (hb7 (.int .i64 ((y : Int) - 1))) hxp (fun k hk => .inl (XU.out k (show k < _ by rw [show k = w1.heap.size from hk]; omega))))
                        have BW7 := Lib.hid (BW.out.setCell (p := ⟨w1.heap.size, m, none⟩) (.inr rfl) (.int .i64 ((y : Int) - 1)))
                        have hz : wkE es out n (e + 1) m = y - 1 := by rw [HWS.out m, if_pos rfl, ← HY.out]
                        have P7 := Lib.hid (P.out.congr (Q := gkE q es D now out n (e + 1)) fun x => (gkE_no hno hltE (by rw [← HMM.out, hz]; omega) x).symm)
                        have m7 := M8.out.atN hmN
                        rw [hz, hyc] at m7
                        have hne : ¬ (y : Int) - 1 = 0 := by omega
                        clear hz M BW HWS HY M7 hyc H P hb7
                        go_upto_region 31 with (fail)
                        generalize wr.setCell ⟨w1.heap.size, m, none⟩ (.int .i64 ((y : Int) - 1)) = W7 at *
                        go_wp2_with fail
                        go_roundw
                        case rel => exact ⟨e + 1, l, by omega, by go_num, H7, I, P7, M8, BW7⟩
                        case measure => simp [intOf]; omega
                    · skip
                      have hee : e = (nxE es n).length := by rw [← nxI_len]; omega
                      have P7 := Lib.hid (P.out.congr (Q := gkS q es D now (D ++ now.take (c + 1))) fun x => by rw [hee, gkE_all hno, HOUT.out])
                      have M7 := Lib.hid (M.out.congrN (g := wtE es (D ++ now.take (c + 1))) fun x _ => by rw [hee, wkE_all hno, HOUT.out])
                      have B7 := Lib.hid (B.out.trans BW.out)
                      clear hee P M BW
                      go_wp2_with fail
                      go_roundw
                      case rel => exact ⟨c + 1, l, by omega, by go_num, H, I, P7, M7, B7⟩
                      case measure => simp [intOf]; omega
                · skip
                  have hce : c = now.length := by omega
                  subst hce
                  rw [List.take_length] at P M
                  have OT := Lib.hid (HO.out.but B.out (fun k e hk => by
                    have e2 : g = k := by injection e
                    subst e2
                    exact hk.elim (fun h => h (.inr rfl)) (fun h => by omega)))
                  have O5 := Lib.hid (O2.out.but2 rdI1_keeps B.out (fun k e hk => hk.elim (fun h => h (.inl (OX.out k e))) (fun h => by have := (O2.out.lt k e).1; omega)) (fun k e hk => hk.elim (fun h => h (.inl (SX.out k e))) (fun h => by have := SL.out k e; omega)))
                  have CC := Lib.hid (clip_any g now.length cv (by omega) hcm9 wr)
                  have hsz5 : w2.heap.size ≤ wr.heap.size := B.out.size
                  have hoX := Lib.hid (fun k e => OX.out k e)
                  have hgT := OT.out.lt g rfl
                  have RT := Lib.hid (show rdI1 wr (Is g) (castL now) [.slice (some ⟨g, 0, none⟩) now.length now.length] from ⟨_, rfl, by
                    have := OwnI.rdg OT.out (by rw [castL_len]; exact hn0) (by rw [castL_len]; omega)
                    rwa [castL_len] at this⟩)
                  have hgo : ∀ k, (Value.slice Ao j co).ownBlock = some k → ¬ Is g k := fun k e hk => by
                    have h3 := HOL.out k e
                    unfold Is at hk
                    omega
                  clear hlt
                  go_wp2_with fail
                  refine CC.out.mono ?_
                  rintro e w3 ⟨rfl, rfl⟩
                  go_wp2_with (at_builtin; refine wpList_append_one rfl _ _ 25 rfl i1 _ Tryd.underlying25 hj hy0 hy1 hy2 rfl (by decide) rdI1_keeps (O5.out.sub (S' := fun k => S k ∨ k = g) (fun k h => .inl h)) (x := castL now) (cs := [.slice (some ⟨g, 0, none⟩) now.length now.length]) (Tx := Is g) RT.out rfl rfl rfl (fun k h => .inr h) (fun k h => by rw [show k = g from h]; exact hgT.2) hgo ?d1 ?d2 ?d3 ?d4 ?_)
                  case d1 => simp [Value.oneCell']
                  case d2 => rw [hLl]; unfold maxLen; omega
                  case d3 => rw [hLl]; omega
                  try (case d4 => omega)
                  intro v6 w6 ho6 hg6 hk6
                  obtain ⟨A6, c6, rfl⟩ := ho6.form
                  have hl6 : (L.map castL ++ [castL now]).length = j + 1 := by rw [List.length_append, hLl]; rfl
                  rw [hl6] at ho6 hk6 ⊢
                  have hlo := O5.out.lt
                  have H6 := Lib.hid (H.out.more (X' := fun k => X k ∨ k = g ∨ (Value.slice A6 (j + 1) c6).ownBlock = some k) (T := fun k => (Value.slice Ao j co).ownBlock = some k) (But.of_grown hg6) (fun k e => .inl (OX.out k e))
                    (fun k h => by
                      rcases h with h | h | h
                      · exact .inl (.inl h)
                      · exact .inl (.inr (by rw [h]; rfl))
                      · rcases hk6 with e | e
                        · exact .inl (.inl (OX.out k (by rw [← e]; exact h)))
                        · rw [e] at h; injection h with h; exact .inr (by omega))
                    (fun k h => by
                      rcases h with h | h | h
                      · exact Nat.lt_of_lt_of_le (H.out.sub k (.inl h)) hg6.size
                      · rw [h]; exact Nat.lt_of_lt_of_le hgT.2 hg6.size
                      · exact (ho6.lt k h).2))
                  have G6 := G.out.next HV.out HR.out hk1 hlN
                  rw [← HN.out] at G6
                  have HG6 := Lib.hid G6
                  have P6 := Lib.hid (P.out.congr (Q := fun m => decide (m < q) && rdyE es (D ++ now) m) fun m => (gkS_all m).symm)
                  have e6 : (L ++ [now]).map castL = L.map castL ++ [castL now] := by rw [List.map_append]; rfl
                  have O6 := Lib.hid (show OwnL rdI1 1 54 w6 W1.heap.size (fun k => S k ∨ k = g) ((L ++ [now]).map castL) (.slice A6 (j + 1) c6) by rw [e6]; exact ho6)
                  have M6 := Lib.hid (M.out.but (But.of_grown hg6) (fun e => by have := (hlo _ e).1; omega))
                  have B6 := Lib.hid ((B3.out.newer B.out (fun i hi h => h.elim (fun h => absurd (.inl (XU.out i hi)) h) (fun h => h))).newer (But.of_grown hg6) (fun i hi e => by have := (hlo _ e).1; omega))
                  have hjq2 : j + 1 ≤ q := by omega
                  clear G6 e6 ho6 hg6 hk6 hl6 hlo
                  go_wp2_with fail
                  go_roundw
                  case rel => exact ⟨j + 1, D ++ now, L ++ [now], _, _, l, HG6, Lib.hid (fun k h => .inl (XU.out k h)), H6, I, P6, O6, Lib.hid (fun k h => h.elim (fun h => .inl (SX.out k h)) (fun h => .inr (.inl h))), Lib.hid (fun k e => .inr (.inr e)), Lib.hid (fun k h => h.elim (SL.out k) (fun h => by omega)), M6, B6⟩
                  case measure => simp [lenH]; omega
            · skip
              have hl0 : l = [] := List.eq_nil_of_length_eq_zero (by omega)
              have hD : D.length = q := by
                apply Classical.byContradiction
                intro hc
                have hlt : D.length < q := by have := G.out.go.len; omega
                have h1 := rdy_some HV.out HR.out G.out.go hlt
                have h2 := P.out.length_eq
                rw [hl0, List.length_map] at h2
                have h3 : (rdyL q es D) = (List.range q).filter (fun m => decide (m < q) && rdyE es D m) := List.filter_congr fun m hm => by rw [decide_eq_true (List.mem_range.1 hm), Bool.true_and]
                rw [h3] at h1
                simp at h2
                omega
              have hRd := O.out.toRd (bytes := 24) (S' := Plus Nowhere w.heap.size wr.heap.size) rdI1_keeps (by rw [hLl]; have := G.out.le; have := G.out.go.len; omega)
                (fun b hb => .inr ⟨by have := SL.out b hb; have := BL1.size; omega, H.out.sub _ (SX.out b hb)⟩) (fun b h1 h2 => .inr ⟨by have := BL1.size; omega, h2⟩)
              have HRD := Lib.hid hRd
              have HBW := Lib.hid (show Below w.heap.size w wr from BL1.trans (B.out.below BL1.size (fun k hk => by rw [show k = w1.heap.size from hk]; omega)))
              have HRI := Lib.hid (show RoundsIs q es k L from ⟨j, D, G.out, hD⟩)
              clear hRd O M B G P H I
              go_wp2
              go_ret2
              exact ⟨_, L, rfl, HRI.out, HRD.out, HBW.out⟩
end Go.Proofs.YtkpjomoofopeaaaDoor
