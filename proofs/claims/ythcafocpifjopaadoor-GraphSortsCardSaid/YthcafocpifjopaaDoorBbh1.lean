/- The walk of the reference's BBehind. -/
import Derived.Test.YthcafocpifjopaaDoorGr4
import Derived.Test.YthcafocpifjopaaDoorGr7
import Derived.Test.YthcafocpifjopaaDoorAof1
namespace Go.Proofs.YthcafocpifjopaaDoor
open Go.RowKit
set_option linter.unusedVariables false
theorem infoBb1 : (Tryd.prog.info? 3).map (fun i => (i.zero, i.size, i.bytes)) = some (some (.int .i64 0), 1, 8) := by kernel_rfl
theorem infoBb2 : (Tryd.prog.info? 23).map (fun i => (i.zero, i.size, i.bytes)) = some (some (.slice none 0 0), 1, 24) := by kernel_rfl
/-- a slice of n sets -/
def SetsV (w : World) (n : Nat) (P : Nat → Nat → Bool) (v : Value) : Prop := ∃ A cap, v = .slice A n cap ∧ n ≤ 4096 ∧ ∀ i, i < n → ∃ b off T l A' c', A = some ⟨b, off, none⟩ ∧ b < w.heap.size ∧ Sub T (Upto w.heap.size) ∧ SetIs l (P i) ∧ RdU w T l (.slice A' l.length c') ∧ w.cell? ⟨b, off + i, none⟩ = some (.slice A' l.length c')
theorem SetsV.below {w w' : World} {n : Nat} {P : Nat → Nat → Bool} {v : Value} (h : SetsV w n P v) (hb : Below w.heap.size w w') : SetsV w' n P v := by
  obtain ⟨A, cap, e, hn, h⟩ := h
  refine ⟨A, cap, e, hn, fun i hi => ?_⟩
  obtain ⟨b, off, T, l, A', c', h1, h2, h3, h4, h5, h6⟩ := h i hi
  exact ⟨b, off, T, l, A', c', h1, Nat.lt_of_lt_of_le h2 hb.size, h3.lift hb.size, h4, h5.keep Flat.keeps (Sub.refl _) (same_of_below hb h3), (hb.cell (p := ⟨b, off + i, none⟩) h2).trans h6⟩
theorem SetsAt.setsV {lo : Nat} {w : World} {g n : Nat} {P : Nat → Nat → Bool} {vs : List Value} (h : SetsAt lo w g n P vs) (hn : n ≤ 4096) : SetsV w n P (.slice (some ⟨g, 0, none⟩) n n) :=
  ⟨_, _, rfl, hn, fun i hi => by
    obtain ⟨T, l, A, cap, h1, h2, h3, h4, h5, h6, _⟩ := h.at_ hi
    exact ⟨g, 0, T, l, A, cap, rfl, h.out.lt, h1, h4, h5, by rw [Nat.zero_add]; exact h6⟩⟩
theorem SetsV.nil (w : World) (P : Nat → Nat → Bool) (A : Option Addr) (cap : Nat) : SetsV w 0 P (.slice A 0 cap) := ⟨A, cap, rfl, by omega, fun i hi => absurd hi (by omega)⟩
/-- a set as a row's element -/
def rdS (P : Nat → Nat → Bool) : World → Blocks → Nat → List Value → Prop := fun w S i cs => ∃ u l, cs = [u] ∧ SetIs l (P i) ∧ RdU w S l u
theorem rdS_keeps (P : Nat → Nat → Bool) : Keeps (rdS P) := fun w w' S S' i cs hS hk h => by
  obtain ⟨u, l, h1, h2, h3⟩ := h
  exact ⟨u, l, h1, h2, h3.keep Flat.keeps hS hk⟩
theorem OwnL.inUp {α : Type} {rd : World → Blocks → α → List Value → Prop} {size : Nat} {E : TypeId} {w : World} {base : Nat} {S : Blocks} {l : List α} {v : Value} (h : OwnL rd size E w base S l v) : OwnL rd size E w base (Upto w.heap.size) l v := by
  obtain ⟨T, css, h1, h2, h3⟩ := h
  exact ⟨T, css, h2, h2, h3⟩
theorem own_setsV {w : World} {base n : Nat} {S : Blocks} {P : Nat → Nat → Bool} {v : Value} (h : OwnL (rdS P) 1 23 w base S (List.range n) v) (hn : n ≤ 4096) : SetsV w n P v := by
  have hr := h.inUp.toRd (bytes := 24) (S' := Upto w.heap.size) (rdS_keeps P) (by simp; omega) (Sub.refl _) (fun b _ h => h)
  obtain ⟨A, cap, css, rfl, h1, h2, h3, h4, ⟨h5, h6⟩, h7⟩ := hr
  rw [List.length_range] at h4 ⊢
  refine ⟨A, cap, rfl, hn, fun i hi => ?_⟩
  have hc : css[i]? = some (css[i]'(by omega)) := List.getElem?_eq_getElem (by omega)
  obtain ⟨u, l, e1, e2, e3⟩ := h7 i i _ (List.getElem?_range hi) hc
  obtain ⟨A', c', rfl, _⟩ := e3.form
  obtain ⟨b, off, hA, hb, hcell⟩ := h6 (by intro e; rw [e] at h4; simp at h4; omega)
  have := hcell i _ hc 0 _ (by rw [e1]; rfl)
  rw [Nat.mul_one, Nat.add_zero] at this
  exact ⟨b, off, Upto w.heap.size, l, A', c', hA, hb, Sub.refl _, e2, e3, this⟩
/-- the numbers below k that a row has -/
def rowIn (R : Nat → Bool) (k : Nat) : List Int := ((List.range k).filter R).map fun (m : Nat) => (m : Int)
theorem rowIn_succ (R : Nat → Bool) (k : Nat) : rowIn R (k + 1) = if R k then rowIn R k ++ [(k : Int)] else rowIn R k := by
  unfold rowIn
  rw [List.range_succ, List.filter_append, List.map_append]
  by_cases h : R k = true
  · rw [if_pos h]; simp [h]
  · rw [if_neg h]; simp [h]
theorem rowIn_len (R : Nat → Bool) (k : Nat) : (rowIn R k).length ≤ k := by
  unfold rowIn
  rw [List.length_map]
  exact Nat.le_trans (List.length_filter_le _ _) (by simp)
theorem rowIn_has (R : Nat → Bool) (n m : Nat) (hn : n ≤ 200) (hR : ∀ m, n ≤ m → R m = false) : (decide (m ≤ 65535) && (rowIn R n).contains (m : Int)) = R m := by
  rw [Bool.eq_iff_iff, Bool.and_eq_true, decide_eq_true_eq, List.contains_iff_mem]
  unfold rowIn
  rw [List.mem_map]
  constructor
  · rintro ⟨_, k, hk, e⟩
    have : k = m := by omega
    rw [← this]
    exact (List.mem_filter.1 hk).2
  · intro h
    have hm : m < n := by
      apply Nat.lt_of_not_le
      intro hle
      rw [hR m hle] at h; cases h
    exact ⟨by omega, m, List.mem_filter.2 ⟨List.mem_range.2 hm, h⟩, rfl⟩
theorem waysE_lt {N : Nat} {es : List (Nat × Nat)} (hv : ∀ a b, (a, b) ∈ es → a < N ∧ b < N) : ∀ (k i j : Nat), N ≤ j → wsh (edB es) k i j = false
  | 0, i, j, h => by
    cases e : wsh (edB es) 0 i j with
    | false => rfl
    | true => have := (hv i j (edB_iff.1 e)).2; omega
  | k + 1, i, j, h => by
    unfold wsh
    rw [waysE_lt hv k i j h, waysE_lt hv k k j h]
    simp
set_option maxHeartbeats 1600000 in
set_option maxRecDepth 100000 in
theorem bbehind_any (N : Int) (hNi : inI N) (ps : List (Int × Int)) (w : World) (S : Blocks) (ve : Value) (hS : Sub S (Upto w.heap.size)) (r : RdP w S ps ve) :
    Calls Tryd.prog 14 #[.agg #[.int .i64 N, ve]] w fun e w' => ∃ x, e = .returned (.tuple #[x, .int .i64 (wrongE N ps)]) ∧
      (wrongE N ps = 0 → SetsV w' N.toNat (waysE N.toNat (natsP ps)) x) ∧ (wrongE N ps ≠ 0 → x = .slice none 0 0) ∧ Below w.heap.size w w' := by
  obtain ⟨A, cap, rfl, hl, hcm, hby⟩ := r.form
  unfold maxLen at hcm
  obtain ⟨i0, hi, hz0, hz1, hz2⟩ := info_parts infoBb1
  obtain ⟨i1, hj, hy0, hy1, hy2⟩ := info_parts infoBb2
  have b0 := Blk.made w [.int .i64 N, .slice A ps.length cap] 32 (base := 0) (Nat.zero_le _)
  have bl : Below w.heap.size w (w.alloc (.cells #[.int .i64 N, .slice A ps.length cap] 32)) := (Below.refl _ _).alloc (Nat.le_refl _) _
  have hsz0 : w.heap.size ≤ ((w.alloc (.cells #[.int .i64 N, .slice A ps.length cap] 32))).heap.size := by rw [World.size_alloc]; omega
  have k0 := b0.cell 0 _ rfl
  have k1 := b0.cell 1 _ rfl
  have HB0 := Lib.hid b0
  have BL := Lib.hid bl
  have HS := Lib.hid hS
  have RA := Lib.hid (r.go Flat.keeps bl hS (Sub.refl _))
  have C1 := Lib.hid (bwrong_any N hNi ps (w.alloc (.cells #[.int .i64 N, .slice A ps.length cap] 32)) S _ (hS.trans (Sub.upto hsz0)) (r.go Flat.keeps bl hS (Sub.refl _)))
  clear b0 bl r hS
  go_enter Tryd.func14, Tryd.ntmps14
  go_upto_region 1 with (fail)
  generalize (w.alloc (.cells #[.int .i64 N, .slice A ps.length cap] 32)) = W0 at *
  go_wp2_with fail
  refine C1.out.mono ?_
  rintro e w1 ⟨rfl, hb1⟩
  have BL1 := Lib.hid (BL.out.trans (hb1.mono BL.out.size))
  have HB1 := Lib.hid (HB0.out.below hb1)
  have R1 := Lib.hid (RA.out.go Flat.keeps hb1 (HS.out.trans (Sub.upto BL.out.size)) (Sub.refl _))
  clear C1 BL HB0 hb1 k0 k1 hsz0 RA
  by_cases hw : wrongE N ps = 0
  · skip
    obtain ⟨hn0, hn2, hgd, hrd⟩ := wrongE_zero hw
    obtain ⟨hps, hval⟩ := good_ps hgd
    obtain ⟨n, hnn⟩ : ∃ n : Nat, N = (n : Int) := ⟨N.toNat, by omega⟩
    subst hnn
    rw [Int.toNat_natCast] at hval hrd
    have hn200 : n ≤ 200 := by omega
    have hSz := Lib.hid (show Sub S (Upto w1.heap.size) from HS.out.trans (Sub.upto BL1.out.size))
    have C2 := Lib.hid (reach_any n hn200 (natsP ps) hval w1 S _ hSz.out (by rw [hps]; exact R1.out))
    obtain ⟨es, hes⟩ : ∃ es, es = natsP ps := ⟨_, rfl⟩
    rw [← hes] at C2 hval
    have HES := Lib.hid hes
    have HW0 := Lib.hid hw
    have HWL := Lib.hid (fun i j (h : n ≤ j) => show waysE n es i j = false from waysE_lt hval n i j h)
    rw [hw]
    clear hw hgd hrd hes hps hval hn0 hn2 R1
    have k0 := HB1.out.cell 0 _ rfl
    have k1 := HB1.out.cell 1 _ rfl
    go_wp2_with fail
    refine C2.out.mono ?_
    rintro e w2 ⟨g, gs, rfl, hgl, hM, hb2⟩
    have M := Lib.hid hM
    have HGL := Lib.hid hgl
    have BL2 := Lib.hid (BL1.out.trans (hb2.mono BL1.out.size))
    obtain ⟨W2, hW2⟩ : ∃ W2 : World, W2 = w2 := ⟨_, rfl⟩
    subst hW2
    clear C2 hM hgl hb2 k0 k1 HB1 BL1
    have OO := Lib.hid (show OwnL (rdS (waysE n es)) 1 23 W2 W2.heap.size (fun _ => True) (List.range 0) (.slice none 0 0) from OwnL.nil _ _ _)
    go_wp2
    go_loopw [5, 19] (fun o t wr => ∃ q : Nat, q ≤ n ∧ t = .int .i64 q ∧ Hid (OwnL (rdS (waysE n es)) 1 23 wr W2.heap.size (fun _ => True) (List.range q) o) ∧ Hid (Below W2.heap.size W2 wr)) (fun _ t _ => n - (intOf t).toNat)
    case atStart => exact ⟨0, by omega, rfl, OO, Lib.hid (Below.refl _ _)⟩
    case round =>
      clear OO
      obtain ⟨W3, hW3⟩ : ∃ W3 : World, W3 = wr := ⟨_, rfl⟩
      subst hW3
      obtain ⟨q, hq, rfl, O, HB⟩ := hrel
      by_cases hlt : q < n
      · skip
        obtain ⟨gq, hgq⟩ : ∃ gq, gs[q]? = some gq := ⟨gs[q]'(by rw [HGL.out]; exact hlt), List.getElem?_eq_getElem _⟩
        have M3 := Lib.hid (M.out.below HB.out)
        have a0 := M3.out.at_ hgq
        have HGQ := Lib.hid hgq
        have OI := Lib.hid (show OwnI 3 W3 W3.heap.size Nowhere (rowIn (waysE n es q) 0) (.slice none 0 0) from OwnL.nil _ _ _)
        clear hgq
        go_wp2
        go_loopw [8, 25] (fun o t wr => ∃ k : Nat, k ≤ n ∧ t = .int .i64 k ∧ Hid (OwnI 3 wr W3.heap.size Nowhere (rowIn (waysE n es q) k) o) ∧ Hid (Below W3.heap.size W3 wr)) (fun _ t _ => n - (intOf t).toNat)
        case atStart => exact ⟨0, by omega, rfl, OI, Lib.hid (Below.refl _ _)⟩
        case round =>
          clear OI a0
          obtain ⟨k, hk, rfl, OJ, HX⟩ := hrel
          by_cases hltk : k < n
          · skip
            have M4 := M3.out.below HX.out
            have a1 := M4.at2 HGQ.out hltk
            have HRS := Lib.hid (rowIn_succ (waysE n es q) k)
            have HRL := Lib.hid (rowIn_len (waysE n es q) k)
            have hsz := HX.out.size
            obtain ⟨x, hx⟩ : ∃ x, x = waysE n es q k := ⟨_, rfl⟩
            rw [← hx] at a1 HRS
            clear hx M4
            cases x with
            | false =>
              have HE := Lib.hid (show rowIn (waysE n es q) k = rowIn (waysE n es q) (k + 1) by rw [HRS.out]; rfl)
              clear HRS
              go_wp2_with fail
              go_roundw
              case rel => exact ⟨k + 1, by omega, by go_num, Lib.hid (by rw [← HE.out]; exact OJ.out), HX⟩
              case measure => simp [intOf]; omega
            | true =>
              have HE := Lib.hid (show rowIn (waysE n es q) k ++ [(k : Int)] = rowIn (waysE n es q) (k + 1) by rw [HRS.out]; rfl)
              clear HRS
              go_wp2_with (at_builtin; refine wpList_append_one rfl _ _ 22 rfl i0 _ Tryd.underlying22 hi hz0 hz1 hz2 rfl (by decide) Flat.keeps OJ.out (x := (k : Int)) (cs := [Value.int .i64 (k : Int)]) (Tx := Nowhere) ?d0 rfl rfl rfl (Sub.nowhere _) (Sub.nowhere _) not_nowhere ?d1 ?d2 ?d3 ?d4 ?_)
              case d0 => exact ⟨rfl, by unfold inI; omega⟩
              case d1 => simp [Value.oneCell']
              case d2 => have := HRL.out; unfold maxLen; omega
              case d3 => have := HRL.out; omega
              try (case d4 => exact hsz)
              intro v5 w5 ho5 hg5 _
              rw [HE.out] at ho5
              have HO5 := Lib.hid ho5
              have HB5 := Lib.hid (HX.out.grown hg5 hsz (fun g hg => (OJ.out.lt g hg).1))
              clear ho5 hg5
              go_wp2_with fail
              go_roundw
              case rel => exact ⟨k + 1, by omega, by go_num, HO5, HB5⟩
              case measure => simp [intOf]; omega
          · skip
            have hke : k = n := by omega
            subst hke
            have HRI := Lib.hid (OJ.out.toRd (bytes := 8) (S' := Plus Nowhere W3.heap.size wr.heap.size) Flat.keeps (by have := rowIn_len (waysE k es q) k; omega) (Sub.nowhere _) (fun b h1 h2 => .inr ⟨h1, h2⟩))
            have HAO := Lib.hid (aof_any (rowIn (waysE k es q) k) wr _ _ plus_upto HRI.out)
            have O4 := Lib.hid (O.out.keep (rdS_keeps _) HX.out)
            have HX1 := Lib.hid (HB.out.trans (HX.out.mono HB.out.size))
            have HOL := Lib.hid O4.out.lt
            clear OJ hltk
            go_wp2_with fail
            refine HAO.out.mono ?_
            rintro e w4 ⟨L, u, rfl, hu, hL, hb4⟩
            obtain ⟨Au, cu, rfl, _⟩ := hu.form
            have RU := Lib.hid hu
            have HSL := Lib.hid (hL.congr (Q := waysE k es q) (fun m => rowIn_has _ k m hn200 (fun m h => HWL.out q m h)))
            have O5 := Lib.hid (O4.out.keep (rdS_keeps _) hb4)
            have HB5 := Lib.hid (HX1.out.trans (hb4.mono HX1.out.size))
            have hz5 := HB5.out.size
            clear hu hL hb4 HAO
            go_wp2_with (at_builtin; refine wpList_append_one rfl _ _ 36 rfl i1 _ Tryd.underlying36 hj hy0 hy1 hy2 rfl (by decide) (rdS_keeps _) O5.out (x := q) (cs := [Value.slice Au L.length cu]) (Tx := Plus Nowhere wr.heap.size w4.heap.size) ?d0 rfl rfl rfl ?d5 plus_upto ?d6 ?d1 ?d2 ?d3 ?d4 ?_)
            case d0 => exact ⟨_, L, rfl, HSL.out, RU.out⟩
            case d5 => exact fun b _ => trivial
            case d6 => exact fun j hj h => h.elim (fun h => h.elim) (fun h => by have := (HOL.out j hj).2; have := h.1; omega)
            case d1 => simp [Value.oneCell']
            case d2 => simp; unfold maxLen; omega
            case d3 => simp; omega
            try (case d4 => exact hz5)
            intro v6 w6 ho6 hg6 _
            rw [← List.range_succ] at ho6
            have HO6 := Lib.hid ho6
            have HB6 := Lib.hid (HB5.out.grown hg6 hz5 (fun g hg => (O5.out.lt g hg).1))
            clear ho6 hg6
            go_wp2_with fail
            go_roundw
            case rel => exact ⟨q + 1, by omega, by go_num, HO6, HB6⟩
            case measure => simp [intOf]; omega
      · skip
        have hqe : q = n := by omega
        subst hqe
        have HSV := Lib.hid (own_setsV O.out (by omega))
        have BZ := Lib.hid (BL2.out.trans (HB.out.mono BL2.out.size))
        clear O HB
        go_wp2
        go_ret2
        refine ⟨_, by rw [HW0.out]; rfl, fun _ => ?_, fun h => absurd HW0.out h, BZ.out⟩
        rw [← HES.out]
        exact HSV.out
  · have HW := Lib.hid hw
    go_wp2_with fail
    go_ret2
    exact ⟨_, rfl, fun h => absurd h HW.out, fun _ => rfl, BL1.out⟩
end Go.Proofs.YthcafocpifjopaaDoor
