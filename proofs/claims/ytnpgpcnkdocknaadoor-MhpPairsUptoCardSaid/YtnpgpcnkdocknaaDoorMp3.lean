/- The walks of mhp.Open and mhp.Pairs. -/
import Derived.Test.YtnpgpcnkdocknaaDoorMp2
import Derived.Test.YtnpgpcnkdocknaaDoorGPrI
import Derived.Test.YtnpgpcnkdocknaaDoorGMks
namespace Go.Proofs.YtnpgpcnkdocknaaDoor
open Go.RowKit Go.Shelf
set_option linter.unusedVariables false
attribute [local go_sem] Oper.semAt_some
theorem block_all (b g N : Nat) (hN : N ≤ 65535) (hgt : 0 ≠ g) (m : Nat) : ∀ l : List St, SizeOf.sizeOf l ≤ m → BkC b g N l := by
  induction m with
  | zero => intro l h; cases l <;> simp at h
  | succ m ih =>
    intro l h
    have hsz : ∀ k s a b body els, St.mk k s a b body els ∈ l → SizeOf.sizeOf body ≤ m ∧ SizeOf.sizeOf els ≤ m := fun k s a b body els hm => by
      have := List.sizeOf_lt_of_mem hm
      simp only [St.mk.sizeOf_spec] at this
      omega
    exact block_one b g N hN hgt l (fun k s a b body els hm => ⟨ih _ (hsz _ _ _ _ _ _ hm).1, ih _ (hsz _ _ _ _ _ _ hm).2⟩)
theorem infoWs : (Tryd.prog.info? 44).map (fun i => (i.zero, i.size, i.bytes)) = some (some (.slice none 0 0), 1, 24) := by kernel_rfl
/-- a looker of n rows, made -/
theorem lk_made (w : World) (n : Nat) : Lk (w.heap.size + 1) w.heap.size n (fun _ _ => false) ((w.alloc (.cells (Array.replicate n (.slice none 0 0)) 44)).alloc (.cells #[.slice (some ⟨w.heap.size, 0, none⟩) n n] 43)) := by
  have B := (Blk.madeN w n (.slice none 0 0) 44 (base := 0) (Nat.zero_le _)).but (But.alloc (T := Nowhere) (But.refl _ _) (.cells #[.slice (some ⟨w.heap.size, 0, none⟩) n n] 43)) (fun h => h)
  refine ⟨?_, by omega, _, SetsAt.nil 0 B⟩
  have := (Boxed.new (w.alloc (.cells (Array.replicate n (.slice none 0 0)) 44)) 43 (.slice (some ⟨w.heap.size, 0, none⟩) n n)).cell
  rwa [World.size_alloc] at this
/-- a set of small numbers has few words -/
theorem SetIs.len_le {l : List Nat} {P : Nat → Bool} (h : SetIs l P) {k : Nat} (hP : ∀ n, P n = true → n < 64 * k) : l.length ≤ k := by
  rcases Nat.lt_or_ge k l.length with h0 | h0
  · exfalso
    rcases List.eq_nil_or_concat l with rfl | ⟨l', x, rfl⟩
    · simp at h0
    · have ht := h.trim
      rw [List.concat_eq_append, trimL_snoc] at ht
      split at ht
      · have := trimL_length l'
        rw [ht] at this
        simp at this
        omega
      · rename_i hx
        obtain ⟨j, hj⟩ := Nat.exists_testBit_of_ne_zero hx
        have hj64 : j < 64 := Nat.lt_of_not_le fun hle => by
          rw [word_hi (h.ok x (by simp)) hle] at hj; exact absurd hj (by simp)
        have hb : P (64 * l'.length + j) = true := by
          rw [← h.bit, bit_word _ _ _ hj64]
          simpa using hj
        have := hP _ hb
        simp at h0
        omega
  · exact h0
set_option maxHeartbeats 1600000 in
set_option maxRecDepth 100000 in
theorem open_any (l : List St) (hw : St.wts l ≤ 1048576) (w : World) (S : Blocks) (v : Value) (hS : Sub S (Upto w.heap.size)) (hT : Tab w) (r : RdSts w S l v) :
    Calls Tryd.prog 6 #[v] w fun e w' => ∃ u, e = .returned u ∧ RdI w' (Plus Nowhere w.heap.size w'.heap.size) (if labelsL l ≤ 65535 then opsI l 0 else []) u ∧ Below w.heap.size w w' := by
  have hlw := labelsL_le l
  have HC1 := Lib.hid ((labs_all _ l (Nat.le_refl _)).1 w S v hS r hw)
  obtain ⟨A, cap, rfl, _⟩ := r.form
  have R := Lib.hid r
  have HS := Lib.hid hS
  have HT := Lib.hid hT
  clear r hS hT
  obtain ⟨i0, hi, hz0, hz1, hz2⟩ := info_parts infoWs
  by_cases hn : labelsL l ≤ 65535
  · rw [if_pos hn]
    have hmk := fun w => run_make1 (P := Tryd.prog) 41 44 i0 _ Tryd.underlying41 hi hz0 hz1 rfl (labelsL l) (by rw [hz2]; omega) (by omega) w
    go_enter Tryd.func6, Tryd.ntmps6
    go_wp2_with fail
    refine HC1.out.mono ?_
    rintro e w1 ⟨rfl, hb1⟩
    have b2 : Below w1.heap.size w1 ((w1.alloc (.cells (Array.replicate (labelsL l) (.slice none 0 0)) 44)).alloc (.cells #[.slice (some ⟨w1.heap.size, 0, none⟩) (labelsL l) (labelsL l)] 43)) := ((Below.refl _ _).alloc (Nat.le_refl _) _).alloc (by simp) _
    have BW := Lib.hid (hb1.trans (b2.mono hb1.size))
    have hz1 := hb1.size
    have LK := Lib.hid (lk_made w1 (labelsL l))
    have hz2 : (((w1.alloc (.cells (Array.replicate (labelsL l) (.slice none 0 0)) 44)).alloc (.cells #[.slice (some ⟨w1.heap.size, 0, none⟩) (labelsL l) (labelsL l)] 43))).heap.size = w1.heap.size + 1 + 1 := by simp
    have R2 := Lib.hid (R.out.go RdSt.keeps BW.out HS.out (Sub.refl _))
    have T2 := Lib.hid (HT.out.go BW.out)
    have HG0 : 0 < w.heap.size := HT.out.2
    have HB := Lib.hid (block_all (w1.heap.size + 1) w1.heap.size (labelsL l) hn (by omega) _ l (Nat.le_refl _) 0 _ (fun _ => false) [] ((w1.alloc (.cells (Array.replicate (labelsL l) (.slice none 0 0)) 44)).alloc (.cells #[.slice (some ⟨w1.heap.size, 0, none⟩) (labelsL l) (labelsL l)] 43)) S Nowhere _ (.slice none 0 0) (HS.out.trans (Sub.upto BW.out.size)) (fun h => by have := HS.out _ h; unfold Upto at this; omega) R2.out hw (by omega) SetIs.nil (fun _ h => by cases h) (RdL.nil (by unfold maxLen; omega)) (Sub.nowhere _) (fun h => h) T2.out LK.out)
    clear hb1 b2 LK
    go_wp2_with fail
    generalize ((w1.alloc (.cells (Array.replicate (labelsL l) (.slice none 0 0)) 44)).alloc (.cells #[.slice (some ⟨w1.heap.size, 0, none⟩) (labelsL l) (labelsL l)] 43)) = W2 at *
    refine HB.out.mono ?_
    rintro e w3 ⟨L3, u3, T3, rfl, hs3, hr3, hT3, _, _, hb3⟩
    have T3' := Lib.hid (T2.out.but hb3 (fun e => by have e : _ = w1.heap.size := e; omega))
    have hz3 := hb3.size
    have hlen : L3.length ≤ 1048576 := Nat.le_trans (hs3.len_le (k := 1024) (fun n hn => by
      rw [Bool.false_or] at hn
      have := opL_rng _ _ _ hn
      omega)) (by omega)
    have B3 := Lib.hid (BW.out.trans (hb3.below (B := w.heap.size) (by omega) (fun k e => by unfold Is at e; omega)))
    have HS3 := Lib.hid hs3
    have CL := Lib.hid (list_any L3 hlen w3 T3 u3 hT3 T3'.out hr3)
    clear hb3 hs3 hr3 HB
    go_wp2_with fail
    refine CL.out.mono ?_
    rintro e w4 ⟨u4, rfl, hr4, hb4⟩
    have HR4 := Lib.hid (hr4.sub (S' := Plus Nowhere w.heap.size w4.heap.size) Flat.keeps (fun b h => h.elim (fun h => h.elim) (fun h => .inr ⟨by have := h.1; omega, h.2⟩)))
    have HM := Lib.hid (show castN (memB L3 L3.length) = opsI l 0 from by
      have h := HS3.out.mem (N := 0 + labelsL l) (fun n hn => by
        rw [Bool.false_or]
        cases e : opL l 0 n
        · rfl
        · have := opL_rng _ _ _ e; omega)
      rw [h]
      unfold opsI numI castN
      simp only [Bool.false_or])
    have B4 := Lib.hid (B3.out.trans (hb4.mono (by omega)))
    clear hr4 hb4 CL
    go_wp2_with fail
    go_ret
    exact ⟨u4, rfl, by rw [← HM.out]; exact HR4.out, B4.out⟩
  · rw [if_neg hn]
    go_enter Tryd.func6, Tryd.ntmps6
    go_wp2_with fail
    refine HC1.out.mono ?_
    rintro e w1 ⟨rfl, hb1⟩
    have hgt : 65535 < labelsL l := by omega
    go_wp2_with fail
    go_ret
    exact ⟨_, rfl, RdL.nil (by unfold maxLen; omega), hb1⟩
def encQ (x : Nat × Nat) : List Value := [.int .i64 (x.1 : Int), .int .i64 (x.2 : Int)]
def cellsQ (l : List (Nat × Nat)) : List Value := l.flatMap encQ
theorem cellsQ_snoc (l : List (Nat × Nat)) (x : Nat × Nat) : cellsQ (l ++ [x]) = cellsQ l ++ encQ x := by unfold cellsQ; rw [List.flatMap_append]; simp
theorem own_readsQ {W : World} {base : Nat} {l : List (Nat × Nat)} {v : Value} (h : W.ownsRow base 30 2 v l.length (cellsQ l)) (hl : ∀ x ∈ l, inI (x.1 : Int) ∧ inI (x.2 : Int)) (hb : l.length * 16 ≤ 140737488355328) :
    RdP W (Plus Nowhere base W.heap.size) (l.map ceE) v := by
  have ho : OwnP 30 W base Nowhere (l.map ceE) v := by
    refine ⟨Nowhere, l.map encQ, Sub.refl _, Sub.nowhere _, fun _ _ h => h, by simp, fun cs hc => ?_, ?_, fun i e cs hi hc => ?_⟩
    · obtain ⟨x, _, rfl⟩ := List.mem_map.1 hc; rfl
    · rw [List.length_map]; exact h
    · rw [List.getElem?_map] at hi hc
      obtain ⟨x, hx, rfl⟩ := Option.map_eq_some_iff.1 hi
      rw [hx] at hc
      simp at hc; subst hc
      exact ⟨rfl, hl x (List.mem_of_getElem? hx)⟩
  exact ho.toRd (bytes := 16) Flat.keeps (by simpa using hb) (Sub.nowhere _) (fun b h1 h2 => .inr ⟨h1, h2⟩)
set_option maxHeartbeats 3000000 in
set_option maxRecDepth 100000 in
theorem pairs_any (l : List St) (hw : St.wts l ≤ 1048576) (w : World) (S : Blocks) (v : Value) (hS : Sub S (Upto w.heap.size)) (hT : Tab w) (r : RdSts w S l v) :
    Calls Tryd.prog 5 #[v] w fun e w' => ∃ u, e = .returned u ∧ RdP w' (Plus Nowhere w.heap.size w'.heap.size) (if labelsL l ≤ 65535 then prsI l 0 else []) u ∧ Below w.heap.size w w' := by
  have hlw := labelsL_le l
  have HC1 := Lib.hid ((labs_all _ l (Nat.le_refl _)).1 w S v hS r hw)
  obtain ⟨A, cap, rfl, _⟩ := r.form
  have R := Lib.hid r
  have HS := Lib.hid hS
  have HT := Lib.hid hT
  clear r hS hT
  obtain ⟨i2, hi2, hy0, hy1, hy2⟩ := info_parts infoWs
  obtain ⟨i0, hi, hz0, hz1, hz2⟩ := info_parts infoPr
  have hmk := fun w => run_make1 (P := Tryd.prog) 41 44 i2 _ Tryd.underlying41 hi2 hy0 hy1 rfl (labelsL l) (by rw [hy2]; omega) (by omega) w
  obtain ⟨RS, hRS⟩ : ∃ RS, RS = (if labelsL l ≤ 65535 then prsI l 0 else []) := ⟨_, rfl⟩
  rw [← hRS]
  have HRS := Lib.hid hRS
  clear hRS
  have hg0 : 0 < w.heap.size := HT.out.2
  refine (callsIn_wide (n := 3)).1 ?_
  refine callsIn_of_wp_marks Tryd.func5 rfl trivial ?_ rfl
  simp only [Tryd.ntmps5, List.size_toArray, List.length_cons, List.length_nil, Nat.reduceAdd, Nat.reduceSub, Array.replicate_succ, Array.replicate_zero, List.push_toArray, List.append_toArray, List.nil_append, List.cons_append]
  gi_wp2
  refine ⟨trivial, ?_⟩
  refine (callsIn_wide.2 HC1.out).mono ?_
  rintro e w1 ⟨rfl, hb1⟩
  --((w1.alloc (.cells (Array.replicate (labelsL l) (.slice none 0 0)) 44)).alloc (.cells #[.slice (some ⟨w1.heap.size, 0, none⟩) (labelsL l) (labelsL l)] 43)) = ((w1.alloc (.cells (Array.replicate (labelsL l) (.slice none 0 0)) 44)).alloc (.cells #[.slice (some ⟨w1.heap.size, 0, none⟩) (labelsL l) (labelsL l)] 43))
  have b2 : Below w1.heap.size w1 ((w1.alloc (.cells (Array.replicate (labelsL l) (.slice none 0 0)) 44)).alloc (.cells #[.slice (some ⟨w1.heap.size, 0, none⟩) (labelsL l) (labelsL l)] 43)) := ((Below.refl _ _).alloc (Nat.le_refl _) _).alloc (by simp) _
  have BW := Lib.hid (hb1.trans (b2.mono hb1.size))
  have hx1 := hb1.size
  have LK := Lib.hid (lk_made w1 (labelsL l))
  have hx2 : (((w1.alloc (.cells (Array.replicate (labelsL l) (.slice none 0 0)) 44)).alloc (.cells #[.slice (some ⟨w1.heap.size, 0, none⟩) (labelsL l) (labelsL l)] 43))).heap.size = w1.heap.size + 1 + 1 := by simp
  by_cases hn : labelsL l ≤ 65535
  · have R2 := Lib.hid (R.out.go RdSt.keeps BW.out HS.out (Sub.refl _))
    have T2 := Lib.hid (HT.out.go BW.out)
    have HB := Lib.hid (block_all (w1.heap.size + 1) w1.heap.size (labelsL l) hn (by omega) _ l (Nat.le_refl _) 0 _ (fun _ => false) [] ((w1.alloc (.cells (Array.replicate (labelsL l) (.slice none 0 0)) 44)).alloc (.cells #[.slice (some ⟨w1.heap.size, 0, none⟩) (labelsL l) (labelsL l)] 43)) S Nowhere _ (.slice none 0 0) (HS.out.trans (Sub.upto BW.out.size)) (fun h => by have := HS.out _ h; unfold Upto at this; omega) R2.out hw (by omega) SetIs.nil (fun _ h => by cases h) (RdL.nil (by unfold maxLen; omega)) (Sub.nowhere _) (fun h => h) T2.out LK.out)
    clear hb1 b2 LK
    gi_wp2
    generalize ((w1.alloc (.cells (Array.replicate (labelsL l) (.slice none 0 0)) 44)).alloc (.cells #[.slice (some ⟨w1.heap.size, 0, none⟩) (labelsL l) (labelsL l)] 43)) = W2 at *
    refine ⟨trivial, ?_⟩
    refine (callsIn_wide.2 HB.out).mono ?_
    rintro e w3 ⟨L3, u3, T3, rfl, hs3, hr3, hT3, _, hlk3, hb3⟩
    have T3' := Lib.hid (T2.out.but hb3 (fun e => by have e : _ = w1.heap.size := e; omega))
    have hz3 := hb3.size
    have B3 := Lib.hid (BW.out.trans (hb3.below (B := w.heap.size) (by omega) (fun k e => by unfold Is at e; omega)))
    obtain ⟨hc3, _, vs, hS3⟩ := hlk3
    have hb4 : Below w3.heap.size w3 (w3.alloc (.cells #[.slice none 0 0] 24)) := (Below.refl _ _).alloc (Nat.le_refl _) _
    have c3 := (hb4.cell (p := ⟨w1.heap.size + 1, 0, none⟩) (World.block_lt_of_cell? w3 _ hc3)).trans hc3
    have hB0 : Boxed (w3.alloc (.cells #[.slice none 0 0] 24)) w3.heap.size 24 (.slice none 0 0) := Boxed.new _ _ _
    have hS4 := hS3.below hb4
    have hsz4 : w3.heap.size < ((w3.alloc (.cells #[.slice none 0 0] 24))).heap.size := by simp
    gi_wp2
    generalize (w3.alloc (.cells #[.slice none 0 0] 24)) = W4 at *
    have HS3 := Lib.hid (hS3.congr (Q := prL l 0) (fun i j _ => by unfold bkR; rw [mixB_none]; simp))
    have HP := Lib.hid (show ∀ i m, labelsL l ≤ m → prL l 0 i m = false from fun i m hm => by
      cases e : prL l 0 i m
      · rfl
      · have := prL_rng l 0 i m e; omega)
    have HPR := Lib.hid (show prsI l 0 = (edgU (rowP (labelsL l) (prL l 0)) (labelsL l)).map ceE by unfold prsI prI; rw [Nat.zero_add])
    have hg1 : 0 < w3.heap.size := by omega
    have hgl := hS3.out.lt
    obtain ⟨n, hnn⟩ : ∃ n, n = labelsL l := ⟨_, rfl⟩
    rw [← hnn] at HS3 HP HPR hn ⊢
    have HNN := Lib.hid hnn
    obtain ⟨P, hPP⟩ : ∃ P, P = prL l 0 := ⟨_, rfl⟩
    rw [← hPP] at HS3 HP HPR
    clear hS3 hS4 hc3 c3 hb3 hr3 hs3 hT3 HB hnn hPP hmk BW R2 T2
    refine wpIn_loop (fun a' wr => ∃ (u6 u7 u25 u26 u27 u28 u29 u30 u31 u39 : Value) (ds : List Deferred), (∃ i : Nat, i ≤ n ∧ u25 = .int .i64 i ∧ ∃ v, Boxed wr w3.heap.size 24 v ∧ wr.ownsRow w3.heap.size 30 2 v (edgU (rowP n P) i).length (cellsQ (edgU (rowP n P) i)) ∧
      Below w3.heap.size w3 wr ∧ w3.heap.size < wr.heap.size ∧ Marks w3.heap.size wr ds) ∧ a' = { tmps := #[.slice A l.length cap, undef, .slice none 0 0, .int .i64 (n : Int), .pointer (some ⟨w1.heap.size + 1, 0, none⟩), .pointer (some ⟨w3.heap.size, 0, none⟩), u6, u7, undef, .slice A l.length cap, .int .i64 (n : Int), .int .i64 (n : Int), .slice (some ⟨w1.heap.size, 0, none⟩) n n, .agg #[.slice (some ⟨w1.heap.size, 0, none⟩) n n], .pointer (some ⟨w1.heap.size + 1, 0, none⟩), .int .i64 (n : Int), .bool (decide ((65535 : Int) < (n : Int))), .pointer (some ⟨w1.heap.size + 1, 0, none⟩), .slice A l.length cap, u3, .pointer (some ⟨w1.heap.size + 1, 0, none⟩), .pointer (some ⟨w1.heap.size + 1, 0, none⟩), .pointer (some ⟨w1.heap.size + 1, 0, none⟩), .slice (some ⟨w1.heap.size, 0, none⟩) n n, .int .i64 (n : Int), u25, u26, u27, u28, u29, u30, u31, undef, undef, undef, undef, undef, undef, undef, u39, undef], defers := ds }) (fun a' _ => n - (intOf (a'.tmps.getD 25 undef)).toNat) ?start ?round
    case start =>
      (repeat apply Exists.intro)
      refine ⟨⟨0, by omega, rfl, _, hB0, World.ownsRow_nil _ _ _ _, hb4, hsz4, Marks.nil _ _⟩, rfl⟩
    case round =>
      clear hB0 hb4 hsz4
      rintro a' wr ⟨u6, u7, u25, u26, u27, u28, u29, u30, u31, u39, ds, ⟨i, hin, rfl, v, hv, hown, hbel, hsz, hM⟩, rfl⟩
      try dsimp only
      by_cases hlt : i < n
      · skip
        obtain ⟨T, ls, A', c', hTs, _, _, hset, hrd, hce, _⟩ := HS3.out.at_ hlt
        have e0 := (hbel.cell (p := ⟨w1.heap.size, i, none⟩) hgl).trans hce
        have hmem : memB ls ls.length = rowP n P i := hset.mem (HP.out i)
        have hrl := rowP_len n P i
        have hll : ls.length ≤ maxLen := by
          obtain ⟨_, _, e9, q1, q2, _⟩ := hrd.form
          injection e9 with _ _ e9
          omega
        clear hce
        gi_wp2
        refine ⟨trivial, ?_⟩
        refine (all_in _ _ _ _ _).mono ?_
        rintro e w2 ⟨rfl, rfl⟩
        gi_wp2
        have b1 : Below w3.heap.size w3 ((wr.alloc (.cells #[.int .i64 (i : Int)] 3)).alloc (.cells #[.slice A' ls.length c'] 45)) := (hbel.alloc hbel.size _).alloc (by have := hbel.size; simp; omega) _
        have b2 : Below wr.heap.size wr ((wr.alloc (.cells #[.int .i64 (i : Int)] 3)).alloc (.cells #[.slice A' ls.length c'] 45)) := ((Below.refl _ _).alloc (Nat.le_refl _) _).alloc (by simp) _
        have hcS : (((wr.alloc (.cells #[.int .i64 (i : Int)] 3)).alloc (.cells #[.slice A' ls.length c'] 45))).cell? ⟨wr.heap.size + 1, 0, none⟩ = some (.slice A' ls.length c') := by
          have := (Boxed.new (wr.alloc (.cells #[.int .i64 (i : Int)] 3)) 45 (.slice A' ls.length c')).cell
          rwa [show (wr.alloc (.cells #[.int .i64 (i : Int)] 3)).heap.size = wr.heap.size + 1 by simp] at this
        have hvb : Boxed ((wr.alloc (.cells #[.int .i64 (i : Int)] 3)).alloc (.cells #[.slice A' ls.length c'] 45)) w3.heap.size 24 v := (hv.alloc _).alloc _
        have hib : Boxed ((wr.alloc (.cells #[.int .i64 (i : Int)] 3)).alloc (.cells #[.slice A' ls.length c'] 45)) wr.heap.size 3 (.int .i64 (i : Int)) := (Boxed.new wr 3 (.int .i64 (i : Int))).alloc _
        have how : (((wr.alloc (.cells #[.int .i64 (i : Int)] 3)).alloc (.cells #[.slice A' ls.length c'] 45))).ownsRow w3.heap.size 30 2 v (edgU (rowP n P) i).length (cellsQ (edgU (rowP n P) i)) := (hown.alloc _).alloc _
        have REW := Lib.hid (hrd.keep Flat.keeps (Sub.refl _) (same_of_below b1 hTs))
        have TW := T3'.out.go b1
        have hsz0 : (((wr.alloc (.cells #[.int .i64 (i : Int)] 3)).alloc (.cells #[.slice A' ls.length c'] 45))).heap.size = wr.heap.size + 1 + 1 := by simp
        have hMB := (hM.below b2).held (Nat.le_refl _)
        obtain ⟨W0, hW0⟩ : ∃ W0, ((wr.alloc (.cells #[.int .i64 (i : Int)] 3)).alloc (.cells #[.slice A' ls.length c'] 45)) = W0 := ⟨_, rfl⟩
        rw [hW0] at hcS hvb hib how b1 REW TW hsz0 hMB ⊢
        clear hW0 b2
        have htop := Nat.le_of_eq hsz0
        have htop2 := Nat.le_of_eq hsz0.symm
        have hzw := b1.size
        clear hsz0
        have HTS := Lib.hid hTs
        have HMEM := Lib.hid hmem
        clear hTs hmem hM hown hv hbel hrd
        refine wpIn_rangeFunc_ownH rfl (by omega) (gf := 23) (lb := #[.pointer (some ⟨wr.heap.size + 1, 0, none⟩)]) rfl trivial (enters_of Tryd.func23 (by kernel_rfl) rfl)
          (all_stops _ (by omega) (wr.heap.size + 1) w3.heap.size A' c' ls T HTS.out W0 (by omega) hzw TW hg1 hcS REW.out) belowK_t (belowK_b hzw) (Below.refl _ _) (fun _ => rfl)
          (fun pre W => ((∃ v, Boxed W w3.heap.size 24 v ∧ W.ownsRow w3.heap.size 30 2 v (edgU (rowP n P) i ++ pre.map fun m => (i, m)).length (cellsQ (edgU (rowP n P) i ++ pre.map fun m => (i, m))) ∧ True) ∧ Boxed W wr.heap.size 3 (.int .i64 (i : Int))) ∧ (MarksB w3.heap.size W0.heap.size W ds ∧ Below w3.heap.size w3 W))
          (fun c pre W => False)
          (OwnFrom.and (OwnFrom.and (Own.from (holdsRow_own w3.heap.size w3.heap.size 24 30 2 (fun pre : List Nat => (edgU (rowP n P) i ++ pre.map fun m => (i, m)).length) (fun pre => cellsQ (edgU (rowP n P) i ++ pre.map fun m => (i, m))) (fun _ _ => True)) _) (fun _ _ _ _ hs hg hr => hs.kept hg (fun e => by have := (hr _ e.symm).1; omega)))
            (OwnFrom.and (MarksB.from _ _ _) (ownFrom_below (Nat.le_refl _) hzw)))
          (fun c => fun _ _ _ _ h _ _ => h)
          ⟨⟨⟨_, hvb, by simpa using how, trivial⟩, hib⟩, hMB, b1⟩
          (fun x a' W => a' = { tmps := #[.slice A l.length cap, undef, .slice none 0 0, .int .i64 (n : Int), .pointer (some ⟨w1.heap.size + 1, 0, none⟩), .pointer (some ⟨w3.heap.size, 0, none⟩), .pointer (some ⟨wr.heap.size, 0, none⟩), .slice A' ls.length c', .int .i64 (x : Int), .slice A l.length cap, .int .i64 (n : Int), .int .i64 (n : Int), .slice (some ⟨w1.heap.size, 0, none⟩) n n, .agg #[.slice (some ⟨w1.heap.size, 0, none⟩) n n], .pointer (some ⟨w1.heap.size + 1, 0, none⟩), .int .i64 (n : Int), .bool (decide ((65535 : Int) < (n : Int))), .pointer (some ⟨w1.heap.size + 1, 0, none⟩), .slice A l.length cap, u3, .pointer (some ⟨w1.heap.size + 1, 0, none⟩), .pointer (some ⟨w1.heap.size + 1, 0, none⟩), .pointer (some ⟨w1.heap.size + 1, 0, none⟩), .slice (some ⟨w1.heap.size, 0, none⟩) n n, .int .i64 (n : Int), .int .i64 (i : Int), .bool true, .int .i64 (i : Int), .pointer (some ⟨w1.heap.size, i, none⟩), .slice A' ls.length c', .slice A' ls.length c', .func (.func 23) #[] #[.pointer (some ⟨wr.heap.size + 1, 0, none⟩)], .int .i64 (x : Int), undef, undef, undef, undef, undef, undef, u39, undef], defers := [] })
          (fun x a' _ X Y row hs hg hr => hs)
          ?assign ?body ?done ?stop
        case assign =>
          rintro l' pre x W K hI hK
          gi_wp2
          exact hK _ _ (KeepsFrom.refl _ _) (Below.refl _ _) hI rfl
        case body =>
          rintro l' pre x a' W hl' ⟨r, hr⟩ ⟨⟨⟨v, hv, hrow, _⟩, hib⟩, hMB, hB1⟩ rfl hlt2
          have hsz2 := hB1.size
          have cv := hv.cell
          have fv := hv.frozen
          have ci := hib.cell
          have hpl : pre.length < n := by
            rw [HMEM.out] at hlt2
            omega
          have hedl := edgU_len (rowP n P) n (rowP_len n P) i
          have hin2 : i * n ≤ 65535 * 65535 := Nat.mul_le_mul (by omega) hn
          have HLEN := Lib.hid (show (edgU (rowP n P) i ++ pre.map fun m => (i, m)).length = (edgU (rowP n P) i).length + pre.length by simp)
          have HC := Lib.hid (Blk.made W (encQ (i, x)) 30 (base := 0) (Nat.zero_le _)).cell
          gi_wp2_with (gi_at_builtin; refine wpListIn_append_own _ rfl _ _ 24 rfl w3.heap.size 30 i0 _ 2 16 Tryd.underlying24 hi hz0 hz1 hz2 rfl (by decide) v (edgU (rowP n P) i ++ pre.map fun m => (i, m)).length (cellsQ (edgU (rowP n P) i ++ pre.map fun m => (i, m))) ?hs (hrow.alloc _) ⟨W.heap.size, 0, none⟩ 1 1 (encQ (i, x)) ?hx rfl ?hc ?h1c ?m1 ?m2 ?m3 ?_)
          case hs => rfl
          case hx => rfl
          case hc =>
            intro j u hj
            rw [show (⟨W.heap.size, 0, none⟩ : Addr).add j = ⟨W.heap.size, j, none⟩ from by unfold Addr.add; split <;> simp_all]
            exact HC.out j u hj
          case h1c => intro u hu; simp [encQ] at hu; rcases hu with rfl | rfl <;> rfl
          case m1 => rw [HLEN.out]; unfold maxLen; omega
          case m2 => rw [HLEN.out]; omega
          case m3 => simp; omega
          intro v' w4 hown' hgrow _
          obtain ⟨hx1, hx2, hx3, hx4, hx5⟩ := hv.appended (by decide) hrow hsz2 (Nat.le_refl _) hown' hgrow
          obtain ⟨g, c, rfl⟩ := ownsRow_succ hown'
          have cv1 := hx1.cell
          have fv1 := hx1.frozen
          have HIB2 := Lib.hid (show ∀ u, Boxed (w4.setCell ⟨w3.heap.size, 0, none⟩ u) wr.heap.size 3 (.int .i64 (i : Int)) from by
            intro u
            have h0 := (hib.alloc _).kept hgrow (fun e => by
              rcases hrow.2 with ⟨e9, _⟩ | ⟨g', cap', cur', e9, _, hgb, _⟩
              · rw [e9] at e; simp [Value.ownBlock] at e
              · rw [e9] at e
                obtain rfl : wr.heap.size = g' := by simpa [Value.ownBlock] using e
                rw [show W.heap[wr.heap.size]? = _ from hib] at hgb
                simp at hgb)
            exact h0.kept (grownBy_setCell' _ _ _) (fun e => by injection e with e; omega))
          clear hown' hgrow
          gi_wp2
          have e1 : edgU (rowP n P) i ++ (pre ++ [x]).map (fun m => (i, m)) = (edgU (rowP n P) i ++ pre.map fun m => (i, m)) ++ [(i, x)] := by simp
          have e2 : (edgU (rowP n P) i ++ (pre ++ [x]).map (fun m => (i, m))).length = (edgU (rowP n P) i).length + pre.length + 1 := by simp; omega
          exact ⟨hx4.from _, hx5, ⟨⟨⟨_, hx2, by rw [e2, e1, cellsQ_snoc]; simpa using hx3, trivial⟩, HIB2.out _⟩, hMB.keeps hx4, hB1.trans hx5⟩⟩
        case done =>
          rintro D ys W hD hys ⟨⟨⟨v, hv, hrow, _⟩, hib⟩, hMB, hB1⟩ hK
          have e1 : edgU (rowP n P) i ++ ys.map (fun m => (i, m)) = edgU (rowP n P) (i + 1) := by
            have : ys = memB ls ls.length := hys
            rw [edgU_succ, this, HMEM.out]
          rw [e1] at hrow
          have hM2 := hMB.more (by omega) hD hK
          have hzD := (Array.getElem?_eq_some_iff.1 hK).1
          clear hib hMB hK e1
          gi_wp2
          refine ⟨?rel, ?measure⟩
          case rel =>
            (repeat apply Exists.intro)
            refine ⟨?_, rfl⟩
            exact ⟨i + 1, by omega, by go_num, v, hv, hrow, hB1, by omega, hM2⟩
          case measure => simp [intOf]; omega
        case stop =>
          rintro D c' pre W hD hpre h hK
          exact h.elim
      · skip
        have hie : i = n := by omega
        subst hie
        have cv := hv.cell
        have hel := edgU_len (rowP i P) i (rowP_len i P) i
        have hin2 : i * i ≤ 65535 * 65535 := Nat.mul_le_mul (by omega) (by omega)
        gi_wp2
        refine leaves_all hM (J := fun W => W.ownsRow w3.heap.size 30 2 v (edgU (rowP i P) i).length (cellsQ (edgU (rowP i P) i)) ∧ Below w3.heap.size w3 W) ?_ ⟨hown, hbel⟩ ?_
        · rintro _ W W' row ⟨h1, h2⟩ hg hr
          refine ⟨h1.kept hg ?_, h2.grown hg h2.size (fun k e => (hr k e).1)⟩
          rcases h1.2 with ⟨rfl, _⟩ | ⟨g, cap9, cur, rfl, _, hgb, _⟩
          · exact .inl rfl
          · refine .inr fun e' => ?_
            obtain ⟨_, o, ho, hc⟩ := hr g (by simpa [Value.ownBlock] using e'.symm)
            rw [hgb] at ho; cases ho; cases hc
        · rintro W ⟨h1, h2⟩
          have hzz : w.heap.size ≤ w3.heap.size := B3.out.size
          refine ⟨v, ?_, v, rfl, ?_, B3.out.trans (h2.mono hzz)⟩
          · simp [results, Tryd.f5, go_sem]
          · rw [HRS.out, ← HNN.out, if_pos hn, HPR.out]
            refine (own_readsQ h1 (fun x hx => ?_) (by omega)).sub Flat.keeps (fun b h => h.elim (fun h => h.elim) (fun h => .inr ⟨by have := h.1; omega, h.2⟩))
            obtain ⟨a, b⟩ := x
            obtain ⟨q1, q2⟩ := edgU_mem hx
            obtain ⟨q3, _⟩ := rowP_mem q2
            unfold inI
            constructor <;> omega
  · have hgt : 65535 < labelsL l := by omega
    gi_wp2
    refine ⟨.slice none 0 0, ?_, _, rfl, by rw [HRS.out, if_neg hn]; exact RdL.nil (by unfold maxLen; omega), BW.out⟩
    simp [results, Tryd.f5, go_sem]
end Go.Proofs.YtnpgpcnkdocknaaDoor
