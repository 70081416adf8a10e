/- Texts merged: RnLr, Kp1, Kp2, Kp3, Kp4, Kp5, Kp6. -/
import Derived.Test.YtnpgpcnkdocknaaGreatDoorRn12
import Derived.Test.YtnpgpcnkdocknaaGreatDoorGPb3
import Derived.Test.YtnpgpcnkdocknaaGreatDoorGKpSpec2
import Derived.Test.YtnpgpcnkdocknaaGreatDoorGPq2
import Derived.Test.YtnpgpcnkdocknaaGreatDoorGKq3
import Derived.Test.YtnpgpcnkdocknaaGreatDoorGAppZ
import Derived.Test.YtnpgpcnkdocknaaGreatDoorGPq4
import Derived.BigQuiet
import Derived.BigRegion
namespace Go.Proofs.YtnpgpcnkdocknaaGreatDoor
open Go.RowKit
set_option linter.unusedVariables false
theorem lr_all' (m : Nat) : ∀ l : List St, SizeOf.sizeOf l ≤ m → LRs l := by
 induction m with
 | zero => intro l h; cases l <;> simp at h
 | succ m ih =>
  intro l h
  refine lr_one l (fun k s a b body els hm => ?_)
  have := List.sizeOf_lt_of_mem hm
  simp only [St.mk.sizeOf_spec] at this
  exact ⟨ih _ (by omega), ih _ (by omega)⟩
theorem lr_all (l : List St) : LRs l := lr_all' _ l (Nat.le_refl _)
set_option maxHeartbeats 400000 in
theorem lren_any (l : List St) (w : World) (S : Blocks) (v : Value) (hS : Sub S (Upto w.heap.size)) (r : RdSts w S l v) (hwt : St.wts l ≤ 67108864) (hT : PowT w) :
    Calls Tryz.prog 7 #[v] w fun e w' => ∃ x, e = .returned x ∧ RdSts w' (Plus S w.heap.size w'.heap.size) (renL l [] 0).1 x ∧ Below w.heap.size w w' := by
 have HC := hid (lr_all l w S Nowhere [] 0 v (.slice none 0 0) hT hS r (Sub.nowhere _) (RdL.nil (by simp [maxLen])) hwt (by omega) (by simp; omega))
 clear r hS hT
 go_enter Tryz.func7, Tryz.ntmps7
 go_wp2_with fail
 refine HC.out.mono ?_
 rintro e w2 ⟨x, rfl, hr, hb⟩
 have HR := hid hr
 have HB := hid hb
 clear hr hb
 go_wp2
 go_ret
 exact ⟨_, rfl, HR.out, HB.out⟩
def KxE (t : Ex) : Prop := ∀ (inner : Bool) (w : World) (S : Blocks) (V : Value), Sub S (Upto w.heap.size) → RdE w S t V → PowT w → t.wt ≤ 67108864 →
 Calls Tryz.prog 56 #[V, .bool inner] w fun e w' => ∃ x, e = .returned (.tuple #[x, .bool (tkE true t inner).2]) ∧ OwnT w' w.heap.size (tkE true t inner).1 x ∧ Below w.heap.size w w' ∧ tsz (tkE true t inner).1 ≤ 64 * t.wt
theorem okS_itoa {n : Int} (h : inI n) : okS (itoaS n) := by have := itoaS_size n h.1 h.2; unfold okS; omega
set_option maxHeartbeats 2000000 in
set_option maxRecDepth 100000 in
theorem kx_none (t : Ex) (ht : t.pair = none) : KxE t := by
 intro inner w S V hS r hF hwt
 obtain ⟨k, n, s, args, v, rfl, rfl, hk, hn, hs, hargs⟩ := id r
 obtain ⟨A, cap, rfl, hcl, hcm, _⟩ := hargs.form
 unfold maxLen at hcm
 have ht1 := tkE_none (neg := true) ht inner
 have hp := Ex.pair_none ht
 have hw1 := Ex.wt_pos' (Ex.mk k n s args)
 simp only [Ex.kind, Ex.name, Ex.args] at hp hw1
 replace ht1 : tkE true (Ex.mk k n s args) inner = if k = 1 then (if 0 ≤ n then ([itoaS n], true) else ([itoaS n], false)) else if k = 2 then ([s], knameB s) else ([], false) := ht1
 generalize htt : tkE true (Ex.mk k n s args) inner = tt at ht1
 generalize (Ex.mk k n s args).wt = wt at *
 have HT := hid ht1
 have hbl : Below w.heap.size w (w.alloc (.cells #[.int .i64 k, .int .i64 n, .string s, .slice A args.length cap] 80)) := (Below.refl _ _).alloc (Nat.le_refl _) _
 have BX := Blk.made w [.int .i64 k, .int .i64 n, .string s, .slice A args.length cap] 80 (base := 0) (Nat.zero_le _)
 have HF := hid (hF.go hbl)
 have G := hid hbl
 have hsz := hbl.size
 generalize args.length = m at *
 unfold exV
 clear hF hbl ht1 r hargs htt hS
 go_enter Tryz.func56, Tryz.ntmps56
 go_upto_region 1 with (fail)
 have hdW : w.heap.size < (w.alloc (.cells #[.int .i64 k, .int .i64 n, .string s, .slice A m cap] 80)).heap.size := by simp
 generalize (w.alloc (.cells #[.int .i64 k, .int .i64 n, .string s, .slice A m cap] 80)) = W at *
 generalize hd : w.heap.size = d at *
 have HD := hid hd
 clear hd
 have c0 := BX.cell 0 _ rfl
 have c1 := BX.cell 1 _ rfl
 have c2 := BX.cell 2 _ rfl
 have c3 := BX.cell 3 _ rfl
 clear BX
 by_cases h1 : k = 1
 ·subst h1
  have HT1 := hid (show tt = ([itoaS n], decide (0 ≤ n)) by rw [HT.out, if_pos rfl]; by_cases h0 : 0 ≤ n <;> simp [h0])
  go_upto_region 2 with (fail)
  have HOK := hid (okS_itoa hn)
  have HN := hid hn
  clear hn hs hk
  refine wp_region_pre 8 (S := (fun w' => Stay W w')) (by kernel_rfl) (by kernel_rfl) (Stay.mk (Kept.start _)) (fun hHeld => ?_)
  simp only [List.take_succ_cons, List.take_zero]
  refine tkA 0 15 ?_
  refine tkA 1 16 ?_
  refine tkA 4 19 ?_
  refine tkA 5 20 ?_
  refine tkA 6 21 ?_
  (try simp only [Act.put, List.setIfInBounds_toArray, List.set_cons_zero, List.set_cons_succ])
  refine wpAnyH_ready (rs := [2]) (by kernel_rfl) (by simp) ?_
  refine AllReadyH.cons rfl (fun K hK => ?_) AllReadyH.nil
  go_simp
  refine (fj_n n HN.out.1 HN.out.2 W.drew (HF.out.go (Below.refl _ _).drew)).mono ?_
  rintro e w1 ⟨rfl, hb1⟩
  have hst1 : Stay W w1 := Stay.step hb1 hHeld
  refine hK.out _ _ ?_ (fun hHeld => ?_)
  ·exact hst1
  clear hK K
  (try simp only [Act.put, List.setIfInBounds_toArray, List.set_cons_zero, List.set_cons_succ])
  have hst2 := Stay.mk (Kept.alloc (Kept.here hst1) (.cells #[.string (itoaS n)] 9))
  refine wpAnyH_ready (rs := [3]) (by kernel_rfl) (by simp) ?_
  refine AllReadyH.cons rfl (fun K hK => ?_) AllReadyH.nil
  go_simp
  skip
  refine hK.out _ _ ?_ (fun hHeld => ?_)
  ·exact hst2
  clear hK K
  refine tkA 7 4 ?_
  (try simp only [Act.put, List.setIfInBounds_toArray, List.set_cons_zero, List.set_cons_succ])
  refine wpAnyH_done (by kernel_rfl) ?_ _
  unfold QPre
  simp only [List.drop_succ_cons, List.drop_zero]
  have HL := hid (OwnT.lit1 (w := w1) (base := W.heap.size) (itoaS n) HOK.out (Stay.size hst1))
  have H2 := hid (G.out.trans ((Stay.below hst2).mono hsz))
  clear hst1 hst2 hHeld hb1 c0 c1 c2 c3
  go_wp2
  go_ret2
  exact ⟨_, by rw [HT1.out]; rfl, by rw [HT1.out, HD.out]; exact HL.out.rebase hsz, by rw [HD.out]; exact H2.out, by rw [HT1.out, tsz_one]; have := itoaS_size n HN.out.1 HN.out.2; omega⟩
 ·by_cases h2 : k = 2
  ·subst h2
   have HT1 := hid (show tt = ([s], knameB s) by rw [HT.out, if_neg (by decide), if_pos rfl])
   go_upto_region 4 with (fail)
   have HOK := hid (show okS s from hs)
   have hs1 : s.size ≤ 9223372036854775807 := by omega
   clear hn hs hk
   refine wp_region_pre 6 (S := (fun w' => Stay W w')) (by kernel_rfl) (by kernel_rfl) (Stay.mk (Kept.start _)) (fun hHeld => ?_)
   simp only [List.take_succ_cons, List.take_zero]
   refine tkA 0 26 ?_
   refine tkA 1 27 ?_
   refine tkA 3 29 ?_
   refine tkA 4 30 ?_
   (try simp only [Act.put, List.setIfInBounds_toArray, List.set_cons_zero, List.set_cons_succ])
   refine wpAnyH_ready (rs := [2, 5]) (by kernel_rfl) (by simp) ?_
   refine AllReadyH.cons rfl (fun K hK => ?_) (AllReadyH.cons rfl (fun K hK => ?_) AllReadyH.nil)
   ·have hst1 := Stay.mk (Kept.alloc (Kept.here hHeld) (.cells #[.string s] 9))
    go_simp
    skip
    refine hK.out _ _ ?_ (fun hHeld => ?_)
    ·exact hst1
    clear hK K
    (try simp only [Act.put, List.setIfInBounds_toArray, List.set_cons_zero, List.set_cons_succ])
    refine wpAnyH_ready (rs := [5]) (by kernel_rfl) (by simp) ?_
    refine AllReadyH.cons rfl (fun K hK => ?_) AllReadyH.nil
    go_simp
    refine (kname_any s hs1 _).mono ?_
    rintro e w1 ⟨rfl, hb1⟩
    have hst2 : Stay W w1 := Stay.step hb1 hst1
    refine hK.out _ _ ?_ (fun hHeld => ?_)
    ·exact hst2
    clear hK K
    (try simp only [Act.put, List.setIfInBounds_toArray, List.set_cons_zero, List.set_cons_succ])
    refine wpAnyH_done (by kernel_rfl) ?_ _
    unfold QPre
    simp only [List.drop_succ_cons, List.drop_zero]
    have HL := hid (show OwnT w1 W.heap.size [s] (.slice (some ⟨W.heap.size, 0, none⟩) 1 1) from (OwnT.lit1 (w := W.drew) (base := W.heap.size) s HOK.out (Nat.le_refl _)).keep Flat.keeps hb1)
    have hbf := Stay.below hst2
    clear hb1
    have H2 := hid (G.out.trans (hbf.mono hsz))
    clear hst1 hst2 hHeld hbf c0 c1 c2 c3
    go_wp2
    go_ret2
    exact ⟨_, by rw [HT1.out]; rfl, by rw [HT1.out, HD.out]; exact HL.out.rebase hsz, by rw [HD.out]; exact H2.out, by rw [HT1.out, tsz_one]; omega⟩
   ·go_simp
    refine (kname_any s hs1 _).mono ?_
    rintro e w1 ⟨rfl, hb1⟩
    have hst1 : Stay W w1 := Stay.step hb1 hHeld
    refine hK.out _ _ ?_ (fun hHeld => ?_)
    ·exact hst1
    clear hK K
    (try simp only [Act.put, List.setIfInBounds_toArray, List.set_cons_zero, List.set_cons_succ])
    have hst2 := Stay.mk (Kept.alloc (Kept.here hst1) (.cells #[.string s] 9))
    refine wpAnyH_ready (rs := [2]) (by kernel_rfl) (by simp) ?_
    refine AllReadyH.cons rfl (fun K hK => ?_) AllReadyH.nil
    go_simp
    skip
    refine hK.out _ _ ?_ (fun hHeld => ?_)
    ·exact hst2
    clear hK K
    (try simp only [Act.put, List.setIfInBounds_toArray, List.set_cons_zero, List.set_cons_succ])
    refine wpAnyH_done (by kernel_rfl) ?_ _
    unfold QPre
    simp only [List.drop_succ_cons, List.drop_zero]
    have HL := hid (OwnT.lit1 (w := w1) (base := W.heap.size) s HOK.out (Stay.size hst1))
    have hbf := Stay.below hst2
    clear hb1
    have H2 := hid (G.out.trans (hbf.mono hsz))
    clear hst1 hst2 hHeld hbf c0 c1 c2 c3
    go_wp2
    go_ret2
    exact ⟨_, by rw [HT1.out]; rfl, by rw [HT1.out, HD.out]; exact HL.out.rebase hsz, by rw [HD.out]; exact H2.out, by rw [HT1.out, tsz_one]; omega⟩
  ·--<no
   have HT1 := hid (show tt = ([], false) by rw [HT.out, if_neg h1, if_neg h2])
   have e1 : (k == 1) = false := by simpa using h1
   have e2 : (k == 2) = false := by simpa using h2
   have fin := hid (show OwnT W d tt.1 (.slice none 0 0) ∧ tsz tt.1 ≤ 64 * wt ∧ tt.2 = false by rw [HT1.out]; exact ⟨OwnL.nil _ _ _, Nat.zero_le _, rfl⟩)
   by_cases h3 : k < 3
   ·go_wp2
    go_ret2
    exact ⟨_, by rw [fin.out.2.2]; rfl, by rw [HD.out]; exact fin.out.1, by rw [HD.out]; exact G.out, fin.out.2.1⟩
   ·by_cases h9 : 9 < k
    ·go_wp2
     go_ret2
     exact ⟨_, by rw [fin.out.2.2]; rfl, by rw [HD.out]; exact fin.out.1, by rw [HD.out]; exact G.out, fin.out.2.1⟩
    ·have hm : m ≠ 2 := by omega
     have e3 : ((m : Int) == 2) = false := by simp; omega
     have e4 : ((m : Int) != 2) = true := by simp; omega
     go_wp2
     go_ret2
     exact ⟨_, by rw [fin.out.2.2]; rfl, by rw [HD.out]; exact fin.out.1, by rw [HD.out]; exact G.out, fin.out.2.1⟩
theorem sgn_at' (k : Int) (h0 : 3 ≤ k) (h1 : k ≤ 9) : ∃ q : Nat, q < 7 ∧ k = 3 + q ∧ (#[Value.string ⟨#[43]⟩, .string ⟨#[45]⟩, .string ⟨#[42]⟩, .string ⟨#[47]⟩, .string ⟨#[37]⟩, .string ⟨#[60]⟩, .string ⟨#[61, 61]⟩] : Array Value)[q]? = some (.string (sgn k)) := by
 refine ⟨(k - 3).toNat, by omega, by omega, ?_⟩
 unfold sgn
 obtain ⟨q, hq⟩ : ∃ q, q = (k - 3).toNat := ⟨_, rfl⟩
 have hlt : q < 7 := by omega
 rw [← hq]
 match q, hlt with
 | 0, _ => rfl
 | 1, _ => rfl
 | 2, _ => rfl
 | 3, _ => rfl
 | 4, _ => rfl
 | 5, _ => rfl
 | 6, _ => rfl
 | n + 7, h => omega
theorem cell_new (w : World) (cs : Array Value) (E : TypeId) (i : Nat) : (w.alloc (.cells cs E)).cell? ⟨w.heap.size, i, none⟩ = cs[i]? := by
 have h := heap_alloc_new w (.cells cs E)
 generalize w.alloc (.cells cs E) = W at *
 generalize w.heap.size = g at *
 simp [World.cell?, h]
theorem own_sep {va vb : Value} {m : Nat} (ha : ∀ k, va.ownBlock = some k → k < m) (hb : ∀ k, vb.ownBlock = some k → m ≤ k) : vb.ownBlock = none ∨ vb.ownBlock ≠ va.ownBlock := by
 cases h : vb.ownBlock with
 | none => exact .inl rfl
 | some k => exact .inr (fun e => by have := ha k e.symm; have := hb k h; omega)
theorem own_lt {w : World} {base : Nat} {l : List Str} {A : Option Addr} {n n' c : Nat} (h : OwnT w base l (.slice A n c)) {j : Nat} (hj : (Value.slice A n' c).ownBlock = some j) : base ≤ j := by
 refine (h.lt j ?_).1
 cases A with
 | none => simp [Value.ownBlock] at hj
 | some a => simpa [Value.ownBlock] using hj
theorem calls_hid {P : Program} {f : FuncId} {a : Array Value} {w : World} {R : Ending → World → Prop} (h : Calls P f a w R) : Calls P f a w (fun e w' => Hid (R e w')) := h.mono fun _ _ h => hid h
set_option maxHeartbeats 2000000 in
set_option maxRecDepth 100000 in
theorem kx_two (t a b : Ex) (ht : t.pair = some (a, b)) (iha : KxE a) (ihb : KxE b) : KxE t := by
 intro inner w S V hS r hF hwt
 obtain ⟨i0, hi, hz0, hz1, hz2⟩ := info_parts infoStr
 have hw2 := Ex.pair_wt ht
 obtain ⟨k, n, s, args, v, rfl, rfl, hk, hn, hs, hargs⟩ := id r
 obtain ⟨hk3, hargs2⟩ := Ex.pair_some ht
 simp only [Ex.kind, Ex.args] at hk3 hargs2
 subst hargs2
 obtain ⟨A, cap, rfl, hcl, hcm, _⟩ := hargs.form
 obtain ⟨b0, off, k0, n0, s0, v0, rfl, hsb, x0, x1', x2, x3, ra⟩ := RdExs.arg hargs (q := 0) (by simp)
 obtain ⟨b0', off', k1, n1, s1, v1, hA, hsb', x4, x5, x6, x7, rb⟩ := RdExs.arg hargs (q := 1) (by simp)
 injection hA with hA
 injection hA with e1 e2
 subst e1 e2
 simp only [List.getElem_cons_zero, List.getElem_cons_succ] at ra rb
 rw [Nat.zero_mul, Nat.add_zero] at x0 x1' x2 x3
 rw [Nat.one_mul] at x4 x5 x6 x7
 obtain ⟨A0, m0, p0, rfl⟩ := ra.slice
 obtain ⟨A1, m1, p1, rfl⟩ := rb.slice
 have ht1 := tkE_pair (neg := true) ht inner
 simp only [Ex.kind] at ht1
 unfold maxLen at hcm
 generalize htt : tkE true (Ex.mk k n s [a, b]) inner = tt at ht1
 generalize (Ex.mk k n s [a, b]).wt = wt at *
 have HT := hid ht1
 simp only [List.length_cons, List.length_nil, Nat.reduceAdd] at hcl hcm
 have hbl : Below w.heap.size w (w.alloc (.cells #[.int .i64 k, .int .i64 n, .string s, .slice (some ⟨b0, off, none⟩) 2 cap] 80)) := (Below.refl _ _).alloc (Nat.le_refl _) _
 have BX := hid (Blk.made w [.int .i64 k, .int .i64 n, .string s, .slice (some ⟨b0, off, none⟩) 2 cap] 80 (base := 0) (Nat.zero_le _))
 have hb0 : b0 < w.heap.size := hS _ hsb
 have G := hid hbl
 have HF := hid (hF.go hbl)
 have RA := hid (ra.go hbl hS)
 have RB := hid (rb.go hbl hS)
 have hsz := hbl.size
 have HS := hid (hS.trans (Sub.upto hsz))
 have IHa := hid iha
 have IHb := hid ihb
 have HWA := hid (show a.wt ≤ 67108864 by omega)
 have HWB := hid (show b.wt ≤ 67108864 by omega)
 have HW2 := hid (show 64 + 64 * a.wt + 64 * b.wt ≤ 64 * wt by omega)
 obtain ⟨q, hq7, hkq, hsg⟩ := sgn_at' k hk3.1 hk3.2
 have HSG := hid (show okS (sgn k) from by have := sgn_size k; unfold okS; omega)
 have hsgs := sgn_size k
 obtain ⟨sg, hsg1⟩ : ∃ sg, sg = sgn k := ⟨_, rfl⟩
 rw [← hsg1] at hsg HSG hsgs
 replace HT := hid (show tt = (if inner then [bs [40]] ++ ((tkE true a true).1 ++ [sg] ++ (tkE true b true).1) ++ [bs [41]] else (tkE true a true).1 ++ [sg] ++ (tkE true b true).1, (tkE true a true).2 && (tkE true b true).2) by rw [hsg1]; exact HT.out)
 clear hsg1 ht1
 unfold exV
 have x0 := (hbl.cell (p := ⟨b0, off, none⟩) hb0).trans x0
 have x1' := (hbl.cell (p := ⟨b0, off + 1, none⟩) hb0).trans x1'
 have x2 := (hbl.cell (p := ⟨b0, off + 2, none⟩) hb0).trans x2
 have x3 := (hbl.cell (p := ⟨b0, off + 3, none⟩) hb0).trans x3
 have x4 := (hbl.cell (p := ⟨b0, off + 4, none⟩) hb0).trans x4
 have x5 := (hbl.cell (p := ⟨b0, off + 4 + 1, none⟩) hb0).trans x5
 have x6 := (hbl.cell (p := ⟨b0, off + 4 + 2, none⟩) hb0).trans x6
 have x7 := (hbl.cell (p := ⟨b0, off + 4 + 3, none⟩) hb0).trans x7
 subst hkq
 have e1 : ((3 : Int) + (q : Int) == 1) = false := by simp; omega
 have e2 : ((3 : Int) + (q : Int) == 2) = false := by simp; omega
 have e3 : ¬ ((3 : Int) + (q : Int) < 3) := by omega
 have e4 : ¬ (9 < (3 : Int) + (q : Int)) := by omega
 have e5 : (3 : Int) + (q : Int) - 3 = q := by omega
 clear hF hbl r hargs htt hS ra rb iha ihb hwt hw2 hk hn hs hsb hsb'
 go_enter Tryz.func56, Tryz.ntmps56
 go_upto_region 1 with (fail)
 have hdW : w.heap.size < (w.alloc (.cells #[.int .i64 ((3 : Int) + (q : Int)), .int .i64 n, .string s, .slice (some ⟨b0, off, none⟩) 2 cap] 80)).heap.size := by simp
 have hbW : b0 < (w.alloc (.cells #[.int .i64 ((3 : Int) + (q : Int)), .int .i64 n, .string s, .slice (some ⟨b0, off, none⟩) 2 cap] 80)).heap.size := by omega
 generalize (w.alloc (.cells #[.int .i64 ((3 : Int) + (q : Int)), .int .i64 n, .string s, .slice (some ⟨b0, off, none⟩) 2 cap] 80)) = W at *
 generalize hd : w.heap.size = d at *
 have HD := hid hd
 clear hd
 have c0 := BX.out.cell 0 _ rfl
 have c3 := BX.out.cell 3 _ rfl
 go_wp2_with (go_at_call 56; refine (calls_hid (IHa.out true W S _ HS.out RA.out HF.out HWA.out)).mono ?_)
 rintro e w1 hh; obtain ⟨xa, rfl, oa, ba, ta⟩ := hh.out; clear hh
 obtain ⟨Aa, ca, rfl⟩ := oa.form
 have OA := hid oa
 have TA := hid ta
 have BA := hid ba
 have hz1' := ba.size
 have BX1 := hid (BX.out.below ba)
 have c0 := BX1.out.cell 0 _ rfl
 have c3 := BX1.out.cell 3 _ rfl
 have y4 := (ba.cell (p := ⟨b0, off + 4, none⟩) hbW).trans x4
 have y5 := (ba.cell (p := ⟨b0, off + 4 + 1, none⟩) hbW).trans x5
 have y6 := (ba.cell (p := ⟨b0, off + 4 + 2, none⟩) hbW).trans x6
 have y7 := (ba.cell (p := ⟨b0, off + 4 + 3, none⟩) hbW).trans x7
 have HS1 := hid (HS.out.trans (Sub.upto hz1'))
 have RB1 := hid (RB.out.go ba HS.out)
 have HF1 := hid (HF.out.go ba)
 clear oa ta ba x0 x1' x2 x3 x4 x5 x6 x7 RA RB HF HS BX
 go_wp2_with (go_at_call 56; refine (calls_hid (IHb.out true w1 S _ HS1.out RB1.out HF1.out HWB.out)).mono ?_)
 rintro e w2 hh; obtain ⟨xb, rfl, ob, bb, tb⟩ := hh.out; clear hh
 obtain ⟨Ab, cb, rfl⟩ := ob.form
 have BX2 := hid (BX1.out.below bb)
 have c0 := BX2.out.cell 0 _ rfl
 have hz2' := bb.size
 have hAB := hid (own_sep (fun k hk => (OA.out.lt k hk).2) (fun k hk => (ob.lt k hk).1))
 have b4 : Below w2.heap.size w2 ((w2.alloc (.cells #[.string ⟨#[43]⟩, .string ⟨#[45]⟩, .string ⟨#[42]⟩, .string ⟨#[47]⟩, .string ⟨#[37]⟩, .string ⟨#[60]⟩, .string ⟨#[61, 61]⟩] 9)).alloc (.cells #[.string sg] 9)) := ((Below.refl _ _).alloc (Nat.le_refl _) _).alloc (by simp) _
 have OA4 := hid ((OA.out.keep Flat.keeps bb).keep Flat.keeps b4)
 have OB4 := hid (ob.keep Flat.keeps b4)
 have TB := hid tb
 have BB := hid (BA.out.trans (bb.mono hz1'))
 have BB4 := hid (BB.out.trans (b4.mono BB.out.size))
 have e0 : (w2.alloc (.cells #[.string ⟨#[43]⟩, .string ⟨#[45]⟩, .string ⟨#[42]⟩, .string ⟨#[47]⟩, .string ⟨#[37]⟩, .string ⟨#[60]⟩, .string ⟨#[61, 61]⟩] 9)).cell? ⟨w2.heap.size, q, none⟩ = some (.string sg) := by
  rw [cell_new]
  exact hsg
 have RL := hid (show RdSs ((w2.alloc (.cells #[.string ⟨#[43]⟩, .string ⟨#[45]⟩, .string ⟨#[42]⟩, .string ⟨#[47]⟩, .string ⟨#[37]⟩, .string ⟨#[60]⟩, .string ⟨#[61, 61]⟩] 9)).alloc (.cells #[.string sg] 9)) (fun _ => True) [sg] (.slice (some ⟨w2.heap.size + 1, 0, none⟩) 1 1) from by
  have h := rd_lit (w := w2.alloc (.cells #[.string ⟨#[43]⟩, .string ⟨#[45]⟩, .string ⟨#[42]⟩, .string ⟨#[47]⟩, .string ⟨#[37]⟩, .string ⟨#[60]⟩, .string ⟨#[61, 61]⟩] 9)) sg HSG.out
  rw [World.size_alloc] at h
  exact h)
 -- (.cells #[.string ⟨#[43]⟩, .string ⟨#[45]⟩, .string ⟨#[42]⟩, .string ⟨#[47]⟩, .string ⟨#[37]⟩, .string ⟨#[60]⟩, .string ⟨#[61, 61]⟩] 9))) sg HSG.out)
 have hla := tsz_len (tkE true a true).1
 have hlb := tsz_len (tkE true b true).1
 have hlA : (tkE true a true).1.length ≤ 4294967296 := by have := TA.out; have := HWA.out; omega
 have hlB : (tkE true b true).1.length ≤ 4294967296 := by have := TB.out; have := HWB.out; omega
 have hz4 : W.heap.size ≤ ((w2.alloc (.cells #[.string ⟨#[43]⟩, .string ⟨#[45]⟩, .string ⟨#[42]⟩, .string ⟨#[47]⟩, .string ⟨#[37]⟩, .string ⟨#[60]⟩, .string ⟨#[61, 61]⟩] 9)).alloc (.cells #[.string sg] 9)).heap.size := by simp; omega
 clear ob bb tb b4 y4 y5 y6 y7 hsg RB1 HF1 c3 hla hlb
 generalize hla : (tkE true a true).1 = la at *
 generalize hlb : (tkE true b true).1 = lb at *
 clear hla hlb
 go_upto_region 9 with (fail)
 have hdw2 : d < w2.heap.size := by omega
 go_wp2_with (at_builtin; generalize ((w2.alloc (.cells #[.string ⟨#[43]⟩, .string ⟨#[45]⟩, .string ⟨#[42]⟩, .string ⟨#[47]⟩, .string ⟨#[37]⟩, .string ⟨#[60]⟩, .string ⟨#[61, 61]⟩] 9)).alloc (.cells #[.string sg] 9)) = W4 at *; refine wpList_append_list rfl _ _ 37 rfl i0 _ Tryz.underlying37 hi hz0 hz1 hz2 rfl (by decide) Flat.keeps OA4.out (RL.out.bare Nowhere) rfl rfl (Sub.nowhere _) (Sub.nowhere _) not_nowhere oneS ?c3 ?c4 ?c5 ?_)
 case c3 => (try simp only [List.length_append]); (try simp only [List.length_cons, List.length_nil]); unfold maxLen; omega
 case c4 => (try simp only [List.length_append]); (try simp only [List.length_cons, List.length_nil]); omega
 try (case c5 => exact hz4)
 intro v5 w5 ho hg hk
 have OB5 := hid (show OwnT w5 w1.heap.size lb _ from OB4.out.kept Flat.keeps hg hAB.out (fun _ _ h => h))
 obtain ⟨A5, c5, rfl⟩ := ho.form
 have O5 := hid ho
 have B5 := hid (BB4.out.grown hg hz4 (fun j hj => (OA4.out.lt j hj).1))
 have hz5 := B5.out.size
 have RB5 := hid (OB5.out.rd (by omega))
 clear ho hg hk hz4 BB4 OA4 OB4 RL e0 OB5 hAB
 go_wp2_with (at_builtin; skip; refine wpList_append_list rfl _ _ 37 rfl i0 _ Tryz.underlying37 hi hz0 hz1 hz2 rfl (by decide) Flat.keeps O5.out (RB5.out.bare Nowhere) rfl rfl (Sub.nowhere _) (Sub.nowhere _) not_nowhere oneS ?c3 ?c4 ?c5 ?_)
 case c3 => (try simp only [List.length_append]); (try simp only [List.length_cons, List.length_nil]); unfold maxLen; omega
 case c4 => (try simp only [List.length_append]); (try simp only [List.length_cons, List.length_nil]); omega
 try (case c5 => exact hz5)
 intro v6 w6 ho hg hk
 have hXe : la ++ [sg] ++ lb = la ++ sg :: lb := by simp
 have hXl : (la ++ sg :: lb).length = la.length + 1 + lb.length := by simp; omega
 have hXt : tsz (la ++ sg :: lb) = tsz la + (sg.size + 1) + tsz lb := by rw [← hXe, tsz_app, tsz_app, tsz_one]
 have ho : OwnT w6 W.heap.size (la ++ sg :: lb) v6 := by first | exact ho | (rw [hXe] at ho; exact ho)
 have HXE := hid hXe
 have HXT := hid hXt
 clear hXe hXt
 generalize la ++ sg :: lb = X at *
 obtain ⟨A6, c6, rfl⟩ := ho.form
 have O6 := hid ho
 have B6 := hid (B5.out.grown hg hz5 (fun j hj => own_lt O5.out hj))
 have hz6 := B6.out.size
 clear ho hg hk hz5 B5 O5 RB5
 have htA := TA.out
 have htB := TB.out
 have hW2 := HW2.out
 cases inner
 ·have HT1 := hid (show tt = (X, (tkE true a true).2 && (tkE true b true).2) by rw [HT.out, ← HXE.out]; rfl)
  clear HT
  cases hoka : (tkE true a true).2
  all_goals (
   rw [hoka] at HT1
   generalize (tkE true b true).2 = okb at *
   go_wp2
   go_ret2
   exact ⟨_, by rw [HT1.out]; rfl, by rw [HT1.out, HD.out]; exact O6.out.rebase hsz, by rw [HD.out]; exact G.out.trans (B6.out.mono hsz), by rw [HT1.out, HXT.out]; omega⟩)
 ·have HT1 := hid (show tt = ([bs [40]] ++ X ++ [bs [41]], (tkE true a true).2 && (tkE true b true).2) by rw [HT.out, ← HXE.out]; rfl)
  clear HT
  have b7 : Below w6.heap.size w6 (w6.alloc (.cells #[.string ⟨#[40]⟩] 9)) := (Below.refl _ _).alloc (Nat.le_refl _) _
  have OL := hid (show OwnT (w6.alloc (.cells #[.string ⟨#[40]⟩] 9)) W.heap.size [bs [40]] (.slice (some ⟨w6.heap.size, 0, none⟩) 1 1) from OwnT.lit1 (bs [40]) (by unfold okS; decide) hz6)
  have R6 := hid (OwnT.rd (show OwnT (w6.alloc (.cells #[.string ⟨#[40]⟩] 9)) W.heap.size X _ from O6.out.keep Flat.keeps b7) (by omega))
  have B7 := hid (B6.out.trans (b7.mono hz6))
  have hz7 := B7.out.size
  clear b7 B6 O6
  go_wp2_with (at_builtin; generalize (w6.alloc (.cells #[.string ⟨#[40]⟩] 9)) = W7 at *; refine wpList_append_list rfl _ _ 37 rfl i0 _ Tryz.underlying37 hi hz0 hz1 hz2 rfl (by decide) Flat.keeps OL.out (R6.out.bare Nowhere) rfl rfl (Sub.nowhere _) (Sub.nowhere _) not_nowhere oneS ?c3 ?c4 ?c5 ?_)
  case c3 => (try simp only [List.length_append]); (try simp only [List.length_cons, List.length_nil]); unfold maxLen; omega
  case c4 => (try simp only [List.length_append]); (try simp only [List.length_cons, List.length_nil]); omega
  try (case c5 => exact hz7)
  intro v8 w8 ho hg hk
  obtain ⟨A8, c8, rfl⟩ := ho.form
  have O8 := hid (show OwnT w8 W.heap.size ([bs [40]] ++ X) _ from ho)
  have B8 := hid (B7.out.grown hg hz7 (fun j hj => (OL.out.lt j hj).1))
  have hz8 := B8.out.size
  clear ho hg hk hz7 B7 OL R6
  have b9 : Below w8.heap.size w8 (w8.alloc (.cells #[.string ⟨#[41]⟩] 9)) := (Below.refl _ _).alloc (Nat.le_refl _) _
  have O9 := hid (show OwnT (w8.alloc (.cells #[.string ⟨#[41]⟩] 9)) W.heap.size ([bs [40]] ++ X) _ from O8.out.keep Flat.keeps b9)
  have R9 := hid (show RdSs (w8.alloc (.cells #[.string ⟨#[41]⟩] 9)) (fun _ => True) [bs [41]] (.slice (some ⟨w8.heap.size, 0, none⟩) 1 1) from rd_lit (bs [41]) (by unfold okS; decide))
  have B9 := hid (B8.out.trans (b9.mono hz8))
  have hz9 := B9.out.size
  clear b9 B8 O8
  go_wp2_with (at_builtin; generalize (w8.alloc (.cells #[.string ⟨#[41]⟩] 9)) = W9 at *; refine wpList_append_list rfl _ _ 37 rfl i0 _ Tryz.underlying37 hi hz0 hz1 hz2 rfl (by decide) Flat.keeps O9.out (R9.out.bare Nowhere) rfl rfl (Sub.nowhere _) (Sub.nowhere _) not_nowhere oneS ?c3 ?c4 ?c5 ?_)
  case c3 => (try simp only [List.length_append]); (try simp only [List.length_cons, List.length_nil]); unfold maxLen; omega
  case c4 => (try simp only [List.length_append]); (try simp only [List.length_cons, List.length_nil]); omega
  try (case c5 => exact hz9)
  intro v10 w10 ho hg hk
  obtain ⟨A10, c10, rfl⟩ := ho.form
  have O10 := hid (show OwnT w10 W.heap.size ([bs [40]] ++ X ++ [bs [41]]) _ from ho)
  have B10 := hid (B9.out.grown hg hz9 (fun j hj => own_lt O9.out hj))
  clear ho hg hk hz9 B9 O9 R9
  cases hoka : (tkE true a true).2
  all_goals (
   rw [hoka] at HT1
   generalize (tkE true b true).2 = okb at *
   go_wp2
   go_ret2
   exact ⟨_, by rw [HT1.out]; rfl, by rw [HT1.out, HD.out]; exact O10.out.rebase hsz, by rw [HD.out]; exact G.out.trans (B10.out.mono hsz), by rw [HT1.out, tsz_app, tsz_app, tsz_one, tsz_one, HXT.out]; have h7 : (bs [40]).size = 1 := rfl; have h8 : (bs [41]).size = 1 := rfl; omega⟩)
theorem kx_all (t : Ex) : KxE t := Ex.indP kx_none kx_two t
def KOut (w w' : World) (T : Tks) (m : Nat) (e : Ending) : Prop := ∃ x out, e = .returned (.tuple #[x, .bool T.2]) ∧ OwnT w' w.heap.size out x ∧ Below w.heap.size w w' ∧ tsz out ≤ m ∧ (T.2 = true → out = T.1)
def KxL (l : List St) : Prop := ∀ (w : World) (S : Blocks) (V : Value), Sub S (Upto w.heap.size) → RdSts w S l V → PowT w → St.wts l ≤ 67108864 →
 Calls Tryz.prog 16 #[V] w fun e w' => KOut w w' (tkL true l) (64 * St.wts l) e
def KxS (k : Int) (s : Str) (a b : Ex) (body els : List St) : Prop := ∀ (w : World) (S : Blocks) (k1 n1 : Int) (s1 : ByteArray) (A1 : Option Addr) (m1 p1 : Nat) (k2 n2 : Int) (s2 : ByteArray) (A2 : Option Addr) (m2 p2 : Nat) (A3 : Option Addr) (p3 : Nat) (A4 : Option Addr) (p4 : Nat), Sub S (Upto w.heap.size) → inI k → okS s →
 RdE w S a (exV k1 n1 s1 (.slice A1 m1 p1)) → RdE w S b (exV k2 n2 s2 (.slice A2 m2 p2)) → RdSts w S body (.slice A3 body.length p3) → RdSts w S els (.slice A4 els.length p4) → PowT w → (St.mk k s a b body els).wt ≤ 67108864 →
 Calls Tryz.prog 32 #[.agg #[.int .i64 k, .string s, .int .i64 k1, .int .i64 n1, .string s1, .slice A1 m1 p1, .int .i64 k2, .int .i64 n2, .string s2, .slice A2 m2 p2, .slice A3 body.length p3, .slice A4 els.length p4]] w fun e w' => KOut w w' (tkS true (.mk k s a b body els)) (64 * (St.mk k s a b body els).wt) e
set_option maxHeartbeats 2000000 in
set_option maxRecDepth 100000 in
theorem kblock_any (l : List St) (hl : KxL l) (w : World) (S : Blocks) (V : Value) (hS : Sub S (Upto w.heap.size)) (r : RdSts w S l V) (hF : PowT w) (hwt : St.wts l ≤ 67108864) :
    Calls Tryz.prog 57 #[V] w fun e w' => KOut w w' (tblk (tkL true l)) (64 * St.wts l + 4) e := by
 obtain ⟨i0, hi, hz0, hz1, hz2⟩ := info_parts infoStr
 have HC := hid (hl w S V hS r hF hwt)
 clear hl r hF hS
 go_enter Tryz.func57, Tryz.ntmps57
 go_wp2_with (go_at_call 16; refine (calls_hid HC.out).mono ?_)
 rintro e w1 hh
 obtain ⟨x, out, rfl, o1, b1, t1, q1⟩ := hh.out
 clear hh HC
 obtain ⟨Ax, cx, rfl⟩ := o1.form
 have hlen := tsz_len out
 have hz1' := b1.size
 have b2 : Below w1.heap.size w1 (w1.alloc (.cells #[.string ⟨#[123]⟩] 9)) := (Below.refl _ _).alloc (Nat.le_refl _) _
 have OL := hid (show OwnT (w1.alloc (.cells #[.string ⟨#[123]⟩] 9)) w.heap.size [bs [123]] (.slice (some ⟨w1.heap.size, 0, none⟩) 1 1) from OwnT.lit1 (bs [123]) (by unfold okS; decide) hz1')
 have R1 := hid (OwnT.rd (show OwnT (w1.alloc (.cells #[.string ⟨#[123]⟩] 9)) w.heap.size out _ from o1.keep Flat.keeps b2) (by omega))
 have B2 := hid (b1.trans (b2.mono hz1'))
 have hz2' := B2.out.size
 have T1' := hid t1
 have Q1 := hid q1
 clear o1 b1 b2 t1 q1
 go_wp2_with (at_builtin; generalize (w1.alloc (.cells #[.string ⟨#[123]⟩] 9)) = W2 at *; refine wpList_append_list rfl _ _ 37 rfl i0 _ Tryz.underlying37 hi hz0 hz1 hz2 rfl (by decide) Flat.keeps OL.out (R1.out.bare Nowhere) rfl rfl (Sub.nowhere _) (Sub.nowhere _) not_nowhere oneS ?c3 ?c4 ?c5 ?_)
 case c3 => simp only [List.length_cons, List.length_nil]; unfold maxLen; have := T1'.out; omega
 case c4 => simp only [List.length_cons, List.length_nil]; have := T1'.out; omega
 try (case c5 => exact hz2')
 intro v3 w3 ho hg hk
 obtain ⟨A3, c3, rfl⟩ := ho.form
 have O3 := hid (show OwnT w3 w.heap.size ([bs [123]] ++ out) _ from ho)
 have B3 := hid (B2.out.grown hg hz2' (fun j hj => (OL.out.lt j hj).1))
 have hz3 := B3.out.size
 clear ho hg hk hz2' B2 OL R1
 have b4 : Below w3.heap.size w3 (w3.alloc (.cells #[.string ⟨#[125]⟩] 9)) := (Below.refl _ _).alloc (Nat.le_refl _) _
 have O4 := hid (show OwnT (w3.alloc (.cells #[.string ⟨#[125]⟩] 9)) w.heap.size ([bs [123]] ++ out) _ from O3.out.keep Flat.keeps b4)
 have R4 := hid (show RdSs (w3.alloc (.cells #[.string ⟨#[125]⟩] 9)) (fun _ => True) [bs [125]] (.slice (some ⟨w3.heap.size, 0, none⟩) 1 1) from rd_lit (bs [125]) (by unfold okS; decide))
 have B4 := hid (B3.out.trans (b4.mono hz3))
 have hz4 := B4.out.size
 clear b4 B3 O3
 go_wp2_with (at_builtin; generalize (w3.alloc (.cells #[.string ⟨#[125]⟩] 9)) = W4 at *; refine wpList_append_list rfl _ _ 37 rfl i0 _ Tryz.underlying37 hi hz0 hz1 hz2 rfl (by decide) Flat.keeps O4.out (R4.out.bare Nowhere) rfl rfl (Sub.nowhere _) (Sub.nowhere _) not_nowhere oneS ?c3 ?c4 ?c5 ?_)
 case c3 => simp only [List.length_append, List.length_cons, List.length_nil]; unfold maxLen; have := T1'.out; omega
 case c4 => simp only [List.length_append, List.length_cons, List.length_nil]; have := T1'.out; omega
 try (case c5 => exact hz4)
 intro v5 w5 ho hg hk
 obtain ⟨A5, c5, rfl⟩ := ho.form
 have O5 := hid (show OwnT w5 w.heap.size ([bs [123]] ++ out ++ [bs [125]]) _ from ho)
 have B5 := hid (B4.out.grown hg hz4 (fun j hj => own_lt O4.out hj))
 clear ho hg hk hz4 B4 O4 R4
 obtain ⟨ok, hok⟩ : ∃ ok, ok = (tkL true l).2 := ⟨_, rfl⟩
 have HOK := hid hok
 rw [← hok]
 clear hok
 go_wp2
 go_ret2
 refine ⟨_, _, by rw [show (tblk (tkL true l)).2 = ok by rw [HOK.out]; show ((true && (tkL true l).2) && true) = _; rw [Bool.true_and, Bool.and_true]]; rfl, O5.out, B5.out, ?_, ?_⟩
 ·rw [tsz_app, tsz_app]
  have h7 : tsz [bs [123]] = 2 := by decide
  have h8 : tsz [bs [125]] = 2 := by decide
  have := T1'.out
  omega
 ·intro h
  have h2 : (tkL true l).2 = true := by
   have h3 : ((true && (tkL true l).2) && true) = true := h
   rwa [Bool.true_and, Bool.and_true] at h3
  rw [Q1.out h2]
  rfl
theorem tkL_false (neg : Bool) : ∀ (l : List St) (s : St), s ∈ l → (tkS neg s).2 = false → (tkL neg l).2 = false
 | [], s, h, _ => by cases h
 | t :: l, s, h, hs => by
  rw [tkL]
  show ((tkS neg t).2 && (tkL neg l).2) = false
  rcases List.mem_cons.1 h with rfl | h
  ·rw [hs, Bool.false_and]
  ·rw [tkL_false neg l s h hs, Bool.and_false]
set_option maxHeartbeats 4000000 in
set_option maxRecDepth 100000 in
theorem kstmts_one (l : List St) (h : ∀ k s a b body els, St.mk k s a b body els ∈ l → KxS k s a b body els) : KxL l := by
 intro w S V hS r hF hwt
 obtain ⟨i0, hi, hz0, hz1, hz2⟩ := info_parts infoStr
 obtain ⟨A, cap, rfl, hl, hcm, hby⟩ := r.form
 unfold maxLen at hcm
 have H := hid h
 have R := hid r
 have HS := hid hS
 have HF := hid hF
 clear h r hS hF
 go_enter Tryz.func16, Tryz.ntmps16
 go_wp2_with fail
 go_loopw [4, 11] (fun o t wr => ∃ q : Nat, q ≤ l.length ∧ t = .int .i64 q ∧ Hid (OwnT wr w.heap.size (tkL true (l.take q)).1 o) ∧ Hid (Below w.heap.size w wr) ∧ Hid ((tkL true (l.take q)).2 = true) ∧ tsz (tkL true (l.take q)).1 ≤ 64 * St.wts (l.take q)) (fun _ t _ => l.length - (intOf t).toNat)
 case atStart => exact ⟨0, by omega, rfl, hid (by rw [List.take_zero]; exact OwnL.nil _ _ _), hid (Below.refl _ _), hid (by rw [List.take_zero]; rfl), by rw [List.take_zero]; simp [tkL, tsz]⟩
 case round =>
  obtain ⟨q, hq, rfl, HO, HB, HK, hts⟩ := hrel
  by_cases hlt : q < l.length
  ·have RW := R.out.go RdSt.keeps HB.out HS.out (Sub.refl _)
   obtain ⟨b0, off, cs, rfl, hb, hcl, hcell, hrd⟩ := RW.at_ hlt
   have hb : b0 < w.heap.size := HS.out _ hb
   have hbr : w.heap.size ≤ wr.heap.size := HB.out.size
   have hb0 : b0 < wr.heap.size := by omega
   have hmem := List.getElem_mem hlt
   have hwq := wts_takeK l hlt
   have HT := hid (tkL_take true l hlt)
   obtain ⟨wn, hwn⟩ : ∃ wn, wn = St.wts (l.take (q + 1)) := ⟨_, rfl⟩
   have hwn1 : St.wts (l.take q) + l[q].wt ≤ wn := by
    have e : ∀ (m : List St) (x : St), St.wts (m ++ [x]) = St.wts m + x.wt := by
     intro m x
     induction m with
     | nil => simp [St.wts]
     | cons y m ih => simp only [List.cons_append, St.wts, ih]; omega
    rw [hwn, List.take_succ_eq_append_getElem hlt, e]
    omega
   have HWN := hid hwn
   have HNO := hid (tkL_false true l l[q] hmem)
   clear hwn
   obtain ⟨st, hst⟩ : ∃ st, l[q] = st := ⟨_, rfl⟩
   rw [hst] at hrd hmem hwq HT hwn1 HNO
   obtain ⟨k, s, a, b, body, els⟩ := st
   obtain ⟨k1, n1, s1, A1, m1, p1, k2, n2, s2, A2, m2, p2, A3, p3, A4, p4, rfl, hk, hs, ra, rb, rv, rv'⟩ := hrd.cells
   have e0 : wr.cell? ⟨b0, off + q * 12, none⟩ = some _ := hcell 0 _ rfl
   have e1 : wr.cell? ⟨b0, off + q * 12 + 1, none⟩ = some _ := hcell 1 _ rfl; have e2 : wr.cell? ⟨b0, off + q * 12 + 2, none⟩ = some _ := hcell 2 _ rfl; have e3 : wr.cell? ⟨b0, off + q * 12 + 3, none⟩ = some _ := hcell 3 _ rfl; have e4 : wr.cell? ⟨b0, off + q * 12 + 4, none⟩ = some _ := hcell 4 _ rfl; have e5 : wr.cell? ⟨b0, off + q * 12 + 5, none⟩ = some _ := hcell 5 _ rfl; have e6 : wr.cell? ⟨b0, off + q * 12 + 6, none⟩ = some _ := hcell 6 _ rfl; have e7 : wr.cell? ⟨b0, off + q * 12 + 7, none⟩ = some _ := hcell 7 _ rfl; have e8 : wr.cell? ⟨b0, off + q * 12 + 8, none⟩ = some _ := hcell 8 _ rfl; have e9 : wr.cell? ⟨b0, off + q * 12 + 9, none⟩ = some _ := hcell 9 _ rfl; have e10 : wr.cell? ⟨b0, off + q * 12 + 10, none⟩ = some _ := hcell 10 _ rfl; have e11 : wr.cell? ⟨b0, off + q * 12 + 11, none⟩ = some _ := hcell 11 _ rfl
   have HIB := hid (H.out _ _ _ _ _ _ hmem)
   have rva : RdE wr S a (exV k1 n1 s1 (.slice A1 m1 p1)) := RdEx.toEK ra
   have rvb : RdE wr S b (exV k2 n2 s2 (.slice A2 m2 p2)) := RdEx.toEK rb
   have hbel : Below wr.heap.size wr (wr.alloc (.cells #[.int .i64 k, .string s, .int .i64 k1, .int .i64 n1, .string s1, .slice A1 m1 p1, .int .i64 k2, .int .i64 n2, .string s2, .slice A2 m2 p2, .slice A3 body.length p3, .slice A4 els.length p4] 82)) := (Below.refl _ _).alloc (Nat.le_refl _) _
   have hbe2 : Below w.heap.size wr (wr.alloc (.cells #[.int .i64 k, .string s, .int .i64 k1, .int .i64 n1, .string s1, .slice A1 m1 p1, .int .i64 k2, .int .i64 n2, .string s2, .slice A2 m2 p2, .slice A3 body.length p3, .slice A4 els.length p4] 82)) := hbel.mono hbr
   have HC := hid (HIB.out (wr.alloc (.cells #[.int .i64 k, .string s, .int .i64 k1, .int .i64 n1, .string s1, .slice A1 m1 p1, .int .i64 k2, .int .i64 n2, .string s2, .slice A2 m2 p2, .slice A3 body.length p3, .slice A4 els.length p4] 82)) S k1 n1 s1 A1 m1 p1 k2 n2 s2 A2 m2 p2 A3 p3 A4 p4 (HS.out.trans (Sub.upto (Nat.le_trans hbr hbel.size))) hk hs (rva.go hbe2 HS.out) (rvb.go hbe2 HS.out) (rv.go RdSt.keeps hbe2 HS.out (Sub.refl _)) (rv'.go RdSt.keeps hbe2 HS.out (Sub.refl _)) ((HF.out.go HB.out).go hbel) (by omega))
   have GN := hid (HB.out.trans hbe2)
   have OW := hid (show OwnT (wr.alloc (.cells #[.int .i64 k, .string s, .int .i64 k1, .int .i64 n1, .string s1, .slice A1 m1 p1, .int .i64 k2, .int .i64 n2, .string s2, .slice A2 m2 p2, .slice A3 body.length p3, .slice A4 els.length p4] 82)) w.heap.size _ _ from HO.out.keep Flat.keeps hbel)
   have hzW := GN.out.size
   clear HO hbel hbe2 rva rvb rv rv' ra rb hrd hcell hmem RW HB hcl
   go_upto_region 5 with (fail)
   have hlz : wr.heap.size < ((wr.alloc (.cells #[.int .i64 k, .string s, .int .i64 k1, .int .i64 n1, .string s1, .slice A1 m1 p1, .int .i64 k2, .int .i64 n2, .string s2, .slice A2 m2 p2, .slice A3 body.length p3, .slice A4 els.length p4] 82))).heap.size := by simp
   have BX := Blk.made wr [.int .i64 k, .string s, .int .i64 k1, .int .i64 n1, .string s1, .slice A1 m1 p1, .int .i64 k2, .int .i64 n2, .string s2, .slice A2 m2 p2, .slice A3 body.length p3, .slice A4 els.length p4] 82 (base := 0) (Nat.zero_le _)
   clear e0 e1 e2 e3 e4 e5 e6 e7 e8 e9 e10 e11
   generalize (wr.alloc (.cells #[.int .i64 k, .string s, .int .i64 k1, .int .i64 n1, .string s1, .slice A1 m1 p1, .int .i64 k2, .int .i64 n2, .string s2, .slice A2 m2 p2, .slice A3 body.length p3, .slice A4 els.length p4] 82)) = W at *
   generalize wr.heap.size = d at *
   have e0 := BX.cell 0 _ rfl; have e1 := BX.cell 1 _ rfl; have e2 := BX.cell 2 _ rfl; have e3 := BX.cell 3 _ rfl; have e4 := BX.cell 4 _ rfl; have e5 := BX.cell 5 _ rfl; have e6 := BX.cell 6 _ rfl; have e7 := BX.cell 7 _ rfl; have e8 := BX.cell 8 _ rfl; have e9 := BX.cell 9 _ rfl; have e10 := BX.cell 10 _ rfl; have e11 := BX.cell 11 _ rfl
   go_wp2_with (go_at_call 32; refine (calls_hid HC.out).mono ?_)
   rintro e w1 hh
   obtain ⟨x, out, rfl, o1, b1, t1, q1⟩ := hh.out
   obtain ⟨Ax, cx, rfl⟩ := o1.form
   have B1 := hid (GN.out.trans (b1.mono hzW))
   have O1 := hid (show OwnT w1 w.heap.size _ _ from OW.out.keep Flat.keeps b1)
   have R1 := hid (o1.rd (by have := tsz_len out; omega))
   have T1' := hid t1
   have Q1 := hid q1
   have hz1' := B1.out.size
   have hlo := tsz_len out
   have hlt2 := tsz_len (tkL true (l.take q)).1
   clear o1 b1 t1 q1 hh HC GN OW e0 e1 e2 e3 e4 e5 e6 e7 e8 e9 e10 e11 BX
   obtain ⟨ok, hok⟩ : ∃ ok, ok = (tkS true (.mk k s a b body els)).2 := ⟨_, rfl⟩
   have HOK := hid hok
   rw [← hok]
   clear hok
   cases ok
   ·go_wp2
    go_ret2
    exact ⟨_, [], by rw [HNO.out HOK.out.symm]; rfl, OwnL.nil _ _ _, B1.out, Nat.zero_le _, fun h => by rw [HNO.out HOK.out.symm] at h; cases h⟩
   ·have HOUT := hid (show out = (tkS true (.mk k s a b body els)).1 from Q1.out HOK.out.symm)
    have t2 := T1'.out
    have hsum : (tkL true (l.take q)).1.length + out.length ≤ 8589934592 := by omega
    go_wp2_with (at_builtin; refine wpList_append_list rfl _ _ 37 rfl i0 _ Tryz.underlying37 hi hz0 hz1 hz2 rfl (by decide) Flat.keeps O1.out (R1.out.bare Nowhere) rfl rfl (Sub.nowhere _) (Sub.nowhere _) not_nowhere oneS ?c3 ?c4 ?c5 ?_)
    case c3 => unfold maxLen; omega
    case c4 => omega
    try (case c5 => exact hz1')
    intro v2 w2 ho hg hk2
    have HO2 := hid (show OwnT w2 w.heap.size (tkL true (l.take (q + 1))).1 v2 from by rw [HT.out]; show OwnT w2 _ ((tkL true (l.take q)).1 ++ (tkS true (.mk k s a b body els)).1) _; rw [← HOUT.out]; exact ho)
    have HB2 := hid (B1.out.grown hg hz1' (fun g hg => (O1.out.lt g hg).1))
    have HK2 := hid (show (tkL true (l.take (q + 1))).2 = true by rw [HT.out]; show ((tkL true (l.take q)).2 && (tkS true (.mk k s a b body els)).2) = true; rw [HK.out, ← HOK.out]; rfl)
    have HT2 := hid (show tsz (tkL true (l.take (q + 1))).1 ≤ 64 * wn from by rw [HT.out]; show tsz ((tkL true (l.take q)).1 ++ (tkS true (.mk k s a b body els)).1) ≤ _; rw [tsz_app, ← HOUT.out]; omega)
    clear ho hg hk2 O1 B1 R1 hsum
    go_wp2_with fail
    go_roundw
    case rel => exact ⟨q + 1, by omega, by go_num, HO2, HB2, HK2, by rw [← HWN.out]; exact HT2.out⟩
    case measure => simp [intOf]; omega
  ·have hql : q = l.length := by omega
   subst hql
   rw [List.take_of_length_le (Nat.le_refl _)] at HO HK hts
   obtain ⟨A9, c9, rfl⟩ := HO.out.form
   go_wp2
   go_ret2
   exact ⟨_, _, by rw [HK.out]; rfl, HO.out, HB.out, hts, fun _ => rfl⟩
def fieldsQ (s : Str) : Nat → List Str × Str
 | 0 => ([], ⟨#[]⟩)
 | q + 1 => if s.data.toList[q]? = some 32 then ((fieldsQ s q).1 ++ [(fieldsQ s q).2], ⟨#[]⟩) else ((fieldsQ s q).1, (fieldsQ s q).2 ++ s.extract q (q + 1))
def fieldsF (s : Str) : List Str := (fieldsQ s s.size).1 ++ [(fieldsQ s s.size).2]
set_option maxHeartbeats 2000000 in
set_option maxRecDepth 100000 in
theorem kfields_any (s : Str) (hs : s.size ≤ 1000) (w : World) :
    Calls Tryz.prog 54 #[.string s] w fun e w' => ∃ x, e = .returned x ∧ OwnT w' w.heap.size (fieldsF s) x ∧ Below w.heap.size w w' := by
 obtain ⟨i0, hi, hz0, hz1, hz2⟩ := info_parts infoStr
 have HLN := hid (show s.data.toList.length = s.size from Array.length_toList)
 have HL0 := hid (show OwnT (w.alloc (.cells #[.string ⟨#[]⟩] 9)) w.heap.size [⟨#[]⟩] (.slice (some ⟨w.heap.size, 0, none⟩) 1 1) from OwnT.lit1 ⟨#[]⟩ (by unfold okS; decide) (Nat.le_refl _))
 have hb0 : Below w.heap.size w (w.alloc (.cells #[.string ⟨#[]⟩] 9)) := (Below.refl _ _).alloc (Nat.le_refl _) _
 go_enter Tryz.func54, Tryz.ntmps54
 go_wp2_with fail
 generalize (w.alloc (.cells #[.string ⟨#[]⟩] 9)) = W at *
 go_loopw [3, 8] (fun o u wr => ∃ (i : Nat) (out : List Str) (y : Str), u = .int .i64 (i : Int) ∧ i ≤ s.size ∧ out.length ≤ i ∧ y.size ≤ i ∧ Hid (fieldsQ s i = (out, y)) ∧ Hid (OwnT wr w.heap.size (out ++ [y]) o) ∧ Below w.heap.size w wr) (fun _ u _ => s.size - (intOf u).toNat)
 case atStart => exact ⟨0, [], ⟨#[]⟩, rfl, Nat.zero_le _, Nat.le_refl _, Nat.le_refl _, hid rfl, HL0, hb0⟩
 case round =>
  clear HL0 hb0
  obtain ⟨i, out, y, rfl, hi1, hol, hyl, HQ, HO, hb⟩ := hrel
  have hsz := hb.size
  by_cases hlt : i < s.size
  ·have HG := hid (show s.data.toList[i]? = some (s[i]'hlt) by
     rw [List.getElem?_eq_getElem (by rw [HLN.out]; exact hlt), Array.getElem_toList]; rfl)
   by_cases h32 : s[i]'hlt = 32
   ·have HQ2 := hid (show fieldsQ s (i + 1) = (out ++ [y], ⟨#[]⟩) by rw [fieldsQ, HG.out, h32, if_pos rfl, HQ.out])
    have bl : Below wr.heap.size wr (wr.alloc (.cells #[.string ⟨#[]⟩] 9)) := (Below.refl _ _).alloc (Nat.le_refl _) _
    have O1 := hid (show OwnT (wr.alloc (.cells #[.string ⟨#[]⟩] 9)) w.heap.size (out ++ [y]) _ from HO.out.keep Flat.keeps bl)
    have R1 := hid (show RdSs (wr.alloc (.cells #[.string ⟨#[]⟩] 9)) (fun _ => True) [⟨#[]⟩] (.slice (some ⟨wr.heap.size, 0, none⟩) 1 1) from rd_lit ⟨#[]⟩ (by unfold okS; decide))
    have B1 := hid (hb.trans (bl.mono hsz))
    have hz1' := B1.out.size
    have h32' : ((s[i]'hlt).toNat : Int) = 32 := by rw [h32]; rfl
    clear bl HO hb h32
    go_wp2_with (at_builtin; generalize (wr.alloc (.cells #[.string ⟨#[]⟩] 9)) = W2 at *; refine wpList_append_list rfl _ _ 37 rfl i0 _ Tryz.underlying37 hi hz0 hz1 hz2 rfl (by decide) Flat.keeps O1.out (R1.out.bare Nowhere) rfl rfl (Sub.nowhere _) (Sub.nowhere _) not_nowhere oneS ?c3 ?c4 ?c5 ?_)
    case c3 => simp only [List.length_append, List.length_cons, List.length_nil]; unfold maxLen; omega
    case c4 => simp only [List.length_append, List.length_cons, List.length_nil]; omega
    try (case c5 => exact hz1')
    intro v2 w2 ho hg hk2
    have HO2 := hid (show OwnT w2 w.heap.size ((out ++ [y]) ++ [⟨#[]⟩]) v2 from by first | exact ho | (rw [List.append_assoc]; exact ho))
    have HB2 := B1.out.grown hg hz1' (fun g hg => (O1.out.lt g hg).1)
    clear ho hg hk2 O1 B1 R1
    go_wp2_with fail
    go_roundw
    case rel => exact ⟨i + 1, out ++ [y], ⟨#[]⟩, by go_num, by omega, by simp only [List.length_append, List.length_cons, List.length_nil]; omega, Nat.zero_le _, HQ2, HO2, HB2⟩
    case measure => simp [intOf]; omega
   ·have HQ2 := hid (show fieldsQ s (i + 1) = (out, y ++ s.extract i (i + 1)) by rw [fieldsQ, HG.out, if_neg (fun e => h32 (Option.some.inj e)), HQ.out])
    have hne : 0 < (out ++ [y]).length := by simp
    obtain ⟨g, cap, rfl, hgb, hgl, hcl, hcm, hfr, hat⟩ := OwnL.flat HO.out hne
    have hql : out.length < (out ++ [y]).length := by simp
    have h1 := (hat out.length hql).2 0 _ rfl
    have e2 : (out ++ [y])[out.length]'hql = y := List.getElem_concat_length rfl _
    rw [e2, Nat.mul_one, Nat.add_zero] at h1
    have HAT := hid h1
    have hf := hfr out.length
    have hll : (out ++ [y]).length = out.length + 1 := by simp
    have HO1 := hid (show OwnT wr w.heap.size (out ++ [y]) (.slice (some ⟨g, 0, none⟩) (out.length + 1) cap) by have h := HO.out; rw [hll] at h; exact h)
    unfold maxLen at hcm
    rw [hll] at hcl ⊢
    have h32' : ((s[i]'hlt).toNat : Int) ≠ 32 := fun e => h32 (by
     have : (s[i]'hlt).toNat = 32 := by omega
     exact UInt8.toNat_inj.1 this)
    have h32b : (((s[i]'hlt).toNat : Int) == 32) = false := by simpa using h32'
    have hxs : (s.extract i (i + 1)).size = 1 := by rw [ByteArray.size_extract]; omega
    obtain ⟨z, hz⟩ : ∃ z, z = y ++ s.extract i (i + 1) := ⟨_, rfl⟩
    have hzs : z.size ≤ i + 1 := by rw [hz, ByteArray.size_append, hxs]; omega
    have hy1 : y.size + 1 ≤ 9223372036854775807 := by omega
    rw [← hz] at HQ2
    have HZZ := hid hz.symm
    clear hz hfr hat h1 e2 HO hne hql hll h32 h32'
    have HO3 := hid (show OwnT (wr.setCell ⟨g, out.length, none⟩ (.string z)).drew w.heap.size (out ++ [z]) (.slice (some ⟨g, 0, none⟩) (out.length + 1) cap) by
     have h := own_set1 HO1.out (q := out.length) (by simp) z (by unfold okS; omega)
     rw [show (out ++ [y]).set out.length z = out ++ [z] by rw [List.set_append_right _ _ (Nat.le_refl _), Nat.sub_self]; rfl] at h
     exact h.keep Flat.keeps (Below.refl _ _).drew)
    have HB3 := hid (show Below w.heap.size w (wr.setCell ⟨g, out.length, none⟩ (.string z)).drew from (hb.setCell (p := ⟨g, out.length, none⟩) hgb _).drew)
    clear hb HO1
    have h1 := HAT.out
    go_wp2_with fail
    go_region
    rw [HZZ.out]
    generalize (wr.setCell ⟨g, out.length, none⟩ (.string z)).drew = W3 at *
    clear h1 hf
    go_wp2_with fail
    go_roundw
    case rel => exact ⟨i + 1, out, z, by go_num, by omega, by omega, hzs, HQ2, HO3, HB3.out⟩
    case measure => simp [intOf]; omega
  ·have hie : i = s.size := by omega
   subst hie
   have HX := hid (show fieldsF s = out ++ [y] by unfold fieldsF; rw [HQ.out])
   obtain ⟨A9, c9, rfl⟩ := HO.out.form
   go_wp2
   go_ret
   exact ⟨_, rfl, by rw [HX.out]; exact HO.out, hb⟩
section
variable (s : Str) (a b : Ex) (body els : List St)
def ptK (p : Str) : Tks := if p.data.toList = [110] then tname s else if p.data.toList = [97] then tkE true a false else if p.data.toList = [98] then tkE true b false else if p.data.toList = [66] then tblk (tkL true body) else if p.data.toList = [69] then tblk (tkL true els) else T1 [p]
def mpK (p : Str) : Nat := if p.data.toList = [110] then s.size + 1 else if p.data.toList = [97] then 64 * a.wt else if p.data.toList = [98] then 64 * b.wt else if p.data.toList = [66] then 64 * St.wts body + 4 else if p.data.toList = [69] then 64 * St.wts els + 4 else p.size + 1
end
def formK (q : Nat) (e : Bool) : Str := if e = true ∧ q = 5 then ⟨#[105, 102, 32, 97, 32, 66, 32, 101, 108, 115, 101, 32, 69]⟩ else ([⟨#[108, 101, 116, 32, 110, 32, 61, 32, 97, 32, 59]⟩, ⟨#[108, 111, 97, 100, 32, 110, 32, 61, 32, 91, 32, 97, 32, 93, 32, 59]⟩, ⟨#[115, 116, 111, 114, 101, 32, 91, 32, 97, 32, 93, 32, 61, 32, 98, 32, 59]⟩, ⟨#[97, 115, 121, 110, 99, 32, 66]⟩, ⟨#[102, 105, 110, 105, 115, 104, 32, 66]⟩, ⟨#[105, 102, 32, 97, 32, 66]⟩, ⟨#[102, 111, 114, 32, 110, 32, 61, 32, 97, 32, 116, 111, 32, 98, 32, 66]⟩] : List Str)[q]?.getD ⟨#[]⟩
theorem seqT_false : ∀ (l : List Tks) (x : Tks), x ∈ l → x.2 = false → (seqT l).2 = false := by
 intro l x hx hf
 obtain ⟨p, r, rfl⟩ := List.append_of_mem hx
 have key : ∀ (l : List Tks) (y : Tks), y.2 = false → (l.foldl tcat y).2 = false := by
  intro l
  induction l with
  | nil => intro y h; exact h
  | cons z l ih => intro y h; exact ih _ (by show (y.2 && z.2) = false; rw [h, Bool.false_and])
 unfold seqT
 rw [List.foldl_append]
 exact key r _ (by show ((p.foldl tcat (T1 [])).2 && x.2) = false; rw [hf, Bool.and_false])
theorem fld0 : fieldsF ⟨#[108, 101, 116, 32, 110, 32, 61, 32, 97, 32, 59]⟩ = [(⟨#[108, 101, 116]⟩ : Str), (⟨#[110]⟩ : Str), (⟨#[61]⟩ : Str), (⟨#[97]⟩ : Str), (⟨#[59]⟩ : Str)] := by decide +kernel
theorem fld1 : fieldsF ⟨#[108, 111, 97, 100, 32, 110, 32, 61, 32, 91, 32, 97, 32, 93, 32, 59]⟩ = [(⟨#[108, 111, 97, 100]⟩ : Str), (⟨#[110]⟩ : Str), (⟨#[61]⟩ : Str), (⟨#[91]⟩ : Str), (⟨#[97]⟩ : Str), (⟨#[93]⟩ : Str), (⟨#[59]⟩ : Str)] := by decide +kernel
theorem fld2 : fieldsF ⟨#[115, 116, 111, 114, 101, 32, 91, 32, 97, 32, 93, 32, 61, 32, 98, 32, 59]⟩ = [(⟨#[115, 116, 111, 114, 101]⟩ : Str), (⟨#[91]⟩ : Str), (⟨#[97]⟩ : Str), (⟨#[93]⟩ : Str), (⟨#[61]⟩ : Str), (⟨#[98]⟩ : Str), (⟨#[59]⟩ : Str)] := by decide +kernel
theorem fld3 : fieldsF ⟨#[97, 115, 121, 110, 99, 32, 66]⟩ = [(⟨#[97, 115, 121, 110, 99]⟩ : Str), (⟨#[66]⟩ : Str)] := by decide +kernel
theorem fld4 : fieldsF ⟨#[102, 105, 110, 105, 115, 104, 32, 66]⟩ = [(⟨#[102, 105, 110, 105, 115, 104]⟩ : Str), (⟨#[66]⟩ : Str)] := by decide +kernel
theorem fld5 : fieldsF ⟨#[105, 102, 32, 97, 32, 66]⟩ = [(⟨#[105, 102]⟩ : Str), (⟨#[97]⟩ : Str), (⟨#[66]⟩ : Str)] := by decide +kernel
theorem fld6 : fieldsF ⟨#[102, 111, 114, 32, 110, 32, 61, 32, 97, 32, 116, 111, 32, 98, 32, 66]⟩ = [(⟨#[102, 111, 114]⟩ : Str), (⟨#[110]⟩ : Str), (⟨#[61]⟩ : Str), (⟨#[97]⟩ : Str), (⟨#[116, 111]⟩ : Str), (⟨#[98]⟩ : Str), (⟨#[66]⟩ : Str)] := by decide +kernel
theorem fld7 : fieldsF ⟨#[105, 102, 32, 97, 32, 66, 32, 101, 108, 115, 101, 32, 69]⟩ = [(⟨#[105, 102]⟩ : Str), (⟨#[97]⟩ : Str), (⟨#[66]⟩ : Str), (⟨#[101, 108, 115, 101]⟩ : Str), (⟨#[69]⟩ : Str)] := by decide +kernel
theorem parts_forms (k : Int) (s : Str) (a b : Ex) (body els : List St) {q : Nat} (hq : q < 7) (hk : k = 1 + (q : Int)) :
    partsK true k s a b (tkL true body) (tkL true els) (!els.isEmpty) = (fieldsF (formK q (!els.isEmpty))).map (ptK s a b body els) ∧ ((fieldsF (formK q (!els.isEmpty))).map (mpK s a b body els)).sum ≤ 64 * (St.mk k s a b body els).wt := by
 subst hk
 simp only [St.wt]
 generalize (!els.isEmpty) = e
 match q, hq with
 | 0, _ => rw [show formK 0 e = ⟨#[108, 101, 116, 32, 110, 32, 61, 32, 97, 32, 59]⟩ by cases e <;> rfl, fld0]; exact ⟨rfl, by show (4 + ((s.size + 1) + (2 + (64 * a.wt + (2 + 0))))) ≤ _; omega⟩
 | 1, _ => rw [show formK 1 e = ⟨#[108, 111, 97, 100, 32, 110, 32, 61, 32, 91, 32, 97, 32, 93, 32, 59]⟩ by cases e <;> rfl, fld1]; exact ⟨rfl, by show (5 + ((s.size + 1) + (2 + (2 + (64 * a.wt + (2 + (2 + 0))))))) ≤ _; omega⟩
 | 2, _ => rw [show formK 2 e = ⟨#[115, 116, 111, 114, 101, 32, 91, 32, 97, 32, 93, 32, 61, 32, 98, 32, 59]⟩ by cases e <;> rfl, fld2]; exact ⟨rfl, by show (6 + (2 + (64 * a.wt + (2 + (2 + (64 * b.wt + (2 + 0))))))) ≤ _; omega⟩
 | 3, _ => rw [show formK 3 e = ⟨#[97, 115, 121, 110, 99, 32, 66]⟩ by cases e <;> rfl, fld3]; exact ⟨rfl, by show (6 + ((64 * St.wts body + 4) + 0)) ≤ _; omega⟩
 | 4, _ => rw [show formK 4 e = ⟨#[102, 105, 110, 105, 115, 104, 32, 66]⟩ by cases e <;> rfl, fld4]; exact ⟨rfl, by show (7 + ((64 * St.wts body + 4) + 0)) ≤ _; omega⟩
 | 5, _ =>
  cases e
  ·rw [show formK 5 false = ⟨#[105, 102, 32, 97, 32, 66]⟩ from rfl, fld5]; exact ⟨rfl, by show (3 + (64 * a.wt + ((64 * St.wts body + 4) + 0))) ≤ _; omega⟩
  ·rw [show formK 5 true = ⟨#[105, 102, 32, 97, 32, 66, 32, 101, 108, 115, 101, 32, 69]⟩ from rfl, fld7]; exact ⟨rfl, by show (3 + (64 * a.wt + ((64 * St.wts body + 4) + (5 + ((64 * St.wts els + 4) + 0))))) ≤ _; omega⟩
 | 6, _ => rw [show formK 6 e = ⟨#[102, 111, 114, 32, 110, 32, 61, 32, 97, 32, 116, 111, 32, 98, 32, 66]⟩ by cases e <;> rfl, fld6]; exact ⟨rfl, by show (4 + ((s.size + 1) + (2 + (64 * a.wt + (3 + (64 * b.wt + ((64 * St.wts body + 4) + 0))))))) ≤ _; omega⟩
 | n + 7, h => omega
end Go.Proofs.YtnpgpcnkdocknaaGreatDoor
