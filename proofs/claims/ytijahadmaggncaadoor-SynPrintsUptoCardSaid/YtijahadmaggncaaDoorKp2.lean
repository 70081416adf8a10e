/- The walk of the reference's kexpr at two parts. (printed by gen_kp2.py) -/
import Derived.Test.YtijahadmaggncaaDoorKp1
namespace Go.Proofs.YtijahadmaggncaaDoor
open Go.RowKit
set_option linter.unusedVariables false
theorem sgn_at' (k : Int) (h0 : 3 ≤ k) (h1 : k ≤ 9) : ∃ q : Nat, q < 7 ∧ k = 3 + q ∧ (#[Value.string ⟨#[43]⟩, .string ⟨#[45]⟩, .string ⟨#[42]⟩, .string ⟨#[47]⟩, .string ⟨#[37]⟩, .string ⟨#[60]⟩, .string ⟨#[61, 61]⟩] : Array Value)[q]? = some (.string (sgn k)) := by
  refine ⟨(k - 3).toNat, by omega, by omega, ?_⟩
  unfold sgn
  obtain ⟨q, hq⟩ : ∃ q, q = (k - 3).toNat := ⟨_, rfl⟩
  have hlt : q < 7 := by omega
  rw [← hq]
  match q, hlt with
  | 0, _ => rfl
  | 1, _ => rfl
  | 2, _ => rfl
  | 3, _ => rfl
  | 4, _ => rfl
  | 5, _ => rfl
  | 6, _ => rfl
  | n + 7, h => omega
theorem cell_new (w : World) (cs : Array Value) (E : TypeId) (i : Nat) : (w.alloc (.cells cs E)).cell? ⟨w.heap.size, i, none⟩ = cs[i]? := by
  have h := heap_alloc_new w (.cells cs E)
  generalize w.alloc (.cells cs E) = W at *
  generalize w.heap.size = g at *
  simp [World.cell?, h]
theorem sg_cases (q : Nat) (sg : Str) (hq : q < 7) (h : (#[Value.string ⟨#[43]⟩, .string ⟨#[45]⟩, .string ⟨#[42]⟩, .string ⟨#[47]⟩, .string ⟨#[37]⟩, .string ⟨#[60]⟩, .string ⟨#[61, 61]⟩] : Array Value)[q]? = some (.string sg)) : (q = 0 ∧ sg = ⟨#[43]⟩) ∨ (q = 1 ∧ sg = ⟨#[45]⟩) ∨ (q = 2 ∧ sg = ⟨#[42]⟩) ∨ (q = 3 ∧ sg = ⟨#[47]⟩) ∨ (q = 4 ∧ sg = ⟨#[37]⟩) ∨ (q = 5 ∧ sg = ⟨#[60]⟩) ∨ (q = 6 ∧ sg = ⟨#[61, 61]⟩) := by
  match q, hq with
  | 0, _ => simp at h; subst h; simp
  | 1, _ => simp at h; subst h; simp
  | 2, _ => simp at h; subst h; simp
  | 3, _ => simp at h; subst h; simp
  | 4, _ => simp at h; subst h; simp
  | 5, _ => simp at h; subst h; simp
  | 6, _ => simp at h; subst h; simp
  | n + 7, hq => omega
theorem own_sep {va vb : Value} {m : Nat} (ha : ∀ k, va.ownBlock = some k → k < m) (hb : ∀ k, vb.ownBlock = some k → m ≤ k) : vb.ownBlock = none ∨ vb.ownBlock ≠ va.ownBlock := by
  cases h : vb.ownBlock with
  | none => exact .inl rfl
  | some k => exact .inr (fun e => by have := ha k e.symm; have := hb k h; omega)
theorem own_lt {w : World} {base : Nat} {l : List Str} {A : Option Addr} {n n' c : Nat} (h : OwnT w base l (.slice A n c)) {j : Nat} (hj : (Value.slice A n' c).ownBlock = some j) : base ≤ j := by
  refine (h.lt j ?_).1
  cases A with
  | none => simp [Value.ownBlock] at hj
  | some a => simpa [Value.ownBlock] using hj
theorem rd_lit {w : World} (s : Str) (hs : okS s) : RdSs (w.alloc (.cells #[.string s] 9)) (fun _ => True) [s] (.slice (some ⟨w.heap.size, 0, none⟩) 1 1) :=
  rd_one (enc := encS) (x := s) rfl (cells_newAt w [.string s] 9 rfl) hs trivial (by decide)
theorem calls_hid {P : Program} {f : FuncId} {a : Array Value} {w : World} {R : Ending → World → Prop} (h : Calls P f a w R) : Calls P f a w (fun e w' => Hid (R e w')) := h.mono fun _ _ h => Lib.hid h
set_option maxHeartbeats 2000000 in
set_option maxRecDepth 100000 in
theorem kx_two (t a b : Ex) (ht : t.pair = some (a, b)) (iha : KxE a) (ihb : KxE b) : KxE t := by
  intro inner w S V hS r hF hwt
  obtain ⟨i0, hi, hz0, hz1, hz2⟩ := info_parts infoStr
  have hw2 := Ex.pair_wt ht
  obtain ⟨k, n, s, args, v, rfl, rfl, hk, hn, hs, hargs⟩ := id r
  obtain ⟨hk3, hargs2⟩ := Ex.pair_some ht
  simp only [Ex.kind, Ex.args] at hk3 hargs2
  subst hargs2
  obtain ⟨A, cap, rfl, hcl, hcm, _⟩ := hargs.form
  obtain ⟨b0, off, k0, n0, s0, v0, rfl, hsb, x0, x1', x2, x3, ra⟩ := RdExs.arg hargs (q := 0) (by simp)
  obtain ⟨b0', off', k1, n1, s1, v1, hA, hsb', x4, x5, x6, x7, rb⟩ := RdExs.arg hargs (q := 1) (by simp)
  injection hA with hA
  injection hA with e1 e2
  subst e1 e2
  simp only [List.getElem_cons_zero, List.getElem_cons_succ] at ra rb
  rw [Nat.zero_mul, Nat.add_zero] at x0 x1' x2 x3
  rw [Nat.one_mul] at x4 x5 x6 x7
  obtain ⟨A0, m0, p0, rfl⟩ := ra.slice
  obtain ⟨A1, m1, p1, rfl⟩ := rb.slice
  have ht1 := tkE_pair (neg := true) ht inner
  simp only [Ex.kind] at ht1
  unfold maxLen at hcm
  generalize htt : tkE true (Ex.mk k n s [a, b]) inner = tt at ht1
  generalize (Ex.mk k n s [a, b]).wt = wt at *
  have HT := Lib.hid ht1
  simp only [List.length_cons, List.length_nil, Nat.reduceAdd] at hcl hcm
  have hbl : Below w.heap.size w (w.alloc (.cells #[.int .i64 k, .int .i64 n, .string s, .slice (some ⟨b0, off, none⟩) 2 cap] 74)) := (Below.refl _ _).alloc (Nat.le_refl _) _
  have BX := Lib.hid (Blk.made w [.int .i64 k, .int .i64 n, .string s, .slice (some ⟨b0, off, none⟩) 2 cap] 74 (base := 0) (Nat.zero_le _))
  have hb0 : b0 < w.heap.size := hS _ hsb
  have G := Lib.hid hbl
  have HF := Lib.hid (hF.go hbl)
  have RA := Lib.hid (ra.go hbl hS)
  have RB := Lib.hid (rb.go hbl hS)
  have hsz := hbl.size
  have HS := Lib.hid (hS.trans (Sub.upto hsz))
  have IHa := Lib.hid iha
  have IHb := Lib.hid ihb
  have HWA := Lib.hid (show a.wt ≤ 1048576 by omega)
  have HWB := Lib.hid (show b.wt ≤ 1048576 by omega)
  have HW2 := Lib.hid (show 64 + 64 * a.wt + 64 * b.wt ≤ 64 * wt by omega)
  obtain ⟨q, hq7, hkq, hsg⟩ := sgn_at' k hk3.1 hk3.2
  have HSG := Lib.hid (show okS (sgn k) from by have := sgn_size k; unfold okS; omega)
  have hsgs := sgn_size k
  obtain ⟨sg, hsg1⟩ : ∃ sg, sg = sgn k := ⟨_, rfl⟩
  rw [← hsg1] at hsg HSG hsgs
  replace HT := Lib.hid (show tt = (if inner then [bs [40]] ++ ((tkE true a true).1 ++ [sg] ++ (tkE true b true).1) ++ [bs [41]] else (tkE true a true).1 ++ [sg] ++ (tkE true b true).1, (tkE true a true).2 && (tkE true b true).2) by rw [hsg1]; exact HT.out)
  clear hsg1 ht1
  unfold exV
  have x0 := (hbl.cell (p := ⟨b0, off, none⟩) hb0).trans x0
  have x1' := (hbl.cell (p := ⟨b0, off + 1, none⟩) hb0).trans x1'
  have x2 := (hbl.cell (p := ⟨b0, off + 2, none⟩) hb0).trans x2
  have x3 := (hbl.cell (p := ⟨b0, off + 3, none⟩) hb0).trans x3
  have x4 := (hbl.cell (p := ⟨b0, off + 4, none⟩) hb0).trans x4
  have x5 := (hbl.cell (p := ⟨b0, off + 4 + 1, none⟩) hb0).trans x5
  have x6 := (hbl.cell (p := ⟨b0, off + 4 + 2, none⟩) hb0).trans x6
  have x7 := (hbl.cell (p := ⟨b0, off + 4 + 3, none⟩) hb0).trans x7
  subst hkq
  have e1 : ((3 : Int) + (q : Int) == 1) = false := by simp; omega
  have e2 : ((3 : Int) + (q : Int) == 2) = false := by simp; omega
  have e3 : ¬ ((3 : Int) + (q : Int) < 3) := by omega
  have e4 : ¬ (9 < (3 : Int) + (q : Int)) := by omega
  have e5 : (3 : Int) + (q : Int) - 3 = q := by omega
  clear hF hbl r hargs htt hS ra rb iha ihb hwt hw2 hk hn hs hsb hsb'
  go_enter Tryd.func69, Tryd.ntmps69
  go_upto_region 1 with (fail)
  have hdW : w.heap.size < (w.alloc (.cells #[.int .i64 ((3 : Int) + (q : Int)), .int .i64 n, .string s, .slice (some ⟨b0, off, none⟩) 2 cap] 74)).heap.size := by simp
  have hbW : b0 < (w.alloc (.cells #[.int .i64 ((3 : Int) + (q : Int)), .int .i64 n, .string s, .slice (some ⟨b0, off, none⟩) 2 cap] 74)).heap.size := by omega
  generalize (w.alloc (.cells #[.int .i64 ((3 : Int) + (q : Int)), .int .i64 n, .string s, .slice (some ⟨b0, off, none⟩) 2 cap] 74)) = W at *
  generalize hd : w.heap.size = d at *
  have HD := Lib.hid hd
  clear hd
  have c0 := BX.out.cell 0 _ rfl
  have c3 := BX.out.cell 3 _ rfl
  go_wp2_with (go_at_call 69; refine (calls_hid (IHa.out true W S _ HS.out RA.out HF.out HWA.out)).mono ?_)
  rintro e w1 hh; obtain ⟨xa, rfl, oa, ba, ta⟩ := hh.out; clear hh
  obtain ⟨Aa, ca, rfl⟩ := oa.form
  have OA := Lib.hid oa
  have TA := Lib.hid ta
  have BA := Lib.hid ba
  have hz1' := ba.size
  have BX1 := Lib.hid (BX.out.below ba)
  have c0 := BX1.out.cell 0 _ rfl
  have c3 := BX1.out.cell 3 _ rfl
  have y4 := (ba.cell (p := ⟨b0, off + 4, none⟩) hbW).trans x4
  have y5 := (ba.cell (p := ⟨b0, off + 4 + 1, none⟩) hbW).trans x5
  have y6 := (ba.cell (p := ⟨b0, off + 4 + 2, none⟩) hbW).trans x6
  have y7 := (ba.cell (p := ⟨b0, off + 4 + 3, none⟩) hbW).trans x7
  have HS1 := Lib.hid (HS.out.trans (Sub.upto hz1'))
  have RB1 := Lib.hid (RB.out.go ba HS.out)
  have HF1 := Lib.hid (HF.out.go ba)
  clear oa ta ba x0 x1' x2 x3 x4 x5 x6 x7 RA RB HF HS BX
  go_wp2_with (go_at_call 69; refine (calls_hid (IHb.out true w1 S _ HS1.out RB1.out HF1.out HWB.out)).mono ?_)
  rintro e w2 hh; obtain ⟨xb, rfl, ob, bb, tb⟩ := hh.out; clear hh
  obtain ⟨Ab, cb, rfl⟩ := ob.form
  have BX2 := Lib.hid (BX1.out.below bb)
  have c0 := BX2.out.cell 0 _ rfl
  have hz2' := bb.size
  have hAB := Lib.hid (own_sep (fun k hk => (OA.out.lt k hk).2) (fun k hk => (ob.lt k hk).1))
  have b4 : Below w2.heap.size w2 ((w2.alloc (.cells #[.string ⟨#[43]⟩, .string ⟨#[45]⟩, .string ⟨#[42]⟩, .string ⟨#[47]⟩, .string ⟨#[37]⟩, .string ⟨#[60]⟩, .string ⟨#[61, 61]⟩] 9)).alloc (.cells #[.string sg] 9)) := ((Below.refl _ _).alloc (Nat.le_refl _) _).alloc (by simp) _
  have OA4 := Lib.hid ((OA.out.keep Flat.keeps bb).keep Flat.keeps b4)
  have OB4 := Lib.hid (ob.keep Flat.keeps b4)
  have TB := Lib.hid tb
  have BB := Lib.hid (BA.out.trans (bb.mono hz1'))
  have BB4 := Lib.hid (BB.out.trans (b4.mono BB.out.size))
  have e0 : (w2.alloc (.cells #[.string ⟨#[43]⟩, .string ⟨#[45]⟩, .string ⟨#[42]⟩, .string ⟨#[47]⟩, .string ⟨#[37]⟩, .string ⟨#[60]⟩, .string ⟨#[61, 61]⟩] 9)).cell? ⟨w2.heap.size, q, none⟩ = some (.string sg) := by
    rw [cell_new]
    exact hsg
  have RL := Lib.hid (show RdSs ((w2.alloc (.cells #[.string ⟨#[43]⟩, .string ⟨#[45]⟩, .string ⟨#[42]⟩, .string ⟨#[47]⟩, .string ⟨#[37]⟩, .string ⟨#[60]⟩, .string ⟨#[61, 61]⟩] 9)).alloc (.cells #[.string sg] 9)) (fun _ => True) [sg] (.slice (some ⟨w2.heap.size + 1, 0, none⟩) 1 1) from by
    have h := rd_lit (w := w2.alloc (.cells #[.string ⟨#[43]⟩, .string ⟨#[45]⟩, .string ⟨#[42]⟩, .string ⟨#[47]⟩, .string ⟨#[37]⟩, .string ⟨#[60]⟩, .string ⟨#[61, 61]⟩] 9)) sg HSG.out
    rw [World.size_alloc] at h
    exact h)
  -- (.cells #[.string ⟨#[43]⟩, .string ⟨#[45]⟩, .string ⟨#[42]⟩, .string ⟨#[47]⟩, .string ⟨#[37]⟩, .string ⟨#[60]⟩, .string ⟨#[61, 61]⟩] 9))) sg HSG.out)
  have hla := tsz_len (tkE true a true).1
  have hlb := tsz_len (tkE true b true).1
  have hlA : (tkE true a true).1.length ≤ 67108864 := by have := TA.out; have := HWA.out; omega
  have hlB : (tkE true b true).1.length ≤ 67108864 := by have := TB.out; have := HWB.out; omega
  have hz4 : W.heap.size ≤ ((w2.alloc (.cells #[.string ⟨#[43]⟩, .string ⟨#[45]⟩, .string ⟨#[42]⟩, .string ⟨#[47]⟩, .string ⟨#[37]⟩, .string ⟨#[60]⟩, .string ⟨#[61, 61]⟩] 9)).alloc (.cells #[.string sg] 9)).heap.size := by simp; omega
  clear ob bb tb b4 y4 y5 y6 y7 hsg RB1 HF1 c3 hla hlb
  generalize hla : (tkE true a true).1 = la at *
  generalize hlb : (tkE true b true).1 = lb at *
  clear hla hlb
  go_upto_region 9 with (fail)
  have hdw2 : d < w2.heap.size := by omega
  go_wp2_with (at_builtin; generalize ((w2.alloc (.cells #[.string ⟨#[43]⟩, .string ⟨#[45]⟩, .string ⟨#[42]⟩, .string ⟨#[47]⟩, .string ⟨#[37]⟩, .string ⟨#[60]⟩, .string ⟨#[61, 61]⟩] 9)).alloc (.cells #[.string sg] 9)) = W4 at *; refine wpList_append_list rfl _ _ 50 rfl i0 _ Tryd.underlying50 hi hz0 hz1 hz2 rfl (by decide) Flat.keeps OA4.out (RL.out.bare Nowhere) rfl rfl (Sub.nowhere _) (Sub.nowhere _) not_nowhere oneS ?c3 ?c4 ?c5 ?_)
  case c3 => (try simp only [List.length_append]); (try simp only [List.length_cons, List.length_nil]); unfold maxLen; omega
  case c4 => (try simp only [List.length_append]); (try simp only [List.length_cons, List.length_nil]); omega
  try (case c5 => exact hz4)
  intro v5 w5 ho hg hk
  have OB5 := Lib.hid (show OwnT w5 w1.heap.size lb _ from OB4.out.kept Flat.keeps hg hAB.out (fun _ _ h => h))
  obtain ⟨A5, c5, rfl⟩ := ho.form
  have O5 := Lib.hid ho
  have B5 := Lib.hid (BB4.out.grown hg hz4 (fun j hj => (OA4.out.lt j hj).1))
  have hz5 := B5.out.size
  have RB5 := Lib.hid (OB5.out.rd (by omega))
  clear ho hg hk hz4 BB4 OA4 OB4 RL e0 OB5 hAB
  go_wp2_with (at_builtin; skip; refine wpList_append_list rfl _ _ 50 rfl i0 _ Tryd.underlying50 hi hz0 hz1 hz2 rfl (by decide) Flat.keeps O5.out (RB5.out.bare Nowhere) rfl rfl (Sub.nowhere _) (Sub.nowhere _) not_nowhere oneS ?c3 ?c4 ?c5 ?_)
  case c3 => (try simp only [List.length_append]); (try simp only [List.length_cons, List.length_nil]); unfold maxLen; omega
  case c4 => (try simp only [List.length_append]); (try simp only [List.length_cons, List.length_nil]); omega
  try (case c5 => exact hz5)
  intro v6 w6 ho hg hk
  have hXe : la ++ [sg] ++ lb = la ++ sg :: lb := by simp
  have hXl : (la ++ sg :: lb).length = la.length + 1 + lb.length := by simp; omega
  have hXt : tsz (la ++ sg :: lb) = tsz la + (sg.size + 1) + tsz lb := by rw [← hXe, tsz_app, tsz_app, tsz_one]
  have ho : OwnT w6 W.heap.size (la ++ sg :: lb) v6 := by first | exact ho | (rw [hXe] at ho; exact ho)
  have HXE := Lib.hid hXe
  have HXT := Lib.hid hXt
  clear hXe hXt
  generalize la ++ sg :: lb = X at *
  obtain ⟨A6, c6, rfl⟩ := ho.form
  have O6 := Lib.hid ho
  have B6 := Lib.hid (B5.out.grown hg hz5 (fun j hj => own_lt O5.out hj))
  have hz6 := B6.out.size
  clear ho hg hk hz5 B5 O5 RB5
  have htA := TA.out
  have htB := TB.out
  have hW2 := HW2.out
  cases inner
  · have HT1 := Lib.hid (show tt = (X, (tkE true a true).2 && (tkE true b true).2) by rw [HT.out, ← HXE.out]; rfl)
    clear HT
    cases hoka : (tkE true a true).2
    all_goals (
      rw [hoka] at HT1
      generalize (tkE true b true).2 = okb at *
      go_wp2
      go_ret2
      exact ⟨_, by rw [HT1.out]; rfl, by rw [HT1.out, HD.out]; exact O6.out.rebase hsz, by rw [HD.out]; exact G.out.trans (B6.out.mono hsz), by rw [HT1.out, HXT.out]; omega⟩)
  · have HT1 := Lib.hid (show tt = ([bs [40]] ++ X ++ [bs [41]], (tkE true a true).2 && (tkE true b true).2) by rw [HT.out, ← HXE.out]; rfl)
    clear HT
    have b7 : Below w6.heap.size w6 (w6.alloc (.cells #[.string ⟨#[40]⟩] 9)) := (Below.refl _ _).alloc (Nat.le_refl _) _
    have OL := Lib.hid (show OwnT (w6.alloc (.cells #[.string ⟨#[40]⟩] 9)) W.heap.size [bs [40]] (.slice (some ⟨w6.heap.size, 0, none⟩) 1 1) from OwnT.lit1 (bs [40]) (by unfold okS; decide) hz6)
    have R6 := Lib.hid (OwnT.rd (show OwnT (w6.alloc (.cells #[.string ⟨#[40]⟩] 9)) W.heap.size X _ from O6.out.keep Flat.keeps b7) (by omega))
    have B7 := Lib.hid (B6.out.trans (b7.mono hz6))
    have hz7 := B7.out.size
    clear b7 B6 O6
    go_wp2_with (at_builtin; generalize (w6.alloc (.cells #[.string ⟨#[40]⟩] 9)) = W7 at *; refine wpList_append_list rfl _ _ 50 rfl i0 _ Tryd.underlying50 hi hz0 hz1 hz2 rfl (by decide) Flat.keeps OL.out (R6.out.bare Nowhere) rfl rfl (Sub.nowhere _) (Sub.nowhere _) not_nowhere oneS ?c3 ?c4 ?c5 ?_)
    case c3 => (try simp only [List.length_append]); (try simp only [List.length_cons, List.length_nil]); unfold maxLen; omega
    case c4 => (try simp only [List.length_append]); (try simp only [List.length_cons, List.length_nil]); omega
    try (case c5 => exact hz7)
    intro v8 w8 ho hg hk
    obtain ⟨A8, c8, rfl⟩ := ho.form
    have O8 := Lib.hid (show OwnT w8 W.heap.size ([bs [40]] ++ X) _ from ho)
    have B8 := Lib.hid (B7.out.grown hg hz7 (fun j hj => (OL.out.lt j hj).1))
    have hz8 := B8.out.size
    clear ho hg hk hz7 B7 OL R6
    have b9 : Below w8.heap.size w8 (w8.alloc (.cells #[.string ⟨#[41]⟩] 9)) := (Below.refl _ _).alloc (Nat.le_refl _) _
    have O9 := Lib.hid (show OwnT (w8.alloc (.cells #[.string ⟨#[41]⟩] 9)) W.heap.size ([bs [40]] ++ X) _ from O8.out.keep Flat.keeps b9)
    have R9 := Lib.hid (show RdSs (w8.alloc (.cells #[.string ⟨#[41]⟩] 9)) (fun _ => True) [bs [41]] (.slice (some ⟨w8.heap.size, 0, none⟩) 1 1) from rd_lit (bs [41]) (by unfold okS; decide))
    have B9 := Lib.hid (B8.out.trans (b9.mono hz8))
    have hz9 := B9.out.size
    clear b9 B8 O8
    go_wp2_with (at_builtin; generalize (w8.alloc (.cells #[.string ⟨#[41]⟩] 9)) = W9 at *; refine wpList_append_list rfl _ _ 50 rfl i0 _ Tryd.underlying50 hi hz0 hz1 hz2 rfl (by decide) Flat.keeps O9.out (R9.out.bare Nowhere) rfl rfl (Sub.nowhere _) (Sub.nowhere _) not_nowhere oneS ?c3 ?c4 ?c5 ?_)
    case c3 => (try simp only [List.length_append]); (try simp only [List.length_cons, List.length_nil]); unfold maxLen; omega
    case c4 => (try simp only [List.length_append]); (try simp only [List.length_cons, List.length_nil]); omega
    try (case c5 => exact hz9)
    intro v10 w10 ho hg hk
    obtain ⟨A10, c10, rfl⟩ := ho.form
    have O10 := Lib.hid (show OwnT w10 W.heap.size ([bs [40]] ++ X ++ [bs [41]]) _ from ho)
    have B10 := Lib.hid (B9.out.grown hg hz9 (fun j hj => own_lt O9.out hj))
    clear ho hg hk hz9 B9 O9 R9
    cases hoka : (tkE true a true).2
    all_goals (
      rw [hoka] at HT1
      generalize (tkE true b true).2 = okb at *
      go_wp2
      go_ret2
      exact ⟨_, by rw [HT1.out]; rfl, by rw [HT1.out, HD.out]; exact O10.out.rebase hsz, by rw [HD.out]; exact G.out.trans (B10.out.mono hsz), by rw [HT1.out, tsz_app, tsz_app, tsz_one, tsz_one, HXT.out]; have h7 : (bs [40]).size = 1 := rfl; have h8 : (bs [41]).size = 1 := rfl; omega⟩)
theorem kx_all (t : Ex) : KxE t := Ex.indP kx_none kx_two t
end Go.Proofs.YtijahadmaggncaaDoor
