/- The walks of bench.Lines and YLines (printed by wip/tools/gen_bn2.py, gen_un9.py). -/
import Derived.Test.YtnpgpcnkdocknaaGreatDoorGBn1
import Derived.Test.YtnpgpcnkdocknaaGreatDoorGKq3
import Derived.Test.YtnpgpcnkdocknaaGreatDoorGPq4
import Derived.BigQuiet
import Derived.BigRegion
namespace Go.Proofs.YtnpgpcnkdocknaaGreatDoor
open Go.RowKit
set_option linter.unusedVariables false
theorem infoInt : (Tryz.prog.info? 3).map (fun i => (i.zero, i.size, i.bytes)) = some (some (.int .i64 0), 1, 8) := by kernel_rfl
def encQ (x : Int × Int) : List Value := [.int .i64 x.1, .int .i64 x.2]
def okQ (x : Int × Int) : Prop := inI x.1 ∧ inI x.2
abbrev RdQ := RdL (Flat encQ okQ) 2 16
theorem RdQ.at1 {w : World} {S : Blocks} {l : List (Int × Int)} {A : Option Addr} {n cap : Nat} (h : RdQ w S l (.slice A n cap)) {q : Nat} (hq : q < l.length) :
    ∃ b off, A = some ⟨b, off, none⟩ ∧ S b ∧ okQ l[q] ∧ w.cell? ⟨b, off + q * 2, none⟩ = some (.int .i64 l[q].1) ∧ w.cell? ⟨b, off + q * 2 + 1, none⟩ = some (.int .i64 l[q].2) := by
 obtain ⟨b, off, hA, hb, hok, hc⟩ := RdL.flat h hq
 exact ⟨b, off, hA, hb, hok, hc 0 _ rfl, by rw [Nat.add_assoc]; exact hc 1 _ rfl⟩
def pairS (word : Str) (p : Int × Int) : Str := lineS word [p.1, p.2]
def oneS' (word : Str) (c : Int) : Str := lineS word [c]
def linesR (er at_ : Int) (hs : List Int) (wk sp : Int) (ps : List (Int × Int)) (cs : List Int) (ms : List (Int × Int)) : List Str :=
 if er = 0 then [lineS (⟨#[104, 101, 97, 112]⟩ : Str) hs, lineS (⟨#[119, 111, 114, 107]⟩ : Str) [wk, sp]] ++ ps.map (pairS (⟨#[114, 97, 99, 101]⟩ : Str)) ++ cs.map (oneS' (⟨#[99, 101, 108, 108]⟩ : Str)) ++ ms.map (pairS (⟨#[109, 97, 121]⟩ : Str)) else [lineS (⟨#[101, 114, 114, 111, 114]⟩ : Str) [er, at_]]
theorem lineS_ok (word : Str) (hw : word.size ≤ 100) (ns : List Int) (hn : ns.length ≤ 8) (h : ∀ n ∈ ns, inI n) : okS (lineS word ns) := by
 have h1 := lineB_len ns word.data.toList h
 rw [data_len word] at h1
 unfold okS lineS
 simp only [ByteArray.size, List.size_toArray]
 simp only [ByteArray.size] at h1 hw
 omega
theorem rdI_blk {base d off : Nat} {w : World} {vs : List Value} (h : Blk base w d vs) (l : List Int) (hl : ∀ n ∈ l, inI n) (hn : l.length ≤ 1000) (hc : ∀ i (hi : i < l.length), vs[off + i]? = some (.int .i64 l[i])) : RdI w (Is d) l (.slice (some ⟨d, off, none⟩) l.length l.length) := by
 refine ⟨some ⟨d, off, none⟩, l.length, l.map encI, rfl, Nat.le_refl _, by unfold maxLen; omega, by omega, by simp, ⟨?_, fun _ => ⟨d, off, rfl, rfl, ?_⟩⟩, ?_⟩
 ·intro c hcs
  obtain ⟨s, _, rfl⟩ := List.mem_map.1 hcs
  rfl
 ·intro i c hi j v hv
  rw [List.getElem?_map] at hi
  obtain ⟨s, hs, rfl⟩ := Option.map_eq_some_iff.1 hi
  obtain ⟨hlt, he⟩ := List.getElem?_eq_some_iff.1 hs
  match j, hv with
  | 0, hv =>
   simp only [encI, List.getElem?_cons_zero, Option.some.injEq] at hv
   subst hv
   have := h.cell (off + i) _ (hc i hlt)
   rw [he] at this
   simpa using this
 ·intro i e c hi hc2
  rw [List.getElem?_map, hi] at hc2
  simp only [Option.map_some, Option.some.injEq] at hc2
  subst hc2
  exact ⟨rfl, hl e (List.mem_of_getElem? hi)⟩
theorem rdI_lit (W : World) (l : List Int) (hl : ∀ n ∈ l, inI n) (hn : l.length ≤ 1000) : RdI (W.alloc (.cells (l.map (Value.int .i64)).toArray 3)) (Is W.heap.size) l (.slice (some ⟨W.heap.size, 0, none⟩) l.length l.length) :=
 rdI_blk (Blk.made W (l.map (Value.int .i64)) 3 (base := 0) (Nat.zero_le _)) l hl hn (fun i hi => by rw [Nat.zero_add, List.getElem?_map, List.getElem?_eq_getElem hi]; rfl)
theorem is_upto {d : Nat} {w : World} (h : d < w.heap.size) : Sub (Is d) (Upto w.heap.size) := fun b hb => by unfold Is at hb; subst hb; exact h
theorem two_in {a b : Int} (ha : inI a) (hb : inI b) : ∀ n ∈ [a, b], inI n := by intro n hn; simp only [List.mem_cons, List.not_mem_nil, or_false] at hn; rcases hn with rfl | rfl <;> assumption
theorem one_in {a : Int} (ha : inI a) : ∀ n ∈ [a], inI n := by intro n hn; rw [List.mem_singleton.1 hn]; exact ha
theorem OwnT.lit2 {w : World} {base : Nat} (s t : Str) (hs : okS s) (ht : okS t) (hb : base ≤ w.heap.size) : OwnT (w.alloc (.cells #[.string s, .string t] 9)) base [s, t] (.slice (some ⟨w.heap.size, 0, none⟩) 2 2) :=
 ⟨Nowhere, [encS s, encS t], Sub.refl _, Sub.nowhere _, not_nowhere, rfl, by simp [encS], ⟨by simp [encS], .inr ⟨w.heap.size, 2, #[.string s, .string t], rfl, hb, by
  show (w.heap.push _)[w.heap.size]? = _
  simp, Nat.le_refl _, by simp [maxLen], by simp, by simp [encS]⟩⟩, fun i e cs hi hc => by
  match i, hi, hc with
  | 0, hi, hc => simp at hi hc; subst hi hc; exact ⟨rfl, hs⟩
  | 1, hi, hc => simp at hi hc; subst hi hc; exact ⟨rfl, ht⟩⟩
set_option maxRecDepth 100000 in
theorem run_index8 (h0 h1 h2 h3 h4 h5 h6 h7 : Int) (q : Nat) (hq : q < 8) : ∃ z, ([h0, h1, h2, h3, h4, h5, h6, h7] : List Int)[q]? = some z ∧ ∀ W, Sem.run Tryz.prog (Instr.index 24 (Value.agg #[.int .i64 h0, .int .i64 h1, .int .i64 h2, .int .i64 h3, .int .i64 h4, .int .i64 h5, .int .i64 h6, .int .i64 h7]) (Value.int .i64 (q : Int))) W = .ok (Value.int .i64 z) W := by
 match q, hq with
 | 0, _ => exact ⟨h0, rfl, fun _ => rfl⟩
 | 1, _ => exact ⟨h1, rfl, fun _ => rfl⟩
 | 2, _ => exact ⟨h2, rfl, fun _ => rfl⟩
 | 3, _ => exact ⟨h3, rfl, fun _ => rfl⟩
 | 4, _ => exact ⟨h4, rfl, fun _ => rfl⟩
 | 5, _ => exact ⟨h5, rfl, fun _ => rfl⟩
 | 6, _ => exact ⟨h6, rfl, fun _ => rfl⟩
 | 7, _ => exact ⟨h7, rfl, fun _ => rfl⟩
set_option maxHeartbeats 16000000 in
set_option maxRecDepth 100000 in
theorem lines_n (er at_ h0 h1 h2 h3 h4 h5 h6 h7 wk sp : Int) (ps ms : List (Int × Int)) (cs : List Int) (V1 V2 V3 : Value) (w : World) (S : Blocks) (hS : Sub S (Upto w.heap.size)) (r1 : RdQ w S ps V1) (r2 : RdI w S cs V2) (r3 : RdQ w S ms V3) (he : inI er) (ha : inI at_) (hh : ∀ n ∈ [h0, h1, h2, h3, h4, h5, h6, h7], inI n) (hwk : inI wk) (hsp : inI sp)
    (hl1 : ps.length ≤ 1048576) (hl2 : cs.length ≤ 1048576) (hl3 : ms.length ≤ 1048576) (hT : PowT w) :
    Calls Tryz.prog 9 #[.agg #[.int .i64 er, .int .i64 at_, .int .i64 h0, .int .i64 h1, .int .i64 h2, .int .i64 h3, .int .i64 h4, .int .i64 h5, .int .i64 h6, .int .i64 h7, .int .i64 wk, .int .i64 sp, V1, V2, V3]] w fun e w' => ∃ x, e = .returned x ∧ OwnT w' w.heap.size (linesR er at_ [h0, h1, h2, h3, h4, h5, h6, h7] wk sp ps cs ms) x ∧ Below w.heap.size w w' := by
 obtain ⟨i0, hi, hz0, hz1', hz2⟩ := info_parts infoStr
 obtain ⟨A1, k1, rfl, hk1, hm1, _⟩ := r1.form
 obtain ⟨A2, k2, rfl, hk2, hm2, _⟩ := r2.form
 obtain ⟨A3, k3, rfl, hk3, hm3, _⟩ := r3.form
 unfold maxLen at hm1 hm2 hm3
 have bl0 : Below w.heap.size w (w.alloc (.cells #[.int .i64 er, .int .i64 at_, .int .i64 h0, .int .i64 h1, .int .i64 h2, .int .i64 h3, .int .i64 h4, .int .i64 h5, .int .i64 h6, .int .i64 h7, .int .i64 wk, .int .i64 sp, .slice A1 ps.length k1, .slice A2 cs.length k2, .slice A3 ms.length k3] 28)) := (Below.refl _ _).alloc (Nat.le_refl _) _
 have HBX := hid (Blk.made w [.int .i64 er, .int .i64 at_, .int .i64 h0, .int .i64 h1, .int .i64 h2, .int .i64 h3, .int .i64 h4, .int .i64 h5, .int .i64 h6, .int .i64 h7, .int .i64 wk, .int .i64 sp, .slice A1 ps.length k1, .slice A2 cs.length k2, .slice A3 ms.length k3] 28 (base := 0) (Nat.zero_le _))
 have HB0 := hid bl0
 have HT := hid (hT.go bl0)
 have R1 := hid (RdL.go r1 Flat.keeps bl0 hS (Sub.refl _))
 have R2 := hid (RdL.go r2 Flat.keeps bl0 hS (Sub.refl _))
 have R3 := hid (RdL.go r3 Flat.keeps bl0 hS (Sub.refl _))
 have HSS := hid hS
 have HHH := hid hh
 obtain ⟨d, hd⟩ : ∃ d, d = w.heap.size := ⟨_, rfl⟩
 have hdw : w.heap.size ≤ d := by omega
 have hdW : d < (w.alloc (.cells #[.int .i64 er, .int .i64 at_, .int .i64 h0, .int .i64 h1, .int .i64 h2, .int .i64 h3, .int .i64 h4, .int .i64 h5, .int .i64 h6, .int .i64 h7, .int .i64 wk, .int .i64 sp, .slice A1 ps.length k1, .slice A2 cs.length k2, .slice A3 ms.length k3] 28)).heap.size := by simp [hd]
 rw [← hd] at HBX
 clear bl0 hT r1 r2 r3 hS hh
 go_enter Tryz.func9, Tryz.ntmps9
 go_upto_region 1 with (fail)
 rw [← hd]
 clear hd
 generalize (w.alloc (.cells #[.int .i64 er, .int .i64 at_, .int .i64 h0, .int .i64 h1, .int .i64 h2, .int .i64 h3, .int .i64 h4, .int .i64 h5, .int .i64 h6, .int .i64 h7, .int .i64 wk, .int .i64 sp, .slice A1 ps.length k1, .slice A2 cs.length k2, .slice A3 ms.length k3] 28)) = W0 at *
 have hW0 : w.heap.size ≤ W0.heap.size := HB0.out.size
 have c0 := HBX.out.cell 0 _ rfl
 have c1 := HBX.out.cell 1 _ rfl
 have c10 := HBX.out.cell 10 _ rfl
 have c11 := HBX.out.cell 11 _ rfl
 by_cases her : er = 0
 ·have hne : (er != 0) = false := by simpa using her
  have HZ := hid (show linesR er at_ [h0, h1, h2, h3, h4, h5, h6, h7] wk sp ps cs ms = [lineS (⟨#[104, 101, 97, 112]⟩ : Str) [h0, h1, h2, h3, h4, h5, h6, h7], lineS (⟨#[119, 111, 114, 107]⟩ : Str) [wk, sp]] ++ ps.map (pairS (⟨#[114, 97, 99, 101]⟩ : Str)) ++ cs.map (oneS' (⟨#[99, 101, 108, 108]⟩ : Str)) ++ ms.map (pairS (⟨#[109, 97, 121]⟩ : Str)) by unfold linesR; rw [if_pos her])
  clear her
  go_upto_region 3 with (fail)
  have HBB := hid (Below.refl W0.heap.size W0)
  have HTB := HT
  have hWB : W0.heap.size ≤ W0.heap.size := Nat.le_refl _
  have HOH := hid (lineS_ok (⟨#[104, 101, 97, 112]⟩ : Str) (by decide) [h0, h1, h2, h3, h4, h5, h6, h7] (by simp) HHH.out)
  have HOW := hid (lineS_ok (⟨#[119, 111, 114, 107]⟩ : Str) (by decide) [wk, sp] (by simp) (two_in hwk hsp))
  have HLH := hid (fun W' (h : Below W0.heap.size W0 W') => line_n (⟨#[104, 101, 97, 112]⟩ : Str) (by decide) [h0, h1, h2, h3, h4, h5, h6, h7] (by simp) W' (Is d) (.slice (some ⟨d, 2, none⟩) 8 8) (is_upto (Nat.lt_of_lt_of_le hdW h.size)) (RdL.go (rdI_blk HBX.out [h0, h1, h2, h3, h4, h5, h6, h7] HHH.out (by simp) (fun i hi => by match i, hi with | 0, _ => rfl | 1, _ => rfl | 2, _ => rfl | 3, _ => rfl | 4, _ => rfl | 5, _ => rfl | 6, _ => rfl | 7, _ => rfl)) Flat.keeps h (is_upto hdW) (Sub.refl _)) (HTB.out.go h))
  obtain ⟨lh, hlh⟩ : ∃ lh, lh = lineS (⟨#[104, 101, 97, 112]⟩ : Str) [h0, h1, h2, h3, h4, h5, h6, h7] := ⟨_, rfl⟩
  obtain ⟨lw, hlw⟩ : ∃ lw, lw = lineS (⟨#[119, 111, 114, 107]⟩ : Str) [wk, sp] := ⟨_, rfl⟩
  have HLW := hid (fun (x : World) W' (h : Below W0.heap.size W0 W') (hx : x.heap.size < W'.heap.size) (hr : RdI W' (Is x.heap.size) [wk, sp] (.slice (some ⟨x.heap.size, 0, none⟩) 2 2)) => line_n (⟨#[119, 111, 114, 107]⟩ : Str) (by decide) [wk, sp] (by simp) W' (Is x.heap.size) _ (is_upto hx) hr (HTB.out.go h))
  rw [← hlh] at HLH HOH
  rw [← hlw] at HLW HOW
  have HHL := hid (And.intro hlh hlw)
  clear hlh hlw
  refine wp_region_pre 8 (S := (fun w' => Stay W0 w')) (by kernel_rfl) (by kernel_rfl) (Stay.mk (Kept.start _)) (fun hHeld => ?_)
  simp only [List.take_succ_cons, List.take_zero]
  refine tkA 0 20 ?_
  refine tkA 1 21 ?_
  refine tkA 3 23 ?_
  refine tkA 4 24 ?_
  refine tkA 5 25 ?_
  refine tkA 6 26 ?_
  (try simp only [Act.put, List.setIfInBounds_toArray, List.set_cons_zero, List.set_cons_succ])
  refine wpAnyH_ready (rs := [2, 7]) (by kernel_rfl) (by simp) ?_
  refine AllReadyH.cons rfl (fun K hK => ?_) (AllReadyH.cons rfl (fun K hK => ?_) AllReadyH.nil)
  focus
   go_simp
   refine (HLH.out W0.drew (Below.refl _ _).drew).mono ?_
   rintro e w1 ⟨rfl, hb1⟩
   have hst1 : Stay W0 w1 := Stay.step hb1 hHeld
   refine hK.out _ _ ?_ (fun hHeld => ?_)
   ·exact hst1
   clear hK K
   (try simp only [Act.put, List.setIfInBounds_toArray, List.set_cons_zero, List.set_cons_succ])
   have hst2 := Stay.mk (Kept.alloc (Kept.here hst1) (.cells #[.int .i64 wk, .int .i64 sp] 3))
   refine wpAnyH_ready (rs := [7]) (by kernel_rfl) (by simp) ?_
   refine AllReadyH.cons rfl (fun K hK => ?_) AllReadyH.nil
   go_simp
   skip
   refine hK.out _ _ ?_ (fun hHeld => ?_)
   ·exact hst2
   clear hK K
   (try simp only [Act.put, List.setIfInBounds_toArray, List.set_cons_zero, List.set_cons_succ])
   refine wpAnyH_done (by kernel_rfl) ?_ _
   unfold QPre
   simp only [List.drop_succ_cons, List.drop_zero]
   have hbl2 : Below W0.heap.size W0 (w1.alloc (.cells #[.int .i64 wk, .int .i64 sp] 3)) := Stay.below hst2
   have HCW := hid (HLW.out w1 (w1.alloc (.cells #[.int .i64 wk, .int .i64 sp] 3)) hbl2 (by simp) (show RdI (w1.alloc (.cells #[.int .i64 wk, .int .i64 sp] 3)) (Is w1.heap.size) [wk, sp] (.slice (some ⟨w1.heap.size, 0, none⟩) 2 2) from rdI_lit w1 [wk, sp] (two_in hwk hsp) (by simp)))
   clear hst1 hst2 hHeld hb1
   go_upto_region 4 with (go_at_call 19; refine HCW.out.mono ?_; rintro e w2 ⟨rfl, hb2⟩)
   have hbl3 : Below W0.heap.size W0 w2 := hbl2.trans (hb2.mono hbl2.size)
  rotate_left
  focus
   have hst1 : Stay W0 (W0.drew.alloc (.cells #[.int .i64 wk, .int .i64 sp] 3)) := Stay.mk (Kept.alloc (Kept.here hHeld) (.cells #[.int .i64 wk, .int .i64 sp] 3))
   go_simp
   skip
   refine hK.out _ _ ?_ (fun hHeld => ?_)
   ·exact hst1
   clear hK K
   (try simp only [Act.put, List.setIfInBounds_toArray, List.set_cons_zero, List.set_cons_succ])
   refine wpAnyH_ready (rs := [2]) (by kernel_rfl) (by simp) ?_
   refine AllReadyH.cons rfl (fun K hK => ?_) AllReadyH.nil
   go_simp
   refine (HLH.out _ (Stay.below hst1)).mono ?_
   rintro e w1 ⟨rfl, hb1⟩
   have hst2 : Stay W0 w1 := Stay.step hb1 hst1
   refine hK.out _ _ ?_ (fun hHeld => ?_)
   ·exact hst2
   clear hK K
   (try simp only [Act.put, List.setIfInBounds_toArray, List.set_cons_zero, List.set_cons_succ])
   refine wpAnyH_done (by kernel_rfl) ?_ _
   unfold QPre
   simp only [List.drop_succ_cons, List.drop_zero]
   have hbl2 : Below W0.heap.size W0 w1 := Stay.below hst2
   have hx9 : W0.heap.size < w1.heap.size := Nat.lt_of_lt_of_le (by simp) hb1.size
   have HCW := hid (HLW.out W0 w1 hbl2 hx9 (RdL.go (show RdI (W0.drew.alloc (.cells #[.int .i64 wk, .int .i64 sp] 3)) (Is W0.heap.size) [wk, sp] (.slice (some ⟨W0.heap.size, 0, none⟩) 2 2) from rdI_lit W0.drew [wk, sp] (two_in hwk hsp) (by simp)) Flat.keeps hb1 (is_upto (by simp)) (Sub.refl _)))
   clear hst1 hst2 hHeld hb1 hx9
   go_upto_region 4 with (go_at_call 19; refine HCW.out.mono ?_; rintro e w2 ⟨rfl, hb2⟩)
   have hbl3 : Below W0.heap.size W0 w2 := hbl2.trans (hb2.mono hbl2.size)
  all_goals
   have hzb := hbl3.size
   have bl4 : Below w2.heap.size w2 (w2.alloc (.cells #[.string lh, .string lw] 9)) := (Below.refl _ _).alloc (Nat.le_refl _) _
   have hbl5 : Below W0.heap.size W0 (w2.alloc (.cells #[.string lh, .string lw] 9)) := hbl3.trans (bl4.mono hzb)
   have HO1 := hid (OwnT.lit2 lh lw HOH.out HOW.out (show W0.heap.size ≤ w2.heap.size by omega))
   have HB1 := hid (HBB.out.trans (hbl5.mono hWB))
   have hW1 : w.heap.size ≤ (w2.alloc (.cells #[.string lh, .string lw] 9)).heap.size := by have := bl4.size; omega
   clear bl4 hbl5 hbl3 hbl2 hb2 HCW HLH HLW HOH HOW hzb
   generalize w2.heap.size = dr at *
   generalize (w2.alloc (.cells #[.string lh, .string lw] 9)) = W1 at *
   have cz1 := (HBX.out.below HB1.out).cell 12 _ rfl
   go_wp2_with fail
   go_loopw [3, 33] (fun o' u wr => ∃ (o : Value) (q : Nat), o = o' ∧ q ≤ ps.length ∧ u = .int .i64 (q : Int) ∧ Hid (OwnT wr W0.heap.size ([lh, lw] ++ (ps.take q).map (pairS (⟨#[114, 97, 99, 101]⟩ : Str))) o) ∧ Hid (Below W0.heap.size W0 wr)) (fun _ u _ => ps.length - (intOf u).toNat)
   case atStart => exact ⟨_, 0, rfl, Nat.zero_le _, rfl, hid (by rw [List.take_zero, List.map_nil, List.append_nil]; exact HO1.out), HB1⟩
   case round =>
    clear HO1 HB1 cz1
    obtain ⟨o, q, rfl, hq, rfl, HO, HB⟩ := hrel
    have hzr := HB.out.size
    by_cases hlt : q < ps.length
    ·skip
     have RW := RdL.go R1.out Flat.keeps HB.out (HSS.out.trans (Sub.upto hW0)) (Sub.refl _)
     obtain ⟨b0, off, rfl, hb0, hok, e0, e1⟩ := RdQ.at1 RW hlt
     have HT9 := hid (show ([lh, lw] ++ (ps.take q).map (pairS (⟨#[114, 97, 99, 101]⟩ : Str))) ++ [pairS (⟨#[114, 97, 99, 101]⟩ : Str) ps[q]] = [lh, lw] ++ (ps.take (q + 1)).map (pairS (⟨#[114, 97, 99, 101]⟩ : Str)) by rw [List.take_succ_eq_append_getElem hlt, List.map_append, List.append_assoc]; rfl)
     generalize ps[q] = pz at *
     obtain ⟨z1, z2⟩ := pz
     simp only at e0 e1
     have hin := two_in hok.1 hok.2
     have ble : Below wr.heap.size wr ((wr.alloc (.cells #[.int .i64 z1, .int .i64 z2] 57)).alloc (.cells #[.int .i64 z1, .int .i64 z2] 3)) := ((Below.refl _ _).alloc (Nat.le_refl _) _).alloc (by simp) _
     have HC := hid (line_n (⟨#[114, 97, 99, 101]⟩ : Str) (by decide) [z1, z2] (by simp) ((wr.alloc (.cells #[.int .i64 z1, .int .i64 z2] 57)).alloc (.cells #[.int .i64 z1, .int .i64 z2] 3)) (Is (wr.alloc (.cells #[.int .i64 z1, .int .i64 z2] 57)).heap.size) _ (is_upto (by simp)) (show RdI ((wr.alloc (.cells #[.int .i64 z1, .int .i64 z2] 57)).alloc (.cells #[.int .i64 z1, .int .i64 z2] 3)) (Is (wr.alloc (.cells #[.int .i64 z1, .int .i64 z2] 57)).heap.size) [z1, z2] (.slice (some ⟨(wr.alloc (.cells #[.int .i64 z1, .int .i64 z2] 57)).heap.size, 0, none⟩) 2 2) from rdI_lit (wr.alloc (.cells #[.int .i64 z1, .int .i64 z2] 57)) [z1, z2] hin (by simp)) (HT.out.go (HB.out.trans (ble.mono hzr))))
     simp only [World.size_alloc] at HC
     have HOK := hid (lineS_ok (⟨#[114, 97, 99, 101]⟩ : Str) (by decide) [z1, z2] (by simp) hin)
     rw [show pairS (⟨#[114, 97, 99, 101]⟩ : Str) (z1, z2) = lineS (⟨#[114, 97, 99, 101]⟩ : Str) [z1, z2] from rfl] at HT9
     generalize lineS (⟨#[114, 97, 99, 101]⟩ : Str) [z1, z2] = ls at *
     have hlen6 : ([lh, lw] ++ (ps.take q).map (pairS (⟨#[114, 97, 99, 101]⟩ : Str))).length ≤ 16000000 := by simp only [List.length_append, List.length_map, List.length_take, List.length_cons, List.length_nil]; omega
     obtain ⟨XQ, hXQ⟩ : ∃ XQ, XQ = [lh, lw] ++ (ps.take q).map (pairS (⟨#[114, 97, 99, 101]⟩ : Str)) := ⟨_, rfl⟩
     rw [← hXQ] at HO HT9 hlen6
     clear hXQ
     have HBL := hid ble
     clear RW hin hok hb0 ble
     go_wp2_with (go_at_call 19; refine HC.out.mono ?_)
     rintro e w5 ⟨rfl, hb5⟩
     have hz5 := HBL.out.size
     have hz6 := hb5.size
     have HK5 := hid (HBL.out.trans (hb5.mono (by first | exact hz5 | omega)))
     have bl6 : Below w5.heap.size w5 (w5.alloc (.cells #[.string ls] 9)) := (Below.refl _ _).alloc (Nat.le_refl _) _
     have O6 := hid (show OwnT (w5.alloc (.cells #[.string ls] 9)) W0.heap.size _ _ from OwnL.keep (OwnL.keep HO.out Flat.keeps HK5.out) Flat.keeps bl6)
     have R6 := hid (show RdSs (w5.alloc (.cells #[.string ls] 9)) (fun _ => True) [ls] (.slice (some ⟨w5.heap.size, 0, none⟩) 1 1) from rd_lit ls HOK.out)
     have B6 := hid ((HB.out.trans (HK5.out.mono hzr)).trans (bl6.mono (by omega)))
     have hzw6 : W0.heap.size ≤ (w5.alloc (.cells #[.string ls] 9)).heap.size := B6.out.size
     clear hb5 bl6 HK5 HBL HC HO HB hz5 hz6 hzr
     go_wp2_with (at_builtin; generalize (w5.alloc (.cells #[.string ls] 9)) = W2 at *; refine wpList_append_list rfl _ _ 37 rfl i0 _ Tryz.underlying37 hi hz0 hz1' hz2 rfl (by decide) Flat.keeps O6.out (R6.out.bare Nowhere) rfl rfl (Sub.nowhere _) (Sub.nowhere _) not_nowhere oneS ?c3 ?c4 hzw6 ?_)
     case c3 => simp only [List.length_cons, List.length_nil]; unfold maxLen; omega
     case c4 => simp only [List.length_cons, List.length_nil]; omega
     intro v2 w2 ho hg hk2
     have HO7 := hid (show OwnT w2 W0.heap.size ([lh, lw] ++ (ps.take (q + 1)).map (pairS (⟨#[114, 97, 99, 101]⟩ : Str))) v2 from by rw [← HT9.out]; exact ho)
     have HB7 := hid (B6.out.grown hg hzw6 (fun g hg => (O6.out.lt g hg).1))
     clear ho hg hk2 O6 R6 B6 hlen6
     go_wp2_with fail
     go_roundw
     case rel => exact ⟨_, q + 1, rfl, by omega, by go_num, HO7, HB7⟩
     case measure => simp [intOf]; omega
    ·have hqe : q = ps.length := by omega
     subst hqe
     have HO2 := hid (show OwnT _ W0.heap.size ([lh, lw] ++ ps.map (pairS (⟨#[114, 97, 99, 101]⟩ : Str))) _ by have h := HO.out; rwa [List.take_length] at h)
     have HB2 := HB
     clear HO HB hlt hzr hq
     have cz2 := (HBX.out.below HB2.out).cell 13 _ rfl
     go_wp2_with fail
     go_loopw [3, 50] (fun o' u wr => ∃ (o : Value) (q : Nat), o = o' ∧ q ≤ cs.length ∧ u = .int .i64 (q : Int) ∧ Hid (OwnT wr W0.heap.size (([lh, lw] ++ ps.map (pairS (⟨#[114, 97, 99, 101]⟩ : Str))) ++ (cs.take q).map (oneS' (⟨#[99, 101, 108, 108]⟩ : Str))) o) ∧ Hid (Below W0.heap.size W0 wr)) (fun _ u _ => cs.length - (intOf u).toNat)
     case atStart => exact ⟨_, 0, rfl, Nat.zero_le _, rfl, hid (by rw [List.take_zero, List.map_nil, List.append_nil]; exact HO2.out), HB2⟩
     case round =>
      clear HO2 HB2 cz2
      obtain ⟨o, q, rfl, hq, rfl, HO, HB⟩ := hrel
      have hzr := HB.out.size
      by_cases hlt : q < cs.length
      ·skip
       have RW := RdL.go R2.out Flat.keeps HB.out (HSS.out.trans (Sub.upto hW0)) (Sub.refl _)
       obtain ⟨b0, off, rfl, hb0, hok, e0⟩ := RdI.at1 RW hlt
       have HT9 := hid (show (([lh, lw] ++ ps.map (pairS (⟨#[114, 97, 99, 101]⟩ : Str))) ++ (cs.take q).map (oneS' (⟨#[99, 101, 108, 108]⟩ : Str))) ++ [oneS' (⟨#[99, 101, 108, 108]⟩ : Str) cs[q]] = ([lh, lw] ++ ps.map (pairS (⟨#[114, 97, 99, 101]⟩ : Str))) ++ (cs.take (q + 1)).map (oneS' (⟨#[99, 101, 108, 108]⟩ : Str)) by rw [List.take_succ_eq_append_getElem hlt, List.map_append, List.append_assoc]; rfl)
       generalize cs[q] = z1 at *
       have hin := one_in hok
       have ble : Below wr.heap.size wr (wr.alloc (.cells #[.int .i64 z1] 3)) := (Below.refl _ _).alloc (Nat.le_refl _) _
       have HC := hid (line_n (⟨#[99, 101, 108, 108]⟩ : Str) (by decide) [z1] (by simp) (wr.alloc (.cells #[.int .i64 z1] 3)) (Is wr.heap.size) _ (is_upto (by simp)) (show RdI (wr.alloc (.cells #[.int .i64 z1] 3)) (Is wr.heap.size) [z1] (.slice (some ⟨wr.heap.size, 0, none⟩) 1 1) from rdI_lit wr [z1] hin (by simp)) (HT.out.go (HB.out.trans (ble.mono hzr))))
       have HOK := hid (lineS_ok (⟨#[99, 101, 108, 108]⟩ : Str) (by decide) [z1] (by simp) hin)
       rw [show oneS' (⟨#[99, 101, 108, 108]⟩ : Str) z1 = lineS (⟨#[99, 101, 108, 108]⟩ : Str) [z1] from rfl] at HT9
       generalize lineS (⟨#[99, 101, 108, 108]⟩ : Str) [z1] = ls at *
       have hlen6 : (([lh, lw] ++ ps.map (pairS (⟨#[114, 97, 99, 101]⟩ : Str))) ++ (cs.take q).map (oneS' (⟨#[99, 101, 108, 108]⟩ : Str))).length ≤ 16000000 := by simp only [List.length_append, List.length_map, List.length_take, List.length_cons, List.length_nil]; omega
       obtain ⟨XQ, hXQ⟩ : ∃ XQ, XQ = ([lh, lw] ++ ps.map (pairS (⟨#[114, 97, 99, 101]⟩ : Str))) ++ (cs.take q).map (oneS' (⟨#[99, 101, 108, 108]⟩ : Str)) := ⟨_, rfl⟩
       rw [← hXQ] at HO HT9 hlen6
       clear hXQ
       have HBL := hid ble
       clear RW hin hok hb0 ble
       go_wp2_with (go_at_call 19; refine HC.out.mono ?_)
       rintro e w5 ⟨rfl, hb5⟩
       have hz5 := HBL.out.size
       have hz6 := hb5.size
       have HK5 := hid (HBL.out.trans (hb5.mono (by first | exact hz5 | omega)))
       --(.cells #[.string ls] 9) = (.cells #[.string ls] 9)
       have bl6 : Below w5.heap.size w5 (w5.alloc (.cells #[.string ls] 9)) := (Below.refl _ _).alloc (Nat.le_refl _) _
       have O6 := hid (show OwnT (w5.alloc (.cells #[.string ls] 9)) W0.heap.size _ _ from OwnL.keep (OwnL.keep HO.out Flat.keeps HK5.out) Flat.keeps bl6)
       have R6 := hid (show RdSs (w5.alloc (.cells #[.string ls] 9)) (fun _ => True) [ls] (.slice (some ⟨w5.heap.size, 0, none⟩) 1 1) from rd_lit ls HOK.out)
       have B6 := hid ((HB.out.trans (HK5.out.mono hzr)).trans (bl6.mono (by omega)))
       have hzw6 : W0.heap.size ≤ (w5.alloc (.cells #[.string ls] 9)).heap.size := B6.out.size
       clear hb5 bl6 HK5 HBL HC HO HB hz5 hz6 hzr
       go_wp2_with (at_builtin; generalize (w5.alloc (.cells #[.string ls] 9)) = W2 at *; refine wpList_append_list rfl _ _ 37 rfl i0 _ Tryz.underlying37 hi hz0 hz1' hz2 rfl (by decide) Flat.keeps O6.out (R6.out.bare Nowhere) rfl rfl (Sub.nowhere _) (Sub.nowhere _) not_nowhere oneS ?c3 ?c4 hzw6 ?_)
       case c3 => simp only [List.length_cons, List.length_nil]; unfold maxLen; omega
       case c4 => simp only [List.length_cons, List.length_nil]; omega
       intro v2 w2 ho hg hk2
       have HO7 := hid (show OwnT w2 W0.heap.size (([lh, lw] ++ ps.map (pairS (⟨#[114, 97, 99, 101]⟩ : Str))) ++ (cs.take (q + 1)).map (oneS' (⟨#[99, 101, 108, 108]⟩ : Str))) v2 from by rw [← HT9.out]; exact ho)
       have HB7 := hid (B6.out.grown hg hzw6 (fun g hg => (O6.out.lt g hg).1))
       clear ho hg hk2 O6 R6 B6 hlen6
       go_wp2_with fail
       go_roundw
       case rel => exact ⟨_, q + 1, rfl, by omega, by go_num, HO7, HB7⟩
       case measure => simp [intOf]; omega
      ·have hqe : q = cs.length := by omega
       subst hqe
       have HO3 := hid (show OwnT _ W0.heap.size (([lh, lw] ++ ps.map (pairS (⟨#[114, 97, 99, 101]⟩ : Str))) ++ cs.map (oneS' (⟨#[99, 101, 108, 108]⟩ : Str))) _ by have h := HO.out; rwa [List.take_length] at h)
       have HB3 := HB
       clear HO HB hlt hzr hq
       have cz3 := (HBX.out.below HB3.out).cell 14 _ rfl
       go_wp2_with fail
       go_loopw [3, 64] (fun o' u wr => ∃ (o : Value) (q : Nat), o = o' ∧ q ≤ ms.length ∧ u = .int .i64 (q : Int) ∧ Hid (OwnT wr W0.heap.size ((([lh, lw] ++ ps.map (pairS (⟨#[114, 97, 99, 101]⟩ : Str))) ++ cs.map (oneS' (⟨#[99, 101, 108, 108]⟩ : Str))) ++ (ms.take q).map (pairS (⟨#[109, 97, 121]⟩ : Str))) o) ∧ Hid (Below W0.heap.size W0 wr)) (fun _ u _ => ms.length - (intOf u).toNat)
       case atStart => exact ⟨_, 0, rfl, Nat.zero_le _, rfl, hid (by rw [List.take_zero, List.map_nil, List.append_nil]; exact HO3.out), HB3⟩
       case round =>
        clear HO3 HB3 cz3
        obtain ⟨o, q, rfl, hq, rfl, HO, HB⟩ := hrel
        have hzr := HB.out.size
        by_cases hlt : q < ms.length
        ·skip
         have RW := RdL.go R3.out Flat.keeps HB.out (HSS.out.trans (Sub.upto hW0)) (Sub.refl _)
         obtain ⟨b0, off, rfl, hb0, hok, e0, e1⟩ := RdQ.at1 RW hlt
         have HT9 := hid (show ((([lh, lw] ++ ps.map (pairS (⟨#[114, 97, 99, 101]⟩ : Str))) ++ cs.map (oneS' (⟨#[99, 101, 108, 108]⟩ : Str))) ++ (ms.take q).map (pairS (⟨#[109, 97, 121]⟩ : Str))) ++ [pairS (⟨#[109, 97, 121]⟩ : Str) ms[q]] = (([lh, lw] ++ ps.map (pairS (⟨#[114, 97, 99, 101]⟩ : Str))) ++ cs.map (oneS' (⟨#[99, 101, 108, 108]⟩ : Str))) ++ (ms.take (q + 1)).map (pairS (⟨#[109, 97, 121]⟩ : Str)) by rw [List.take_succ_eq_append_getElem hlt, List.map_append, List.append_assoc]; rfl)
         generalize ms[q] = pz at *
         obtain ⟨z1, z2⟩ := pz
         simp only at e0 e1
         have hin := two_in hok.1 hok.2
         --(.cells #[.int .i64 z1, .int .i64 z2] 57) = (.cells #[.int .i64 z1, .int .i64 z2] 57)
         --(.cells #[.int .i64 z1, .int .i64 z2] 3) = (.cells #[.int .i64 z1, .int .i64 z2] 3)
         --((wr.alloc (.cells #[.int .i64 z1, .int .i64 z2] 57)).alloc (.cells #[.int .i64 z1, .int .i64 z2] 3)) = ((wr.alloc (.cells #[.int .i64 z1, .int .i64 z2] 57)).alloc (.cells #[.int .i64 z1, .int .i64 z2] 3))
         have ble : Below wr.heap.size wr ((wr.alloc (.cells #[.int .i64 z1, .int .i64 z2] 57)).alloc (.cells #[.int .i64 z1, .int .i64 z2] 3)) := ((Below.refl _ _).alloc (Nat.le_refl _) _).alloc (by simp) _
         have HC := hid (line_n (⟨#[109, 97, 121]⟩ : Str) (by decide) [z1, z2] (by simp) ((wr.alloc (.cells #[.int .i64 z1, .int .i64 z2] 57)).alloc (.cells #[.int .i64 z1, .int .i64 z2] 3)) (Is (wr.alloc (.cells #[.int .i64 z1, .int .i64 z2] 57)).heap.size) _ (is_upto (by simp)) (show RdI ((wr.alloc (.cells #[.int .i64 z1, .int .i64 z2] 57)).alloc (.cells #[.int .i64 z1, .int .i64 z2] 3)) (Is (wr.alloc (.cells #[.int .i64 z1, .int .i64 z2] 57)).heap.size) [z1, z2] (.slice (some ⟨(wr.alloc (.cells #[.int .i64 z1, .int .i64 z2] 57)).heap.size, 0, none⟩) 2 2) from rdI_lit (wr.alloc (.cells #[.int .i64 z1, .int .i64 z2] 57)) [z1, z2] hin (by simp)) (HT.out.go (HB.out.trans (ble.mono hzr))))
         simp only [World.size_alloc] at HC
         have HOK := hid (lineS_ok (⟨#[109, 97, 121]⟩ : Str) (by decide) [z1, z2] (by simp) hin)
         rw [show pairS (⟨#[109, 97, 121]⟩ : Str) (z1, z2) = lineS (⟨#[109, 97, 121]⟩ : Str) [z1, z2] from rfl] at HT9
         generalize lineS (⟨#[109, 97, 121]⟩ : Str) [z1, z2] = ls at *
         have hlen6 : ((([lh, lw] ++ ps.map (pairS (⟨#[114, 97, 99, 101]⟩ : Str))) ++ cs.map (oneS' (⟨#[99, 101, 108, 108]⟩ : Str))) ++ (ms.take q).map (pairS (⟨#[109, 97, 121]⟩ : Str))).length ≤ 16000000 := by simp only [List.length_append, List.length_map, List.length_take, List.length_cons, List.length_nil]; omega
         obtain ⟨XQ, hXQ⟩ : ∃ XQ, XQ = (([lh, lw] ++ ps.map (pairS (⟨#[114, 97, 99, 101]⟩ : Str))) ++ cs.map (oneS' (⟨#[99, 101, 108, 108]⟩ : Str))) ++ (ms.take q).map (pairS (⟨#[109, 97, 121]⟩ : Str)) := ⟨_, rfl⟩
         rw [← hXQ] at HO HT9 hlen6
         clear hXQ
         have HBL := hid ble
         clear RW hin hok hb0 ble
         go_wp2_with (go_at_call 19; refine HC.out.mono ?_)
         rintro e w5 ⟨rfl, hb5⟩
         have hz5 := HBL.out.size
         have hz6 := hb5.size
         have HK5 := hid (HBL.out.trans (hb5.mono (by first | exact hz5 | omega)))
         --(.cells #[.string ls] 9) = (.cells #[.string ls] 9)
         have bl6 : Below w5.heap.size w5 (w5.alloc (.cells #[.string ls] 9)) := (Below.refl _ _).alloc (Nat.le_refl _) _
         have O6 := hid (show OwnT (w5.alloc (.cells #[.string ls] 9)) W0.heap.size _ _ from OwnL.keep (OwnL.keep HO.out Flat.keeps HK5.out) Flat.keeps bl6)
         have R6 := hid (show RdSs (w5.alloc (.cells #[.string ls] 9)) (fun _ => True) [ls] (.slice (some ⟨w5.heap.size, 0, none⟩) 1 1) from rd_lit ls HOK.out)
         have B6 := hid ((HB.out.trans (HK5.out.mono hzr)).trans (bl6.mono (by omega)))
         have hzw6 : W0.heap.size ≤ (w5.alloc (.cells #[.string ls] 9)).heap.size := B6.out.size
         clear hb5 bl6 HK5 HBL HC HO HB hz5 hz6 hzr
         go_wp2_with (at_builtin; generalize (w5.alloc (.cells #[.string ls] 9)) = W2 at *; refine wpList_append_list rfl _ _ 37 rfl i0 _ Tryz.underlying37 hi hz0 hz1' hz2 rfl (by decide) Flat.keeps O6.out (R6.out.bare Nowhere) rfl rfl (Sub.nowhere _) (Sub.nowhere _) not_nowhere oneS ?c3 ?c4 hzw6 ?_)
         case c3 => simp only [List.length_cons, List.length_nil]; unfold maxLen; omega
         case c4 => simp only [List.length_cons, List.length_nil]; omega
         intro v2 w2 ho hg hk2
         have HO7 := hid (show OwnT w2 W0.heap.size ((([lh, lw] ++ ps.map (pairS (⟨#[114, 97, 99, 101]⟩ : Str))) ++ cs.map (oneS' (⟨#[99, 101, 108, 108]⟩ : Str))) ++ (ms.take (q + 1)).map (pairS (⟨#[109, 97, 121]⟩ : Str))) v2 from by rw [← HT9.out]; exact ho)
         have HB7 := hid (B6.out.grown hg hzw6 (fun g hg => (O6.out.lt g hg).1))
         clear ho hg hk2 O6 R6 B6 hlen6
         go_wp2_with fail
         go_roundw
         case rel => exact ⟨_, q + 1, rfl, by omega, by go_num, HO7, HB7⟩
         case measure => simp [intOf]; omega
        ·have hqe : q = ms.length := by omega
         subst hqe
         have HO4 := hid (show OwnT _ W0.heap.size ((([lh, lw] ++ ps.map (pairS (⟨#[114, 97, 99, 101]⟩ : Str))) ++ cs.map (oneS' (⟨#[99, 101, 108, 108]⟩ : Str))) ++ ms.map (pairS (⟨#[109, 97, 121]⟩ : Str))) _ by have h := HO.out; rwa [List.take_length] at h)
         have HB4 := HB
         clear HO HB hlt hzr hq
         obtain ⟨A9, c9, rfl⟩ := HO4.out.form
         go_wp2_with fail
         go_ret
         exact ⟨_, rfl, by rw [HZ.out, ← HHL.out.1, ← HHL.out.2]; exact HO4.out.rebase hW0, HB0.out.trans (HB4.out.mono hW0)⟩
 ·have hne : (er != 0) = true := by simpa using her
  have HZ := hid (show linesR er at_ [h0, h1, h2, h3, h4, h5, h6, h7] wk sp ps cs ms = [lineS (⟨#[101, 114, 114, 111, 114]⟩ : Str) [er, at_]] by unfold linesR; rw [if_neg her])
  clear her
  have ble : Below W0.heap.size W0 (W0.alloc (.cells #[.int .i64 er, .int .i64 at_] 3)) := (Below.refl _ _).alloc (Nat.le_refl _) _
  have HC := hid (line_n (⟨#[101, 114, 114, 111, 114]⟩ : Str) (by decide) [er, at_] (by simp) (W0.alloc (.cells #[.int .i64 er, .int .i64 at_] 3)) (Is W0.heap.size) (.slice (some ⟨W0.heap.size, 0, none⟩) 2 2) (is_upto (by simp)) (show RdI (W0.alloc (.cells #[.int .i64 er, .int .i64 at_] 3)) (Is W0.heap.size) [er, at_] (.slice (some ⟨W0.heap.size, 0, none⟩) 2 2) from rdI_lit W0 [er, at_] (two_in he ha) (by simp)) (HT.out.go ble))
  have HOK := hid (lineS_ok (⟨#[101, 114, 114, 111, 114]⟩ : Str) (by decide) [er, at_] (by simp) (two_in he ha))
  generalize lineS (⟨#[101, 114, 114, 111, 114]⟩ : Str) [er, at_] = ls at *
  go_wp2_with (go_at_call 19; refine HC.out.mono ?_; rintro e w1 ⟨rfl, hb1⟩)
  have hz1 := hb1.size
  have hz2' := ble.size
  go_ret
  refine ⟨_, rfl, ?_, ?_⟩
  ·rw [HZ.out]; exact OwnT.lit1 ls HOK.out (by omega)
  ·exact ((HB0.out.trans (ble.mono hW0)).trans (hb1.mono (by omega))).alloc (by omega) _
set_option maxHeartbeats 16000000 in
set_option maxRecDepth 100000 in
theorem ylines_n (er at_ h0 h1 h2 h3 h4 h5 h6 h7 wk sp : Int) (ps ms : List (Int × Int)) (cs : List Int) (V1 V2 V3 : Value) (w : World) (S : Blocks) (hS : Sub S (Upto w.heap.size)) (r1 : RdQ w S ps V1) (r2 : RdI w S cs V2) (r3 : RdQ w S ms V3) (he : inI er) (ha : inI at_) (hh : ∀ n ∈ [h0, h1, h2, h3, h4, h5, h6, h7], inI n) (hwk : inI wk) (hsp : inI sp)
    (hl1 : ps.length ≤ 1048576) (hl2 : cs.length ≤ 1048576) (hl3 : ms.length ≤ 1048576) (hT : PowT w) :
    Calls Tryz.prog 10 #[.agg #[.int .i64 er, .int .i64 at_, .int .i64 h0, .int .i64 h1, .int .i64 h2, .int .i64 h3, .int .i64 h4, .int .i64 h5, .int .i64 h6, .int .i64 h7, .int .i64 wk, .int .i64 sp, V1, V2, V3]] w fun e w' => ∃ x, e = .returned x ∧ OwnT w' w.heap.size (linesR er at_ [h0, h1, h2, h3, h4, h5, h6, h7] wk sp ps cs ms) x ∧ Below w.heap.size w w' := by
 obtain ⟨i0, hi, hz0, hz1', hz2⟩ := info_parts infoStr
 obtain ⟨A1, k1, rfl, hk1, hm1, _⟩ := r1.form
 obtain ⟨A2, k2, rfl, hk2, hm2, _⟩ := r2.form
 obtain ⟨A3, k3, rfl, hk3, hm3, _⟩ := r3.form
 unfold maxLen at hm1 hm2 hm3
 --[.int .i64 er, .int .i64 at_, .int .i64 h0, .int .i64 h1, .int .i64 h2, .int .i64 h3, .int .i64 h4, .int .i64 h5, .int .i64 h6, .int .i64 h7, .int .i64 wk, .int .i64 sp, .slice A1 ps.length k1, .slice A2 cs.length k2, .slice A3 ms.length k3] = [.int .i64 er, .int .i64 at_, .int .i64 h0, .int .i64 h1, .int .i64 h2, .int .i64 h3, .int .i64 h4, .int .i64 h5, .int .i64 h6, .int .i64 h7, .int .i64 wk, .int .i64 sp, .slice A1 ps.length k1, .slice A2 cs.length k2, .slice A3 ms.length k3]
 --(.cells #[.int .i64 er, .int .i64 at_, .int .i64 h0, .int .i64 h1, .int .i64 h2, .int .i64 h3, .int .i64 h4, .int .i64 h5, .int .i64 h6, .int .i64 h7, .int .i64 wk, .int .i64 sp, .slice A1 ps.length k1, .slice A2 cs.length k2, .slice A3 ms.length k3] 28) = (.cells #[.int .i64 er, .int .i64 at_, .int .i64 h0, .int .i64 h1, .int .i64 h2, .int .i64 h3, .int .i64 h4, .int .i64 h5, .int .i64 h6, .int .i64 h7, .int .i64 wk, .int .i64 sp, .slice A1 ps.length k1, .slice A2 cs.length k2, .slice A3 ms.length k3] 28)
 have bl0 : Below w.heap.size w (w.alloc (.cells #[.int .i64 er, .int .i64 at_, .int .i64 h0, .int .i64 h1, .int .i64 h2, .int .i64 h3, .int .i64 h4, .int .i64 h5, .int .i64 h6, .int .i64 h7, .int .i64 wk, .int .i64 sp, .slice A1 ps.length k1, .slice A2 cs.length k2, .slice A3 ms.length k3] 28)) := (Below.refl _ _).alloc (Nat.le_refl _) _
 have HBX := hid (Blk.made w [.int .i64 er, .int .i64 at_, .int .i64 h0, .int .i64 h1, .int .i64 h2, .int .i64 h3, .int .i64 h4, .int .i64 h5, .int .i64 h6, .int .i64 h7, .int .i64 wk, .int .i64 sp, .slice A1 ps.length k1, .slice A2 cs.length k2, .slice A3 ms.length k3] 28 (base := 0) (Nat.zero_le _))
 have HB0 := hid bl0
 have HT := hid (hT.go bl0)
 have R1 := hid (RdL.go r1 Flat.keeps bl0 hS (Sub.refl _))
 have R2 := hid (RdL.go r2 Flat.keeps bl0 hS (Sub.refl _))
 have R3 := hid (RdL.go r3 Flat.keeps bl0 hS (Sub.refl _))
 have HSS := hid hS
 have HHH := hid hh
 obtain ⟨d, hd⟩ : ∃ d, d = w.heap.size := ⟨_, rfl⟩
 have hdw : w.heap.size ≤ d := by omega
 have hdW : d < (w.alloc (.cells #[.int .i64 er, .int .i64 at_, .int .i64 h0, .int .i64 h1, .int .i64 h2, .int .i64 h3, .int .i64 h4, .int .i64 h5, .int .i64 h6, .int .i64 h7, .int .i64 wk, .int .i64 sp, .slice A1 ps.length k1, .slice A2 cs.length k2, .slice A3 ms.length k3] 28)).heap.size := by simp [hd]
 rw [← hd] at HBX
 clear bl0 hT r1 r2 r3 hS hh
 go_enter Tryz.func10, Tryz.ntmps10
 go_upto_region 1 with (fail)
 rw [← hd]
 clear hd
 generalize (w.alloc (.cells #[.int .i64 er, .int .i64 at_, .int .i64 h0, .int .i64 h1, .int .i64 h2, .int .i64 h3, .int .i64 h4, .int .i64 h5, .int .i64 h6, .int .i64 h7, .int .i64 wk, .int .i64 sp, .slice A1 ps.length k1, .slice A2 cs.length k2, .slice A3 ms.length k3] 28)) = W0 at *
 have hW0 : w.heap.size ≤ W0.heap.size := HB0.out.size
 have c0 := HBX.out.cell 0 _ rfl
 have c1 := HBX.out.cell 1 _ rfl
 have c10 := HBX.out.cell 10 _ rfl
 have c11 := HBX.out.cell 11 _ rfl
 by_cases her : er = 0
 ·have hne : (er != 0) = false := by simpa using her
  have HZ := hid (show linesR er at_ [h0, h1, h2, h3, h4, h5, h6, h7] wk sp ps cs ms = [lineS (⟨#[104, 101, 97, 112]⟩ : Str) [h0, h1, h2, h3, h4, h5, h6, h7], lineS (⟨#[119, 111, 114, 107]⟩ : Str) [wk, sp]] ++ ps.map (pairS (⟨#[114, 97, 99, 101]⟩ : Str)) ++ cs.map (oneS' (⟨#[99, 101, 108, 108]⟩ : Str)) ++ ms.map (pairS (⟨#[109, 97, 121]⟩ : Str)) by unfold linesR; rw [if_pos her])
  clear her
  obtain ⟨j0, hi_, gz0, gz1, gz2⟩ := info_parts infoInt
  have c2 := HBX.out.cell 2 _ rfl
  have c3 := HBX.out.cell 3 _ rfl
  have c4 := HBX.out.cell 4 _ rfl
  have c5 := HBX.out.cell 5 _ rfl
  have c6 := HBX.out.cell 6 _ rfl
  have c7 := HBX.out.cell 7 _ rfl
  have c8 := HBX.out.cell 8 _ rfl
  have c9 := HBX.out.cell 9 _ rfl
  go_wp2_with fail
  go_loopw [3, 25] (fun o' u wr => ∃ (o : Value) (q : Nat), o = o' ∧ q ≤ 8 ∧ u = .int .i64 (q : Int) ∧ Hid (OwnI 3 wr W0.heap.size Nowhere ([h0, h1, h2, h3, h4, h5, h6, h7].take q) o) ∧ Hid (Below W0.heap.size W0 wr)) (fun _ u _ => 8 - (intOf u).toNat)
  case atStart => exact ⟨_, 0, rfl, Nat.zero_le _, rfl, hid (OwnL.nil _ _ _), hid (Below.refl _ _)⟩
  case round =>
   obtain ⟨o, q, rfl, hq, rfl, HO, HB⟩ := hrel
   have hzr := HB.out.size
   by_cases hlt : q < 8
   ·skip
    obtain ⟨z, hz, hrun⟩ := run_index8 h0 h1 h2 h3 h4 h5 h6 h7 q hlt
    have HT9 := hid (show [h0, h1, h2, h3, h4, h5, h6, h7].take q ++ [z] = [h0, h1, h2, h3, h4, h5, h6, h7].take (q + 1) by rw [List.take_add_one, hz]; rfl)
    have hzi := HHH.out z (List.mem_of_getElem? hz)
    have hlen6 : ([h0, h1, h2, h3, h4, h5, h6, h7].take q).length ≤ 8 := by rw [List.length_take]; omega
    obtain ⟨XQ, hXQ⟩ : ∃ XQ, XQ = [h0, h1, h2, h3, h4, h5, h6, h7].take q := ⟨_, rfl⟩
    rw [← hXQ] at HO HT9 hlen6
    clear hXQ hz
    go_wp2_with (at_builtin; refine wpList_append_one rfl _ _ 26 rfl j0 _ Tryz.underlying26 hi_ gz0 gz1 gz2 rfl (by decide) Flat.keeps HO.out (x := z) (cs := [Value.int .i64 z]) (Tx := Nowhere) ?c0 rfl rfl rfl (Sub.nowhere _) (Sub.nowhere _) not_nowhere ?c1 ?c2 ?c3 ?c4 ?_)
    case c0 => exact ⟨rfl, hzi⟩
    case c1 => simp [Value.oneCell']
    case c2 => unfold maxLen; omega
    case c3 => omega
    case c4 => exact hzr
    intro v2 w2 ho2 hg2 _
    have HB2 := hid (HB.out.grown hg2 hzr (fun g hg => (HO.out.lt g hg).1))
    rw [HT9.out] at ho2
    have HO2 := hid ho2
    clear ho2 hg2 HO HB hzr hlen6 HT9
    go_wp2_with fail
    go_roundw
    case rel => exact ⟨_, q + 1, rfl, by omega, by go_num, HO2, HB2⟩
    case measure => simp [intOf]; omega
   ·have hqe : q = 8 := by omega
    subst hqe
    have HOI := hid (show OwnI 3 wr W0.heap.size Nowhere [h0, h1, h2, h3, h4, h5, h6, h7] o from HO.out)
    clear HO hlt hq
    have HRH := hid (show RdI wr (Upto wr.heap.size) [h0, h1, h2, h3, h4, h5, h6, h7] o from OwnL.toRd HOI.out Flat.keeps (by simp) (Sub.nowhere _) (fun b _ h => h))
    clear HOI
    have hdR : d < wr.heap.size := Nat.lt_of_lt_of_le hdW hzr
    have e10 := (HBX.out.below HB.out).cell 10 _ rfl
    have e11 := (HBX.out.below HB.out).cell 11 _ rfl
    go_upto_region 9 with (fail)
    have HBB := HB
    have HTB := hid (HT.out.go HB.out)
    have hWB : W0.heap.size ≤ wr.heap.size := hzr
    have HOH := hid (lineS_ok (⟨#[104, 101, 97, 112]⟩ : Str) (by decide) [h0, h1, h2, h3, h4, h5, h6, h7] (by simp) HHH.out)
    have HOW := hid (lineS_ok (⟨#[119, 111, 114, 107]⟩ : Str) (by decide) [wk, sp] (by simp) (two_in hwk hsp))
    have HLH := hid (fun W' (h : Below wr.heap.size wr W') => yline_n (⟨#[104, 101, 97, 112]⟩ : Str) (by decide) [h0, h1, h2, h3, h4, h5, h6, h7] (by simp) W' (Upto wr.heap.size) o (Sub.upto h.size) (RdL.go HRH.out Flat.keeps h (Sub.refl _) (Sub.refl _)) (HTB.out.go h))
    obtain ⟨lh, hlh⟩ : ∃ lh, lh = lineS (⟨#[104, 101, 97, 112]⟩ : Str) [h0, h1, h2, h3, h4, h5, h6, h7] := ⟨_, rfl⟩
    obtain ⟨lw, hlw⟩ : ∃ lw, lw = lineS (⟨#[119, 111, 114, 107]⟩ : Str) [wk, sp] := ⟨_, rfl⟩
    have HLW := hid (fun (x : World) W' (h : Below wr.heap.size wr W') (hx : x.heap.size < W'.heap.size) (hr : RdI W' (Is x.heap.size) [wk, sp] (.slice (some ⟨x.heap.size, 0, none⟩) 2 2)) => yline_n (⟨#[119, 111, 114, 107]⟩ : Str) (by decide) [wk, sp] (by simp) W' (Is x.heap.size) _ (is_upto hx) hr (HTB.out.go h))
    rw [← hlh] at HLH HOH
    rw [← hlw] at HLW HOW
    have HHL := hid (And.intro hlh hlw)
    clear hlh hlw
    refine wp_region_pre 7 (S := (fun w' => Stay wr w')) (by kernel_rfl) (by kernel_rfl) (Stay.mk (Kept.start _)) (fun hHeld => ?_)
    simp only [List.take_succ_cons, List.take_zero]
    refine tkA 0 33 ?_
    refine tkA 2 35 ?_
    refine tkA 3 36 ?_
    refine tkA 4 37 ?_
    refine tkA 5 38 ?_
    (try simp only [Act.put, List.setIfInBounds_toArray, List.set_cons_zero, List.set_cons_succ])
    refine wpAnyH_ready (rs := [1, 6]) (by kernel_rfl) (by simp) ?_
    refine AllReadyH.cons rfl (fun K hK => ?_) (AllReadyH.cons rfl (fun K hK => ?_) AllReadyH.nil)
    focus
     go_simp
     refine (HLH.out wr.drew (Below.refl _ _).drew).mono ?_
     rintro e w1 ⟨rfl, hb1⟩
     have hst1 : Stay wr w1 := Stay.step hb1 hHeld
     refine hK.out _ _ ?_ (fun hHeld => ?_)
     ·exact hst1
     clear hK K
     (try simp only [Act.put, List.setIfInBounds_toArray, List.set_cons_zero, List.set_cons_succ])
     have hst2 := Stay.mk (Kept.alloc (Kept.here hst1) (.cells #[.int .i64 wk, .int .i64 sp] 3))
     refine wpAnyH_ready (rs := [6]) (by kernel_rfl) (by simp) ?_
     refine AllReadyH.cons rfl (fun K hK => ?_) AllReadyH.nil
     go_simp
     skip
     refine hK.out _ _ ?_ (fun hHeld => ?_)
     ·exact hst2
     clear hK K
     (try simp only [Act.put, List.setIfInBounds_toArray, List.set_cons_zero, List.set_cons_succ])
     refine wpAnyH_done (by kernel_rfl) ?_ _
     unfold QPre
     simp only [List.drop_succ_cons, List.drop_zero]
     have hbl2 : Below wr.heap.size wr (w1.alloc (.cells #[.int .i64 wk, .int .i64 sp] 3)) := Stay.below hst2
     have HCW := hid (HLW.out w1 (w1.alloc (.cells #[.int .i64 wk, .int .i64 sp] 3)) hbl2 (by simp) (show RdI (w1.alloc (.cells #[.int .i64 wk, .int .i64 sp] 3)) (Is w1.heap.size) [wk, sp] (.slice (some ⟨w1.heap.size, 0, none⟩) 2 2) from rdI_lit w1 [wk, sp] (two_in hwk hsp) (by simp)))
     clear hst1 hst2 hHeld hb1
     go_upto_region 10 with (go_at_call 20; refine HCW.out.mono ?_; rintro e w2 ⟨rfl, hb2⟩)
     have hbl3 : Below wr.heap.size wr w2 := hbl2.trans (hb2.mono hbl2.size)
    rotate_left
    focus
     have hst1 : Stay wr (wr.drew.alloc (.cells #[.int .i64 wk, .int .i64 sp] 3)) := Stay.mk (Kept.alloc (Kept.here hHeld) (.cells #[.int .i64 wk, .int .i64 sp] 3))
     go_simp
     skip
     refine hK.out _ _ ?_ (fun hHeld => ?_)
     ·exact hst1
     clear hK K
     (try simp only [Act.put, List.setIfInBounds_toArray, List.set_cons_zero, List.set_cons_succ])
     refine wpAnyH_ready (rs := [1]) (by kernel_rfl) (by simp) ?_
     refine AllReadyH.cons rfl (fun K hK => ?_) AllReadyH.nil
     go_simp
     refine (HLH.out _ (Stay.below hst1)).mono ?_
     rintro e w1 ⟨rfl, hb1⟩
     have hst2 : Stay wr w1 := Stay.step hb1 hst1
     refine hK.out _ _ ?_ (fun hHeld => ?_)
     ·exact hst2
     clear hK K
     (try simp only [Act.put, List.setIfInBounds_toArray, List.set_cons_zero, List.set_cons_succ])
     refine wpAnyH_done (by kernel_rfl) ?_ _
     unfold QPre
     simp only [List.drop_succ_cons, List.drop_zero]
     have hbl2 : Below wr.heap.size wr w1 := Stay.below hst2
     have hx9 : wr.heap.size < w1.heap.size := Nat.lt_of_lt_of_le (by simp) hb1.size
     have HCW := hid (HLW.out wr w1 hbl2 hx9 (RdL.go (show RdI (wr.drew.alloc (.cells #[.int .i64 wk, .int .i64 sp] 3)) (Is wr.heap.size) [wk, sp] (.slice (some ⟨wr.heap.size, 0, none⟩) 2 2) from rdI_lit wr.drew [wk, sp] (two_in hwk hsp) (by simp)) Flat.keeps hb1 (is_upto (by simp)) (Sub.refl _)))
     clear hst1 hst2 hHeld hb1 hx9
     go_upto_region 10 with (go_at_call 20; refine HCW.out.mono ?_; rintro e w2 ⟨rfl, hb2⟩)
     have hbl3 : Below wr.heap.size wr w2 := hbl2.trans (hb2.mono hbl2.size)
    all_goals
     --(.cells #[.string lh, .string lw] 9) = (.cells #[.string lh, .string lw] 9)
     have hzb := hbl3.size
     have bl4 : Below w2.heap.size w2 (w2.alloc (.cells #[.string lh, .string lw] 9)) := (Below.refl _ _).alloc (Nat.le_refl _) _
     have hbl5 : Below wr.heap.size wr (w2.alloc (.cells #[.string lh, .string lw] 9)) := hbl3.trans (bl4.mono hzb)
     have HO1 := hid (OwnT.lit2 lh lw HOH.out HOW.out (show W0.heap.size ≤ w2.heap.size by omega))
     have HB1 := hid (HBB.out.trans (hbl5.mono hWB))
     have hW1 : w.heap.size ≤ (w2.alloc (.cells #[.string lh, .string lw] 9)).heap.size := by have := bl4.size; omega
     clear bl4 hbl5 hbl3 hbl2 hb2 HCW HLH HLW HOH HOW hzb
     generalize w2.heap.size = dr at *
     generalize (w2.alloc (.cells #[.string lh, .string lw] 9)) = W1 at *
     have cz1 := (HBX.out.below HB1.out).cell 12 _ rfl
     go_wp2_with fail
     go_loopw [6, 45] (fun o' u wr => ∃ (o : Value) (q : Nat), o = o' ∧ q ≤ ps.length ∧ u = .int .i64 (q : Int) ∧ Hid (OwnT wr W0.heap.size ([lh, lw] ++ (ps.take q).map (pairS (⟨#[114, 97, 99, 101]⟩ : Str))) o) ∧ Hid (Below W0.heap.size W0 wr)) (fun _ u _ => ps.length - (intOf u).toNat)
     case atStart => exact ⟨_, 0, rfl, Nat.zero_le _, rfl, hid (by rw [List.take_zero, List.map_nil, List.append_nil]; exact HO1.out), HB1⟩
     case round =>
      clear HO1 HB1 cz1
      obtain ⟨o, q, rfl, hq, rfl, HO, HB⟩ := hrel
      have hzr := HB.out.size
      by_cases hlt : q < ps.length
      ·skip
       have RW := RdL.go R1.out Flat.keeps HB.out (HSS.out.trans (Sub.upto hW0)) (Sub.refl _)
       obtain ⟨b0, off, rfl, hb0, hok, e0, e1⟩ := RdQ.at1 RW hlt
       have HT9 := hid (show ([lh, lw] ++ (ps.take q).map (pairS (⟨#[114, 97, 99, 101]⟩ : Str))) ++ [pairS (⟨#[114, 97, 99, 101]⟩ : Str) ps[q]] = [lh, lw] ++ (ps.take (q + 1)).map (pairS (⟨#[114, 97, 99, 101]⟩ : Str)) by rw [List.take_succ_eq_append_getElem hlt, List.map_append, List.append_assoc]; rfl)
       generalize ps[q] = pz at *
       obtain ⟨z1, z2⟩ := pz
       simp only at e0 e1
       have hin := two_in hok.1 hok.2
       --(.cells #[.int .i64 z1, .int .i64 z2] 57) = (.cells #[.int .i64 z1, .int .i64 z2] 57)
       --(.cells #[.int .i64 z1, .int .i64 z2] 3) = (.cells #[.int .i64 z1, .int .i64 z2] 3)
       --((wr.alloc (.cells #[.int .i64 z1, .int .i64 z2] 57)).alloc (.cells #[.int .i64 z1, .int .i64 z2] 3)) = ((wr.alloc (.cells #[.int .i64 z1, .int .i64 z2] 57)).alloc (.cells #[.int .i64 z1, .int .i64 z2] 3))
       have ble : Below wr.heap.size wr ((wr.alloc (.cells #[.int .i64 z1, .int .i64 z2] 57)).alloc (.cells #[.int .i64 z1, .int .i64 z2] 3)) := ((Below.refl _ _).alloc (Nat.le_refl _) _).alloc (by simp) _
       have HC := hid (yline_n (⟨#[114, 97, 99, 101]⟩ : Str) (by decide) [z1, z2] (by simp) ((wr.alloc (.cells #[.int .i64 z1, .int .i64 z2] 57)).alloc (.cells #[.int .i64 z1, .int .i64 z2] 3)) (Is (wr.alloc (.cells #[.int .i64 z1, .int .i64 z2] 57)).heap.size) _ (is_upto (by simp)) (show RdI ((wr.alloc (.cells #[.int .i64 z1, .int .i64 z2] 57)).alloc (.cells #[.int .i64 z1, .int .i64 z2] 3)) (Is (wr.alloc (.cells #[.int .i64 z1, .int .i64 z2] 57)).heap.size) [z1, z2] (.slice (some ⟨(wr.alloc (.cells #[.int .i64 z1, .int .i64 z2] 57)).heap.size, 0, none⟩) 2 2) from rdI_lit (wr.alloc (.cells #[.int .i64 z1, .int .i64 z2] 57)) [z1, z2] hin (by simp)) (HT.out.go (HB.out.trans (ble.mono hzr))))
       simp only [World.size_alloc] at HC
       have HOK := hid (lineS_ok (⟨#[114, 97, 99, 101]⟩ : Str) (by decide) [z1, z2] (by simp) hin)
       rw [show pairS (⟨#[114, 97, 99, 101]⟩ : Str) (z1, z2) = lineS (⟨#[114, 97, 99, 101]⟩ : Str) [z1, z2] from rfl] at HT9
       generalize lineS (⟨#[114, 97, 99, 101]⟩ : Str) [z1, z2] = ls at *
       have hlen6 : ([lh, lw] ++ (ps.take q).map (pairS (⟨#[114, 97, 99, 101]⟩ : Str))).length ≤ 16000000 := by simp only [List.length_append, List.length_map, List.length_take, List.length_cons, List.length_nil]; omega
       obtain ⟨XQ, hXQ⟩ : ∃ XQ, XQ = [lh, lw] ++ (ps.take q).map (pairS (⟨#[114, 97, 99, 101]⟩ : Str)) := ⟨_, rfl⟩
       rw [← hXQ] at HO HT9 hlen6
       clear hXQ
       have HBL := hid ble
       clear RW hin hok hb0 ble
       go_wp2_with (go_at_call 20; refine HC.out.mono ?_)
       rintro e w5 ⟨rfl, hb5⟩
       have hz5 := HBL.out.size
       have hz6 := hb5.size
       have HK5 := hid (HBL.out.trans (hb5.mono (by first | exact hz5 | omega)))
       --(.cells #[.string ls] 9) = (.cells #[.string ls] 9)
       have bl6 : Below w5.heap.size w5 (w5.alloc (.cells #[.string ls] 9)) := (Below.refl _ _).alloc (Nat.le_refl _) _
       have O6 := hid (show OwnT (w5.alloc (.cells #[.string ls] 9)) W0.heap.size _ _ from OwnL.keep (OwnL.keep HO.out Flat.keeps HK5.out) Flat.keeps bl6)
       have R6 := hid (show RdSs (w5.alloc (.cells #[.string ls] 9)) (fun _ => True) [ls] (.slice (some ⟨w5.heap.size, 0, none⟩) 1 1) from rd_lit ls HOK.out)
       have B6 := hid ((HB.out.trans (HK5.out.mono hzr)).trans (bl6.mono (by omega)))
       have hzw6 : W0.heap.size ≤ (w5.alloc (.cells #[.string ls] 9)).heap.size := B6.out.size
       clear hb5 bl6 HK5 HBL HC HO HB hz5 hz6 hzr
       go_wp2_with (at_builtin; generalize (w5.alloc (.cells #[.string ls] 9)) = W2 at *; refine wpList_append_list rfl _ _ 37 rfl i0 _ Tryz.underlying37 hi hz0 hz1' hz2 rfl (by decide) Flat.keeps O6.out (R6.out.bare Nowhere) rfl rfl (Sub.nowhere _) (Sub.nowhere _) not_nowhere oneS ?c3 ?c4 hzw6 ?_)
       case c3 => simp only [List.length_cons, List.length_nil]; unfold maxLen; omega
       case c4 => simp only [List.length_cons, List.length_nil]; omega
       intro v2 w2 ho hg hk2
       have HO7 := hid (show OwnT w2 W0.heap.size ([lh, lw] ++ (ps.take (q + 1)).map (pairS (⟨#[114, 97, 99, 101]⟩ : Str))) v2 from by rw [← HT9.out]; exact ho)
       have HB7 := hid (B6.out.grown hg hzw6 (fun g hg => (O6.out.lt g hg).1))
       clear ho hg hk2 O6 R6 B6 hlen6
       go_wp2_with fail
       go_roundw
       case rel => exact ⟨_, q + 1, rfl, by omega, by go_num, HO7, HB7⟩
       case measure => simp [intOf]; omega
      ·have hqe : q = ps.length := by omega
       subst hqe
       have HO2 := hid (show OwnT _ W0.heap.size ([lh, lw] ++ ps.map (pairS (⟨#[114, 97, 99, 101]⟩ : Str))) _ by have h := HO.out; rwa [List.take_length] at h)
       have HB2 := HB
       clear HO HB hlt hzr hq
       have cz2 := (HBX.out.below HB2.out).cell 13 _ rfl
       go_wp2_with fail
       go_loopw [6, 62] (fun o' u wr => ∃ (o : Value) (q : Nat), o = o' ∧ q ≤ cs.length ∧ u = .int .i64 (q : Int) ∧ Hid (OwnT wr W0.heap.size (([lh, lw] ++ ps.map (pairS (⟨#[114, 97, 99, 101]⟩ : Str))) ++ (cs.take q).map (oneS' (⟨#[99, 101, 108, 108]⟩ : Str))) o) ∧ Hid (Below W0.heap.size W0 wr)) (fun _ u _ => cs.length - (intOf u).toNat)
       case atStart => exact ⟨_, 0, rfl, Nat.zero_le _, rfl, hid (by rw [List.take_zero, List.map_nil, List.append_nil]; exact HO2.out), HB2⟩
       case round =>
        clear HO2 HB2 cz2
        obtain ⟨o, q, rfl, hq, rfl, HO, HB⟩ := hrel
        have hzr := HB.out.size
        by_cases hlt : q < cs.length
        ·skip
         have RW := RdL.go R2.out Flat.keeps HB.out (HSS.out.trans (Sub.upto hW0)) (Sub.refl _)
         obtain ⟨b0, off, rfl, hb0, hok, e0⟩ := RdI.at1 RW hlt
         have HT9 := hid (show (([lh, lw] ++ ps.map (pairS (⟨#[114, 97, 99, 101]⟩ : Str))) ++ (cs.take q).map (oneS' (⟨#[99, 101, 108, 108]⟩ : Str))) ++ [oneS' (⟨#[99, 101, 108, 108]⟩ : Str) cs[q]] = ([lh, lw] ++ ps.map (pairS (⟨#[114, 97, 99, 101]⟩ : Str))) ++ (cs.take (q + 1)).map (oneS' (⟨#[99, 101, 108, 108]⟩ : Str)) by rw [List.take_succ_eq_append_getElem hlt, List.map_append, List.append_assoc]; rfl)
         generalize cs[q] = z1 at *
         have hin := one_in hok
         --(.cells #[.int .i64 z1] 3) = (.cells #[.int .i64 z1] 3)
         --(wr.alloc (.cells #[.int .i64 z1] 3)) = (wr.alloc (.cells #[.int .i64 z1] 3))
         have ble : Below wr.heap.size wr (wr.alloc (.cells #[.int .i64 z1] 3)) := (Below.refl _ _).alloc (Nat.le_refl _) _
         have HC := hid (yline_n (⟨#[99, 101, 108, 108]⟩ : Str) (by decide) [z1] (by simp) (wr.alloc (.cells #[.int .i64 z1] 3)) (Is wr.heap.size) _ (is_upto (by simp)) (show RdI (wr.alloc (.cells #[.int .i64 z1] 3)) (Is wr.heap.size) [z1] (.slice (some ⟨wr.heap.size, 0, none⟩) 1 1) from rdI_lit wr [z1] hin (by simp)) (HT.out.go (HB.out.trans (ble.mono hzr))))
         have HOK := hid (lineS_ok (⟨#[99, 101, 108, 108]⟩ : Str) (by decide) [z1] (by simp) hin)
         rw [show oneS' (⟨#[99, 101, 108, 108]⟩ : Str) z1 = lineS (⟨#[99, 101, 108, 108]⟩ : Str) [z1] from rfl] at HT9
         generalize lineS (⟨#[99, 101, 108, 108]⟩ : Str) [z1] = ls at *
         have hlen6 : (([lh, lw] ++ ps.map (pairS (⟨#[114, 97, 99, 101]⟩ : Str))) ++ (cs.take q).map (oneS' (⟨#[99, 101, 108, 108]⟩ : Str))).length ≤ 16000000 := by simp only [List.length_append, List.length_map, List.length_take, List.length_cons, List.length_nil]; omega
         obtain ⟨XQ, hXQ⟩ : ∃ XQ, XQ = ([lh, lw] ++ ps.map (pairS (⟨#[114, 97, 99, 101]⟩ : Str))) ++ (cs.take q).map (oneS' (⟨#[99, 101, 108, 108]⟩ : Str)) := ⟨_, rfl⟩
         rw [← hXQ] at HO HT9 hlen6
         clear hXQ
         have HBL := hid ble
         clear RW hin hok hb0 ble
         go_wp2_with (go_at_call 20; refine HC.out.mono ?_)
         rintro e w5 ⟨rfl, hb5⟩
         have hz5 := HBL.out.size
         have hz6 := hb5.size
         have HK5 := hid (HBL.out.trans (hb5.mono (by first | exact hz5 | omega)))
         --(.cells #[.string ls] 9) = (.cells #[.string ls] 9)
         have bl6 : Below w5.heap.size w5 (w5.alloc (.cells #[.string ls] 9)) := (Below.refl _ _).alloc (Nat.le_refl _) _
         have O6 := hid (show OwnT (w5.alloc (.cells #[.string ls] 9)) W0.heap.size _ _ from OwnL.keep (OwnL.keep HO.out Flat.keeps HK5.out) Flat.keeps bl6)
         have R6 := hid (show RdSs (w5.alloc (.cells #[.string ls] 9)) (fun _ => True) [ls] (.slice (some ⟨w5.heap.size, 0, none⟩) 1 1) from rd_lit ls HOK.out)
         have B6 := hid ((HB.out.trans (HK5.out.mono hzr)).trans (bl6.mono (by omega)))
         have hzw6 : W0.heap.size ≤ (w5.alloc (.cells #[.string ls] 9)).heap.size := B6.out.size
         clear hb5 bl6 HK5 HBL HC HO HB hz5 hz6 hzr
         go_wp2_with (at_builtin; generalize (w5.alloc (.cells #[.string ls] 9)) = W2 at *; refine wpList_append_list rfl _ _ 37 rfl i0 _ Tryz.underlying37 hi hz0 hz1' hz2 rfl (by decide) Flat.keeps O6.out (R6.out.bare Nowhere) rfl rfl (Sub.nowhere _) (Sub.nowhere _) not_nowhere oneS ?c3 ?c4 hzw6 ?_)
         case c3 => simp only [List.length_cons, List.length_nil]; unfold maxLen; omega
         case c4 => simp only [List.length_cons, List.length_nil]; omega
         intro v2 w2 ho hg hk2
         have HO7 := hid (show OwnT w2 W0.heap.size (([lh, lw] ++ ps.map (pairS (⟨#[114, 97, 99, 101]⟩ : Str))) ++ (cs.take (q + 1)).map (oneS' (⟨#[99, 101, 108, 108]⟩ : Str))) v2 from by rw [← HT9.out]; exact ho)
         have HB7 := hid (B6.out.grown hg hzw6 (fun g hg => (O6.out.lt g hg).1))
         clear ho hg hk2 O6 R6 B6 hlen6
         go_wp2_with fail
         go_roundw
         case rel => exact ⟨_, q + 1, rfl, by omega, by go_num, HO7, HB7⟩
         case measure => simp [intOf]; omega
        ·have hqe : q = cs.length := by omega
         subst hqe
         have HO3 := hid (show OwnT _ W0.heap.size (([lh, lw] ++ ps.map (pairS (⟨#[114, 97, 99, 101]⟩ : Str))) ++ cs.map (oneS' (⟨#[99, 101, 108, 108]⟩ : Str))) _ by have h := HO.out; rwa [List.take_length] at h)
         have HB3 := HB
         clear HO HB hlt hzr hq
         have cz3 := (HBX.out.below HB3.out).cell 14 _ rfl
         go_wp2_with fail
         go_loopw [6, 76] (fun o' u wr => ∃ (o : Value) (q : Nat), o = o' ∧ q ≤ ms.length ∧ u = .int .i64 (q : Int) ∧ Hid (OwnT wr W0.heap.size ((([lh, lw] ++ ps.map (pairS (⟨#[114, 97, 99, 101]⟩ : Str))) ++ cs.map (oneS' (⟨#[99, 101, 108, 108]⟩ : Str))) ++ (ms.take q).map (pairS (⟨#[109, 97, 121]⟩ : Str))) o) ∧ Hid (Below W0.heap.size W0 wr)) (fun _ u _ => ms.length - (intOf u).toNat)
         case atStart => exact ⟨_, 0, rfl, Nat.zero_le _, rfl, hid (by rw [List.take_zero, List.map_nil, List.append_nil]; exact HO3.out), HB3⟩
         case round =>
          clear HO3 HB3 cz3
          obtain ⟨o, q, rfl, hq, rfl, HO, HB⟩ := hrel
          have hzr := HB.out.size
          by_cases hlt : q < ms.length
          ·skip
           have RW := RdL.go R3.out Flat.keeps HB.out (HSS.out.trans (Sub.upto hW0)) (Sub.refl _)
           obtain ⟨b0, off, rfl, hb0, hok, e0, e1⟩ := RdQ.at1 RW hlt
           have HT9 := hid (show ((([lh, lw] ++ ps.map (pairS (⟨#[114, 97, 99, 101]⟩ : Str))) ++ cs.map (oneS' (⟨#[99, 101, 108, 108]⟩ : Str))) ++ (ms.take q).map (pairS (⟨#[109, 97, 121]⟩ : Str))) ++ [pairS (⟨#[109, 97, 121]⟩ : Str) ms[q]] = (([lh, lw] ++ ps.map (pairS (⟨#[114, 97, 99, 101]⟩ : Str))) ++ cs.map (oneS' (⟨#[99, 101, 108, 108]⟩ : Str))) ++ (ms.take (q + 1)).map (pairS (⟨#[109, 97, 121]⟩ : Str)) by rw [List.take_succ_eq_append_getElem hlt, List.map_append, List.append_assoc]; rfl)
           generalize ms[q] = pz at *
           obtain ⟨z1, z2⟩ := pz
           simp only at e0 e1
           have hin := two_in hok.1 hok.2
           --(.cells #[.int .i64 z1, .int .i64 z2] 57) = (.cells #[.int .i64 z1, .int .i64 z2] 57)
           --(.cells #[.int .i64 z1, .int .i64 z2] 3) = (.cells #[.int .i64 z1, .int .i64 z2] 3)
           --((wr.alloc (.cells #[.int .i64 z1, .int .i64 z2] 57)).alloc (.cells #[.int .i64 z1, .int .i64 z2] 3)) = ((wr.alloc (.cells #[.int .i64 z1, .int .i64 z2] 57)).alloc (.cells #[.int .i64 z1, .int .i64 z2] 3))
           have ble : Below wr.heap.size wr ((wr.alloc (.cells #[.int .i64 z1, .int .i64 z2] 57)).alloc (.cells #[.int .i64 z1, .int .i64 z2] 3)) := ((Below.refl _ _).alloc (Nat.le_refl _) _).alloc (by simp) _
           have HC := hid (yline_n (⟨#[109, 97, 121]⟩ : Str) (by decide) [z1, z2] (by simp) ((wr.alloc (.cells #[.int .i64 z1, .int .i64 z2] 57)).alloc (.cells #[.int .i64 z1, .int .i64 z2] 3)) (Is (wr.alloc (.cells #[.int .i64 z1, .int .i64 z2] 57)).heap.size) _ (is_upto (by simp)) (show RdI ((wr.alloc (.cells #[.int .i64 z1, .int .i64 z2] 57)).alloc (.cells #[.int .i64 z1, .int .i64 z2] 3)) (Is (wr.alloc (.cells #[.int .i64 z1, .int .i64 z2] 57)).heap.size) [z1, z2] (.slice (some ⟨(wr.alloc (.cells #[.int .i64 z1, .int .i64 z2] 57)).heap.size, 0, none⟩) 2 2) from rdI_lit (wr.alloc (.cells #[.int .i64 z1, .int .i64 z2] 57)) [z1, z2] hin (by simp)) (HT.out.go (HB.out.trans (ble.mono hzr))))
           simp only [World.size_alloc] at HC
           have HOK := hid (lineS_ok (⟨#[109, 97, 121]⟩ : Str) (by decide) [z1, z2] (by simp) hin)
           rw [show pairS (⟨#[109, 97, 121]⟩ : Str) (z1, z2) = lineS (⟨#[109, 97, 121]⟩ : Str) [z1, z2] from rfl] at HT9
           generalize lineS (⟨#[109, 97, 121]⟩ : Str) [z1, z2] = ls at *
           have hlen6 : ((([lh, lw] ++ ps.map (pairS (⟨#[114, 97, 99, 101]⟩ : Str))) ++ cs.map (oneS' (⟨#[99, 101, 108, 108]⟩ : Str))) ++ (ms.take q).map (pairS (⟨#[109, 97, 121]⟩ : Str))).length ≤ 16000000 := by simp only [List.length_append, List.length_map, List.length_take, List.length_cons, List.length_nil]; omega
           obtain ⟨XQ, hXQ⟩ : ∃ XQ, XQ = (([lh, lw] ++ ps.map (pairS (⟨#[114, 97, 99, 101]⟩ : Str))) ++ cs.map (oneS' (⟨#[99, 101, 108, 108]⟩ : Str))) ++ (ms.take q).map (pairS (⟨#[109, 97, 121]⟩ : Str)) := ⟨_, rfl⟩
           rw [← hXQ] at HO HT9 hlen6
           clear hXQ
           have HBL := hid ble
           clear RW hin hok hb0 ble
           go_wp2_with (go_at_call 20; refine HC.out.mono ?_)
           rintro e w5 ⟨rfl, hb5⟩
           have hz5 := HBL.out.size
           have hz6 := hb5.size
           have HK5 := hid (HBL.out.trans (hb5.mono (by first | exact hz5 | omega)))
           --(.cells #[.string ls] 9) = (.cells #[.string ls] 9)
           have bl6 : Below w5.heap.size w5 (w5.alloc (.cells #[.string ls] 9)) := (Below.refl _ _).alloc (Nat.le_refl _) _
           have O6 := hid (show OwnT (w5.alloc (.cells #[.string ls] 9)) W0.heap.size _ _ from OwnL.keep (OwnL.keep HO.out Flat.keeps HK5.out) Flat.keeps bl6)
           have R6 := hid (show RdSs (w5.alloc (.cells #[.string ls] 9)) (fun _ => True) [ls] (.slice (some ⟨w5.heap.size, 0, none⟩) 1 1) from rd_lit ls HOK.out)
           have B6 := hid ((HB.out.trans (HK5.out.mono hzr)).trans (bl6.mono (by omega)))
           have hzw6 : W0.heap.size ≤ (w5.alloc (.cells #[.string ls] 9)).heap.size := B6.out.size
           clear hb5 bl6 HK5 HBL HC HO HB hz5 hz6 hzr
           go_wp2_with (at_builtin; generalize (w5.alloc (.cells #[.string ls] 9)) = W2 at *; refine wpList_append_list rfl _ _ 37 rfl i0 _ Tryz.underlying37 hi hz0 hz1' hz2 rfl (by decide) Flat.keeps O6.out (R6.out.bare Nowhere) rfl rfl (Sub.nowhere _) (Sub.nowhere _) not_nowhere oneS ?c3 ?c4 hzw6 ?_)
           case c3 => simp only [List.length_cons, List.length_nil]; unfold maxLen; omega
           case c4 => simp only [List.length_cons, List.length_nil]; omega
           intro v2 w2 ho hg hk2
           have HO7 := hid (show OwnT w2 W0.heap.size ((([lh, lw] ++ ps.map (pairS (⟨#[114, 97, 99, 101]⟩ : Str))) ++ cs.map (oneS' (⟨#[99, 101, 108, 108]⟩ : Str))) ++ (ms.take (q + 1)).map (pairS (⟨#[109, 97, 121]⟩ : Str))) v2 from by rw [← HT9.out]; exact ho)
           have HB7 := hid (B6.out.grown hg hzw6 (fun g hg => (O6.out.lt g hg).1))
           clear ho hg hk2 O6 R6 B6 hlen6
           go_wp2_with fail
           go_roundw
           case rel => exact ⟨_, q + 1, rfl, by omega, by go_num, HO7, HB7⟩
           case measure => simp [intOf]; omega
          ·have hqe : q = ms.length := by omega
           subst hqe
           have HO4 := hid (show OwnT _ W0.heap.size ((([lh, lw] ++ ps.map (pairS (⟨#[114, 97, 99, 101]⟩ : Str))) ++ cs.map (oneS' (⟨#[99, 101, 108, 108]⟩ : Str))) ++ ms.map (pairS (⟨#[109, 97, 121]⟩ : Str))) _ by have h := HO.out; rwa [List.take_length] at h)
           have HB4 := HB
           clear HO HB hlt hzr hq
           obtain ⟨A9, c9, rfl⟩ := HO4.out.form
           go_wp2_with fail
           go_ret
           exact ⟨_, rfl, by rw [HZ.out, ← HHL.out.1, ← HHL.out.2]; exact HO4.out.rebase hW0, HB0.out.trans (HB4.out.mono hW0)⟩
 ·have hne : (er != 0) = true := by simpa using her
  have HZ := hid (show linesR er at_ [h0, h1, h2, h3, h4, h5, h6, h7] wk sp ps cs ms = [lineS (⟨#[101, 114, 114, 111, 114]⟩ : Str) [er, at_]] by unfold linesR; rw [if_neg her])
  clear her
  --(.cells #[.int .i64 er, .int .i64 at_] 3) = (.cells #[.int .i64 er, .int .i64 at_] 3)
  have ble : Below W0.heap.size W0 (W0.alloc (.cells #[.int .i64 er, .int .i64 at_] 3)) := (Below.refl _ _).alloc (Nat.le_refl _) _
  have HC := hid (yline_n (⟨#[101, 114, 114, 111, 114]⟩ : Str) (by decide) [er, at_] (by simp) (W0.alloc (.cells #[.int .i64 er, .int .i64 at_] 3)) (Is W0.heap.size) (.slice (some ⟨W0.heap.size, 0, none⟩) 2 2) (is_upto (by simp)) (show RdI (W0.alloc (.cells #[.int .i64 er, .int .i64 at_] 3)) (Is W0.heap.size) [er, at_] (.slice (some ⟨W0.heap.size, 0, none⟩) 2 2) from rdI_lit W0 [er, at_] (two_in he ha) (by simp)) (HT.out.go ble))
  have HOK := hid (lineS_ok (⟨#[101, 114, 114, 111, 114]⟩ : Str) (by decide) [er, at_] (by simp) (two_in he ha))
  generalize lineS (⟨#[101, 114, 114, 111, 114]⟩ : Str) [er, at_] = ls at *
  go_wp2_with (go_at_call 20; refine HC.out.mono ?_; rintro e w1 ⟨rfl, hb1⟩)
  have hz1 := hb1.size
  have hz2' := ble.size
  go_ret
  refine ⟨_, rfl, ?_, ?_⟩
  ·rw [HZ.out]; exact OwnT.lit1 ls HOK.out (by omega)
  ·exact ((HB0.out.trans (ble.mono hW0)).trans (hb1.mono (by omega))).alloc (by omega) _
end Go.Proofs.YtnpgpcnkdocknaaGreatDoor
