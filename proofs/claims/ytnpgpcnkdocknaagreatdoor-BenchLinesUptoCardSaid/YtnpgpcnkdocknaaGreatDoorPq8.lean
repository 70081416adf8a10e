/- The parser of syn.Parse: bind, nested (printed by wip/tools/gen_pq8.py). -/
import Derived.Test.YtnpgpcnkdocknaaGreatDoorGPq7
namespace Go.Proofs.YtnpgpcnkdocknaaGreatDoor
open Go.RowKit
set_option linter.unusedVariables false
theorem PO.bind_assoc {α β γ : Type} (m : PO α) (f : α → List LTok → PO β) (g : β → List LTok → PO γ) : PO.bind (PO.bind m f) g = PO.bind m fun a r => PO.bind (f a r) g := by
 match m with
 | none => rfl
 | some (.no r) => rfl
 | some (.ok a r) => rfl
theorem ret_stb {fn : Func} {act : Act} {T p d lo : Nat} {en : En} {w W : World} {q : List LTok} {k : Int} {l : List St} {A : Option Addr} {c : Nat} {out : PR St} {z : List Value} (hr : fn.results = #[.cell T 82]) (hk : inI k) (hB : Blk 0 W d z) (hz : z.length = 12) (hx : rdS lo p W l (.slice A l.length c)) (hp : PsAt p en W q) (hb : But (Is p) w W) (hdw : w.heap.size ≤ d) (hdl : d < lo) (hwl : w.heap.size ≤ lo) (hpw : p < w.heap.size)
    (ho : out = .ok (.mk k ⟨#[]⟩ noX noX l []) q) (ht : act.tmps.getD T undef = .pointer (some ⟨d, 0, none⟩)) (hd : act.defers = []) {W9 : World} (hw9 : W9 = setL W d 0 (stC k ⟨#[]⟩ noX noX l [] none none A none 0 0 c 0)) :
    bodyPost Tryz.prog fn (POut p en w (rdSt w.heap.size p) out) .ret act W9 := by
 subst hw9
 have hb2 := setL_is W d 0 (stC k ⟨#[]⟩ noX noX l [] none none A none 0 0 c 0)
 have hB2 := setL_blk (stC k ⟨#[]⟩ noX noX l [] none none A none 0 0 c 0) W 0 z hB (by rw [hz]; simp)
 have e : setV z 0 (stC k ⟨#[]⟩ noX noX l [] none none A none 0 0 c 0) = stC k ⟨#[]⟩ noX noX l [] none none A none 0 0 c 0 := by
  match z, hz with
  | [_, _, _, _, _, _, _, _, _, _, _, _], _ => rfl
 rw [e] at hB2
 subst ho
 have hx2 := (hx.but hb2 (.inl hdl)).to (lo' := w.heap.size) (y' := p) hwl (.inr (.inr rfl))
 exact ret_st hr ht hd hB2 ⟨_, rfl, ⟨_, rfl, RdSt.shut hk (by decide) (RdE.toX (rdE.no _ _ _)) (RdE.toX (rdE.no _ _ _)) hx2 (rdS.nil _ _ _)⟩, hp.but hb2 (by omega), setL_but (.inr hdw) _ _ _ hb⟩
theorem kind_let {n : Nat} {sts : List LTok → PO (List St)} {t : LTok} {r : List LTok} (hw : isT (bz [108, 101, 116]) (t :: r) = true) : kindG n sts (1, [.w (bz [108, 101, 116]), .n, .w (bz [61]), .a, .w (bz [59])]) (t :: r) = PO.bind (some (nameG r)) fun x r => PO.bind (some (wantG [bz [61]] r)) fun _ r => PO.bind (exG n (.ex 0) r) fun a r => PO.bind (some (wantG [bz [59]] r)) fun _ r => some (.ok (.mk 1 x a noX [] []) r) := by
 have e : wantG [bz [108, 101, 116]] (t :: r) = .ok () r := by rw [wantG, if_pos hw]; rfl
 simp only [kindG, formG, partG, PO.bind_assoc, PO.bind_ok, e, St.setN, St.setA, St.setK, noSt]
 rfl
theorem kind_load {n : Nat} {sts : List LTok → PO (List St)} {t : LTok} {r : List LTok} (hw : isT (bz [108, 111, 97, 100]) (t :: r) = true) : kindG n sts (2, [.w (bz [108, 111, 97, 100]), .n, .w (bz [61]), .w (bz [91]), .a, .w (bz [93]), .w (bz [59])]) (t :: r) = PO.bind (some (nameG r)) fun x r => PO.bind (some (wantG [bz [61]] r)) fun _ r => PO.bind (some (wantG [bz [91]] r)) fun _ r => PO.bind (exG n (.ex 0) r) fun a r => PO.bind (some (wantG [bz [93]] r)) fun _ r => PO.bind (some (wantG [bz [59]] r)) fun _ r => some (.ok (.mk 2 x a noX [] []) r) := by
 have e : wantG [bz [108, 111, 97, 100]] (t :: r) = .ok () r := by rw [wantG, if_pos hw]; rfl
 simp only [kindG, formG, partG, PO.bind_assoc, PO.bind_ok, e, St.setN, St.setA, St.setK, noSt]
 rfl
theorem kind_async {n : Nat} {sts : List LTok → PO (List St)} {t : LTok} {r : List LTok} (hw : isT (bz [97, 115, 121, 110, 99]) (t :: r) = true) : kindG n sts (4, [.w (bz [97, 115, 121, 110, 99]), .B]) (t :: r) = PO.bind (blockG sts r) fun l r => some (.ok (.mk 4 ⟨#[]⟩ noX noX l []) r) := by
 have e : wantG [bz [97, 115, 121, 110, 99]] (t :: r) = .ok () r := by rw [wantG, if_pos hw]; rfl
 simp only [kindG, formG, partG, PO.bind_assoc, PO.bind_ok, e, St.setL, St.setK, noSt]
 rfl
theorem kind_finish {n : Nat} {sts : List LTok → PO (List St)} {t : LTok} {r : List LTok} (hw : isT (bz [102, 105, 110, 105, 115, 104]) (t :: r) = true) : kindG n sts (5, [.w (bz [102, 105, 110, 105, 115, 104]), .B]) (t :: r) = PO.bind (blockG sts r) fun l r => some (.ok (.mk 5 ⟨#[]⟩ noX noX l []) r) := by
 have e : wantG [bz [102, 105, 110, 105, 115, 104]] (t :: r) = .ok () r := by rw [wantG, if_pos hw]; rfl
 simp only [kindG, formG, partG, PO.bind_assoc, PO.bind_ok, e, St.setL, St.setK, noSt]
 rfl
theorem kind_if {n : Nat} {sts : List LTok → PO (List St)} {t : LTok} {r : List LTok} (hw : isT (bz [105, 102]) (t :: r) = true) : kindG n sts (6, [.w (bz [105, 102]), .a, .B]) (t :: r) = PO.bind (exG n (.ex 0) r) fun a r => PO.bind (blockG sts r) fun l r => elseG sts (.mk 6 ⟨#[]⟩ a noX l []) r := by
 have e : wantG [bz [105, 102]] (t :: r) = .ok () r := by rw [wantG, if_pos hw]; rfl
 simp only [kindG, formG, partG, PO.bind_assoc, PO.bind_ok, e, St.setA, St.setL, St.setK, noSt]
 rfl
theorem kind_for {n : Nat} {sts : List LTok → PO (List St)} {t : LTok} {r : List LTok} (hw : isT (bz [102, 111, 114]) (t :: r) = true) : kindG n sts (7, [.w (bz [102, 111, 114]), .n, .w (bz [61]), .a, .w (bz [116, 111]), .b, .B]) (t :: r) = PO.bind (some (nameG r)) fun x r => PO.bind (some (wantG [bz [61]] r)) fun _ r => PO.bind (exG n (.ex 0) r) fun a r => PO.bind (some (wantG [bz [116, 111]] r)) fun _ r => PO.bind (exG n (.ex 0) r) fun b r => PO.bind (blockG sts r) fun l r => some (.ok (.mk 7 x a b l []) r) := by
 have e : wantG [bz [102, 111, 114]] (t :: r) = .ok () r := by rw [wantG, if_pos hw]; rfl
 simp only [kindG, formG, partG, PO.bind_assoc, PO.bind_ok, e, St.setN, St.setA, St.setB, St.setL, St.setK, noSt]
 rfl
theorem kind_store {n : Nat} {sts : List LTok → PO (List St)} {t : LTok} {r : List LTok} (hw : isT (bz [115, 116, 111, 114, 101]) (t :: r) = true) : kindG n sts (3, [.w (bz [115, 116, 111, 114, 101]), .w (bz [91]), .a, .w (bz [93]), .w (bz [61]), .b, .w (bz [59])]) (t :: r) = PO.bind (some (wantG [bz [91]] r)) fun _ r => PO.bind (exG n (.ex 0) r) fun a r => PO.bind (some (wantG [bz [93]] r)) fun _ r => PO.bind (some (wantG [bz [61]] r)) fun _ r => PO.bind (exG n (.ex 0) r) fun b r => PO.bind (some (wantG [bz [59]] r)) fun _ r => some (.ok (.mk 3 ⟨#[]⟩ a b [] []) r) := by
 have e : wantG [bz [115, 116, 111, 114, 101]] (t :: r) = .ok () r := by rw [wantG, if_pos hw]; rfl
 simp only [kindG, formG, partG, PO.bind_assoc, PO.bind_ok, e, St.setA, St.setB, St.setK, noSt]
 rfl
set_option maxHeartbeats 4000000 in
set_option maxRecDepth 100000 in
theorem pbind_let (n : Nat) (p : Nat) (en : En) (t : LTok) (r : List LTok) (w : World) (out : PR St) (ho : kindG n (stsG n []) (1, [.w (bz [108, 101, 116]), .n, .w (bz [61]), .a, .w (bz [59])]) (t :: r) = some out) (hw : isT (bz [108, 101, 116]) (t :: r) = true) (hl : (t :: r).length ≤ 1048576) (h : PsAt p en w (t :: r)) :
    Calls Tryz.prog 42 #[.pointer (some ⟨p, 0, none⟩)] w (POut p en w (rdSt w.heap.size p) out) := by
 have hlt := h.lt
 rw [kind_let hw] at ho
 have hl0 : r.length ≤ 1048576 := by simp only [List.length_cons] at hl; omega
 have bl0 : Below w.heap.size w (w.alloc (.cells #[.int .i64 0, .string ⟨#[]⟩, .int .i64 0, .int .i64 0, .string ⟨#[]⟩, .slice none 0 0, .int .i64 0, .int .i64 0, .string ⟨#[]⟩, .slice none 0 0, .slice none 0 0, .slice none 0 0] 82)) := (Below.refl _ _).alloc (Nat.le_refl _) _
 have HB := hid (But.of_b (T := Is p) bl0)
 have HR := hid (show Blk 0 (w.alloc (.cells #[.int .i64 0, .string ⟨#[]⟩, .int .i64 0, .int .i64 0, .string ⟨#[]⟩, .slice none 0 0, .int .i64 0, .int .i64 0, .string ⟨#[]⟩, .slice none 0 0, .slice none 0 0, .slice none 0 0] 82)) w.heap.size [.int .i64 0, .string ⟨#[]⟩, .int .i64 0, .int .i64 0, .string ⟨#[]⟩, .slice none 0 0, .int .i64 0, .int .i64 0, .string ⟨#[]⟩, .slice none 0 0, .slice none 0 0, .slice none 0 0] from Blk.made w _ _ (Nat.zero_le _))
 obtain ⟨y, hy⟩ : ∃ y : Str, y = t.str := ⟨_, rfl⟩
 have hyw : y.toList = [108, 101, 116] := by
  have h2 : (t.str.toList == (bz [108, 101, 116]).toList) = true := hw
  rw [beq_iff_eq] at h2
  rw [hy, h2, ByteArray.toList_eq]
 have HT := hid (ptake_any (h.below bl0))
 rw [← hy] at HT
 obtain ⟨d, hd⟩ : ∃ d, d = w.heap.size := ⟨_, rfl⟩
 have hdp : ¬ d = p := by omega
 have hdw : w.heap.size ≤ d := by omega
 have hpd : p < d := by omega
 have hdl : d < (w.alloc (.cells #[.int .i64 0, .string ⟨#[]⟩, .int .i64 0, .int .i64 0, .string ⟨#[]⟩, .slice none 0 0, .int .i64 0, .int .i64 0, .string ⟨#[]⟩, .slice none 0 0, .slice none 0 0, .slice none 0 0] 82)).heap.size := by simp [hd]
 rw [← hd] at HR
 have HE := hid ho
 clear ho h bl0 hw hl hy
 have cm0 : (y.toList == [108, 111, 97, 100]) = false := by rw [hyw]; decide
 go_enter Tryz.func42, Tryz.ntmps42
 go_upto_region 1 with (fail)
 rw [← hd]
 clear hd hyw
 generalize (w.alloc (.cells #[.int .i64 0, .string ⟨#[]⟩, .int .i64 0, .int .i64 0, .string ⟨#[]⟩, .slice none 0 0, .int .i64 0, .int .i64 0, .string ⟨#[]⟩, .slice none 0 0, .slice none 0 0, .slice none 0 0] 82)) = W0 at *
 go_upto_region 2 with (go_at_call 70; refine HT.out.mono ?_; rintro e W1 ⟨rfl, hp1, hb1⟩)
 have HB1 := hid (HB.out.trans hb1)
 have HP1 := hid hp1
 have HR1 := hid (HR.out.but hb1 (fun e => hdp e))
 have hz1 := hb1.size
 have hW0w := HB.out.size
 clear HB HR HT hp1 hb1 cm0
 have HB := HB1
 have HP := HP1
 have HR := HR1
 clear HB1 HP1 HR1
 obtain ⟨lo, hlo⟩ : ∃ lo, lo = W0.heap.size := ⟨_, rfl⟩
 have hdlo : d < lo := by omega
 have hwlo : w.heap.size ≤ lo := by omega
 have hplo : p < lo := by omega
 have hlo1 : lo ≤ W1.heap.size := by omega
 clear hlo hdl
 have HNM := hid (pname_r HP.out)
 rcases PO.bind_some HE.out with ⟨q1, e1, e2⟩ | ⟨s1, q1, e1, e2⟩
 ·have e3 := Option.some.inj e1
  rw [e3] at HNM
  have HO := hid e2
  clear e1 e2 e3 HE
  go_wp2_with (go_at_call 71; refine HNM.out.mono ?_; rintro e w1 ⟨rfl, hb1⟩)
  rw [HO.out]
  exact ⟨rfl, rfl, HB.out.trans hb1⟩
 have e3 := Option.some.inj e1
 rw [e3] at HNM
 have hql := nameG_len e3
 have hss : s1.size ≤ 140737488355328 := by have := nameG_size HP.out.toks e3; omega
 have HE2 := hid e2
 clear e1 e2 e3 HE
 go_upto_region 3 with (go_at_call 71; refine HNM.out.mono ?_; rintro e v1 ⟨x1, rfl, rfl, hp1, hb1⟩)
 have hz1 := hb1.size
 have hlo2 : lo ≤ v1.heap.size := by omega
 have hwv : w.heap.size ≤ v1.heap.size := by omega
 have HS2 := hid (BSt.made (k := 1) (s := s1) hp1 hplo hwlo hwv (by decide) hss (HB.out.trans hb1) (rdE.no _ _ _) (rdS.nil _ _ _) hlo2 (d := d) (z := [.int .i64 0, .string ⟨#[]⟩, .int .i64 0, .int .i64 0, .string ⟨#[]⟩, .slice none 0 0, .int .i64 0, .int .i64 0, .string ⟨#[]⟩, .slice none 0 0, .slice none 0 0, .slice none 0 0]) (fun _ => ⟨hdp, HR.out.but hb1 (fun e => hdp e)⟩))
 obtain ⟨d1, hd1⟩ : ∃ d1, d1 = v1.heap.size := ⟨_, rfl⟩
 change Code.wp _ _ _ _ (v1.alloc (.cells (stC 1 s1 noX noX [] [] none none none none 0 0 0 0).toArray 82))
 rw [← hd1] at HS2 ⊢
 generalize (v1.alloc (.cells (stC 1 s1 noX noX [] [] none none none none 0 0 0 0).toArray 82)) = w1 at *
 clear HB HP HR HNM hp1 hb1 hz1 hd1 hlo2 hwv hlo1
 have HS := HS2
 have HE := HE2
 clear HS2 HE2
 have hl1 : q1.length ≤ 1048576 := by omega
 have bl2 : Below w1.heap.size w1 (w1.alloc (.cells #[.string ⟨#[61]⟩] 9)) := (Below.refl _ _).alloc (Nat.le_refl _) _
 have HW := hid (pwant_any (HS.out.ps.below bl2) (show WordsAt p (w1.alloc (.cells #[.string ⟨#[61]⟩] 9)) [bz [61]] (.slice (some ⟨w1.heap.size, 0, none⟩) 1 1) from words_lit w1 [bz [61]] (by intro x hx; simp only [List.mem_cons, List.not_mem_nil, or_false] at hx; rcases hx with rfl <;> (unfold okS; decide)) (by decide) HS.out.pW))
 rcases PO.bind_some HE.out with ⟨q2, e1, e2⟩ | ⟨u2, q2, e1, e2⟩
 ·have e3 := Option.some.inj e1
  rw [e3] at HW
  have HO := hid e2
  clear e1 e2 e3 HE
  go_wp2_with (go_at_call 43; refine HW.out.mono ?_; rintro e w2 ⟨rfl, hb2⟩)
  rw [HO.out]
  exact ⟨rfl, rfl, HS.out.bt.trans ((But.of_b bl2).trans hb2)⟩
 have e3 := Option.some.inj e1
 rw [e3] at HW
 have hql := wantG_len e3
 simp only [List.length_cons, List.length_nil] at hql
 have HE2 := hid e2
 clear e1 e2 e3 HE
 go_upto_region 7 with (go_at_call 43; refine HW.out.mono ?_; rintro e w2 ⟨x2, rfl, _, hp2, hb2⟩)
 have HS2 := hid (HS.out.step ((But.of_b bl2).trans hb2) hp2)
 clear HS HW bl2 hp2 hb2
 have HS := HS2
 clear HS2
 have HE := HE2
 clear HE2
 have hl2 : q2.length ≤ 1048576 := by omega
 rcases PO.bind_some HE.out with ⟨q3, e1, e2⟩ | ⟨a3, q3, e1, e2⟩
 ·have HC := hid (pexpr_any n p en q2 w2 _ e1 HS.out.ps)
  have HO := hid e2
  clear e1 e2 HE
  go_wp2_with (go_at_call 44; refine HC.out.mono ?_; rintro e w3 ⟨rfl, hb3⟩)
  rw [HO.out]
  exact ⟨rfl, rfl, HS.out.bt.trans hb3⟩
 have HC := hid (pexpr_any n p en q2 w2 _ e1 HS.out.ps)
 have hql := exG_len _ _ _ _ _ e1
 simp only [moLen] at hql
 have HE2 := hid e2
 clear e1 e2 HE
 have hdW := HS.out.lt
 have hloW := HS.out.lw
 go_upto_region 10 with (go_at_call 44; refine HC.out.mono ?_; rintro e v3 ⟨x3, rfl, hx3, hp3, hb3⟩; obtain ⟨A3, c3, rfl⟩ := hx3.form; have hs3 := HS.out.step hb3 hp3; have y0 := hs3.box.cell 2 _ rfl; have f0 := hs3.box.fr 2; have y1 := hs3.box.cell 3 _ rfl; have f1 := hs3.box.fr 3; have y2 := hs3.box.cell 4 _ rfl; have f2 := hs3.box.fr 4; have y3 := hs3.box.cell 5 _ rfl; have f3 := hs3.box.fr 5)
 have hz3 := hb3.size
 have HS2 := hid (hs3.setA (rdE.to hx3 (lo' := lo) (y' := d1) hloW (.inl hdW)))
 change Code.wp _ _ _ _ (setL v3 d1 2 [.int .i64 a3.kind, .int .i64 a3.num, .string a3.name, .slice A3 a3.args.length c3])
 generalize (setL v3 d1 2 [.int .i64 a3.kind, .int .i64 a3.num, .string a3.name, .slice A3 a3.args.length c3]) = w3 at *
 clear HS HC hx3 hp3 hb3 hs3 hz3 hdW hloW y0 y1 y2 y3 f0 f1 f2 f3
 have HS := HS2
 have HE := HE2
 clear HS2 HE2
 have hl3 : q3.length ≤ 1048576 := by omega
 have bl4 : Below w3.heap.size w3 (w3.alloc (.cells #[.string ⟨#[59]⟩] 9)) := (Below.refl _ _).alloc (Nat.le_refl _) _
 have HW := hid (pwant_any (HS.out.ps.below bl4) (show WordsAt p (w3.alloc (.cells #[.string ⟨#[59]⟩] 9)) [bz [59]] (.slice (some ⟨w3.heap.size, 0, none⟩) 1 1) from words_lit w3 [bz [59]] (by intro x hx; simp only [List.mem_cons, List.not_mem_nil, or_false] at hx; rcases hx with rfl <;> (unfold okS; decide)) (by decide) HS.out.pW))
 rcases PO.bind_some HE.out with ⟨q4, e1, e2⟩ | ⟨u4, q4, e1, e2⟩
 ·have e3 := Option.some.inj e1
  rw [e3] at HW
  have HO := hid e2
  clear e1 e2 e3 HE
  go_wp2_with (go_at_call 43; refine HW.out.mono ?_; rintro e w4 ⟨rfl, hb4⟩)
  rw [HO.out]
  exact ⟨rfl, rfl, HS.out.bt.trans ((But.of_b bl4).trans hb4)⟩
 have e3 := Option.some.inj e1
 rw [e3] at HW
 have hql := wantG_len e3
 simp only [List.length_cons, List.length_nil] at hql
 have HE2 := hid e2
 clear e1 e2 e3 HE
 go_upto_region 11 with (go_at_call 43; refine HW.out.mono ?_; rintro e w4 ⟨x4, rfl, _, hp4, hb4⟩)
 have HS2 := hid (HS.out.step ((But.of_b bl4).trans hb4) hp4)
 clear HS HW bl4 hp4 hb4
 have HS := HS2
 clear HS2
 have HE := HE2
 clear HE2
 have hl4 : q4.length ≤ 1048576 := by omega
 have HO := hid (Option.some.inj HE.out).symm
 clear HE
 have y0 := HS.out.box.cell 0 _ rfl; have y1 := HS.out.box.cell 1 _ rfl; have y2 := HS.out.box.cell 2 _ rfl; have y3 := HS.out.box.cell 3 _ rfl; have y4 := HS.out.box.cell 4 _ rfl; have y5 := HS.out.box.cell 5 _ rfl; have y6 := HS.out.box.cell 6 _ rfl; have y7 := HS.out.box.cell 7 _ rfl; have y8 := HS.out.box.cell 8 _ rfl; have y9 := HS.out.box.cell 9 _ rfl; have y10 := HS.out.box.cell 10 _ rfl; have y11 := HS.out.box.cell 11 _ rfl
 have hres := (HS.out.res (by simp)).2.2
 have r0 := hres.cell 0 _ rfl; have r1 := hres.cell 1 _ rfl; have r2 := hres.cell 2 _ rfl; have r3 := hres.cell 3 _ rfl; have r4 := hres.cell 4 _ rfl; have r5 := hres.cell 5 _ rfl; have r6 := hres.cell 6 _ rfl; have r7 := hres.cell 7 _ rfl; have r8 := hres.cell 8 _ rfl; have r9 := hres.cell 9 _ rfl; have r10 := hres.cell 10 _ rfl; have r11 := hres.cell 11 _ rfl
 have f0 := hres.fr 0; have f1 := hres.fr 1; have f2 := hres.fr 2; have f3 := hres.fr 3; have f4 := hres.fr 4; have f5 := hres.fr 5; have f6 := hres.fr 6; have f7 := hres.fr 7; have f8 := hres.fr 8; have f9 := hres.fr 9; have f10 := hres.fr 10; have f11 := hres.fr 11
 clear hres
 go_wp2
 exact ret_stbox Tryz.results42 rfl HS.out hdw hdlo HO.out hlt rfl rfl (by simp only [setL, List.length_nil])
set_option maxHeartbeats 4000000 in
set_option maxRecDepth 100000 in
theorem pbind_load (n : Nat) (p : Nat) (en : En) (t : LTok) (r : List LTok) (w : World) (out : PR St) (ho : kindG n (stsG n []) (2, [.w (bz [108, 111, 97, 100]), .n, .w (bz [61]), .w (bz [91]), .a, .w (bz [93]), .w (bz [59])]) (t :: r) = some out) (hw : isT (bz [108, 111, 97, 100]) (t :: r) = true) (hl : (t :: r).length ≤ 1048576) (h : PsAt p en w (t :: r)) :
    Calls Tryz.prog 42 #[.pointer (some ⟨p, 0, none⟩)] w (POut p en w (rdSt w.heap.size p) out) := by
 have hlt := h.lt
 rw [kind_load hw] at ho
 have hl0 : r.length ≤ 1048576 := by simp only [List.length_cons] at hl; omega
 have bl0 : Below w.heap.size w (w.alloc (.cells #[.int .i64 0, .string ⟨#[]⟩, .int .i64 0, .int .i64 0, .string ⟨#[]⟩, .slice none 0 0, .int .i64 0, .int .i64 0, .string ⟨#[]⟩, .slice none 0 0, .slice none 0 0, .slice none 0 0] 82)) := (Below.refl _ _).alloc (Nat.le_refl _) _
 have HB := hid (But.of_b (T := Is p) bl0)
 have HR := hid (show Blk 0 (w.alloc (.cells #[.int .i64 0, .string ⟨#[]⟩, .int .i64 0, .int .i64 0, .string ⟨#[]⟩, .slice none 0 0, .int .i64 0, .int .i64 0, .string ⟨#[]⟩, .slice none 0 0, .slice none 0 0, .slice none 0 0] 82)) w.heap.size [.int .i64 0, .string ⟨#[]⟩, .int .i64 0, .int .i64 0, .string ⟨#[]⟩, .slice none 0 0, .int .i64 0, .int .i64 0, .string ⟨#[]⟩, .slice none 0 0, .slice none 0 0, .slice none 0 0] from Blk.made w _ _ (Nat.zero_le _))
 obtain ⟨y, hy⟩ : ∃ y : Str, y = t.str := ⟨_, rfl⟩
 have hyw : y.toList = [108, 111, 97, 100] := by
  have h2 : (t.str.toList == (bz [108, 111, 97, 100]).toList) = true := hw
  rw [beq_iff_eq] at h2
  rw [hy, h2, ByteArray.toList_eq]
 have HT := hid (ptake_any (h.below bl0))
 rw [← hy] at HT
 obtain ⟨d, hd⟩ : ∃ d, d = w.heap.size := ⟨_, rfl⟩
 have hdp : ¬ d = p := by omega
 have hdw : w.heap.size ≤ d := by omega
 have hpd : p < d := by omega
 have hdl : d < (w.alloc (.cells #[.int .i64 0, .string ⟨#[]⟩, .int .i64 0, .int .i64 0, .string ⟨#[]⟩, .slice none 0 0, .int .i64 0, .int .i64 0, .string ⟨#[]⟩, .slice none 0 0, .slice none 0 0, .slice none 0 0] 82)).heap.size := by simp [hd]
 rw [← hd] at HR
 have HE := hid ho
 clear ho h bl0 hw hl hy
 have cm0 : (y.toList == [108, 111, 97, 100]) = true := by rw [hyw]; decide
 go_enter Tryz.func42, Tryz.ntmps42
 go_upto_region 1 with (fail)
 rw [← hd]
 clear hd hyw
 generalize (w.alloc (.cells #[.int .i64 0, .string ⟨#[]⟩, .int .i64 0, .int .i64 0, .string ⟨#[]⟩, .slice none 0 0, .int .i64 0, .int .i64 0, .string ⟨#[]⟩, .slice none 0 0, .slice none 0 0, .slice none 0 0] 82)) = W0 at *
 go_upto_region 2 with (go_at_call 70; refine HT.out.mono ?_; rintro e W1 ⟨rfl, hp1, hb1⟩)
 have HB1 := hid (HB.out.trans hb1)
 have HP1 := hid hp1
 have HR1 := hid (HR.out.but hb1 (fun e => hdp e))
 have hz1 := hb1.size
 have hW0w := HB.out.size
 clear HB HR HT hp1 hb1 cm0
 have HB := HB1
 have HP := HP1
 have HR := HR1
 clear HB1 HP1 HR1
 obtain ⟨lo, hlo⟩ : ∃ lo, lo = W0.heap.size := ⟨_, rfl⟩
 have hdlo : d < lo := by omega
 have hwlo : w.heap.size ≤ lo := by omega
 have hplo : p < lo := by omega
 have hlo1 : lo ≤ W1.heap.size := by omega
 clear hlo hdl
 have HNM := hid (pname_r HP.out)
 rcases PO.bind_some HE.out with ⟨q1, e1, e2⟩ | ⟨s1, q1, e1, e2⟩
 ·have e3 := Option.some.inj e1
  rw [e3] at HNM
  have HO := hid e2
  clear e1 e2 e3 HE
  go_wp2_with (go_at_call 71; refine HNM.out.mono ?_; rintro e w1 ⟨rfl, hb1⟩)
  rw [HO.out]
  exact ⟨rfl, rfl, HB.out.trans hb1⟩
 have e3 := Option.some.inj e1
 rw [e3] at HNM
 have hql := nameG_len e3
 have hss : s1.size ≤ 140737488355328 := by have := nameG_size HP.out.toks e3; omega
 have HE2 := hid e2
 clear e1 e2 e3 HE
 go_upto_region 3 with (go_at_call 71; refine HNM.out.mono ?_; rintro e v1 ⟨x1, rfl, rfl, hp1, hb1⟩)
 have hz1 := hb1.size
 have hlo2 : lo ≤ v1.heap.size := by omega
 have hwv : w.heap.size ≤ v1.heap.size := by omega
 have HS2 := hid (BSt.made (k := 1) (s := s1) hp1 hplo hwlo hwv (by decide) hss (HB.out.trans hb1) (rdE.no _ _ _) (rdS.nil _ _ _) hlo2 (d := d) (z := [.int .i64 0, .string ⟨#[]⟩, .int .i64 0, .int .i64 0, .string ⟨#[]⟩, .slice none 0 0, .int .i64 0, .int .i64 0, .string ⟨#[]⟩, .slice none 0 0, .slice none 0 0, .slice none 0 0]) (fun _ => ⟨hdp, HR.out.but hb1 (fun e => hdp e)⟩))
 obtain ⟨d1, hd1⟩ : ∃ d1, d1 = v1.heap.size := ⟨_, rfl⟩
 change Code.wp _ _ _ _ (v1.alloc (.cells (stC 1 s1 noX noX [] [] none none none none 0 0 0 0).toArray 82))
 rw [← hd1] at HS2 ⊢
 generalize (v1.alloc (.cells (stC 1 s1 noX noX [] [] none none none none 0 0 0 0).toArray 82)) = w1 at *
 clear HB HP HR HNM hp1 hb1 hz1 hd1 hlo2 hwv hlo1
 have HS := HS2
 have HE := HE2
 clear HS2 HE2
 have hl1 : q1.length ≤ 1048576 := by omega
 have bl2 : Below w1.heap.size w1 (w1.alloc (.cells #[.string ⟨#[61]⟩] 9)) := (Below.refl _ _).alloc (Nat.le_refl _) _
 have HW := hid (pwant_any (HS.out.ps.below bl2) (show WordsAt p (w1.alloc (.cells #[.string ⟨#[61]⟩] 9)) [bz [61]] (.slice (some ⟨w1.heap.size, 0, none⟩) 1 1) from words_lit w1 [bz [61]] (by intro x hx; simp only [List.mem_cons, List.not_mem_nil, or_false] at hx; rcases hx with rfl <;> (unfold okS; decide)) (by decide) HS.out.pW))
 rcases PO.bind_some HE.out with ⟨q2, e1, e2⟩ | ⟨u2, q2, e1, e2⟩
 ·have e3 := Option.some.inj e1
  rw [e3] at HW
  have HO := hid e2
  clear e1 e2 e3 HE
  go_wp2_with (go_at_call 43; refine HW.out.mono ?_; rintro e w2 ⟨rfl, hb2⟩)
  rw [HO.out]
  exact ⟨rfl, rfl, HS.out.bt.trans ((But.of_b bl2).trans hb2)⟩
 have e3 := Option.some.inj e1
 rw [e3] at HW
 have hql := wantG_len e3
 simp only [List.length_cons, List.length_nil] at hql
 have HE2 := hid e2
 clear e1 e2 e3 HE
 go_upto_region 5 with (go_at_call 43; refine HW.out.mono ?_; rintro e w2 ⟨x2, rfl, _, hp2, hb2⟩)
 have HS2 := hid (HS.out.step ((But.of_b bl2).trans hb2) hp2)
 clear HS HW bl2 hp2 hb2
 have HS := HS2
 clear HS2
 have HE := HE2
 clear HE2
 have hl2 : q2.length ≤ 1048576 := by omega
 have y0 := HS.out.box.cell 0 _ rfl
 have f0 := HS.out.box.fr 0
 go_upto_region 6 with (fail)
 have HS2 := hid (HS.out.setKind (k' := 2) (by decide))
 change Code.wp _ _ _ _ (setL w2 d1 0 [.int .i64 2])
 generalize (setL w2 d1 0 [.int .i64 2]) = w3 at *
 clear HS y0 f0
 have HS := HS2
 clear HS2
 have bl4 : Below w3.heap.size w3 (w3.alloc (.cells #[.string ⟨#[91]⟩] 9)) := (Below.refl _ _).alloc (Nat.le_refl _) _
 have HW := hid (pwant_any (HS.out.ps.below bl4) (show WordsAt p (w3.alloc (.cells #[.string ⟨#[91]⟩] 9)) [bz [91]] (.slice (some ⟨w3.heap.size, 0, none⟩) 1 1) from words_lit w3 [bz [91]] (by intro x hx; simp only [List.mem_cons, List.not_mem_nil, or_false] at hx; rcases hx with rfl <;> (unfold okS; decide)) (by decide) HS.out.pW))
 rcases PO.bind_some HE.out with ⟨q4, e1, e2⟩ | ⟨u4, q4, e1, e2⟩
 ·have e3 := Option.some.inj e1
  rw [e3] at HW
  have HO := hid e2
  clear e1 e2 e3 HE
  go_wp2_with (go_at_call 43; refine HW.out.mono ?_; rintro e w4 ⟨rfl, hb4⟩)
  rw [HO.out]
  exact ⟨rfl, rfl, HS.out.bt.trans ((But.of_b bl4).trans hb4)⟩
 have e3 := Option.some.inj e1
 rw [e3] at HW
 have hql := wantG_len e3
 simp only [List.length_cons, List.length_nil] at hql
 have HE2 := hid e2
 clear e1 e2 e3 HE
 go_upto_region 7 with (go_at_call 43; refine HW.out.mono ?_; rintro e w4 ⟨x4, rfl, _, hp4, hb4⟩)
 have HS2 := hid (HS.out.step ((But.of_b bl4).trans hb4) hp4)
 clear HS HW bl4 hp4 hb4
 have HS := HS2
 clear HS2
 have HE := HE2
 clear HE2
 have hl4 : q4.length ≤ 1048576 := by omega
 rcases PO.bind_some HE.out with ⟨q5, e1, e2⟩ | ⟨a5, q5, e1, e2⟩
 ·have HC := hid (pexpr_any n p en q4 w4 _ e1 HS.out.ps)
  have HO := hid e2
  clear e1 e2 HE
  go_wp2_with (go_at_call 44; refine HC.out.mono ?_; rintro e w5 ⟨rfl, hb5⟩)
  rw [HO.out]
  exact ⟨rfl, rfl, HS.out.bt.trans hb5⟩
 have HC := hid (pexpr_any n p en q4 w4 _ e1 HS.out.ps)
 have hql := exG_len _ _ _ _ _ e1
 simp only [moLen] at hql
 have HE2 := hid e2
 clear e1 e2 HE
 have hdW := HS.out.lt
 have hloW := HS.out.lw
 go_upto_region 9 with (go_at_call 44; refine HC.out.mono ?_; rintro e v5 ⟨x5, rfl, hx5, hp5, hb5⟩; obtain ⟨A5, c5, rfl⟩ := hx5.form; have hs5 := HS.out.step hb5 hp5; have y0 := hs5.box.cell 2 _ rfl; have f0 := hs5.box.fr 2; have y1 := hs5.box.cell 3 _ rfl; have f1 := hs5.box.fr 3; have y2 := hs5.box.cell 4 _ rfl; have f2 := hs5.box.fr 4; have y3 := hs5.box.cell 5 _ rfl; have f3 := hs5.box.fr 5)
 have hz5 := hb5.size
 have HS2 := hid (hs5.setA (rdE.to hx5 (lo' := lo) (y' := d1) hloW (.inl hdW)))
 change Code.wp _ _ _ _ (setL v5 d1 2 [.int .i64 a5.kind, .int .i64 a5.num, .string a5.name, .slice A5 a5.args.length c5])
 generalize (setL v5 d1 2 [.int .i64 a5.kind, .int .i64 a5.num, .string a5.name, .slice A5 a5.args.length c5]) = w5 at *
 clear HS HC hx5 hp5 hb5 hs5 hz5 hdW hloW y0 y1 y2 y3 f0 f1 f2 f3
 have HS := HS2
 have HE := HE2
 clear HS2 HE2
 have hl5 : q5.length ≤ 1048576 := by omega
 have bl6 : Below w5.heap.size w5 (w5.alloc (.cells #[.string ⟨#[93]⟩] 9)) := (Below.refl _ _).alloc (Nat.le_refl _) _
 have HW := hid (pwant_any (HS.out.ps.below bl6) (show WordsAt p (w5.alloc (.cells #[.string ⟨#[93]⟩] 9)) [bz [93]] (.slice (some ⟨w5.heap.size, 0, none⟩) 1 1) from words_lit w5 [bz [93]] (by intro x hx; simp only [List.mem_cons, List.not_mem_nil, or_false] at hx; rcases hx with rfl <;> (unfold okS; decide)) (by decide) HS.out.pW))
 rcases PO.bind_some HE.out with ⟨q6, e1, e2⟩ | ⟨u6, q6, e1, e2⟩
 ·have e3 := Option.some.inj e1
  rw [e3] at HW
  have HO := hid e2
  clear e1 e2 e3 HE
  go_wp2_with (go_at_call 43; refine HW.out.mono ?_; rintro e w6 ⟨rfl, hb6⟩)
  rw [HO.out]
  exact ⟨rfl, rfl, HS.out.bt.trans ((But.of_b bl6).trans hb6)⟩
 have e3 := Option.some.inj e1
 rw [e3] at HW
 have hql := wantG_len e3
 simp only [List.length_cons, List.length_nil] at hql
 have HE2 := hid e2
 clear e1 e2 e3 HE
 go_upto_region 10 with (go_at_call 43; refine HW.out.mono ?_; rintro e w6 ⟨x6, rfl, _, hp6, hb6⟩)
 have HS2 := hid (HS.out.step ((But.of_b bl6).trans hb6) hp6)
 clear HS HW bl6 hp6 hb6
 have HS := HS2
 clear HS2
 have HE := HE2
 clear HE2
 have hl6 : q6.length ≤ 1048576 := by omega
 have bl7 : Below w6.heap.size w6 (w6.alloc (.cells #[.string ⟨#[59]⟩] 9)) := (Below.refl _ _).alloc (Nat.le_refl _) _
 have HW := hid (pwant_any (HS.out.ps.below bl7) (show WordsAt p (w6.alloc (.cells #[.string ⟨#[59]⟩] 9)) [bz [59]] (.slice (some ⟨w6.heap.size, 0, none⟩) 1 1) from words_lit w6 [bz [59]] (by intro x hx; simp only [List.mem_cons, List.not_mem_nil, or_false] at hx; rcases hx with rfl <;> (unfold okS; decide)) (by decide) HS.out.pW))
 rcases PO.bind_some HE.out with ⟨q7, e1, e2⟩ | ⟨u7, q7, e1, e2⟩
 ·have e3 := Option.some.inj e1
  rw [e3] at HW
  have HO := hid e2
  clear e1 e2 e3 HE
  go_wp2_with (go_at_call 43; refine HW.out.mono ?_; rintro e w7 ⟨rfl, hb7⟩)
  rw [HO.out]
  exact ⟨rfl, rfl, HS.out.bt.trans ((But.of_b bl7).trans hb7)⟩
 have e3 := Option.some.inj e1
 rw [e3] at HW
 have hql := wantG_len e3
 simp only [List.length_cons, List.length_nil] at hql
 have HE2 := hid e2
 clear e1 e2 e3 HE
 go_upto_region 11 with (go_at_call 43; refine HW.out.mono ?_; rintro e w7 ⟨x7, rfl, _, hp7, hb7⟩)
 have HS2 := hid (HS.out.step ((But.of_b bl7).trans hb7) hp7)
 clear HS HW bl7 hp7 hb7
 have HS := HS2
 clear HS2
 have HE := HE2
 clear HE2
 have hl7 : q7.length ≤ 1048576 := by omega
 have HO := hid (Option.some.inj HE.out).symm
 clear HE
 have y0 := HS.out.box.cell 0 _ rfl; have y1 := HS.out.box.cell 1 _ rfl; have y2 := HS.out.box.cell 2 _ rfl; have y3 := HS.out.box.cell 3 _ rfl; have y4 := HS.out.box.cell 4 _ rfl; have y5 := HS.out.box.cell 5 _ rfl; have y6 := HS.out.box.cell 6 _ rfl; have y7 := HS.out.box.cell 7 _ rfl; have y8 := HS.out.box.cell 8 _ rfl; have y9 := HS.out.box.cell 9 _ rfl; have y10 := HS.out.box.cell 10 _ rfl; have y11 := HS.out.box.cell 11 _ rfl
 have hres := (HS.out.res (by simp)).2.2
 have r0 := hres.cell 0 _ rfl; have r1 := hres.cell 1 _ rfl; have r2 := hres.cell 2 _ rfl; have r3 := hres.cell 3 _ rfl; have r4 := hres.cell 4 _ rfl; have r5 := hres.cell 5 _ rfl; have r6 := hres.cell 6 _ rfl; have r7 := hres.cell 7 _ rfl; have r8 := hres.cell 8 _ rfl; have r9 := hres.cell 9 _ rfl; have r10 := hres.cell 10 _ rfl; have r11 := hres.cell 11 _ rfl
 have f0 := hres.fr 0; have f1 := hres.fr 1; have f2 := hres.fr 2; have f3 := hres.fr 3; have f4 := hres.fr 4; have f5 := hres.fr 5; have f6 := hres.fr 6; have f7 := hres.fr 7; have f8 := hres.fr 8; have f9 := hres.fr 9; have f10 := hres.fr 10; have f11 := hres.fr 11
 clear hres
 go_wp2
 exact ret_stbox Tryz.results42 rfl HS.out hdw hdlo HO.out hlt rfl rfl (by simp only [setL, List.length_nil])
set_option maxHeartbeats 4000000 in
set_option maxRecDepth 100000 in
theorem pnested_async (n : Nat) (hn : PSs n) (p : Nat) (en : En) (t : LTok) (r : List LTok) (w : World) (out : PR St) (ho : kindG n (stsG n []) (4, [.w (bz [97, 115, 121, 110, 99]), .B]) (t :: r) = some out) (hw : isT (bz [97, 115, 121, 110, 99]) (t :: r) = true) (hl : (t :: r).length ≤ 1048576) (h : PsAt p en w (t :: r)) :
    Calls Tryz.prog 45 #[.pointer (some ⟨p, 0, none⟩)] w (POut p en w (rdSt w.heap.size p) out) := by
 have hlt := h.lt
 rw [kind_async hw] at ho
 have hl0 : r.length ≤ 1048576 := by simp only [List.length_cons] at hl; omega
 have bl0 : Below w.heap.size w (w.alloc (.cells #[.int .i64 0, .string ⟨#[]⟩, .int .i64 0, .int .i64 0, .string ⟨#[]⟩, .slice none 0 0, .int .i64 0, .int .i64 0, .string ⟨#[]⟩, .slice none 0 0, .slice none 0 0, .slice none 0 0] 82)) := (Below.refl _ _).alloc (Nat.le_refl _) _
 have HB := hid (But.of_b (T := Is p) bl0)
 have HR := hid (show Blk 0 (w.alloc (.cells #[.int .i64 0, .string ⟨#[]⟩, .int .i64 0, .int .i64 0, .string ⟨#[]⟩, .slice none 0 0, .int .i64 0, .int .i64 0, .string ⟨#[]⟩, .slice none 0 0, .slice none 0 0, .slice none 0 0] 82)) w.heap.size [.int .i64 0, .string ⟨#[]⟩, .int .i64 0, .int .i64 0, .string ⟨#[]⟩, .slice none 0 0, .int .i64 0, .int .i64 0, .string ⟨#[]⟩, .slice none 0 0, .slice none 0 0, .slice none 0 0] from Blk.made w _ _ (Nat.zero_le _))
 obtain ⟨y, hy⟩ : ∃ y : Str, y = t.str := ⟨_, rfl⟩
 have hyw : y.toList = [97, 115, 121, 110, 99] := by
  have h2 : (t.str.toList == (bz [97, 115, 121, 110, 99]).toList) = true := hw
  rw [beq_iff_eq] at h2
  rw [hy, h2, ByteArray.toList_eq]
 have HT := hid (ptake_any (h.below bl0))
 rw [← hy] at HT
 have HN := hid hn
 obtain ⟨d, hd⟩ : ∃ d, d = w.heap.size := ⟨_, rfl⟩
 have hdp : ¬ d = p := by omega
 have hdw : w.heap.size ≤ d := by omega
 have hpd : p < d := by omega
 have hdl : d < (w.alloc (.cells #[.int .i64 0, .string ⟨#[]⟩, .int .i64 0, .int .i64 0, .string ⟨#[]⟩, .slice none 0 0, .int .i64 0, .int .i64 0, .string ⟨#[]⟩, .slice none 0 0, .slice none 0 0, .slice none 0 0] 82)).heap.size := by simp [hd]
 rw [← hd] at HR
 have HE := hid ho
 clear ho h bl0 hw hl hy hn
 have cm0 : (y.toList == [97, 115, 121, 110, 99]) = true := by rw [hyw]; decide
 go_enter Tryz.func45, Tryz.ntmps45
 go_upto_region 1 with (fail)
 rw [← hd]
 clear hd hyw
 generalize (w.alloc (.cells #[.int .i64 0, .string ⟨#[]⟩, .int .i64 0, .int .i64 0, .string ⟨#[]⟩, .slice none 0 0, .int .i64 0, .int .i64 0, .string ⟨#[]⟩, .slice none 0 0, .slice none 0 0, .slice none 0 0] 82)) = W0 at *
 go_upto_region 3 with (go_at_call 70; refine HT.out.mono ?_; rintro e W1 ⟨rfl, hp1, hb1⟩)
 have HB1 := hid (HB.out.trans hb1)
 have HP1 := hid hp1
 have HR1 := hid (HR.out.but hb1 (fun e => hdp e))
 have hz1 := hb1.size
 have hW0w := HB.out.size
 clear HB HR HT hp1 hb1 cm0
 have HB := HB1
 have HP := HP1
 have HR := HR1
 clear HB1 HP1 HR1
 obtain ⟨lo, hlo⟩ : ∃ lo, lo = W0.heap.size := ⟨_, rfl⟩
 have hdlo : d < lo := by omega
 have hwlo : w.heap.size ≤ lo := by omega
 have hplo : p < lo := by omega
 have hlo1 : lo ≤ W1.heap.size := by omega
 clear hlo hdl
 rcases PO.bind_some HE.out with ⟨q, e1, e2⟩ | ⟨l, q, e1, e2⟩
 ·have HC := hid (pqblock_any n HN.out p en r W1 _ e1 hl0 HP.out)
  have HO := hid e2
  clear e1 e2 HE
  go_wp2_with (go_at_call 74; refine HC.out.mono ?_; rintro e w2 ⟨rfl, hb2⟩)
  rw [HO.out]
  exact ⟨rfl, rfl, HB.out.trans hb2⟩
 have HC := hid (pqblock_any n HN.out p en r W1 _ e1 hl0 HP.out)
 have HO := hid (Option.some.inj e2).symm
 clear e1 e2 HE
 go_wp2_with (go_at_call 74; refine HC.out.mono ?_; rintro e w2 ⟨x, rfl, hx, hp2, hb2⟩; obtain ⟨A, c, rfl⟩ := hx.form; have hR2 := HR.out.but hb2 (fun e => hdp e); have r0 := hR2.cell 0 _ rfl; have r1 := hR2.cell 1 _ rfl; have r2 := hR2.cell 2 _ rfl; have r3 := hR2.cell 3 _ rfl; have r4 := hR2.cell 4 _ rfl; have r5 := hR2.cell 5 _ rfl; have r6 := hR2.cell 6 _ rfl; have r7 := hR2.cell 7 _ rfl; have r8 := hR2.cell 8 _ rfl; have r9 := hR2.cell 9 _ rfl; have r10 := hR2.cell 10 _ rfl; have r11 := hR2.cell 11 _ rfl; have f0 := hR2.fr 0; have f1 := hR2.fr 1; have f2 := hR2.fr 2; have f3 := hR2.fr 3; have f4 := hR2.fr 4; have f5 := hR2.fr 5; have f6 := hR2.fr 6; have f7 := hR2.fr 7; have f8 := hR2.fr 8; have f9 := hR2.fr 9; have f10 := hR2.fr 10; have f11 := hR2.fr 11)
 exact ret_stb Tryz.results45 (by decide) hR2 rfl (hx.to (lo' := lo) (y' := p) hlo1 (.inr (.inr rfl))) hp2 (HB.out.trans hb2) hdw hdlo hwlo hlt HO.out rfl rfl (by simp only [setL, List.length_nil]; rfl)
set_option maxHeartbeats 4000000 in
set_option maxRecDepth 100000 in
theorem pnested_finish (n : Nat) (hn : PSs n) (p : Nat) (en : En) (t : LTok) (r : List LTok) (w : World) (out : PR St) (ho : kindG n (stsG n []) (5, [.w (bz [102, 105, 110, 105, 115, 104]), .B]) (t :: r) = some out) (hw : isT (bz [102, 105, 110, 105, 115, 104]) (t :: r) = true) (hl : (t :: r).length ≤ 1048576) (h : PsAt p en w (t :: r)) :
    Calls Tryz.prog 45 #[.pointer (some ⟨p, 0, none⟩)] w (POut p en w (rdSt w.heap.size p) out) := by
 have hlt := h.lt
 rw [kind_finish hw] at ho
 have hl0 : r.length ≤ 1048576 := by simp only [List.length_cons] at hl; omega
 have bl0 : Below w.heap.size w (w.alloc (.cells #[.int .i64 0, .string ⟨#[]⟩, .int .i64 0, .int .i64 0, .string ⟨#[]⟩, .slice none 0 0, .int .i64 0, .int .i64 0, .string ⟨#[]⟩, .slice none 0 0, .slice none 0 0, .slice none 0 0] 82)) := (Below.refl _ _).alloc (Nat.le_refl _) _
 have HB := hid (But.of_b (T := Is p) bl0)
 have HR := hid (show Blk 0 (w.alloc (.cells #[.int .i64 0, .string ⟨#[]⟩, .int .i64 0, .int .i64 0, .string ⟨#[]⟩, .slice none 0 0, .int .i64 0, .int .i64 0, .string ⟨#[]⟩, .slice none 0 0, .slice none 0 0, .slice none 0 0] 82)) w.heap.size [.int .i64 0, .string ⟨#[]⟩, .int .i64 0, .int .i64 0, .string ⟨#[]⟩, .slice none 0 0, .int .i64 0, .int .i64 0, .string ⟨#[]⟩, .slice none 0 0, .slice none 0 0, .slice none 0 0] from Blk.made w _ _ (Nat.zero_le _))
 obtain ⟨y, hy⟩ : ∃ y : Str, y = t.str := ⟨_, rfl⟩
 have hyw : y.toList = [102, 105, 110, 105, 115, 104] := by
  have h2 : (t.str.toList == (bz [102, 105, 110, 105, 115, 104]).toList) = true := hw
  rw [beq_iff_eq] at h2
  rw [hy, h2, ByteArray.toList_eq]
 have HT := hid (ptake_any (h.below bl0))
 rw [← hy] at HT
 have HN := hid hn
 obtain ⟨d, hd⟩ : ∃ d, d = w.heap.size := ⟨_, rfl⟩
 have hdp : ¬ d = p := by omega
 have hdw : w.heap.size ≤ d := by omega
 have hpd : p < d := by omega
 have hdl : d < (w.alloc (.cells #[.int .i64 0, .string ⟨#[]⟩, .int .i64 0, .int .i64 0, .string ⟨#[]⟩, .slice none 0 0, .int .i64 0, .int .i64 0, .string ⟨#[]⟩, .slice none 0 0, .slice none 0 0, .slice none 0 0] 82)).heap.size := by simp [hd]
 rw [← hd] at HR
 have HE := hid ho
 clear ho h bl0 hw hl hy hn
 have cm0 : (y.toList == [97, 115, 121, 110, 99]) = false := by rw [hyw]; decide
 have cm1 : (y.toList == [102, 105, 110, 105, 115, 104]) = true := by rw [hyw]; decide
 go_enter Tryz.func45, Tryz.ntmps45
 go_upto_region 1 with (fail)
 rw [← hd]
 clear hd hyw
 generalize (w.alloc (.cells #[.int .i64 0, .string ⟨#[]⟩, .int .i64 0, .int .i64 0, .string ⟨#[]⟩, .slice none 0 0, .int .i64 0, .int .i64 0, .string ⟨#[]⟩, .slice none 0 0, .slice none 0 0, .slice none 0 0] 82)) = W0 at *
 go_upto_region 5 with (go_at_call 70; refine HT.out.mono ?_; rintro e W1 ⟨rfl, hp1, hb1⟩)
 have HB1 := hid (HB.out.trans hb1)
 have HP1 := hid hp1
 have HR1 := hid (HR.out.but hb1 (fun e => hdp e))
 have hz1 := hb1.size
 have hW0w := HB.out.size
 clear HB HR HT hp1 hb1 cm0 cm1
 have HB := HB1
 have HP := HP1
 have HR := HR1
 clear HB1 HP1 HR1
 obtain ⟨lo, hlo⟩ : ∃ lo, lo = W0.heap.size := ⟨_, rfl⟩
 have hdlo : d < lo := by omega
 have hwlo : w.heap.size ≤ lo := by omega
 have hplo : p < lo := by omega
 have hlo1 : lo ≤ W1.heap.size := by omega
 clear hlo hdl
 rcases PO.bind_some HE.out with ⟨q, e1, e2⟩ | ⟨l, q, e1, e2⟩
 ·have HC := hid (pqblock_any n HN.out p en r W1 _ e1 hl0 HP.out)
  have HO := hid e2
  clear e1 e2 HE
  go_wp2_with (go_at_call 74; refine HC.out.mono ?_; rintro e w2 ⟨rfl, hb2⟩)
  rw [HO.out]
  exact ⟨rfl, rfl, HB.out.trans hb2⟩
 have HC := hid (pqblock_any n HN.out p en r W1 _ e1 hl0 HP.out)
 have HO := hid (Option.some.inj e2).symm
 clear e1 e2 HE
 go_wp2_with (go_at_call 74; refine HC.out.mono ?_; rintro e w2 ⟨x, rfl, hx, hp2, hb2⟩; obtain ⟨A, c, rfl⟩ := hx.form; have hR2 := HR.out.but hb2 (fun e => hdp e); have r0 := hR2.cell 0 _ rfl; have r1 := hR2.cell 1 _ rfl; have r2 := hR2.cell 2 _ rfl; have r3 := hR2.cell 3 _ rfl; have r4 := hR2.cell 4 _ rfl; have r5 := hR2.cell 5 _ rfl; have r6 := hR2.cell 6 _ rfl; have r7 := hR2.cell 7 _ rfl; have r8 := hR2.cell 8 _ rfl; have r9 := hR2.cell 9 _ rfl; have r10 := hR2.cell 10 _ rfl; have r11 := hR2.cell 11 _ rfl; have f0 := hR2.fr 0; have f1 := hR2.fr 1; have f2 := hR2.fr 2; have f3 := hR2.fr 3; have f4 := hR2.fr 4; have f5 := hR2.fr 5; have f6 := hR2.fr 6; have f7 := hR2.fr 7; have f8 := hR2.fr 8; have f9 := hR2.fr 9; have f10 := hR2.fr 10; have f11 := hR2.fr 11)
 exact ret_stb Tryz.results45 (by decide) hR2 rfl (hx.to (lo' := lo) (y' := p) hlo1 (.inr (.inr rfl))) hp2 (HB.out.trans hb2) hdw hdlo hwlo hlt HO.out rfl rfl (by simp only [setL, List.length_nil]; rfl)
set_option maxHeartbeats 4000000 in
set_option maxRecDepth 100000 in
theorem pnested_if (n : Nat) (hn : PSs n) (p : Nat) (en : En) (t : LTok) (r : List LTok) (w : World) (out : PR St) (ho : kindG n (stsG n []) (6, [.w (bz [105, 102]), .a, .B]) (t :: r) = some out) (hw : isT (bz [105, 102]) (t :: r) = true) (hl : (t :: r).length ≤ 1048576) (h : PsAt p en w (t :: r)) :
    Calls Tryz.prog 45 #[.pointer (some ⟨p, 0, none⟩)] w (POut p en w (rdSt w.heap.size p) out) := by
 have hlt := h.lt
 rw [kind_if hw] at ho
 have hl0 : r.length ≤ 1048576 := by simp only [List.length_cons] at hl; omega
 have bl0 : Below w.heap.size w (w.alloc (.cells #[.int .i64 0, .string ⟨#[]⟩, .int .i64 0, .int .i64 0, .string ⟨#[]⟩, .slice none 0 0, .int .i64 0, .int .i64 0, .string ⟨#[]⟩, .slice none 0 0, .slice none 0 0, .slice none 0 0] 82)) := (Below.refl _ _).alloc (Nat.le_refl _) _
 have HB := hid (But.of_b (T := Is p) bl0)
 have HR := hid (show Blk 0 (w.alloc (.cells #[.int .i64 0, .string ⟨#[]⟩, .int .i64 0, .int .i64 0, .string ⟨#[]⟩, .slice none 0 0, .int .i64 0, .int .i64 0, .string ⟨#[]⟩, .slice none 0 0, .slice none 0 0, .slice none 0 0] 82)) w.heap.size [.int .i64 0, .string ⟨#[]⟩, .int .i64 0, .int .i64 0, .string ⟨#[]⟩, .slice none 0 0, .int .i64 0, .int .i64 0, .string ⟨#[]⟩, .slice none 0 0, .slice none 0 0, .slice none 0 0] from Blk.made w _ _ (Nat.zero_le _))
 obtain ⟨y, hy⟩ : ∃ y : Str, y = t.str := ⟨_, rfl⟩
 have hyw : y.toList = [105, 102] := by
  have h2 : (t.str.toList == (bz [105, 102]).toList) = true := hw
  rw [beq_iff_eq] at h2
  rw [hy, h2, ByteArray.toList_eq]
 have HT := hid (ptake_any (h.below bl0))
 rw [← hy] at HT
 have HN := hid hn
 obtain ⟨d, hd⟩ : ∃ d, d = w.heap.size := ⟨_, rfl⟩
 have hdp : ¬ d = p := by omega
 have hdw : w.heap.size ≤ d := by omega
 have hpd : p < d := by omega
 have hdl : d < (w.alloc (.cells #[.int .i64 0, .string ⟨#[]⟩, .int .i64 0, .int .i64 0, .string ⟨#[]⟩, .slice none 0 0, .int .i64 0, .int .i64 0, .string ⟨#[]⟩, .slice none 0 0, .slice none 0 0, .slice none 0 0] 82)).heap.size := by simp [hd]
 rw [← hd] at HR
 have HE := hid ho
 clear ho h bl0 hw hl hy hn
 have cm0 : (y.toList == [97, 115, 121, 110, 99]) = false := by rw [hyw]; decide
 have cm1 : (y.toList == [102, 105, 110, 105, 115, 104]) = false := by rw [hyw]; decide
 have cm2 : (y.toList == [105, 102]) = true := by rw [hyw]; decide
 go_enter Tryz.func45, Tryz.ntmps45
 go_upto_region 1 with (fail)
 rw [← hd]
 clear hd hyw
 generalize (w.alloc (.cells #[.int .i64 0, .string ⟨#[]⟩, .int .i64 0, .int .i64 0, .string ⟨#[]⟩, .slice none 0 0, .int .i64 0, .int .i64 0, .string ⟨#[]⟩, .slice none 0 0, .slice none 0 0, .slice none 0 0] 82)) = W0 at *
 go_upto_region 7 with (go_at_call 70; refine HT.out.mono ?_; rintro e W1 ⟨rfl, hp1, hb1⟩)
 have HB1 := hid (HB.out.trans hb1)
 have HP1 := hid hp1
 have HR1 := hid (HR.out.but hb1 (fun e => hdp e))
 have hz1 := hb1.size
 have hW0w := HB.out.size
 clear HB HR HT hp1 hb1 cm0 cm1 cm2
 have HB := HB1
 have HP := HP1
 have HR := HR1
 clear HB1 HP1 HR1
 obtain ⟨lo, hlo⟩ : ∃ lo, lo = W0.heap.size := ⟨_, rfl⟩
 have hdlo : d < lo := by omega
 have hwlo : w.heap.size ≤ lo := by omega
 have hplo : p < lo := by omega
 have hlo1 : lo ≤ W1.heap.size := by omega
 clear hlo hdl
 rcases PO.bind_some HE.out with ⟨q, e1, e2⟩ | ⟨a, q, e1, e2⟩
 ·have HC := hid (pexpr_any n p en r W1 _ e1 HP.out)
  have HO := hid e2
  clear e1 e2 HE
  go_wp2_with (go_at_call 44; refine HC.out.mono ?_; rintro e w2 ⟨rfl, hb2⟩)
  rw [HO.out]
  exact ⟨rfl, rfl, HB.out.trans hb2⟩
 have HC := hid (pexpr_any n p en r W1 _ e1 HP.out)
 have hql := exG_len _ _ _ _ _ e1
 simp only [moLen] at hql
 have HE2 := hid e2
 clear e1 e2 HE
 have hlq : q.length ≤ 1048576 := by omega
 rcases PO.bind_some HE2.out with ⟨q2, e1, e2⟩ | ⟨l, q2, e1, e2⟩
 ·have HK := hid (fun W h => pqblock_any n HN.out p en q W _ e1 hlq h)
  have HO := hid e2
  clear e1 e2 HE2
  go_wp2_with (first | (go_at_call 44; refine HC.out.mono ?_; rintro e w2 ⟨x, rfl, hx, hp2, hb2⟩; obtain ⟨A, c, rfl⟩ := hx.form) | (go_at_call 74; refine (HK.out _ hp2).mono ?_; rintro e w3 ⟨rfl, hb3⟩))
  rw [HO.out]
  exact ⟨rfl, rfl, HB.out.trans (hb2.trans hb3)⟩
 have HK := hid (fun W h => pqblock_any n HN.out p en q W _ e1 hlq h)
 have hql2 := blockG_len (fun ts l r h => stsG_len _ _ _ _ _ h) e1
 have HE := hid e2
 clear e1 e2 HE2
 go_upto_region 8 with (first | (go_at_call 44; refine HC.out.mono ?_; rintro e w2 ⟨x, rfl, hx, hp2, hb2⟩; obtain ⟨A, c, rfl⟩ := hx.form) | (go_at_call 74; refine (HK.out _ hp2).mono ?_; rintro e w3 ⟨x3, rfl, hx3, hp3, hb3⟩; obtain ⟨A3, c3, rfl⟩ := hx3.form))
 have hz2 := hb2.size
 have hz3 := hb3.size
 have hlo3 : lo ≤ w3.heap.size := by omega
 have hwv : w.heap.size ≤ w3.heap.size := by omega
 have hp1w := HP.out.lt
 have hp2w := hp2.lt
 have hlo2 : lo ≤ w2.heap.size := by omega
 have HS := hid (BSt.made (k := 6) (s := ⟨#[]⟩) hp3 hplo hwlo hwv (by decide) (by decide) (HB.out.trans (hb2.trans hb3)) ((hx.but hb3 (.inr rfl)).to (lo' := lo) (y' := w3.heap.size) hlo1 (.inr (.inl (Nat.le_refl _)))) (hx3.to (lo' := lo) (y' := w3.heap.size) hlo2 (.inr (.inl (Nat.le_refl _)))) hlo3 (d := d) (z := [.int .i64 0, .string ⟨#[]⟩, .int .i64 0, .int .i64 0, .string ⟨#[]⟩, .slice none 0 0, .int .i64 0, .int .i64 0, .string ⟨#[]⟩, .slice none 0 0, .slice none 0 0, .slice none 0 0]) (fun _ => ⟨hdp, HR.out.but (hb2.trans hb3) (fun e => hdp e)⟩))
 obtain ⟨d1, hd1⟩ : ∃ d1, d1 = w3.heap.size := ⟨_, rfl⟩
 change Code.wp _ _ _ _ (w3.alloc (.cells (stC 6 ⟨#[]⟩ a noX l [] A none A3 none c 0 c3 0).toArray 82))
 rw [← hd1] at HS ⊢
 generalize (w3.alloc (.cells (stC 6 ⟨#[]⟩ a noX l [] A none A3 none c 0 c3 0).toArray 82)) = w4 at *
 clear HB HP HR HC HK hx hx3 hp2 hp3 hb2 hb3 hz2 hz3 hd1 hlo2 hlo3 hwv hlo1
 have hlq2 : q2.length ≤ 1048576 := by omega
 have HI := hid (pis_any (bz [101, 108, 115, 101]) HS.out.ps)
 cases hel : isT (bz [101, 108, 115, 101]) q2 with
 | false =>
  ·skip
   have HE2 := hid (show some (PR.ok (St.mk 6 ⟨#[]⟩ a noX l []) q2) = some out by have h := HE.out; unfold elseG at h; rw [hel] at h; exact h)
   rw [hel] at HI
   clear HE hel
   have HE := HE2
   clear HE2
   go_upto_region 11 with (go_at_call 69; refine HI.out.mono ?_; rintro e wa ⟨rfl, rfl⟩)
   have HO := hid (Option.some.inj HE.out).symm
   clear HE
   have y0 := HS.out.box.cell 0 _ rfl; have y1 := HS.out.box.cell 1 _ rfl; have y2 := HS.out.box.cell 2 _ rfl; have y3 := HS.out.box.cell 3 _ rfl; have y4 := HS.out.box.cell 4 _ rfl; have y5 := HS.out.box.cell 5 _ rfl; have y6 := HS.out.box.cell 6 _ rfl; have y7 := HS.out.box.cell 7 _ rfl; have y8 := HS.out.box.cell 8 _ rfl; have y9 := HS.out.box.cell 9 _ rfl; have y10 := HS.out.box.cell 10 _ rfl; have y11 := HS.out.box.cell 11 _ rfl
   have hres := (HS.out.res (by simp)).2.2
   have r0 := hres.cell 0 _ rfl; have r1 := hres.cell 1 _ rfl; have r2 := hres.cell 2 _ rfl; have r3 := hres.cell 3 _ rfl; have r4 := hres.cell 4 _ rfl; have r5 := hres.cell 5 _ rfl; have r6 := hres.cell 6 _ rfl; have r7 := hres.cell 7 _ rfl; have r8 := hres.cell 8 _ rfl; have r9 := hres.cell 9 _ rfl; have r10 := hres.cell 10 _ rfl; have r11 := hres.cell 11 _ rfl
   have f0 := hres.fr 0; have f1 := hres.fr 1; have f2 := hres.fr 2; have f3 := hres.fr 3; have f4 := hres.fr 4; have f5 := hres.fr 5; have f6 := hres.fr 6; have f7 := hres.fr 7; have f8 := hres.fr 8; have f9 := hres.fr 9; have f10 := hres.fr 10; have f11 := hres.fr 11
   clear hres
   go_wp2
   exact ret_stbox Tryz.results45 rfl HS.out hdw hdlo HO.out hlt rfl rfl (by simp only [setL, List.length_nil])
 | true =>
  ·skip
   obtain ⟨t2, q3, rfl, _⟩ := isT_true hel
   have HE2 := hid (show PO.bind (blockG (stsG n []) q3) (fun x r => some (.ok (St.mk 6 ⟨#[]⟩ a noX l x) r)) = some out by have h := HE.out; unfold elseG at h; rw [if_pos hel] at h; exact h)
   rw [hel] at HI
   clear HE hel
   have HE := HE2
   clear HE2
   simp only [List.length_cons] at hlq2
   go_upto_region 10 with (first | (go_at_call 69; refine HI.out.mono ?_; rintro e wa ⟨rfl, rfl⟩) | (go_at_call 70; refine (ptake_any HS.out.ps).mono ?_; rintro e w5 ⟨rfl, hp5, hb5⟩))
   have HS2 := hid (HS.out.step hb5 hp5)
   clear HS HI hp5 hb5
   have HS := HS2
   clear HS2
   rcases PO.bind_some HE.out with ⟨q10, e1, e2⟩ | ⟨l10, q10, e1, e2⟩
   ·have HC := hid (pqblock_any n HN.out p en q3 w5 _ e1 (by omega) HS.out.ps)
    have HO := hid e2
    clear e1 e2 HE
    go_wp2_with (go_at_call 74; refine HC.out.mono ?_; rintro e w10 ⟨rfl, hb10⟩)
    rw [HO.out]
    exact ⟨rfl, rfl, HS.out.bt.trans hb10⟩
   have HC := hid (pqblock_any n HN.out p en q3 w5 _ e1 (by omega) HS.out.ps)
   have hql := blockG_len (fun ts l r h => stsG_len _ _ _ _ _ h) e1
   have HE2 := hid e2
   clear e1 e2 HE
   have hdW := HS.out.lt
   have hloW := HS.out.lw
   go_upto_region 11 with (go_at_call 74; refine HC.out.mono ?_; rintro e v10 ⟨x10, rfl, hx10, hp10, hb10⟩; obtain ⟨A10, c10, rfl⟩ := hx10.form; have hs10 := HS.out.step hb10 hp10; have y0 := hs10.box.cell 11 _ rfl; have f0 := hs10.box.fr 11)
   have hz10 := hb10.size
   have HS2 := hid (hs10.setElse (rdS.to hx10 (lo' := lo) (y' := d1) hloW (.inl hdW)))
   change Code.wp _ _ _ _ (setL v10 d1 11 [.slice A10 l10.length c10])
   generalize (setL v10 d1 11 [.slice A10 l10.length c10]) = w10 at *
   clear HS HC hx10 hp10 hb10 hs10 hz10 hdW hloW y0 f0
   have HS := HS2
   have HE := HE2
   clear HS2 HE2
   have hl10 : q10.length ≤ 1048576 := by omega
   have HO := hid (Option.some.inj HE.out).symm
   clear HE
   have y0 := HS.out.box.cell 0 _ rfl; have y1 := HS.out.box.cell 1 _ rfl; have y2 := HS.out.box.cell 2 _ rfl; have y3 := HS.out.box.cell 3 _ rfl; have y4 := HS.out.box.cell 4 _ rfl; have y5 := HS.out.box.cell 5 _ rfl; have y6 := HS.out.box.cell 6 _ rfl; have y7 := HS.out.box.cell 7 _ rfl; have y8 := HS.out.box.cell 8 _ rfl; have y9 := HS.out.box.cell 9 _ rfl; have y10 := HS.out.box.cell 10 _ rfl; have y11 := HS.out.box.cell 11 _ rfl
   have hres := (HS.out.res (by simp)).2.2
   have r0 := hres.cell 0 _ rfl; have r1 := hres.cell 1 _ rfl; have r2 := hres.cell 2 _ rfl; have r3 := hres.cell 3 _ rfl; have r4 := hres.cell 4 _ rfl; have r5 := hres.cell 5 _ rfl; have r6 := hres.cell 6 _ rfl; have r7 := hres.cell 7 _ rfl; have r8 := hres.cell 8 _ rfl; have r9 := hres.cell 9 _ rfl; have r10 := hres.cell 10 _ rfl; have r11 := hres.cell 11 _ rfl
   have f0 := hres.fr 0; have f1 := hres.fr 1; have f2 := hres.fr 2; have f3 := hres.fr 3; have f4 := hres.fr 4; have f5 := hres.fr 5; have f6 := hres.fr 6; have f7 := hres.fr 7; have f8 := hres.fr 8; have f9 := hres.fr 9; have f10 := hres.fr 10; have f11 := hres.fr 11
   clear hres
   go_wp2
   exact ret_stbox Tryz.results45 rfl HS.out hdw hdlo HO.out hlt rfl rfl (by simp only [setL])
set_option maxHeartbeats 4000000 in
set_option maxRecDepth 100000 in
theorem pnested_for (n : Nat) (hn : PSs n) (p : Nat) (en : En) (t : LTok) (r : List LTok) (w : World) (out : PR St) (ho : kindG n (stsG n []) (7, [.w (bz [102, 111, 114]), .n, .w (bz [61]), .a, .w (bz [116, 111]), .b, .B]) (t :: r) = some out) (hw : isT (bz [102, 111, 114]) (t :: r) = true) (hl : (t :: r).length ≤ 1048576) (h : PsAt p en w (t :: r)) :
    Calls Tryz.prog 45 #[.pointer (some ⟨p, 0, none⟩)] w (POut p en w (rdSt w.heap.size p) out) := by
 have hlt := h.lt
 rw [kind_for hw] at ho
 have hl0 : r.length ≤ 1048576 := by simp only [List.length_cons] at hl; omega
 have bl0 : Below w.heap.size w (w.alloc (.cells #[.int .i64 0, .string ⟨#[]⟩, .int .i64 0, .int .i64 0, .string ⟨#[]⟩, .slice none 0 0, .int .i64 0, .int .i64 0, .string ⟨#[]⟩, .slice none 0 0, .slice none 0 0, .slice none 0 0] 82)) := (Below.refl _ _).alloc (Nat.le_refl _) _
 have HB := hid (But.of_b (T := Is p) bl0)
 have HR := hid (show Blk 0 (w.alloc (.cells #[.int .i64 0, .string ⟨#[]⟩, .int .i64 0, .int .i64 0, .string ⟨#[]⟩, .slice none 0 0, .int .i64 0, .int .i64 0, .string ⟨#[]⟩, .slice none 0 0, .slice none 0 0, .slice none 0 0] 82)) w.heap.size [.int .i64 0, .string ⟨#[]⟩, .int .i64 0, .int .i64 0, .string ⟨#[]⟩, .slice none 0 0, .int .i64 0, .int .i64 0, .string ⟨#[]⟩, .slice none 0 0, .slice none 0 0, .slice none 0 0] from Blk.made w _ _ (Nat.zero_le _))
 obtain ⟨y, hy⟩ : ∃ y : Str, y = t.str := ⟨_, rfl⟩
 have hyw : y.toList = [102, 111, 114] := by
  have h2 : (t.str.toList == (bz [102, 111, 114]).toList) = true := hw
  rw [beq_iff_eq] at h2
  rw [hy, h2, ByteArray.toList_eq]
 have HT := hid (ptake_any (h.below bl0))
 rw [← hy] at HT
 have HN := hid hn
 obtain ⟨d, hd⟩ : ∃ d, d = w.heap.size := ⟨_, rfl⟩
 have hdp : ¬ d = p := by omega
 have hdw : w.heap.size ≤ d := by omega
 have hpd : p < d := by omega
 have hdl : d < (w.alloc (.cells #[.int .i64 0, .string ⟨#[]⟩, .int .i64 0, .int .i64 0, .string ⟨#[]⟩, .slice none 0 0, .int .i64 0, .int .i64 0, .string ⟨#[]⟩, .slice none 0 0, .slice none 0 0, .slice none 0 0] 82)).heap.size := by simp [hd]
 rw [← hd] at HR
 have HE := hid ho
 clear ho h bl0 hw hl hy hn
 have cm0 : (y.toList == [97, 115, 121, 110, 99]) = false := by rw [hyw]; decide
 have cm1 : (y.toList == [102, 105, 110, 105, 115, 104]) = false := by rw [hyw]; decide
 have cm2 : (y.toList == [105, 102]) = false := by rw [hyw]; decide
 go_enter Tryz.func45, Tryz.ntmps45
 go_upto_region 1 with (fail)
 rw [← hd]
 clear hd hyw
 generalize (w.alloc (.cells #[.int .i64 0, .string ⟨#[]⟩, .int .i64 0, .int .i64 0, .string ⟨#[]⟩, .slice none 0 0, .int .i64 0, .int .i64 0, .string ⟨#[]⟩, .slice none 0 0, .slice none 0 0, .slice none 0 0] 82)) = W0 at *
 go_upto_region 12 with (go_at_call 70; refine HT.out.mono ?_; rintro e W1 ⟨rfl, hp1, hb1⟩)
 have HB1 := hid (HB.out.trans hb1)
 have HP1 := hid hp1
 have HR1 := hid (HR.out.but hb1 (fun e => hdp e))
 have hz1 := hb1.size
 have hW0w := HB.out.size
 clear HB HR HT hp1 hb1 cm0 cm1 cm2
 have HB := HB1
 have HP := HP1
 have HR := HR1
 clear HB1 HP1 HR1
 obtain ⟨lo, hlo⟩ : ∃ lo, lo = W0.heap.size := ⟨_, rfl⟩
 have hdlo : d < lo := by omega
 have hwlo : w.heap.size ≤ lo := by omega
 have hplo : p < lo := by omega
 have hlo1 : lo ≤ W1.heap.size := by omega
 clear hlo hdl
 have HNM := hid (pname_r HP.out)
 rcases PO.bind_some HE.out with ⟨q1, e1, e2⟩ | ⟨s1, q1, e1, e2⟩
 ·have e3 := Option.some.inj e1
  rw [e3] at HNM
  have HO := hid e2
  clear e1 e2 e3 HE
  go_wp2_with (go_at_call 71; refine HNM.out.mono ?_; rintro e w1 ⟨rfl, hb1⟩)
  rw [HO.out]
  exact ⟨rfl, rfl, HB.out.trans hb1⟩
 have e3 := Option.some.inj e1
 rw [e3] at HNM
 have hql := nameG_len e3
 have hss : s1.size ≤ 140737488355328 := by have := nameG_size HP.out.toks e3; omega
 have HE2 := hid e2
 clear e1 e2 e3 HE
 go_upto_region 13 with (go_at_call 71; refine HNM.out.mono ?_; rintro e v1 ⟨x1, rfl, rfl, hp1, hb1⟩)
 have hz1 := hb1.size
 have hlo2 : lo ≤ v1.heap.size := by omega
 have hwv : w.heap.size ≤ v1.heap.size := by omega
 have HS2 := hid (BSt.made (k := 7) (s := s1) hp1 hplo hwlo hwv (by decide) hss (HB.out.trans hb1) (rdE.no _ _ _) (rdS.nil _ _ _) hlo2 (d := d) (z := [.int .i64 0, .string ⟨#[]⟩, .int .i64 0, .int .i64 0, .string ⟨#[]⟩, .slice none 0 0, .int .i64 0, .int .i64 0, .string ⟨#[]⟩, .slice none 0 0, .slice none 0 0, .slice none 0 0]) (fun _ => ⟨hdp, HR.out.but hb1 (fun e => hdp e)⟩))
 obtain ⟨d1, hd1⟩ : ∃ d1, d1 = v1.heap.size := ⟨_, rfl⟩
 change Code.wp _ _ _ _ (v1.alloc (.cells (stC 7 s1 noX noX [] [] none none none none 0 0 0 0).toArray 82))
 rw [← hd1] at HS2 ⊢
 generalize (v1.alloc (.cells (stC 7 s1 noX noX [] [] none none none none 0 0 0 0).toArray 82)) = w1 at *
 clear HB HP HR HNM hp1 hb1 hz1 hd1 hlo2 hwv hlo1
 have HS := HS2
 have HE := HE2
 clear HS2 HE2
 have hl1 : q1.length ≤ 1048576 := by omega
 have bl2 : Below w1.heap.size w1 (w1.alloc (.cells #[.string ⟨#[61]⟩] 9)) := (Below.refl _ _).alloc (Nat.le_refl _) _
 have HW := hid (pwant_any (HS.out.ps.below bl2) (show WordsAt p (w1.alloc (.cells #[.string ⟨#[61]⟩] 9)) [bz [61]] (.slice (some ⟨w1.heap.size, 0, none⟩) 1 1) from words_lit w1 [bz [61]] (by intro x hx; simp only [List.mem_cons, List.not_mem_nil, or_false] at hx; rcases hx with rfl <;> (unfold okS; decide)) (by decide) HS.out.pW))
 rcases PO.bind_some HE.out with ⟨q2, e1, e2⟩ | ⟨u2, q2, e1, e2⟩
 ·have e3 := Option.some.inj e1
  rw [e3] at HW
  have HO := hid e2
  clear e1 e2 e3 HE
  go_wp2_with (go_at_call 43; refine HW.out.mono ?_; rintro e w2 ⟨rfl, hb2⟩)
  rw [HO.out]
  exact ⟨rfl, rfl, HS.out.bt.trans ((But.of_b bl2).trans hb2)⟩
 have e3 := Option.some.inj e1
 rw [e3] at HW
 have hql := wantG_len e3
 simp only [List.length_cons, List.length_nil] at hql
 have HE2 := hid e2
 clear e1 e2 e3 HE
 go_upto_region 14 with (go_at_call 43; refine HW.out.mono ?_; rintro e w2 ⟨x2, rfl, _, hp2, hb2⟩)
 have HS2 := hid (HS.out.step ((But.of_b bl2).trans hb2) hp2)
 clear HS HW bl2 hp2 hb2
 have HS := HS2
 clear HS2
 have HE := HE2
 clear HE2
 have hl2 : q2.length ≤ 1048576 := by omega
 rcases PO.bind_some HE.out with ⟨q3, e1, e2⟩ | ⟨a3, q3, e1, e2⟩
 ·have HC := hid (pexpr_any n p en q2 w2 _ e1 HS.out.ps)
  have HO := hid e2
  clear e1 e2 HE
  go_wp2_with (go_at_call 44; refine HC.out.mono ?_; rintro e w3 ⟨rfl, hb3⟩)
  rw [HO.out]
  exact ⟨rfl, rfl, HS.out.bt.trans hb3⟩
 have HC := hid (pexpr_any n p en q2 w2 _ e1 HS.out.ps)
 have hql := exG_len _ _ _ _ _ e1
 simp only [moLen] at hql
 have HE2 := hid e2
 clear e1 e2 HE
 have hdW := HS.out.lt
 have hloW := HS.out.lw
 go_upto_region 15 with (go_at_call 44; refine HC.out.mono ?_; rintro e v3 ⟨x3, rfl, hx3, hp3, hb3⟩; obtain ⟨A3, c3, rfl⟩ := hx3.form; have hs3 := HS.out.step hb3 hp3; have y0 := hs3.box.cell 2 _ rfl; have f0 := hs3.box.fr 2; have y1 := hs3.box.cell 3 _ rfl; have f1 := hs3.box.fr 3; have y2 := hs3.box.cell 4 _ rfl; have f2 := hs3.box.fr 4; have y3 := hs3.box.cell 5 _ rfl; have f3 := hs3.box.fr 5)
 have hz3 := hb3.size
 have HS2 := hid (hs3.setA (rdE.to hx3 (lo' := lo) (y' := d1) hloW (.inl hdW)))
 change Code.wp _ _ _ _ (setL v3 d1 2 [.int .i64 a3.kind, .int .i64 a3.num, .string a3.name, .slice A3 a3.args.length c3])
 generalize (setL v3 d1 2 [.int .i64 a3.kind, .int .i64 a3.num, .string a3.name, .slice A3 a3.args.length c3]) = w3 at *
 clear HS HC hx3 hp3 hb3 hs3 hz3 hdW hloW y0 y1 y2 y3 f0 f1 f2 f3
 have HS := HS2
 have HE := HE2
 clear HS2 HE2
 have hl3 : q3.length ≤ 1048576 := by omega
 have bl4 : Below w3.heap.size w3 (w3.alloc (.cells #[.string ⟨#[116, 111]⟩] 9)) := (Below.refl _ _).alloc (Nat.le_refl _) _
 have HW := hid (pwant_any (HS.out.ps.below bl4) (show WordsAt p (w3.alloc (.cells #[.string ⟨#[116, 111]⟩] 9)) [bz [116, 111]] (.slice (some ⟨w3.heap.size, 0, none⟩) 1 1) from words_lit w3 [bz [116, 111]] (by intro x hx; simp only [List.mem_cons, List.not_mem_nil, or_false] at hx; rcases hx with rfl <;> (unfold okS; decide)) (by decide) HS.out.pW))
 rcases PO.bind_some HE.out with ⟨q4, e1, e2⟩ | ⟨u4, q4, e1, e2⟩
 ·have e3 := Option.some.inj e1
  rw [e3] at HW
  have HO := hid e2
  clear e1 e2 e3 HE
  go_wp2_with (go_at_call 43; refine HW.out.mono ?_; rintro e w4 ⟨rfl, hb4⟩)
  rw [HO.out]
  exact ⟨rfl, rfl, HS.out.bt.trans ((But.of_b bl4).trans hb4)⟩
 have e3 := Option.some.inj e1
 rw [e3] at HW
 have hql := wantG_len e3
 simp only [List.length_cons, List.length_nil] at hql
 have HE2 := hid e2
 clear e1 e2 e3 HE
 go_upto_region 16 with (go_at_call 43; refine HW.out.mono ?_; rintro e w4 ⟨x4, rfl, _, hp4, hb4⟩)
 have HS2 := hid (HS.out.step ((But.of_b bl4).trans hb4) hp4)
 clear HS HW bl4 hp4 hb4
 have HS := HS2
 clear HS2
 have HE := HE2
 clear HE2
 have hl4 : q4.length ≤ 1048576 := by omega
 rcases PO.bind_some HE.out with ⟨q5, e1, e2⟩ | ⟨a5, q5, e1, e2⟩
 ·have HC := hid (pexpr_any n p en q4 w4 _ e1 HS.out.ps)
  have HO := hid e2
  clear e1 e2 HE
  go_wp2_with (go_at_call 44; refine HC.out.mono ?_; rintro e w5 ⟨rfl, hb5⟩)
  rw [HO.out]
  exact ⟨rfl, rfl, HS.out.bt.trans hb5⟩
 have HC := hid (pexpr_any n p en q4 w4 _ e1 HS.out.ps)
 have hql := exG_len _ _ _ _ _ e1
 simp only [moLen] at hql
 have HE2 := hid e2
 clear e1 e2 HE
 have hdW := HS.out.lt
 have hloW := HS.out.lw
 go_upto_region 17 with (go_at_call 44; refine HC.out.mono ?_; rintro e v5 ⟨x5, rfl, hx5, hp5, hb5⟩; obtain ⟨A5, c5, rfl⟩ := hx5.form; have hs5 := HS.out.step hb5 hp5; have y0 := hs5.box.cell 6 _ rfl; have f0 := hs5.box.fr 6; have y1 := hs5.box.cell 7 _ rfl; have f1 := hs5.box.fr 7; have y2 := hs5.box.cell 8 _ rfl; have f2 := hs5.box.fr 8; have y3 := hs5.box.cell 9 _ rfl; have f3 := hs5.box.fr 9)
 have hz5 := hb5.size
 have HS2 := hid (hs5.setB (rdE.to hx5 (lo' := lo) (y' := d1) hloW (.inl hdW)))
 change Code.wp _ _ _ _ (setL v5 d1 6 [.int .i64 a5.kind, .int .i64 a5.num, .string a5.name, .slice A5 a5.args.length c5])
 generalize (setL v5 d1 6 [.int .i64 a5.kind, .int .i64 a5.num, .string a5.name, .slice A5 a5.args.length c5]) = w5 at *
 clear HS HC hx5 hp5 hb5 hs5 hz5 hdW hloW y0 y1 y2 y3 f0 f1 f2 f3
 have HS := HS2
 have HE := HE2
 clear HS2 HE2
 have hl5 : q5.length ≤ 1048576 := by omega
 rcases PO.bind_some HE.out with ⟨q6, e1, e2⟩ | ⟨l6, q6, e1, e2⟩
 ·have HC := hid (pqblock_any n HN.out p en q5 w5 _ e1 (by omega) HS.out.ps)
  have HO := hid e2
  clear e1 e2 HE
  go_wp2_with (go_at_call 74; refine HC.out.mono ?_; rintro e w6 ⟨rfl, hb6⟩)
  rw [HO.out]
  exact ⟨rfl, rfl, HS.out.bt.trans hb6⟩
 have HC := hid (pqblock_any n HN.out p en q5 w5 _ e1 (by omega) HS.out.ps)
 have hql := blockG_len (fun ts l r h => stsG_len _ _ _ _ _ h) e1
 have HE2 := hid e2
 clear e1 e2 HE
 have hdW := HS.out.lt
 have hloW := HS.out.lw
 go_upto_region 18 with (go_at_call 74; refine HC.out.mono ?_; rintro e v6 ⟨x6, rfl, hx6, hp6, hb6⟩; obtain ⟨A6, c6, rfl⟩ := hx6.form; have hs6 := HS.out.step hb6 hp6; have y0 := hs6.box.cell 10 _ rfl; have f0 := hs6.box.fr 10)
 have hz6 := hb6.size
 have HS2 := hid (hs6.setBody (rdS.to hx6 (lo' := lo) (y' := d1) hloW (.inl hdW)))
 change Code.wp _ _ _ _ (setL v6 d1 10 [.slice A6 l6.length c6])
 generalize (setL v6 d1 10 [.slice A6 l6.length c6]) = w6 at *
 clear HS HC hx6 hp6 hb6 hs6 hz6 hdW hloW y0 f0
 have HS := HS2
 have HE := HE2
 clear HS2 HE2
 have hl6 : q6.length ≤ 1048576 := by omega
 have HO := hid (Option.some.inj HE.out).symm
 clear HE
 have y0 := HS.out.box.cell 0 _ rfl; have y1 := HS.out.box.cell 1 _ rfl; have y2 := HS.out.box.cell 2 _ rfl; have y3 := HS.out.box.cell 3 _ rfl; have y4 := HS.out.box.cell 4 _ rfl; have y5 := HS.out.box.cell 5 _ rfl; have y6 := HS.out.box.cell 6 _ rfl; have y7 := HS.out.box.cell 7 _ rfl; have y8 := HS.out.box.cell 8 _ rfl; have y9 := HS.out.box.cell 9 _ rfl; have y10 := HS.out.box.cell 10 _ rfl; have y11 := HS.out.box.cell 11 _ rfl
 have hres := (HS.out.res (by simp)).2.2
 have r0 := hres.cell 0 _ rfl; have r1 := hres.cell 1 _ rfl; have r2 := hres.cell 2 _ rfl; have r3 := hres.cell 3 _ rfl; have r4 := hres.cell 4 _ rfl; have r5 := hres.cell 5 _ rfl; have r6 := hres.cell 6 _ rfl; have r7 := hres.cell 7 _ rfl; have r8 := hres.cell 8 _ rfl; have r9 := hres.cell 9 _ rfl; have r10 := hres.cell 10 _ rfl; have r11 := hres.cell 11 _ rfl
 have f0 := hres.fr 0; have f1 := hres.fr 1; have f2 := hres.fr 2; have f3 := hres.fr 3; have f4 := hres.fr 4; have f5 := hres.fr 5; have f6 := hres.fr 6; have f7 := hres.fr 7; have f8 := hres.fr 8; have f9 := hres.fr 9; have f10 := hres.fr 10; have f11 := hres.fr 11
 clear hres
 go_wp2
 exact ret_stbox Tryz.results45 rfl HS.out hdw hdlo HO.out hlt rfl rfl (by simp only [setL, List.length_nil])
end Go.Proofs.YtnpgpcnkdocknaaGreatDoor
