/- Texts merged: Kq6, Kq7, Kq8. -/
import Derived.Test.YtnpgpcnkdocknaaGreatDoorGKq5
import Derived.Test.YtnpgpcnkdocknaaGreatDoorPq9
namespace Go.Proofs.YtnpgpcnkdocknaaGreatDoor
open Go.RowKit
set_option linter.unusedVariables false
structure KSt (d : Nat) (z : List Value) (p lo d1 : Nat) (L : List LTok) (w W : World) (g : Nat) (k : Int) (s : Str) (a b : Ex) (l m : List St) (A1 A2 A3 A4 : Option Addr) (c1 c2 c3 c4 : Nat) : Prop where
 pl : p < lo
 pd : p < d1
 wl : w.heap.size ≤ lo
 wd : w.heap.size ≤ d1
 hk : inI k
 hs : s.size ≤ 140737488355328
 bt : But (Is p) w W
 ps : RkAt p L W g
 box : Blk 0 W d1 (stC k s a b l m A1 A2 A3 A4 c1 c2 c3 c4)
 xa : rdE lo d1 W a (exV a.kind a.num a.name (.slice A1 a.args.length c1))
 xb : rdE lo d1 W b (exV b.kind b.num b.name (.slice A2 b.args.length c2))
 xl : rdS lo d1 W l (.slice A3 l.length c3)
 xm : rdS lo d1 W m (.slice A4 m.length c4)
 lw : lo ≤ W.heap.size
 res : z ≠ [] → d ≠ p ∧ d ≠ d1 ∧ Blk 0 W d z
section
variable {d : Nat} {z : List Value} {p lo d1 : Nat} {L : List LTok} {g g' : Nat} {w W W' : World} {k k' : Int} {s : Str} {a b a' : Ex} {l m l' : List St} {A1 A2 A3 A4 A' : Option Addr} {c1 c2 c3 c4 c' : Nat}
theorem KSt.step (h : KSt d z p lo d1 L w W g k s a b l m A1 A2 A3 A4 c1 c2 c3 c4) (hb : But (Is p) W W') (hp : RkAt p L W' g') : KSt d z p lo d1 L w W' g' k s a b l m A1 A2 A3 A4 c1 c2 c3 c4 :=
 ⟨h.pl, h.pd, h.wl, h.wd, h.hk, h.hs, h.bt.trans hb, hp, h.box.but hb (fun e => by have := h.pd; unfold Is at e; omega), h.xa.but hb (.inl h.pl), h.xb.but hb (.inl h.pl), h.xl.but hb (.inl h.pl), h.xm.but hb (.inl h.pl), Nat.le_trans h.lw hb.size, fun hz => ⟨(h.res hz).1, (h.res hz).2.1, (h.res hz).2.2.but hb (fun e => (h.res hz).1 e)⟩⟩
theorem KSt.lt (h : KSt d z p lo d1 L w W g k s a b l m A1 A2 A3 A4 c1 c2 c3 c4) : d1 < W.heap.size := h.box.lt
theorem KSt.pW (h : KSt d z p lo d1 L w W g k s a b l m A1 A2 A3 A4 c1 c2 c3 c4) : p < W.heap.size := h.ps.lt
theorem KSt.setName {s' : Str} (h : KSt d z p lo d1 L w W g k s a b l m A1 A2 A3 A4 c1 c2 c3 c4) (hs' : s'.size ≤ 140737488355328) : KSt d z p lo d1 L w (setL W d1 1 [.string s']) g k s' a b l m A1 A2 A3 A4 c1 c2 c3 c4 :=
 have hb := setL_is W d1 1 [.string s']
 ⟨h.pl, h.pd, h.wl, h.wd, h.hk, hs', setL_but (.inr h.wd) _ _ _ h.bt, h.ps.but hb h.pd, setL_blk _ _ _ _ h.box (by simp), h.xa.but hb (.inr rfl), h.xb.but hb (.inr rfl), h.xl.but hb (.inr rfl), h.xm.but hb (.inr rfl), Nat.le_trans h.lw hb.size, fun hz => ⟨(h.res hz).1, (h.res hz).2.1, (h.res hz).2.2.but hb (fun e => (h.res hz).2.1 e)⟩⟩
theorem KSt.setA (h : KSt d z p lo d1 L w W g k s a b l m A1 A2 A3 A4 c1 c2 c3 c4) (hx : rdE lo d1 W a' (exV a'.kind a'.num a'.name (.slice A' a'.args.length c'))) : KSt d z p lo d1 L w (setL W d1 2 [.int .i64 a'.kind, .int .i64 a'.num, .string a'.name, .slice A' a'.args.length c']) g k s a' b l m A' A2 A3 A4 c' c2 c3 c4 :=
 have hb := setL_is W d1 2 [.int .i64 a'.kind, .int .i64 a'.num, .string a'.name, .slice A' a'.args.length c']
 ⟨h.pl, h.pd, h.wl, h.wd, h.hk, h.hs, setL_but (.inr h.wd) _ _ _ h.bt, h.ps.but hb h.pd, setL_blk _ _ _ _ h.box (by simp), hx.but hb (.inr rfl), h.xb.but hb (.inr rfl), h.xl.but hb (.inr rfl), h.xm.but hb (.inr rfl), Nat.le_trans h.lw hb.size, fun hz => ⟨(h.res hz).1, (h.res hz).2.1, (h.res hz).2.2.but hb (fun e => (h.res hz).2.1 e)⟩⟩
theorem KSt.setB (h : KSt d z p lo d1 L w W g k s a b l m A1 A2 A3 A4 c1 c2 c3 c4) (hx : rdE lo d1 W a' (exV a'.kind a'.num a'.name (.slice A' a'.args.length c'))) : KSt d z p lo d1 L w (setL W d1 6 [.int .i64 a'.kind, .int .i64 a'.num, .string a'.name, .slice A' a'.args.length c']) g k s a a' l m A1 A' A3 A4 c1 c' c3 c4 :=
 have hb := setL_is W d1 6 [.int .i64 a'.kind, .int .i64 a'.num, .string a'.name, .slice A' a'.args.length c']
 ⟨h.pl, h.pd, h.wl, h.wd, h.hk, h.hs, setL_but (.inr h.wd) _ _ _ h.bt, h.ps.but hb h.pd, setL_blk _ _ _ _ h.box (by simp), h.xa.but hb (.inr rfl), hx.but hb (.inr rfl), h.xl.but hb (.inr rfl), h.xm.but hb (.inr rfl), Nat.le_trans h.lw hb.size, fun hz => ⟨(h.res hz).1, (h.res hz).2.1, (h.res hz).2.2.but hb (fun e => (h.res hz).2.1 e)⟩⟩
theorem KSt.setBody (h : KSt d z p lo d1 L w W g k s a b l m A1 A2 A3 A4 c1 c2 c3 c4) (hx : rdS lo d1 W l' (.slice A' l'.length c')) : KSt d z p lo d1 L w (setL W d1 10 [.slice A' l'.length c']) g k s a b l' m A1 A2 A' A4 c1 c2 c' c4 :=
 have hb := setL_is W d1 10 [.slice A' l'.length c']
 ⟨h.pl, h.pd, h.wl, h.wd, h.hk, h.hs, setL_but (.inr h.wd) _ _ _ h.bt, h.ps.but hb h.pd, setL_blk _ _ _ _ h.box (by simp), h.xa.but hb (.inr rfl), h.xb.but hb (.inr rfl), hx.but hb (.inr rfl), h.xm.but hb (.inr rfl), Nat.le_trans h.lw hb.size, fun hz => ⟨(h.res hz).1, (h.res hz).2.1, (h.res hz).2.2.but hb (fun e => (h.res hz).2.1 e)⟩⟩
theorem KSt.setElse (h : KSt d z p lo d1 L w W g k s a b l m A1 A2 A3 A4 c1 c2 c3 c4) (hx : rdS lo d1 W l' (.slice A' l'.length c')) : KSt d z p lo d1 L w (setL W d1 11 [.slice A' l'.length c']) g k s a b l l' A1 A2 A3 A' c1 c2 c3 c' :=
 have hb := setL_is W d1 11 [.slice A' l'.length c']
 ⟨h.pl, h.pd, h.wl, h.wd, h.hk, h.hs, setL_but (.inr h.wd) _ _ _ h.bt, h.ps.but hb h.pd, setL_blk _ _ _ _ h.box (by simp), h.xa.but hb (.inr rfl), h.xb.but hb (.inr rfl), h.xl.but hb (.inr rfl), hx.but hb (.inr rfl), Nat.le_trans h.lw hb.size, fun hz => ⟨(h.res hz).1, (h.res hz).2.1, (h.res hz).2.2.but hb (fun e => (h.res hz).2.1 e)⟩⟩
theorem KSt.setKind (h : KSt d z p lo d1 L w W g k s a b l m A1 A2 A3 A4 c1 c2 c3 c4) (hk' : inI k') : KSt d z p lo d1 L w (setL W d1 0 [.int .i64 k']) g k' s a b l m A1 A2 A3 A4 c1 c2 c3 c4 :=
 have hb := setL_is W d1 0 [.int .i64 k']
 ⟨h.pl, h.pd, h.wl, h.wd, hk', h.hs, setL_but (.inr h.wd) _ _ _ h.bt, h.ps.but hb h.pd, setL_blk _ _ _ _ h.box (by simp), h.xa.but hb (.inr rfl), h.xb.but hb (.inr rfl), h.xl.but hb (.inr rfl), h.xm.but hb (.inr rfl), Nat.le_trans h.lw hb.size, fun hz => ⟨(h.res hz).1, (h.res hz).2.1, (h.res hz).2.2.but hb (fun e => (h.res hz).2.1 e)⟩⟩
theorem KSt.rd (h : KSt d z p lo d1 L w W g k s a b l m A1 A2 A3 A4 c1 c2 c3 c4) : RdSt W (Rn lo d1 W) (.mk k s a b l m) (stC k s a b l m A1 A2 A3 A4 c1 c2 c3 c4) :=
 RdSt.shut h.hk h.hs (RdE.toX h.xa) (RdE.toX h.xb) h.xl h.xm
theorem KSt.made (hp : RkAt p L W g) (hpl : p < lo) (hwl : w.heap.size ≤ lo) (hwW : w.heap.size ≤ W.heap.size) (hk : inI k) (hs : s.size ≤ 140737488355328) (hb : But (Is p) w W)
    (xa : rdE lo W.heap.size W a (exV a.kind a.num a.name (.slice A1 a.args.length c1))) (xl : rdS lo W.heap.size W l (.slice A3 l.length c3)) (hlo : lo ≤ W.heap.size) (hres : z ≠ [] → d ≠ p ∧ Blk 0 W d z) :
    KSt d z p lo W.heap.size L w (W.alloc (.cells (stC k s a noX l [] A1 none A3 none c1 0 c3 0).toArray 82)) g k s a noX l [] A1 none A3 none c1 0 c3 0 :=
 have bl : Below W.heap.size W (W.alloc (.cells (stC k s a noX l [] A1 none A3 none c1 0 c3 0).toArray 82)) := (Below.refl _ _).alloc (Nat.le_refl _) _
 ⟨hpl, hp.lt, hwl, hwW, hk, hs, hb.trans (But.of_b bl), hp.below bl, Blk.made W _ _ (Nat.zero_le _), xa.below bl, rdE.no _ _ _, xl.below bl, rdS.nil _ _ _, Nat.le_trans hlo bl.size, fun hz => ⟨(hres hz).1, Nat.ne_of_lt (hres hz).2.lt, (hres hz).2.below bl⟩⟩
theorem ret_kst {fn : Func} {R : Ending → World → Prop} {act : Act} {T T1 T2 G base : Nat} {z1 : Int} {ok : Bool} (hr : fn.results = #[.cell T 82, .tmp T1, .tmp T2]) (ht : act.tmps.getD T undef = .pointer (some ⟨G, 0, none⟩)) (h1 : act.tmps.getD T1 undef = .int .i64 z1) (h2 : act.tmps.getD T2 undef = .bool ok) (hd : act.defers = [])
    (B : Blk base w G (stC k s a b l m A1 A2 A3 A4 c1 c2 c3 c4)) (h : R (.returned (.tuple #[.agg (stC k s a b l m A1 A2 A3 A4 c1 c2 c3 c4).toArray, .int .i64 z1, .bool ok])) w) : bodyPost Tryz.prog fn R .ret act w := by
 have r0 := B.cell 0 _ rfl; have r1 := B.cell 1 _ rfl; have r2 := B.cell 2 _ rfl; have r3 := B.cell 3 _ rfl; have r4 := B.cell 4 _ rfl; have r5 := B.cell 5 _ rfl; have r6 := B.cell 6 _ rfl; have r7 := B.cell 7 _ rfl; have r8 := B.cell 8 _ rfl; have r9 := B.cell 9 _ rfl; have r10 := B.cell 10 _ rfl; have r11 := B.cell 11 _ rfl
 rw [Array.getD_eq_getD_getElem?] at ht h1 h2
 exact bodyPost_ret (v := .tuple #[.agg (stC k s a b l m A1 A2 A3 A4 c1 c2 c3 c4).toArray, .int .i64 z1, .bool ok]) (by simp [results, hr, ht, h1, h2, go_sem, r0, r1, r2, r3, r4, r5, r6, r7, r8, r9, r10, r11]) hd h
theorem ret_kstbox {fn : Func} {act : Act} {T T1 T2 e : Nat} {z1 : Int} {ok : Bool} {out : PR St} {zs : List Value} (hr : fn.results = #[.cell T 82, .tmp T1, .tmp T2]) (hB : Blk 0 W e zs) (hz : zs.length = 12) (h : KSt d z p lo d1 L w W g k s a b l m A1 A2 A3 A4 c1 c2 c3 c4) (hde : w.heap.size ≤ e) (hdl : e < lo ∨ e = d1) (hpe : p < e)
    (ho : (∃ (r : List LTok) (b9 : Nat), out = .ok (.mk k s a b l m) r ∧ L.drop b9 = r ∧ b9 ≤ L.length ∧ g ≤ b9 ∧ z1 = (b9 : Int) ∧ ok = true) ∨ (∃ r, out = .no r ∧ L.drop g = r ∧ ok = false)) (ht : act.tmps.getD T undef = .pointer (some ⟨e, 0, none⟩)) (h1 : act.tmps.getD T1 undef = .int .i64 z1) (h2 : act.tmps.getD T2 undef = .bool ok) (hd : act.defers = []) {W9 : World} (hw9 : W9 = setL W e 0 (stC k s a b l m A1 A2 A3 A4 c1 c2 c3 c4)) :
    bodyPost Tryz.prog fn (KqOut p L w (rdSt w.heap.size p) out) .ret act W9 := by
 subst hw9
 have hb := setL_is W e 0 (stC k s a b l m A1 A2 A3 A4 c1 c2 c3 c4)
 have hB2 := setL_blk (stC k s a b l m A1 A2 A3 A4 c1 c2 c3 c4) W 0 zs hB (by rw [hz]; simp)
 have e1 : setV zs 0 (stC k s a b l m A1 A2 A3 A4 c1 c2 c3 c4) = stC k s a b l m A1 A2 A3 A4 c1 c2 c3 c4 := by
  match zs, hz with
  | [_, _, _, _, _, _, _, _, _, _, _, _], _ => rfl
 rw [e1] at hB2
 have hr2 := RdSt.keeps _ _ _ _ _ _ (Rn.sub hb.size) (Rn.same hb hdl) h.rd
 have hr3 : RdSt (setL W e 0 (stC k s a b l m A1 A2 A3 A4 c1 c2 c3 c4)) (Rn w.heap.size p (setL W e 0 (stC k s a b l m A1 A2 A3 A4 c1 c2 c3 c4))) (.mk k s a b l m) (stC k s a b l m A1 A2 A3 A4 c1 c2 c3 c4) := RdSt.keeps _ _ _ _ _ _ (Rn.to h.wl (.inl h.pl)) (Same.refl _ _) hr2
 rcases ho with ⟨r, b9, rfl, h3, h4, h5, rfl, rfl⟩ | ⟨r, rfl, h3, rfl⟩
 ·exact ret_kst hr ht h1 h2 hd hB2 ⟨_, b9, g, rfl, ⟨_, rfl, hr3⟩, h3, h4, h5, h.ps.but hb hpe, setL_but (.inr hde) _ _ _ h.bt⟩
 ·exact ret_kst hr ht h1 h2 hd hB2 ⟨_, z1, g, rfl, ⟨_, _, rfl, hr3⟩, h3, h.ps.but hb hpe, setL_but (.inr hde) _ _ _ h.bt⟩
end
def KOutS {α : Type} (k : Nat) (L : List LTok) (w : World) (rd : World → α → Value → Prop) (o : PR α) (e : Ending) (w' : World) : Prop :=
 match o with
 | .ok x r => ∃ (V : Value) (b : Nat), e = .returned (.tuple #[V, .int .i64 (b : Int), .bool true]) ∧ rd w' x V ∧ L.drop b = r ∧ b ≤ L.length ∧ RkAt k L w' b ∧ But (Is k) w w'
 | .no r => ∃ (V : Value) (z : Int) (f : Nat), e = .returned (.tuple #[V, .int .i64 z, .bool false]) ∧ (∃ x, rd w' x V) ∧ L.drop f = r ∧ RkAt k L w' f ∧ But (Is k) w w'
theorem KOutS.out {α : Type} {k : Nat} {L : List LTok} {w : World} {rd : World → α → Value → Prop} {o : PR α} : ∀ (e : Ending) (w' : World), KOutS k L w rd o e w' → KqOut k L w rd o e w' := by
 intro e w' h
 cases o with
 | no r => exact h
 | ok x r =>
  obtain ⟨V, b, h1, h2, h3, h4, h5, h6⟩ := h
  exact ⟨V, b, b, h1, h2, h3, h4, Nat.le_refl _, h5, h6⟩
def KSs (n : Nat) : Prop := ∀ (k f : Nat) (L : List LTok) (w : World) (a : Nat) (out : PR (List St)), stsG n [] (L.drop a) = some out → RkAt k L w f → a ≤ L.length → f ≤ a →
 Calls Tryz.prog 15 #[.pointer (some ⟨k, 0, none⟩), .int .i64 (a : Int)] w (KOutS k L w (rdS w.heap.size k) out)
set_option maxHeartbeats 1000000 in
set_option maxRecDepth 100000 in
theorem kblk_any (n : Nat) (hn : KSs n) (k f : Nat) (L : List LTok) (w : World) (a : Nat) (out : PR (List St)) (ho : blockG (stsG n []) (L.drop a) = some out) (h : RkAt k L w f) (ha : a ≤ L.length) (hf : f ≤ a) :
    Calls Tryz.prog 53 #[.pointer (some ⟨k, 0, none⟩), .int .i64 (a : Int)] w (KqOut k L w (rdS w.heap.size k) out) := by
 unfold blockG at ho
 have hlt := h.lt
 have bl1 : Below w.heap.size w (w.alloc (.cells #[.string ⟨#[123]⟩] 9)) := (Below.refl _ _).alloc (Nat.le_refl _) _
 have HW := hid (kwords_any (h.below bl1) a ha hf (show WordsAt k (w.alloc (.cells #[.string ⟨#[123]⟩] 9)) [bz [123]] (.slice (some ⟨w.heap.size, 0, none⟩) 1 1) from words1 w (bz [123]) (by unfold okS; decide) hlt))
 have HB1 := hid (But.of_b (T := Is k) bl1)
 clear h bl1
 rcases PO.bind_some ho with ⟨q, e1, e2⟩ | ⟨u, q, e1, e2⟩
 ·have e3 := Option.some.inj e1
  rw [e3] at HW
  have HO := hid e2
  clear e1 e2 e3 ho
  go_enter Tryz.func53, Tryz.ntmps53
  go_wp2_with (go_at_call 84; refine HW.out.mono ?_; rintro e w4 ⟨z, g, rfl, hfr, hp4, hb4⟩)
  go_ret3
  rw [HO.out]
  exact ⟨_, _, g, rfl, ⟨[], rdS.nil _ _ _⟩, hfr, hp4, HB1.out.trans hb4⟩
 ·have e3 := Option.some.inj e1
  rw [e3] at HW
  have HE := hid e2
  have HN := hid hn
  clear e1 e2 e3 ho hn
  go_enter Tryz.func53, Tryz.ntmps53
  go_upto_region 2 with (go_at_call 84; refine HW.out.mono ?_; rintro e w4 ⟨b4, g4, rfl, hbr4, hbl4, hgb4, hp4, hb4⟩)
  have HB4 := hid (HB1.out.trans hb4)
  have HP4 := hid hp4
  have hz4 := HB4.out.size
  rw [← hbr4] at HE
  clear hb4 hp4 HB1 HW hbr4
  rcases PO.bind_some HE.out with ⟨r, e1, e2⟩ | ⟨l, r, e1, e2⟩
  ·have HO := hid e2
   have HC := hid ((HN.out k g4 L w4 b4 _ e1 HP4.out hbl4 hgb4).mono KOutS.out)
   clear e1 e2 HE HN
   go_wp2_with (go_at_call 15; refine HC.out.mono ?_; rintro e w5 ⟨x, z, g, rfl, ⟨l5, hx⟩, hfr, hp5, hb5⟩; obtain ⟨A, c, rfl⟩ := hx.form)
   go_ret3
   rw [HO.out]
   exact ⟨_, _, g, rfl, ⟨[], rdS.nil _ _ _⟩, hfr, hp5, HB4.out.trans hb5⟩
  ·have HC := hid ((HN.out k g4 L w4 b4 _ e1 HP4.out hbl4 hgb4).mono KOutS.out)
   have HE2 := hid e2
   clear e1 e2 HE HN
   go_upto_region 7 with (go_at_call 15; refine HC.out.mono ?_; rintro e w5 ⟨x, b5, g5, rfl, hx, hbr5, hbl5, hgb5, hp5, hb5⟩; obtain ⟨A, c, rfl⟩ := hx.form)
   have HB5 := hid (HB4.out.trans hb5)
   have HX5 := hid (hx.to (lo' := w.heap.size) (y' := k) hz4 (.inr (.inr rfl)))
   have bl6 : Below w5.heap.size w5 (w5.alloc (.cells #[.string ⟨#[125]⟩] 9)) := (Below.refl _ _).alloc (Nat.le_refl _) _
   have HW := hid (kwords_any (hp5.below bl6) b5 hbl5 hgb5 (show WordsAt k (w5.alloc (.cells #[.string ⟨#[125]⟩] 9)) [bz [125]] (.slice (some ⟨w5.heap.size, 0, none⟩) 1 1) from words1 w5 (bz [125]) (by unfold okS; decide) hp5.lt))
   have HB6 := hid (HB5.out.trans (But.of_b bl6))
   have HX6 := hid (HX5.out.below bl6)
   rw [← hbr5] at HE2
   clear hx hp5 hb5 bl6 HB5 HX5 HC HB4 HP4 hbr5
   rcases PO.bind_some HE2.out with ⟨q2, e1, e2⟩ | ⟨u, q2, e1, e2⟩
   ·have e3 := Option.some.inj e1
    rw [e3] at HW
    have HO := hid e2
    clear e1 e2 e3 HE2
    go_wp2_with (go_at_call 84; refine HW.out.mono ?_; rintro e w7 ⟨z7, g7, rfl, hfr7, hp7, hb7⟩)
    go_ret3
    rw [HO.out]
    exact ⟨_, _, g7, rfl, ⟨l, HX6.out.but hb7 (.inl hlt)⟩, hfr7, hp7, HB6.out.trans hb7⟩
   ·have e3 := Option.some.inj e1
    rw [e3] at HW
    have HO := hid (Option.some.inj e2).symm
    clear e1 e2 e3 HE2
    go_wp2_with (go_at_call 84; refine HW.out.mono ?_; rintro e w7 ⟨b7, g7, rfl, hbr7, hbl7, hgb7, hp7, hb7⟩)
    go_ret3
    rw [HO.out]
    exact ⟨_, b7, g7, rfl, HX6.out.but hb7 (.inl hlt), hbr7, hbl7, hgb7, hp7, HB6.out.trans hb7⟩
theorem beg_none {t : LTok} {r : List LTok} : anyG begS (t :: r) = ⟨#[]⟩ ↔ ((t.str.toList == [101, 108, 115, 101]) = true ∨ (t.str.toList == [116, 111]) = true ∨ keptB t.str = false) := by
 have hne : ∀ s ∈ begS, ¬ s = (⟨#[]⟩ : Str) := by
  intro s hs
  simp only [begS, List.mem_cons, List.not_mem_nil, or_false] at hs
  rcases hs with rfl | rfl | rfl | rfl | rfl | rfl | rfl <;> decide
 have h1 : ∀ (l : List Str), (∀ s ∈ l, ¬ s = (⟨#[]⟩ : Str)) → (anyG l (t :: r) = ⟨#[]⟩ ↔ ∀ s ∈ l, (t.str.toList == s.toList) = false) := by
  intro l
  induction l with
  | nil => intro _; simp [anyG]
  | cons s l ih =>
   intro hl
   rw [anyG]
   by_cases hx : isT s (t :: r) = true
   ·rw [if_pos hx]
    constructor
    ·intro h; exact absurd h (hl s (List.mem_cons_self ..))
    ·intro h
     have := h s (List.mem_cons_self ..)
     rw [show isT s (t :: r) = (t.str.toList == s.toList) from rfl, this] at hx; cases hx
   ·rw [if_neg hx, ih (fun s hs => hl s (List.mem_cons_of_mem _ hs))]
    have hx' : (t.str.toList == s.toList) = false := by
     cases e : (t.str.toList == s.toList)
     ·rfl
     ·exact absurd e hx
    constructor
    ·intro h u hu
     rcases List.mem_cons.1 hu with rfl | hu
     ·exact hx'
     ·exact h u hu
    ·intro h u hu; exact h u (List.mem_cons_of_mem _ hu)
 rw [h1 begS hne, kept_eq]
 generalize t.str.toList = y
 simp only [begS, List.forall_mem_cons, tl_bz]
 by_cases h7 : y = [101, 108, 115, 101]
 ·subst h7; simp
 ·by_cases h8 : y = [116, 111]
  ·subst h8; simp
  ·have e7 : (y == [101, 108, 115, 101]) = false := by simpa using h7
   have e8 : (y == [116, 111]) = false := by simpa using h8
   rw [e7, e8]
   simp only [Bool.false_eq_true, false_or, Bool.or_eq_false_iff, List.not_mem_nil, false_imp_iff, implies_true, and_true, Bool.or_false, and_assoc]
def KSm (m : Nat) : Prop := ∀ (k f : Nat) (L : List LTok) (w : World) (a : Nat) (out : PR St), stmtG m (stsG m []) formsP (L.drop a) = some out → ¬ anyG begS (L.drop a) = ⟨#[]⟩ → RkAt k L w f → a ≤ L.length → f ≤ a →
 Calls Tryz.prog 31 #[.pointer (some ⟨k, 0, none⟩), .int .i64 (a : Int)] w (KqOut k L w (rdSt w.heap.size k) out)
theorem RkAt.grown {p g : Nat} {L : List LTok} {w w' : World} {v : Value} (h : RkAt p L w g) (hg : w.grownBy w' v.ownBlock) (hv : ∀ k, v.ownBlock = some k → p < k) : RkAt p L w' g := by
 have hlt := h.lt
 have hb := But.of_grown hg
 obtain ⟨u, h, r, o⟩ := h
 exact ⟨u, h.but hb (fun e => by have := hv _ e; omega), r.keep Flat.keeps (Sub.refl _) (hb.same (fun k hk => Nat.lt_trans hk hlt) (fun k hk e => by have := hv _ e; unfold Upto at hk; omega)), o⟩
set_option maxHeartbeats 8000000 in
set_option maxRecDepth 100000 in
theorem kstmts_step (n : Nat) (ih : ∀ m, m < n → KSm m) : KSs n := by
 intro k f L w a out ho h ha hf
 obtain ⟨i0, hi, hz0, hz1', hz2⟩ := info_parts infoSt
 have hkw := h.lt
 have hll := h.len.1
 have HP0 := hid h
 have HE0 := hid ho
 have IH := hid ih
 clear h ho ih
 go_enter Tryz.func15, Tryz.ntmps15
 go_wp2_with fail
 go_loopw [1, 7] (fun u o' wr => ∃ (o : Value) (acc : List St) (b g m : Nat), o = o' ∧ u = .int .i64 (b : Int) ∧ m ≤ n ∧ b ≤ L.length ∧ g ≤ b ∧ Hid (stsG m acc (L.drop b) = some out) ∧ Hid (RkAt k L wr g) ∧ Hid (But (Is k) w wr) ∧ Hid (OwnSt wr w.heap.size acc o) ∧ acc.length ≤ b) (fun u _ _ => L.length - (intOf u).toNat)
 case atStart => exact ⟨_, [], a, f, n, rfl, rfl, Nat.le_refl _, ha, hf, HE0, HP0, hid (But.refl _ _), hid (OwnL.nil _ _ _), Nat.zero_le _⟩
 case round =>
  clear HP0 HE0 ha hf
  obtain ⟨o, acc, b, g, m, rfl, rfl, hmn, hb, hgb, HE, HPr, HBr, HOr, hacc⟩ := hrel
  obtain ⟨m, rfl⟩ : ∃ j, m = j + 1 := by cases m with
   | zero => cases HE.out
   | succ m => exact ⟨m, rfl⟩
  obtain ⟨A, cap, c0, c1, f1, hset⟩ := HPr.out.open_
  have hmax : max (g : Int) (b : Int) = (b : Int) := by omega
  have HP := hid (hset b hb)
  have hbs := (But.refl (Is k) wr).setCell (p := ⟨k, 1, none⟩) (show Is k k from rfl) (.int .i64 (b : Int))
  have HB := hid (HBr.out.trans hbs)
  have HO := hid (OwnSt.but HOr.out hbs hkw)
  have htk := HPr.out.toks
  clear HPr HBr HOr hset hbs
  go_upto_region 3 with (fail)
  generalize (wr.setCell ⟨k, 1, none⟩ (.int .i64 (b : Int))) = W1 at *
  clear c0 c1 f1 hmax
  by_cases hs : anyG begS (L.drop b) = ⟨#[]⟩
  ·have HX := hid (show out = .ok acc (L.drop b) by have h := HE.out; rw [stsG_stop hs] at h; exact (Option.some.inj h).symm)
   have HFIN := hid (fun (W2 : World) (h2 : Below W1.heap.size W1 W2) => show KOutS k L w (rdS w.heap.size k) out (.returned (.tuple #[o, .int .i64 (b : Int), .bool true])) W2 by
    rw [HX.out]
    have h3 := But.of_b (T := Is k) h2
    exact ⟨o, b, rfl, OwnSt.rd (OwnSt.but HO.out h3 hkw) hkw (by omega), rfl, hb, HP.out.below h2, HB.out.trans h3⟩)
   cases hd : L.drop b with
   | nil =>
    have hbe := drop_end hb hd
    have hbq : ((b : Int) == (L.length : Int)) = true := by rw [hbe]; simp
    obtain ⟨A1, cap1, d0, _, _, _⟩ := HP.out.open_
    clear hs HE IH hd htk HX
    go_wp2
    go_ret3
    exact HFIN.out _ (Below.refl _ _)
   | cons t r =>
    rw [hd, beg_none] at hs
    obtain ⟨b0, off, cap0, d0, hlt, hbk, hok, hdr, k0, k1, k2⟩ := HP.out.tok hd
    have hbq : ((b : Int) == (L.length : Int)) = false := by simp; omega
    have HKK := hid (fun W => kkept_any t.str W)
    generalize keptB t.str = kb at hs HKK
    generalize t.str = y at *
    clear HE IH hd htk HX hok k0 k1 hdr
    cases hel : (y.toList == [101, 108, 115, 101])
    ·cases hto : (y.toList == [116, 111])
     ·have hkb : kb = false := by rw [hel, hto] at hs; simpa using hs
      subst hkb
      go_wp2_with (go_at_call 30; refine (HKK.out _).mono ?_; rintro e W2 ⟨rfl, hb2⟩)
      go_ret3
      exact HFIN.out _ hb2
     ·go_wp2
      go_ret3
      exact HFIN.out _ (Below.refl _ _)
    ·go_wp2
     go_ret3
     exact HFIN.out _ (Below.refl _ _)
  ·obtain ⟨t, r, hd⟩ := anyG_ne hs
   have hs2 := hs
   rw [hd, beg_none] at hs2
   have he := HE.out
   rw [stsG_step hs] at he
   obtain ⟨b0, off, cap0, d0, hlt, hbk, hok, hdr, k0, k1, k2⟩ := HP.out.tok hd
   have hbq : ((b : Int) == (L.length : Int)) = false := by simp; omega
   have HKK := hid (fun W => kkept_any t.str W)
   generalize keptB t.str = kb at hs2 HKK
   generalize t.str = y at *
   obtain ⟨e1, e2, rfl⟩ : (y.toList == [101, 108, 115, 101]) = false ∧ (y.toList == [116, 111]) = false ∧ kb = true := by
    cases h1 : (y.toList == [101, 108, 115, 101]) <;> cases h2 : (y.toList == [116, 111]) <;> cases kb <;> simp_all
   have HE2 := hid he
   have HSM := hid (IH.out m (by omega))
   have HS := hid hs
   clear HE IH he hs hs2 htk hok k0 k1 hdr hd
   go_upto_region 5 with (go_at_call 30; refine (HKK.out _).mono ?_; rintro e W2 ⟨rfl, hb2⟩)
   have HP2 := hid (HP.out.below hb2)
   have HB2 := hid (HB.out.trans (But.of_b hb2))
   have HO2 := hid (OwnSt.but HO.out (But.of_b (T := Is k) hb2) hkw)
   clear HP HB HO hb2 HKK d0 k2 e1 e2 hbq
   rcases PO.bind_some HE2.out with ⟨q, e1, e2⟩ | ⟨st, q, e1, e2⟩
   ·have HC := hid (HSM.out k b L W2 b _ e1 HS.out HP2.out hb (Nat.le_refl _))
    have HX := hid e2
    clear e1 e2 HE2 HSM HS
    go_upto_region 6 with (go_at_call 31; refine HC.out.mono ?_; rintro e W3 ⟨x, z, g3, rfl, ⟨⟨k', s', a', b', l', m'⟩, cs, rfl, hrs⟩, hfr, hp3, hb3⟩; obtain ⟨k1, n1, s1, A1, c1, m1, k2, n2, s2, A2, c2, m2, A3, m3, A4, m4, rfl, _, _, _, _, _, _⟩ := hrs.cells)
    have HFR := hid (show KOutS k L w (rdS w.heap.size k) out (.returned (.tuple #[.slice none 0 0, .int .i64 (b : Int), .bool false])) (W3.alloc (.cells #[.int .i64 k', .string s', .int .i64 k1, .int .i64 n1, .string s1, .slice A1 c1 m1, .int .i64 k2, .int .i64 n2, .string s2, .slice A2 c2 m2, .slice A3 l'.length m3, .slice A4 m'.length m4] 82)) by
     rw [HX.out]
     have bl3 := (Below.refl W3.heap.size W3).alloc (Nat.le_refl _) (.cells #[.int .i64 k', .string s', .int .i64 k1, .int .i64 n1, .string s1, .slice A1 c1 m1, .int .i64 k2, .int .i64 n2, .string s2, .slice A2 c2 m2, .slice A3 l'.length m3, .slice A4 m'.length m4] 82)
     exact ⟨_, _, g3, rfl, ⟨[], rdS.nil _ _ _⟩, hfr, hp3.below bl3, HB2.out.trans (hb3.trans (But.of_b bl3))⟩)
    clear hrs hfr hp3 hb3 HB2 HO2 HP2 HX HC
    generalize (W3.alloc (.cells #[.int .i64 k', .string s', .int .i64 k1, .int .i64 n1, .string s1, .slice A1 c1 m1, .int .i64 k2, .int .i64 n2, .string s2, .slice A2 c2 m2, .slice A3 l'.length m3, .slice A4 m'.length m4] 82)) = W4 at *
    go_wp2
    go_ret3
    exact HFR.out
   ·have HC := hid (HSM.out k b L W2 b _ e1 HS.out HP2.out hb (Nat.le_refl _))
    have HE3 := hid e2
    have hln := stmtG_len (fun ts l r h => stsG_len _ _ _ _ _ h) forms_ne e1
    rw [List.length_drop] at hln
    clear e1 e2 HE2 HSM HS
    go_upto_region 6 with (go_at_call 31; refine HC.out.mono ?_; rintro e W3 ⟨x, b3, g3, rfl, ⟨cs, rfl, hrs⟩, hbr3, hbl3, hgb3, hp3, hb3⟩; obtain ⟨k', s', a', b', l', m'⟩ := st; obtain ⟨k1, n1, s1, A1, c1, m1, k2, n2, s2, A2, c2, m2, A3, m3, A4, m4, rfl, _, _, _, _, _, _⟩ := hrs.cells)
    have bl3 := (Below.refl W3.heap.size W3).alloc (Nat.le_refl _) (.cells #[.int .i64 k', .string s', .int .i64 k1, .int .i64 n1, .string s1, .slice A1 c1 m1, .int .i64 k2, .int .i64 n2, .string s2, .slice A2 c2 m2, .slice A3 l'.length m3, .slice A4 m'.length m4] 82)
    have HY3 := hid (Blk.made W3 [.int .i64 k', .string s', .int .i64 k1, .int .i64 n1, .string s1, .slice A1 c1 m1, .int .i64 k2, .int .i64 n2, .string s2, .slice A2 c2 m2, .slice A3 l'.length m3, .slice A4 m'.length m4] 82 (base := 0) (Nat.zero_le _))
    have HRS := hid (RdSt.keeps _ _ _ _ _ _ (Sub.refl _) (same_of_below bl3 (Rn.upto (lo := W2.heap.size) (y := k))) hrs)
    have HP3 := hid (hp3.below bl3)
    have HB3 := hid (HB2.out.trans (hb3.trans (But.of_b bl3)))
    have HO3 := hid (OwnSt.but (OwnSt.but HO2.out hb3 hkw) (But.of_b (T := Is k) bl3) hkw)
    have hz2' := HB2.out.size
    have hz3 := hb3.size
    have OLT := hid HO2.out.lt
    have HBR := hid hbr3
    have hb3b : b < b3 := by have h2 := congrArg List.length hbr3; rw [List.length_drop] at h2; omega
    have hsu : Sub (Rn W2.heap.size k W3) (Upto (W3.alloc (.cells #[.int .i64 k', .string s', .int .i64 k1, .int .i64 n1, .string s1, .slice A1 c1 m1, .int .i64 k2, .int .i64 n2, .string s2, .slice A2 c2 m2, .slice A3 l'.length m3, .slice A4 m'.length m4] 82)).heap.size) := fun j hj => Nat.lt_of_lt_of_le hj.2.1 bl3.size
    have hsb : Sub (Rn W2.heap.size k W3) (fun j => w.heap.size ≤ j) := fun j hj => Nat.le_trans hz2' hj.1
    have hnt : ∀ j, o.ownBlock = some j → ¬ Rn W2.heap.size k W3 j := fun j e hj => by have := (OLT.out j e).2; have := hj.1; omega
    have hw3 : w.heap.size ≤ (W3.alloc (.cells #[.int .i64 k', .string s', .int .i64 k1, .int .i64 n1, .string s1, .slice A1 c1 m1, .int .i64 k2, .int .i64 n2, .string s2, .slice A2 c2 m2, .slice A3 l'.length m3, .slice A4 m'.length m4] 82)).heap.size := by have := bl3.size; omega
    obtain ⟨S9, hS9⟩ : ∃ S9, S9 = Rn W2.heap.size k W3 := ⟨_, rfl⟩
    rw [← hS9] at HRS hsu hsb hnt
    clear hrs hp3 hb3 bl3 hbr3 HO2 HB2 HP2 HC hz2' hz3 hS9
    generalize (W3.alloc (.cells #[.int .i64 k', .string s', .int .i64 k1, .int .i64 n1, .string s1, .slice A1 c1 m1, .int .i64 k2, .int .i64 n2, .string s2, .slice A2 c2 m2, .slice A3 l'.length m3, .slice A4 m'.length m4] 82)) = W4 at *
    generalize W3.heap.size = d3 at *
    have y0 := HY3.out.cell 0 _ rfl; have y1 := HY3.out.cell 1 _ rfl; have y2 := HY3.out.cell 2 _ rfl; have y3 := HY3.out.cell 3 _ rfl; have y4 := HY3.out.cell 4 _ rfl; have y5 := HY3.out.cell 5 _ rfl; have y6 := HY3.out.cell 6 _ rfl; have y7 := HY3.out.cell 7 _ rfl; have y8 := HY3.out.cell 8 _ rfl; have y9 := HY3.out.cell 9 _ rfl; have y10 := HY3.out.cell 10 _ rfl; have y11 := HY3.out.cell 11 _ rfl
    have bl5 : Below W4.heap.size W4 (W4.alloc (.cells #[.int .i64 k', .string s', .int .i64 k1, .int .i64 n1, .string s1, .slice A1 c1 m1, .int .i64 k2, .int .i64 n2, .string s2, .slice A2 c2 m2, .slice A3 l'.length m3, .slice A4 m'.length m4] 82)) := (Below.refl _ _).alloc (Nat.le_refl _) _
    have OW5 := hid (show OwnSt (W4.alloc (.cells #[.int .i64 k', .string s', .int .i64 k1, .int .i64 n1, .string s1, .slice A1 c1 m1, .int .i64 k2, .int .i64 n2, .string s2, .slice A2 c2 m2, .slice A3 l'.length m3, .slice A4 m'.length m4] 82)) w.heap.size acc o from OwnL.keep HO3.out RdSt.keeps bl5)
    have LT5 := hid (show RdL _ 12 184 (W4.alloc (.cells #[.int .i64 k', .string s', .int .i64 k1, .int .i64 n1, .string s1, .slice A1 c1 m1, .int .i64 k2, .int .i64 n2, .string s2, .slice A2 c2 m2, .slice A3 l'.length m3, .slice A4 m'.length m4] 82)) (Is W4.heap.size) [St.mk k' s' a' b' l' m'] (.slice (some ⟨W4.heap.size, 0, none⟩) 1 1) from st_lit W4 HRS.out hsu rfl)
    have PS5 := hid (HP3.out.below bl5)
    have BB5 := hid (HB3.out.trans (But.of_b bl5))
    have hw6 : w.heap.size ≤ (W4.alloc (.cells #[.int .i64 k', .string s', .int .i64 k1, .int .i64 n1, .string s1, .slice A1 c1 m1, .int .i64 k2, .int .i64 n2, .string s2, .slice A2 c2 m2, .slice A3 l'.length m3, .slice A4 m'.length m4] 82)).heap.size := by have := bl5.size; omega
    have hsu2 : Sub S9 (Upto (W4.alloc (.cells #[.int .i64 k', .string s', .int .i64 k1, .int .i64 n1, .string s1, .slice A1 c1 m1, .int .i64 k2, .int .i64 n2, .string s2, .slice A2 c2 m2, .slice A3 l'.length m3, .slice A4 m'.length m4] 82)).heap.size) := hsu.trans (Sub.upto bl5.size)
    clear bl5 HO3 HP3 HB3 HRS hsu
    go_wp2_with (at_builtin; generalize (W4.alloc (.cells #[.int .i64 k', .string s', .int .i64 k1, .int .i64 n1, .string s1, .slice A1 c1 m1, .int .i64 k2, .int .i64 n2, .string s2, .slice A2 c2 m2, .slice A3 l'.length m3, .slice A4 m'.length m4] 82)) = W5 at *; refine wpList_append_list rfl _ _ 31 rfl i0 _ Tryz.underlying31 hi hz0 hz1' hz2 rfl (by decide) RdSt.keeps OW5.out LT5.out rfl rfl hsb hsu2 hnt oneSt ?c3 ?c4 hw6 ?_)
    case c3 => simp only [List.length_cons, List.length_nil]; unfold maxLen; omega
    case c4 => simp only [List.length_cons, List.length_nil]; omega
    intro v2 w2 ho hg hk2
    have HO6 := hid (show OwnSt w2 w.heap.size (acc ++ [St.mk k' s' a' b' l' m']) v2 from ho)
    have HP6 := hid (RkAt.grown PS5.out hg (fun j e => Nat.lt_of_lt_of_le hkw (OLT.out j e).1))
    have HB6 := hid (But.grown_ BB5.out hg (fun j e => (OLT.out j e).1))
    have HE6 := hid (show stsG m (acc ++ [St.mk k' s' a' b' l' m']) (L.drop b3) = some out by rw [HBR.out]; exact HE3.out)
    clear ho hg hk2 OW5 LT5 PS5 BB5 hsb hsu2 hnt HE3 y0 y1 y2 y3 y4 y5 y6 y7 y8 y9 y10 y11
    go_wp2_with fail
    go_roundw
    case rel => exact ⟨_, _, b3, g3, m, rfl, rfl, by omega, hbl3, hgb3, HE6, HP6, HB6, HO6, by simp only [List.length_append, List.length_cons, List.length_nil]; omega⟩
    case measure => simp [intOf]; omega
def strP : Pt' → Str
 | .w s => s
 | .n => ⟨#[110]⟩
 | .a => ⟨#[97]⟩
 | .b => ⟨#[98]⟩
 | .B => ⟨#[66]⟩
def wordP (x : Str) : Prop := (x.toList == [110]) = false ∧ (x.toList == [97]) = false ∧ (x.toList == [98]) = false ∧ (x.toList == [66]) = false ∧ okS x
set_option maxHeartbeats 16000000 in
set_option maxRecDepth 100000 in
theorem kform_any (n : Nat) (hn : KSs n) (ps : List Pt') (hps : ∀ x, Pt'.w x ∈ ps → wordP x) (hpl : ps.length ≤ 100) (k f : Nat) (L : List LTok) (w : World) (a : Nat) (out : PR St) (ho : formG n (stsG n []) ps noSt (L.drop a) = some out) (h : RkAt k L w f) (ha : a ≤ L.length) (hf : f ≤ a)
    (S : Blocks) (v : Value) (hS : ∀ b, S b → b ≠ k ∧ b < w.heap.size) (hv : RdSs w S (ps.map strP) v) :
    Calls Tryz.prog 51 #[.pointer (some ⟨k, 0, none⟩), .int .i64 (a : Int), v] w (KqOut k L w (rdSt w.heap.size k) out) := by
 have hlt := h.lt
 have hll := h.len.1
 obtain ⟨Av, cv, rfl, hvl, hvm, _⟩ := hv.form
 unfold maxLen at hvm
 rw [List.length_map] at hvl ⊢
 have bl0 : Below w.heap.size w (w.alloc (.cells #[.int .i64 0, .string ⟨#[]⟩, .int .i64 0, .int .i64 0, .string ⟨#[]⟩, .slice none 0 0, .int .i64 0, .int .i64 0, .string ⟨#[]⟩, .slice none 0 0, .slice none 0 0, .slice none 0 0] 82)) := (Below.refl _ _).alloc (Nat.le_refl _) _
 have HS0 := hid (show KSt 0 [] k w.heap.size w.heap.size L w (w.alloc (.cells #[.int .i64 0, .string ⟨#[]⟩, .int .i64 0, .int .i64 0, .string ⟨#[]⟩, .slice none 0 0, .int .i64 0, .int .i64 0, .string ⟨#[]⟩, .slice none 0 0, .slice none 0 0, .slice none 0 0] 82)) f 0 ⟨#[]⟩ noX noX [] [] none none none none 0 0 0 0 from
  KSt.made (z := []) (d := 0) h hlt (Nat.le_refl _) (Nat.le_refl _) (by decide) (by decide) (But.refl _ _) (rdE.no _ _ _) (rdS.nil _ _ _) (Nat.le_refl _) (fun h => absurd rfl h))
 have HV := hid hv
 have HS := hid hS
 have HN := hid hn
 have HPS := hid hps
 have HE0 := hid ho
 obtain ⟨d, hd⟩ : ∃ d, d = w.heap.size := ⟨_, rfl⟩
 have hdk : ¬ d = k := by omega
 have hkd : k < d := by omega
 have hdw : w.heap.size ≤ d := by omega
 have HDW := hid hd
 rw [← hd] at HS0
 clear h bl0 hv hS hn hps ho
 go_enter Tryz.func51, Tryz.ntmps51
 go_upto_region 1 with (fail)
 rw [← hd]
 clear hd
 generalize (w.alloc (.cells #[.int .i64 0, .string ⟨#[]⟩, .int .i64 0, .int .i64 0, .string ⟨#[]⟩, .slice none 0 0, .int .i64 0, .int .i64 0, .string ⟨#[]⟩, .slice none 0 0, .slice none 0 0, .slice none 0 0] 82)) = W0 at *
 go_wp2_with fail
 go_loopw [1, 8, 13] (fun u1 u8 u13 wr => ∃ (j b g : Nat) (s : Str) (x1 x2 : Ex) (l : List St) (A1 A2 A3 : Option Addr) (c1 c2 c3 : Nat), u1 = .int .i64 (b : Int) ∧ u13 = .int .i64 (j : Int) ∧ j ≤ ps.length ∧ b ≤ L.length ∧ g ≤ b ∧ Hid (formG n (stsG n []) (ps.drop j) (.mk 0 s x1 x2 l []) (L.drop b) = some out) ∧ Hid (KSt 0 [] k d d L w wr g 0 s x1 x2 l [] A1 A2 A3 none c1 c2 c3 0)) (fun _ _ t _ => ps.length - (intOf t).toNat)
 case atStart => exact ⟨0, a, f, _, _, _, _, _, _, _, _, _, _, rfl, rfl, Nat.zero_le _, ha, hf, HE0, HS0⟩
 case round =>
  clear HS0 HE0 ha hf
  obtain ⟨j, b, g, s, x1, x2, l, A1, A2, A3, c1, c2, c3, rfl, rfl, hj, hb, hgb, HE, HK⟩ := hrel
  have hlw := HK.out.lw
  have hdl := HK.out.lt
  have hkl := HK.out.pW
  by_cases hlt2 : j < ps.length
  ·have r := RdL.keep HV.out Flat.keeps (Sub.refl _) (HK.out.bt.same (fun b hb => (HS.out b hb).2) (fun b hb e => (HS.out b hb).1 e))
   have hjm : j < (ps.map strP).length := by rw [List.length_map]; exact hlt2
   obtain ⟨b0, off, rfl, hb0, hok, hc⟩ := RdSs.at1 r hjm
   rw [List.getElem_map] at hc
   have hb1 := (HS.out b0 hb0)
   have hb0k : ¬ b0 = k := hb1.1
   have hb0d : ¬ b0 = d := by have := hb1.2; have := HDW.out; omega
   have hb0w : b0 < wr.heap.size := by have := HK.out.bt.size; have := hb1.2; omega
   have hmem : ps[j] ∈ ps := List.getElem_mem hlt2
   have HPX := hid (fun x (e : ps[j] = .w x) => HPS.out x (e ▸ hmem))
   have he := HE.out
   rw [List.drop_eq_getElem_cons hlt2, formG] at he
   generalize ps[j] = p at he hc HPX
   have HE2 := hid he
   clear HE he r hjm hok hb0 hb1 hmem
   cases p with
   | w x =>
    ·skip
     obtain ⟨q1, q2, q3, q4, hox⟩ := HPX.out x rfl
     have bl1 : Below wr.heap.size wr (wr.alloc (.cells #[.string x] 9)) := (Below.refl _ _).alloc (Nat.le_refl _) _
     have HC0 := hid (kwords_any (HK.out.ps.below bl1) b hb hgb (show WordsAt k (wr.alloc (.cells #[.string x] 9)) [x] (.slice (some ⟨wr.heap.size, 0, none⟩) 1 1) from words1 wr x hox hkl))
     have hc9 : wr.cell? ⟨b0, off + j, none⟩ = some (.string x) := hc
     clear hc
     rcases PO.bind_some HE2.out with ⟨q, e1, e2⟩ | ⟨S2, q, e1, e2⟩
     ·have e1' := e1
      simp only [partG] at e1'
      rcases PO.bind_some e1' with ⟨q5, e3, e4⟩ | ⟨u5, q5, e3, e4⟩
      ·injection e4 with e5
       subst e5
       have HO := hid e2
       have e9 := Option.some.inj e3
       rw [e9] at HC0
       have HC := HC0
       clear HC0 e9
       clear e1 e1' e2 e3 HE2 HPX
       go_upto_region 14 with (go_at_call 84; refine HC.out.mono ?_; rintro e w9 ⟨z9, g9, rfl, hfr, hp9, hb9⟩)
       have HK2 := hid (HK.out.step ((But.of_b bl1).trans hb9) hp9)
       have HFR := hid hfr
       clear HK HC hp9 hb9 bl1 hfr
       have y0 := HK2.out.box.cell 0 _ rfl; have y1 := HK2.out.box.cell 1 _ rfl; have y2 := HK2.out.box.cell 2 _ rfl; have y3 := HK2.out.box.cell 3 _ rfl; have y4 := HK2.out.box.cell 4 _ rfl; have y5 := HK2.out.box.cell 5 _ rfl; have y6 := HK2.out.box.cell 6 _ rfl; have y7 := HK2.out.box.cell 7 _ rfl; have y8 := HK2.out.box.cell 8 _ rfl; have y9 := HK2.out.box.cell 9 _ rfl; have y10 := HK2.out.box.cell 10 _ rfl; have y11 := HK2.out.box.cell 11 _ rfl
       have f0 := HK2.out.box.fr 0; have f1 := HK2.out.box.fr 1; have f2 := HK2.out.box.fr 2; have f3 := HK2.out.box.fr 3; have f4 := HK2.out.box.fr 4; have f5 := HK2.out.box.fr 5; have f6 := HK2.out.box.fr 6; have f7 := HK2.out.box.fr 7; have f8 := HK2.out.box.fr 8; have f9 := HK2.out.box.fr 9; have f10 := HK2.out.box.fr 10; have f11 := HK2.out.box.fr 11
       go_wp2
       exact ret_kstbox Tryz.results51 HK2.out.box rfl HK2.out hdw (.inr rfl) hkd (.inr ⟨_, HO.out, HFR.out, rfl⟩) rfl rfl rfl rfl (by simp only [setL, List.length_nil])
      ·cases e4
     ·have e1' := e1
      simp only [partG] at e1'
      rcases PO.bind_some e1' with ⟨q5, e3, e4⟩ | ⟨u5, q5, e3, e4⟩
      ·cases e4
      ·simp only [Option.some.injEq, PR.ok.injEq] at e4
       obtain ⟨rfl, rfl⟩ := e4
       have HE4 := hid e2
       have e9 := Option.some.inj e3
       rw [e9] at HC0
       have HC := HC0
       clear HC0 e9
       clear e1 e1' e2 e3 HE2 HPX
       go_upto_region 14 with (go_at_call 84; refine HC.out.mono ?_; rintro e w9 ⟨b9, g9, rfl, hbr9, hbl9, hgb9, hp9, hb9⟩)
       have HK2 := hid (HK.out.step ((But.of_b bl1).trans hb9) hp9)
       have HE5 := hid (show formG n (stsG n []) (ps.drop (j + 1)) (.mk 0 s x1 x2 l []) (L.drop b9) = some out by rw [hbr9]; exact HE4.out)
       clear HK HC hp9 hb9 bl1 hbr9 HE4
       go_wp2
       go_roundw
       case rel => exact ⟨j + 1, b9, g9, s, x1, x2, l, A1, A2, A3, c1, c2, c3, by go_num, by go_num, by omega, hbl9, hgb9, HE5, HK2⟩
       case measure => simp [intOf]; omega
   | n =>
    ·skip
     have hc9 : wr.cell? ⟨b0, off + j, none⟩ = some (.string ⟨#[110]⟩) := hc
     clear hc
     have HC0 := hid (krname_any HK.out.ps b hb hgb)
     rcases PO.bind_some HE2.out with ⟨q, e1, e2⟩ | ⟨S2, q, e1, e2⟩
     ·have e1' := e1
      simp only [partG] at e1'
      rcases PO.bind_some e1' with ⟨q5, e3, e4⟩ | ⟨u5, q5, e3, e4⟩
      ·injection e4 with e5
       subst e5
       have HO := hid e2
       have e9 := Option.some.inj e3
       rw [e9] at HC0
       have HC := HC0
       clear HC0 e9
       clear e1 e1' e2 e3 HE2 HPX
       go_upto_region 14 with (go_at_call 82; refine HC.out.mono ?_; rintro e w9 ⟨x9, z9, g9, rfl, ⟨s9, rfl, hs9⟩, hfr, hp9, hb9⟩; have hk9 := HK.out.step hb9 hp9; have y0 := hk9.box.cell 1 _ rfl; have f0 := hk9.box.fr 1)
       have HK2 := hid (hk9.setName (s' := s9) (by omega))
       change Code.wp _ _ _ _ (setL w9 d 1 [.string s9])
       generalize (setL w9 d 1 [.string s9]) = W9 at *
       have HFR := hid hfr
       clear HK HC hp9 hb9 hk9 hfr y0 f0
       have y0 := HK2.out.box.cell 0 _ rfl; have y1 := HK2.out.box.cell 1 _ rfl; have y2 := HK2.out.box.cell 2 _ rfl; have y3 := HK2.out.box.cell 3 _ rfl; have y4 := HK2.out.box.cell 4 _ rfl; have y5 := HK2.out.box.cell 5 _ rfl; have y6 := HK2.out.box.cell 6 _ rfl; have y7 := HK2.out.box.cell 7 _ rfl; have y8 := HK2.out.box.cell 8 _ rfl; have y9 := HK2.out.box.cell 9 _ rfl; have y10 := HK2.out.box.cell 10 _ rfl; have y11 := HK2.out.box.cell 11 _ rfl
       have f0 := HK2.out.box.fr 0; have f1 := HK2.out.box.fr 1; have f2 := HK2.out.box.fr 2; have f3 := HK2.out.box.fr 3; have f4 := HK2.out.box.fr 4; have f5 := HK2.out.box.fr 5; have f6 := HK2.out.box.fr 6; have f7 := HK2.out.box.fr 7; have f8 := HK2.out.box.fr 8; have f9 := HK2.out.box.fr 9; have f10 := HK2.out.box.fr 10; have f11 := HK2.out.box.fr 11
       go_wp2
       exact ret_kstbox Tryz.results51 HK2.out.box rfl HK2.out hdw (.inr rfl) hkd (.inr ⟨_, HO.out, HFR.out, rfl⟩) rfl rfl rfl rfl (by simp only [setL, List.length_nil])
      ·cases e4
     ·have e1' := e1
      simp only [partG] at e1'
      rcases PO.bind_some e1' with ⟨q5, e3, e4⟩ | ⟨u5, q5, e3, e4⟩
      ·cases e4
      ·simp only [Option.some.injEq, PR.ok.injEq] at e4
       obtain ⟨rfl, rfl⟩ := e4
       have HE4 := hid e2
       have e9 := Option.some.inj e3
       rw [e9] at HC0
       have HC := HC0
       clear HC0 e9
       clear e1 e1' e2 e3 HE2 HPX
       go_upto_region 14 with (go_at_call 82; refine HC.out.mono ?_; rintro e w9 ⟨x9, b9, g9, rfl, ⟨rfl, hs9⟩, hbr9, hbl9, hgb9, hp9, hb9⟩; have hk9 := HK.out.step hb9 hp9; have y0 := hk9.box.cell 1 _ rfl; have f0 := hk9.box.fr 1)
       have HK2 := hid (hk9.setName (s' := u5) (by omega))
       change Code.wp _ _ _ _ (setL w9 d 1 [.string u5])
       generalize (setL w9 d 1 [.string u5]) = W9 at *
       have HE5 := hid (show formG n (stsG n []) (ps.drop (j + 1)) (.mk 0 u5 x1 x2 l []) (L.drop b9) = some out by rw [hbr9]; exact HE4.out)
       clear HK HC hp9 hb9 hk9 hbr9 HE4 y0 f0
       go_wp2
       go_roundw
       case rel => exact ⟨j + 1, b9, g9, u5, x1, x2, l, A1, A2, A3, c1, c2, c3, by go_num, by go_num, by omega, hbl9, hgb9, HE5, HK2⟩
       case measure => simp [intOf]; omega
   | a =>
    ·skip
     have hc9 : wr.cell? ⟨b0, off + j, none⟩ = some (.string ⟨#[97]⟩) := hc
     clear hc
     rcases PO.bind_some HE2.out with ⟨q, e1, e2⟩ | ⟨S2, q, e1, e2⟩
     ·have e1' := e1
      simp only [partG] at e1'
      rcases PO.bind_some e1' with ⟨q5, e3, e4⟩ | ⟨u5, q5, e3, e4⟩
      ·injection e4 with e5
       subst e5
       have HO := hid e2
       have HC := hid (kexpr_any n k g L wr b _ e3 HK.out.ps hb hgb)
       clear e1 e1' e2 e3 HE2 HPX
       go_upto_region 14 with (go_at_call 83; refine HC.out.mono ?_; rintro e w9 ⟨x9, z9, g9, rfl, ⟨t9, hx9⟩, hfr, hp9, hb9⟩; obtain ⟨A9, c9, rfl⟩ := hx9.form; have hk9 := HK.out.step hb9 hp9; have y0 := hk9.box.cell 2 _ rfl; have f0 := hk9.box.fr 2; have y1 := hk9.box.cell 3 _ rfl; have f1 := hk9.box.fr 3; have y2 := hk9.box.cell 4 _ rfl; have f2 := hk9.box.fr 4; have y3 := hk9.box.cell 5 _ rfl; have f3 := hk9.box.fr 5)
       have HK2 := hid (hk9.setA (rdE.to hx9 (lo' := d) (y' := d) hlw (.inl hdl)))
       change Code.wp _ _ _ _ (setL w9 d 2 [.int .i64 t9.kind, .int .i64 t9.num, .string t9.name, .slice A9 t9.args.length c9])
       generalize (setL w9 d 2 [.int .i64 t9.kind, .int .i64 t9.num, .string t9.name, .slice A9 t9.args.length c9]) = W9 at *
       have HFR := hid hfr
       clear HK HC hp9 hb9 hk9 hfr hx9 y0 y1 y2 y3 f0 f1 f2 f3
       have y0 := HK2.out.box.cell 0 _ rfl; have y1 := HK2.out.box.cell 1 _ rfl; have y2 := HK2.out.box.cell 2 _ rfl; have y3 := HK2.out.box.cell 3 _ rfl; have y4 := HK2.out.box.cell 4 _ rfl; have y5 := HK2.out.box.cell 5 _ rfl; have y6 := HK2.out.box.cell 6 _ rfl; have y7 := HK2.out.box.cell 7 _ rfl; have y8 := HK2.out.box.cell 8 _ rfl; have y9 := HK2.out.box.cell 9 _ rfl; have y10 := HK2.out.box.cell 10 _ rfl; have y11 := HK2.out.box.cell 11 _ rfl
       have f0 := HK2.out.box.fr 0; have f1 := HK2.out.box.fr 1; have f2 := HK2.out.box.fr 2; have f3 := HK2.out.box.fr 3; have f4 := HK2.out.box.fr 4; have f5 := HK2.out.box.fr 5; have f6 := HK2.out.box.fr 6; have f7 := HK2.out.box.fr 7; have f8 := HK2.out.box.fr 8; have f9 := HK2.out.box.fr 9; have f10 := HK2.out.box.fr 10; have f11 := HK2.out.box.fr 11
       go_wp2
       exact ret_kstbox Tryz.results51 HK2.out.box rfl HK2.out hdw (.inr rfl) hkd (.inr ⟨_, HO.out, HFR.out, rfl⟩) rfl rfl rfl rfl (by simp only [setL, List.length_nil])
      ·cases e4
     ·have e1' := e1
      simp only [partG] at e1'
      rcases PO.bind_some e1' with ⟨q5, e3, e4⟩ | ⟨u5, q5, e3, e4⟩
      ·cases e4
      ·simp only [Option.some.injEq, PR.ok.injEq] at e4
       obtain ⟨rfl, rfl⟩ := e4
       have HE4 := hid e2
       have HC := hid (kexpr_any n k g L wr b _ e3 HK.out.ps hb hgb)
       clear e1 e1' e2 e3 HE2 HPX
       go_upto_region 14 with (go_at_call 83; refine HC.out.mono ?_; rintro e w9 ⟨x9, b9, g9, rfl, hx9, hbr9, hbl9, hgb9, hp9, hb9⟩; obtain ⟨A9, c9, rfl⟩ := hx9.form; have hk9 := HK.out.step hb9 hp9; have y0 := hk9.box.cell 2 _ rfl; have f0 := hk9.box.fr 2; have y1 := hk9.box.cell 3 _ rfl; have f1 := hk9.box.fr 3; have y2 := hk9.box.cell 4 _ rfl; have f2 := hk9.box.fr 4; have y3 := hk9.box.cell 5 _ rfl; have f3 := hk9.box.fr 5)
       have HK2 := hid (hk9.setA (rdE.to hx9 (lo' := d) (y' := d) hlw (.inl hdl)))
       change Code.wp _ _ _ _ (setL w9 d 2 [.int .i64 u5.kind, .int .i64 u5.num, .string u5.name, .slice A9 u5.args.length c9])
       generalize (setL w9 d 2 [.int .i64 u5.kind, .int .i64 u5.num, .string u5.name, .slice A9 u5.args.length c9]) = W9 at *
       have HE5 := hid (show formG n (stsG n []) (ps.drop (j + 1)) (.mk 0 s u5 x2 l []) (L.drop b9) = some out by rw [hbr9]; exact HE4.out)
       clear HK HC hp9 hb9 hk9 hx9 hbr9 HE4 y0 y1 y2 y3 f0 f1 f2 f3
       go_wp2
       go_roundw
       case rel => exact ⟨j + 1, b9, g9, s, u5, x2, l, A9, A2, A3, c9, c2, c3, by go_num, by go_num, by omega, hbl9, hgb9, HE5, HK2⟩
       case measure => simp [intOf]; omega
   | b =>
    ·skip
     have hc9 : wr.cell? ⟨b0, off + j, none⟩ = some (.string ⟨#[98]⟩) := hc
     clear hc
     rcases PO.bind_some HE2.out with ⟨q, e1, e2⟩ | ⟨S2, q, e1, e2⟩
     ·have e1' := e1
      simp only [partG] at e1'
      rcases PO.bind_some e1' with ⟨q5, e3, e4⟩ | ⟨u5, q5, e3, e4⟩
      ·injection e4 with e5
       subst e5
       have HO := hid e2
       have HC := hid (kexpr_any n k g L wr b _ e3 HK.out.ps hb hgb)
       clear e1 e1' e2 e3 HE2 HPX
       go_upto_region 14 with (go_at_call 83; refine HC.out.mono ?_; rintro e w9 ⟨x9, z9, g9, rfl, ⟨t9, hx9⟩, hfr, hp9, hb9⟩; obtain ⟨A9, c9, rfl⟩ := hx9.form; have hk9 := HK.out.step hb9 hp9; have y0 := hk9.box.cell 6 _ rfl; have f0 := hk9.box.fr 6; have y1 := hk9.box.cell 7 _ rfl; have f1 := hk9.box.fr 7; have y2 := hk9.box.cell 8 _ rfl; have f2 := hk9.box.fr 8; have y3 := hk9.box.cell 9 _ rfl; have f3 := hk9.box.fr 9)
       have HK2 := hid (hk9.setB (rdE.to hx9 (lo' := d) (y' := d) hlw (.inl hdl)))
       change Code.wp _ _ _ _ (setL w9 d 6 [.int .i64 t9.kind, .int .i64 t9.num, .string t9.name, .slice A9 t9.args.length c9])
       generalize (setL w9 d 6 [.int .i64 t9.kind, .int .i64 t9.num, .string t9.name, .slice A9 t9.args.length c9]) = W9 at *
       have HFR := hid hfr
       clear HK HC hp9 hb9 hk9 hfr hx9 y0 y1 y2 y3 f0 f1 f2 f3
       have y0 := HK2.out.box.cell 0 _ rfl; have y1 := HK2.out.box.cell 1 _ rfl; have y2 := HK2.out.box.cell 2 _ rfl; have y3 := HK2.out.box.cell 3 _ rfl; have y4 := HK2.out.box.cell 4 _ rfl; have y5 := HK2.out.box.cell 5 _ rfl; have y6 := HK2.out.box.cell 6 _ rfl; have y7 := HK2.out.box.cell 7 _ rfl; have y8 := HK2.out.box.cell 8 _ rfl; have y9 := HK2.out.box.cell 9 _ rfl; have y10 := HK2.out.box.cell 10 _ rfl; have y11 := HK2.out.box.cell 11 _ rfl
       have f0 := HK2.out.box.fr 0; have f1 := HK2.out.box.fr 1; have f2 := HK2.out.box.fr 2; have f3 := HK2.out.box.fr 3; have f4 := HK2.out.box.fr 4; have f5 := HK2.out.box.fr 5; have f6 := HK2.out.box.fr 6; have f7 := HK2.out.box.fr 7; have f8 := HK2.out.box.fr 8; have f9 := HK2.out.box.fr 9; have f10 := HK2.out.box.fr 10; have f11 := HK2.out.box.fr 11
       go_wp2
       exact ret_kstbox Tryz.results51 HK2.out.box rfl HK2.out hdw (.inr rfl) hkd (.inr ⟨_, HO.out, HFR.out, rfl⟩) rfl rfl rfl rfl (by simp only [setL, List.length_nil])
      ·cases e4
     ·have e1' := e1
      simp only [partG] at e1'
      rcases PO.bind_some e1' with ⟨q5, e3, e4⟩ | ⟨u5, q5, e3, e4⟩
      ·cases e4
      ·simp only [Option.some.injEq, PR.ok.injEq] at e4
       obtain ⟨rfl, rfl⟩ := e4
       have HE4 := hid e2
       have HC := hid (kexpr_any n k g L wr b _ e3 HK.out.ps hb hgb)
       clear e1 e1' e2 e3 HE2 HPX
       go_upto_region 14 with (go_at_call 83; refine HC.out.mono ?_; rintro e w9 ⟨x9, b9, g9, rfl, hx9, hbr9, hbl9, hgb9, hp9, hb9⟩; obtain ⟨A9, c9, rfl⟩ := hx9.form; have hk9 := HK.out.step hb9 hp9; have y0 := hk9.box.cell 6 _ rfl; have f0 := hk9.box.fr 6; have y1 := hk9.box.cell 7 _ rfl; have f1 := hk9.box.fr 7; have y2 := hk9.box.cell 8 _ rfl; have f2 := hk9.box.fr 8; have y3 := hk9.box.cell 9 _ rfl; have f3 := hk9.box.fr 9)
       have HK2 := hid (hk9.setB (rdE.to hx9 (lo' := d) (y' := d) hlw (.inl hdl)))
       change Code.wp _ _ _ _ (setL w9 d 6 [.int .i64 u5.kind, .int .i64 u5.num, .string u5.name, .slice A9 u5.args.length c9])
       generalize (setL w9 d 6 [.int .i64 u5.kind, .int .i64 u5.num, .string u5.name, .slice A9 u5.args.length c9]) = W9 at *
       have HE5 := hid (show formG n (stsG n []) (ps.drop (j + 1)) (.mk 0 s x1 u5 l []) (L.drop b9) = some out by rw [hbr9]; exact HE4.out)
       clear HK HC hp9 hb9 hk9 hx9 hbr9 HE4 y0 y1 y2 y3 f0 f1 f2 f3
       go_wp2
       go_roundw
       case rel => exact ⟨j + 1, b9, g9, s, x1, u5, l, A1, A9, A3, c1, c9, c3, by go_num, by go_num, by omega, hbl9, hgb9, HE5, HK2⟩
       case measure => simp [intOf]; omega
   | B =>
    ·skip
     have hc9 : wr.cell? ⟨b0, off + j, none⟩ = some (.string ⟨#[66]⟩) := hc
     clear hc
     rcases PO.bind_some HE2.out with ⟨q, e1, e2⟩ | ⟨S2, q, e1, e2⟩
     ·have e1' := e1
      simp only [partG] at e1'
      rcases PO.bind_some e1' with ⟨q5, e3, e4⟩ | ⟨u5, q5, e3, e4⟩
      ·injection e4 with e5
       subst e5
       have HO := hid e2
       have HC := hid (kblk_any n HN.out k g L wr b _ e3 HK.out.ps hb hgb)
       clear e1 e1' e2 e3 HE2 HPX
       go_upto_region 14 with (go_at_call 53; refine HC.out.mono ?_; rintro e w9 ⟨x9, z9, g9, rfl, ⟨t9, hx9⟩, hfr, hp9, hb9⟩; obtain ⟨A9, c9, rfl⟩ := hx9.form; have hk9 := HK.out.step hb9 hp9; have y0 := hk9.box.cell 10 _ rfl; have f0 := hk9.box.fr 10)
       have HK2 := hid (hk9.setBody (rdS.to hx9 (lo' := d) (y' := d) hlw (.inl hdl)))
       change Code.wp _ _ _ _ (setL w9 d 10 [.slice A9 t9.length c9])
       generalize (setL w9 d 10 [.slice A9 t9.length c9]) = W9 at *
       have HFR := hid hfr
       clear HK HC hp9 hb9 hk9 hfr hx9 y0 f0
       have y0 := HK2.out.box.cell 0 _ rfl; have y1 := HK2.out.box.cell 1 _ rfl; have y2 := HK2.out.box.cell 2 _ rfl; have y3 := HK2.out.box.cell 3 _ rfl; have y4 := HK2.out.box.cell 4 _ rfl; have y5 := HK2.out.box.cell 5 _ rfl; have y6 := HK2.out.box.cell 6 _ rfl; have y7 := HK2.out.box.cell 7 _ rfl; have y8 := HK2.out.box.cell 8 _ rfl; have y9 := HK2.out.box.cell 9 _ rfl; have y10 := HK2.out.box.cell 10 _ rfl; have y11 := HK2.out.box.cell 11 _ rfl
       have f0 := HK2.out.box.fr 0; have f1 := HK2.out.box.fr 1; have f2 := HK2.out.box.fr 2; have f3 := HK2.out.box.fr 3; have f4 := HK2.out.box.fr 4; have f5 := HK2.out.box.fr 5; have f6 := HK2.out.box.fr 6; have f7 := HK2.out.box.fr 7; have f8 := HK2.out.box.fr 8; have f9 := HK2.out.box.fr 9; have f10 := HK2.out.box.fr 10; have f11 := HK2.out.box.fr 11
       go_wp2
       exact ret_kstbox Tryz.results51 HK2.out.box rfl HK2.out hdw (.inr rfl) hkd (.inr ⟨_, HO.out, HFR.out, rfl⟩) rfl rfl rfl rfl (by simp only [setL, List.length_nil])
      ·cases e4
     ·have e1' := e1
      simp only [partG] at e1'
      rcases PO.bind_some e1' with ⟨q5, e3, e4⟩ | ⟨u5, q5, e3, e4⟩
      ·cases e4
      ·simp only [Option.some.injEq, PR.ok.injEq] at e4
       obtain ⟨rfl, rfl⟩ := e4
       have HE4 := hid e2
       have HC := hid (kblk_any n HN.out k g L wr b _ e3 HK.out.ps hb hgb)
       clear e1 e1' e2 e3 HE2 HPX
       go_upto_region 14 with (go_at_call 53; refine HC.out.mono ?_; rintro e w9 ⟨x9, b9, g9, rfl, hx9, hbr9, hbl9, hgb9, hp9, hb9⟩; obtain ⟨A9, c9, rfl⟩ := hx9.form; have hk9 := HK.out.step hb9 hp9; have y0 := hk9.box.cell 10 _ rfl; have f0 := hk9.box.fr 10)
       have HK2 := hid (hk9.setBody (rdS.to hx9 (lo' := d) (y' := d) hlw (.inl hdl)))
       change Code.wp _ _ _ _ (setL w9 d 10 [.slice A9 u5.length c9])
       generalize (setL w9 d 10 [.slice A9 u5.length c9]) = W9 at *
       have HE5 := hid (show formG n (stsG n []) (ps.drop (j + 1)) (.mk 0 s x1 x2 u5 []) (L.drop b9) = some out by rw [hbr9]; exact HE4.out)
       clear HK HC hp9 hb9 hk9 hx9 hbr9 HE4 y0 f0
       go_wp2
       go_roundw
       case rel => exact ⟨j + 1, b9, g9, s, x1, x2, u5, A1, A2, A9, c1, c2, c9, by go_num, by go_num, by omega, hbl9, hgb9, HE5, HK2⟩
       case measure => simp [intOf]; omega
  ·have hje : j = ps.length := by omega
   subst hje
   have HO := hid (show out = .ok (.mk 0 s x1 x2 l []) (L.drop b) by have h := HE.out; rw [List.drop_length, formG] at h; exact (Option.some.inj h).symm)
   clear HE
   have y0 := HK.out.box.cell 0 _ rfl; have y1 := HK.out.box.cell 1 _ rfl; have y2 := HK.out.box.cell 2 _ rfl; have y3 := HK.out.box.cell 3 _ rfl; have y4 := HK.out.box.cell 4 _ rfl; have y5 := HK.out.box.cell 5 _ rfl; have y6 := HK.out.box.cell 6 _ rfl; have y7 := HK.out.box.cell 7 _ rfl; have y8 := HK.out.box.cell 8 _ rfl; have y9 := HK.out.box.cell 9 _ rfl; have y10 := HK.out.box.cell 10 _ rfl; have y11 := HK.out.box.cell 11 _ rfl
   have f0 := HK.out.box.fr 0; have f1 := HK.out.box.fr 1; have f2 := HK.out.box.fr 2; have f3 := HK.out.box.fr 3; have f4 := HK.out.box.fr 4; have f5 := HK.out.box.fr 5; have f6 := HK.out.box.fr 6; have f7 := HK.out.box.fr 7; have f8 := HK.out.box.fr 8; have f9 := HK.out.box.fr 9; have f10 := HK.out.box.fr 10; have f11 := HK.out.box.fr 11
   go_wp2
   exact ret_kstbox Tryz.results51 HK.out.box rfl HK.out hdw (.inr rfl) hkd (.inl ⟨_, b, HO.out, rfl, hb, hgb, rfl, rfl⟩) rfl rfl rfl rfl (by simp only [setL, List.length_nil])
end Go.Proofs.YtnpgpcnkdocknaaGreatDoor
