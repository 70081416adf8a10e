/- The reader of KParse: statements under way; block (its upper part is made from Pq7 by wip/tools/gen_kq6.py). -/
import Derived.Test.YtijahadmaggncaaDoorKq5
import Derived.Test.YtijahadmaggncaaDoorPq9
namespace Go.Proofs.YtijahadmaggncaaDoor
open Go.RowKit
set_option linter.unusedVariables false
/-- a statement under way: in box d1 -/
structure KSt (d : Nat) (z : List Value) (p lo d1 : Nat) (L : List LTok) (w W : World) (g : Nat) (k : Int) (s : Str) (a b : Ex) (l m : List St) (A1 A2 A3 A4 : Option Addr) (c1 c2 c3 c4 : Nat) : Prop where
  pl : p < lo
  pd : p < d1
  wl : w.heap.size ≤ lo
  wd : w.heap.size ≤ d1
  hk : inI k
  hs : s.size ≤ 140737488355328
  bt : But (Is p) w W
  ps : RkAt p L W g
  box : Blk 0 W d1 (stC k s a b l m A1 A2 A3 A4 c1 c2 c3 c4)
  xa : rdE lo d1 W a (exV a.kind a.num a.name (.slice A1 a.args.length c1))
  xb : rdE lo d1 W b (exV b.kind b.num b.name (.slice A2 b.args.length c2))
  xl : rdS lo d1 W l (.slice A3 l.length c3)
  xm : rdS lo d1 W m (.slice A4 m.length c4)
  lw : lo ≤ W.heap.size
  res : z ≠ [] → d ≠ p ∧ d ≠ d1 ∧ Blk 0 W d z
section
variable {d : Nat} {z : List Value} {p lo d1 : Nat} {L : List LTok} {g g' : Nat} {w W W' : World} {k k' : Int} {s : Str} {a b a' : Ex} {l m l' : List St} {A1 A2 A3 A4 A' : Option Addr} {c1 c2 c3 c4 c' : Nat}
theorem KSt.step (h : KSt d z p lo d1 L w W g k s a b l m A1 A2 A3 A4 c1 c2 c3 c4) (hb : But (Is p) W W') (hp : RkAt p L W' g') : KSt d z p lo d1 L w W' g' k s a b l m A1 A2 A3 A4 c1 c2 c3 c4 :=
  ⟨h.pl, h.pd, h.wl, h.wd, h.hk, h.hs, h.bt.trans hb, hp, h.box.but hb (fun e => by have := h.pd; unfold Is at e; omega), h.xa.but hb (.inl h.pl), h.xb.but hb (.inl h.pl), h.xl.but hb (.inl h.pl), h.xm.but hb (.inl h.pl), Nat.le_trans h.lw hb.size, fun hz => ⟨(h.res hz).1, (h.res hz).2.1, (h.res hz).2.2.but hb (fun e => (h.res hz).1 e)⟩⟩
theorem KSt.lt (h : KSt d z p lo d1 L w W g k s a b l m A1 A2 A3 A4 c1 c2 c3 c4) : d1 < W.heap.size := h.box.lt
theorem KSt.pW (h : KSt d z p lo d1 L w W g k s a b l m A1 A2 A3 A4 c1 c2 c3 c4) : p < W.heap.size := h.ps.lt
theorem KSt.setName {s' : Str} (h : KSt d z p lo d1 L w W g k s a b l m A1 A2 A3 A4 c1 c2 c3 c4) (hs' : s'.size ≤ 140737488355328) : KSt d z p lo d1 L w (setL W d1 1 [.string s']) g k s' a b l m A1 A2 A3 A4 c1 c2 c3 c4 :=
  have hb := setL_is W d1 1 [.string s']
  ⟨h.pl, h.pd, h.wl, h.wd, h.hk, hs', setL_but (.inr h.wd) _ _ _ h.bt, h.ps.but hb h.pd, setL_blk _ _ _ _ h.box (by simp), h.xa.but hb (.inr rfl), h.xb.but hb (.inr rfl), h.xl.but hb (.inr rfl), h.xm.but hb (.inr rfl), Nat.le_trans h.lw hb.size, fun hz => ⟨(h.res hz).1, (h.res hz).2.1, (h.res hz).2.2.but hb (fun e => (h.res hz).2.1 e)⟩⟩
theorem KSt.setA (h : KSt d z p lo d1 L w W g k s a b l m A1 A2 A3 A4 c1 c2 c3 c4) (hx : rdE lo d1 W a' (exV a'.kind a'.num a'.name (.slice A' a'.args.length c'))) : KSt d z p lo d1 L w (setL W d1 2 [.int .i64 a'.kind, .int .i64 a'.num, .string a'.name, .slice A' a'.args.length c']) g k s a' b l m A' A2 A3 A4 c' c2 c3 c4 :=
  have hb := setL_is W d1 2 [.int .i64 a'.kind, .int .i64 a'.num, .string a'.name, .slice A' a'.args.length c']
  ⟨h.pl, h.pd, h.wl, h.wd, h.hk, h.hs, setL_but (.inr h.wd) _ _ _ h.bt, h.ps.but hb h.pd, setL_blk _ _ _ _ h.box (by simp), hx.but hb (.inr rfl), h.xb.but hb (.inr rfl), h.xl.but hb (.inr rfl), h.xm.but hb (.inr rfl), Nat.le_trans h.lw hb.size, fun hz => ⟨(h.res hz).1, (h.res hz).2.1, (h.res hz).2.2.but hb (fun e => (h.res hz).2.1 e)⟩⟩
theorem KSt.setB (h : KSt d z p lo d1 L w W g k s a b l m A1 A2 A3 A4 c1 c2 c3 c4) (hx : rdE lo d1 W a' (exV a'.kind a'.num a'.name (.slice A' a'.args.length c'))) : KSt d z p lo d1 L w (setL W d1 6 [.int .i64 a'.kind, .int .i64 a'.num, .string a'.name, .slice A' a'.args.length c']) g k s a a' l m A1 A' A3 A4 c1 c' c3 c4 :=
  have hb := setL_is W d1 6 [.int .i64 a'.kind, .int .i64 a'.num, .string a'.name, .slice A' a'.args.length c']
  ⟨h.pl, h.pd, h.wl, h.wd, h.hk, h.hs, setL_but (.inr h.wd) _ _ _ h.bt, h.ps.but hb h.pd, setL_blk _ _ _ _ h.box (by simp), h.xa.but hb (.inr rfl), hx.but hb (.inr rfl), h.xl.but hb (.inr rfl), h.xm.but hb (.inr rfl), Nat.le_trans h.lw hb.size, fun hz => ⟨(h.res hz).1, (h.res hz).2.1, (h.res hz).2.2.but hb (fun e => (h.res hz).2.1 e)⟩⟩
theorem KSt.setBody (h : KSt d z p lo d1 L w W g k s a b l m A1 A2 A3 A4 c1 c2 c3 c4) (hx : rdS lo d1 W l' (.slice A' l'.length c')) : KSt d z p lo d1 L w (setL W d1 10 [.slice A' l'.length c']) g k s a b l' m A1 A2 A' A4 c1 c2 c' c4 :=
  have hb := setL_is W d1 10 [.slice A' l'.length c']
  ⟨h.pl, h.pd, h.wl, h.wd, h.hk, h.hs, setL_but (.inr h.wd) _ _ _ h.bt, h.ps.but hb h.pd, setL_blk _ _ _ _ h.box (by simp), h.xa.but hb (.inr rfl), h.xb.but hb (.inr rfl), hx.but hb (.inr rfl), h.xm.but hb (.inr rfl), Nat.le_trans h.lw hb.size, fun hz => ⟨(h.res hz).1, (h.res hz).2.1, (h.res hz).2.2.but hb (fun e => (h.res hz).2.1 e)⟩⟩
theorem KSt.setElse (h : KSt d z p lo d1 L w W g k s a b l m A1 A2 A3 A4 c1 c2 c3 c4) (hx : rdS lo d1 W l' (.slice A' l'.length c')) : KSt d z p lo d1 L w (setL W d1 11 [.slice A' l'.length c']) g k s a b l l' A1 A2 A3 A' c1 c2 c3 c' :=
  have hb := setL_is W d1 11 [.slice A' l'.length c']
  ⟨h.pl, h.pd, h.wl, h.wd, h.hk, h.hs, setL_but (.inr h.wd) _ _ _ h.bt, h.ps.but hb h.pd, setL_blk _ _ _ _ h.box (by simp), h.xa.but hb (.inr rfl), h.xb.but hb (.inr rfl), h.xl.but hb (.inr rfl), hx.but hb (.inr rfl), Nat.le_trans h.lw hb.size, fun hz => ⟨(h.res hz).1, (h.res hz).2.1, (h.res hz).2.2.but hb (fun e => (h.res hz).2.1 e)⟩⟩
theorem KSt.setKind (h : KSt d z p lo d1 L w W g k s a b l m A1 A2 A3 A4 c1 c2 c3 c4) (hk' : inI k') : KSt d z p lo d1 L w (setL W d1 0 [.int .i64 k']) g k' s a b l m A1 A2 A3 A4 c1 c2 c3 c4 :=
  have hb := setL_is W d1 0 [.int .i64 k']
  ⟨h.pl, h.pd, h.wl, h.wd, hk', h.hs, setL_but (.inr h.wd) _ _ _ h.bt, h.ps.but hb h.pd, setL_blk _ _ _ _ h.box (by simp), h.xa.but hb (.inr rfl), h.xb.but hb (.inr rfl), h.xl.but hb (.inr rfl), h.xm.but hb (.inr rfl), Nat.le_trans h.lw hb.size, fun hz => ⟨(h.res hz).1, (h.res hz).2.1, (h.res hz).2.2.but hb (fun e => (h.res hz).2.1 e)⟩⟩
theorem KSt.rd (h : KSt d z p lo d1 L w W g k s a b l m A1 A2 A3 A4 c1 c2 c3 c4) : RdSt W (Rn lo d1 W) (.mk k s a b l m) (stC k s a b l m A1 A2 A3 A4 c1 c2 c3 c4) :=
  RdSt.shut h.hk h.hs (RdE.toX h.xa) (RdE.toX h.xb) h.xl h.xm
/-- a box that was just made -/
theorem KSt.made (hp : RkAt p L W g) (hpl : p < lo) (hwl : w.heap.size ≤ lo) (hwW : w.heap.size ≤ W.heap.size) (hk : inI k) (hs : s.size ≤ 140737488355328) (hb : But (Is p) w W)
    (xa : rdE lo W.heap.size W a (exV a.kind a.num a.name (.slice A1 a.args.length c1))) (xl : rdS lo W.heap.size W l (.slice A3 l.length c3)) (hlo : lo ≤ W.heap.size) (hres : z ≠ [] → d ≠ p ∧ Blk 0 W d z) :
    KSt d z p lo W.heap.size L w (W.alloc (.cells (stC k s a noX l [] A1 none A3 none c1 0 c3 0).toArray 76)) g k s a noX l [] A1 none A3 none c1 0 c3 0 :=
  have bl : Below W.heap.size W (W.alloc (.cells (stC k s a noX l [] A1 none A3 none c1 0 c3 0).toArray 76)) := (Below.refl _ _).alloc (Nat.le_refl _) _
  ⟨hpl, hp.lt, hwl, hwW, hk, hs, hb.trans (But.of_b bl), hp.below bl, Blk.made W _ _ (Nat.zero_le _), xa.below bl, rdE.no _ _ _, xl.below bl, rdS.nil _ _ _, Nat.le_trans hlo bl.size, fun hz => ⟨(hres hz).1, Nat.ne_of_lt (hres hz).2.lt, (hres hz).2.below bl⟩⟩
/-- a statement in the result's box is handed back, with two more -/
theorem ret_kst {fn : Func} {R : Ending → World → Prop} {act : Act} {T T1 T2 G base : Nat} {z1 : Int} {ok : Bool} (hr : fn.results = #[.cell T 76, .tmp T1, .tmp T2]) (ht : act.tmps.getD T undef = .pointer (some ⟨G, 0, none⟩)) (h1 : act.tmps.getD T1 undef = .int .i64 z1) (h2 : act.tmps.getD T2 undef = .bool ok) (hd : act.defers = [])
    (B : Blk base w G (stC k s a b l m A1 A2 A3 A4 c1 c2 c3 c4)) (h : R (.returned (.tuple #[.agg (stC k s a b l m A1 A2 A3 A4 c1 c2 c3 c4).toArray, .int .i64 z1, .bool ok])) w) : bodyPost Tryd.prog fn R .ret act w := by
  have r0 := B.cell 0 _ rfl; have r1 := B.cell 1 _ rfl; have r2 := B.cell 2 _ rfl; have r3 := B.cell 3 _ rfl; have r4 := B.cell 4 _ rfl; have r5 := B.cell 5 _ rfl; have r6 := B.cell 6 _ rfl; have r7 := B.cell 7 _ rfl; have r8 := B.cell 8 _ rfl; have r9 := B.cell 9 _ rfl; have r10 := B.cell 10 _ rfl; have r11 := B.cell 11 _ rfl
  rw [Array.getD_eq_getD_getElem?] at ht h1 h2
  exact bodyPost_ret (v := .tuple #[.agg (stC k s a b l m A1 A2 A3 A4 c1 c2 c3 c4).toArray, .int .i64 z1, .bool ok]) (by simp [results, hr, ht, h1, h2, go_sem, r0, r1, r2, r3, r4, r5, r6, r7, r8, r9, r10, r11]) hd h
/-- the end: the statement is stored into the result's box (which may be its own) and handed back -/
theorem ret_kstbox {fn : Func} {act : Act} {T T1 T2 e : Nat} {z1 : Int} {ok : Bool} {out : PR St} {zs : List Value} (hr : fn.results = #[.cell T 76, .tmp T1, .tmp T2]) (hB : Blk 0 W e zs) (hz : zs.length = 12) (h : KSt d z p lo d1 L w W g k s a b l m A1 A2 A3 A4 c1 c2 c3 c4) (hde : w.heap.size ≤ e) (hdl : e < lo ∨ e = d1) (hpe : p < e)
    (ho : (∃ (r : List LTok) (b9 : Nat), out = .ok (.mk k s a b l m) r ∧ L.drop b9 = r ∧ b9 ≤ L.length ∧ g ≤ b9 ∧ z1 = (b9 : Int) ∧ ok = true) ∨ (∃ r, out = .no r ∧ L.drop g = r ∧ ok = false)) (ht : act.tmps.getD T undef = .pointer (some ⟨e, 0, none⟩)) (h1 : act.tmps.getD T1 undef = .int .i64 z1) (h2 : act.tmps.getD T2 undef = .bool ok) (hd : act.defers = []) {W9 : World} (hw9 : W9 = setL W e 0 (stC k s a b l m A1 A2 A3 A4 c1 c2 c3 c4)) :
    bodyPost Tryd.prog fn (KOut p L w (rdSt w.heap.size p) out) .ret act W9 := by
  subst hw9
  have hb := setL_is W e 0 (stC k s a b l m A1 A2 A3 A4 c1 c2 c3 c4)
  have hB2 := setL_blk (stC k s a b l m A1 A2 A3 A4 c1 c2 c3 c4) W 0 zs hB (by rw [hz]; simp)
  have e1 : setV zs 0 (stC k s a b l m A1 A2 A3 A4 c1 c2 c3 c4) = stC k s a b l m A1 A2 A3 A4 c1 c2 c3 c4 := by
    match zs, hz with
    | [_, _, _, _, _, _, _, _, _, _, _, _], _ => rfl
  rw [e1] at hB2
  have hr2 := RdSt.keeps _ _ _ _ _ _ (Rn.sub hb.size) (Rn.same hb hdl) h.rd
  have hr3 : RdSt (setL W e 0 (stC k s a b l m A1 A2 A3 A4 c1 c2 c3 c4)) (Rn w.heap.size p (setL W e 0 (stC k s a b l m A1 A2 A3 A4 c1 c2 c3 c4))) (.mk k s a b l m) (stC k s a b l m A1 A2 A3 A4 c1 c2 c3 c4) := RdSt.keeps _ _ _ _ _ _ (Rn.to h.wl (.inl h.pl)) (Same.refl _ _) hr2
  rcases ho with ⟨r, b9, rfl, h3, h4, h5, rfl, rfl⟩ | ⟨r, rfl, h3, rfl⟩
  · exact ret_kst hr ht h1 h2 hd hB2 ⟨_, b9, g, rfl, ⟨_, rfl, hr3⟩, h3, h4, h5, h.ps.but hb hpe, setL_but (.inr hde) _ _ _ h.bt⟩
  · exact ret_kst hr ht h1 h2 hd hB2 ⟨_, z1, g, rfl, ⟨_, _, rfl, hr3⟩, h3, h.ps.but hb hpe, setL_but (.inr hde) _ _ _ h.bt⟩
end
/-- as KOut, with the farthest one told: the end -/
def KOutS {α : Type} (k : Nat) (L : List LTok) (w : World) (rd : World → α → Value → Prop) (o : PR α) (e : Ending) (w' : World) : Prop :=
  match o with
  | .ok x r => ∃ (V : Value) (b : Nat), e = .returned (.tuple #[V, .int .i64 (b : Int), .bool true]) ∧ rd w' x V ∧ L.drop b = r ∧ b ≤ L.length ∧ RkAt k L w' b ∧ But (Is k) w w'
  | .no r => ∃ (V : Value) (z : Int) (f : Nat), e = .returned (.tuple #[V, .int .i64 z, .bool false]) ∧ (∃ x, rd w' x V) ∧ L.drop f = r ∧ RkAt k L w' f ∧ But (Is k) w w'
theorem KOutS.out {α : Type} {k : Nat} {L : List LTok} {w : World} {rd : World → α → Value → Prop} {o : PR α} : ∀ (e : Ending) (w' : World), KOutS k L w rd o e w' → KOut k L w rd o e w' := by
  intro e w' h
  cases o with
  | no r => exact h
  | ok x r =>
    obtain ⟨V, b, h1, h2, h3, h4, h5, h6⟩ := h
    exact ⟨V, b, b, h1, h2, h3, h4, Nat.le_refl _, h5, h6⟩
/-- the bounds on statements' rows -/
def KSs (n : Nat) : Prop := ∀ (k f : Nat) (L : List LTok) (w : World) (a : Nat) (out : PR (List St)), stsG n [] (L.drop a) = some out → RkAt k L w f → a ≤ L.length → f ≤ a →
  Calls Tryd.prog 27 #[.pointer (some ⟨k, 0, none⟩), .int .i64 (a : Int)] w (KOutS k L w (rdS w.heap.size k) out)
set_option maxHeartbeats 1000000 in
set_option maxRecDepth 100000 in
theorem kblk_any (n : Nat) (hn : KSs n) (k f : Nat) (L : List LTok) (w : World) (a : Nat) (out : PR (List St)) (ho : blockG (stsG n []) (L.drop a) = some out) (h : RkAt k L w f) (ha : a ≤ L.length) (hf : f ≤ a) :
    Calls Tryd.prog 87 #[.pointer (some ⟨k, 0, none⟩), .int .i64 (a : Int)] w (KOut k L w (rdS w.heap.size k) out) := by
  unfold blockG at ho
  have hlt := h.lt
  have bl1 : Below w.heap.size w (w.alloc (.cells #[.string ⟨#[123]⟩] 9)) := (Below.refl _ _).alloc (Nat.le_refl _) _
  have HW := Lib.hid (kwords_any (h.below bl1) a ha hf (show WordsAt k (w.alloc (.cells #[.string ⟨#[123]⟩] 9)) [bz [123]] (.slice (some ⟨w.heap.size, 0, none⟩) 1 1) from words1 w (bz [123]) (by unfold okS; decide) hlt))
  have HB1 := Lib.hid (But.of_b (T := Is k) bl1)
  clear h bl1
  rcases PO.bind_some ho with ⟨q, e1, e2⟩ | ⟨u, q, e1, e2⟩
  · have e3 := Option.some.inj e1
    rw [e3] at HW
    have HO := Lib.hid e2
    clear e1 e2 e3 ho
    go_enter Tryd.func87, Tryd.ntmps87
    go_wp2_with (go_at_call 122; refine HW.out.mono ?_; rintro e w4 ⟨z, g, rfl, hfr, hp4, hb4⟩)
    go_ret3
    rw [HO.out]
    exact ⟨_, _, g, rfl, ⟨[], rdS.nil _ _ _⟩, hfr, hp4, HB1.out.trans hb4⟩
  · have e3 := Option.some.inj e1
    rw [e3] at HW
    have HE := Lib.hid e2
    have HN := Lib.hid hn
    clear e1 e2 e3 ho hn
    go_enter Tryd.func87, Tryd.ntmps87
    go_upto_region 2 with (go_at_call 122; refine HW.out.mono ?_; rintro e w4 ⟨b4, g4, rfl, hbr4, hbl4, hgb4, hp4, hb4⟩)
    have HB4 := Lib.hid (HB1.out.trans hb4)
    have HP4 := Lib.hid hp4
    have hz4 := HB4.out.size
    rw [← hbr4] at HE
    clear hb4 hp4 HB1 HW hbr4
    rcases PO.bind_some HE.out with ⟨r, e1, e2⟩ | ⟨l, r, e1, e2⟩
    · have HO := Lib.hid e2
      have HC := Lib.hid ((HN.out k g4 L w4 b4 _ e1 HP4.out hbl4 hgb4).mono KOutS.out)
      clear e1 e2 HE HN
      go_wp2_with (go_at_call 27; refine HC.out.mono ?_; rintro e w5 ⟨x, z, g, rfl, ⟨l5, hx⟩, hfr, hp5, hb5⟩; obtain ⟨A, c, rfl⟩ := hx.form)
      go_ret3
      rw [HO.out]
      exact ⟨_, _, g, rfl, ⟨[], rdS.nil _ _ _⟩, hfr, hp5, HB4.out.trans hb5⟩
    · have HC := Lib.hid ((HN.out k g4 L w4 b4 _ e1 HP4.out hbl4 hgb4).mono KOutS.out)
      have HE2 := Lib.hid e2
      clear e1 e2 HE HN
      go_upto_region 7 with (go_at_call 27; refine HC.out.mono ?_; rintro e w5 ⟨x, b5, g5, rfl, hx, hbr5, hbl5, hgb5, hp5, hb5⟩; obtain ⟨A, c, rfl⟩ := hx.form)
      have HB5 := Lib.hid (HB4.out.trans hb5)
      have HX5 := Lib.hid (hx.to (lo' := w.heap.size) (y' := k) hz4 (.inr (.inr rfl)))
      have bl6 : Below w5.heap.size w5 (w5.alloc (.cells #[.string ⟨#[125]⟩] 9)) := (Below.refl _ _).alloc (Nat.le_refl _) _
      have HW := Lib.hid (kwords_any (hp5.below bl6) b5 hbl5 hgb5 (show WordsAt k (w5.alloc (.cells #[.string ⟨#[125]⟩] 9)) [bz [125]] (.slice (some ⟨w5.heap.size, 0, none⟩) 1 1) from words1 w5 (bz [125]) (by unfold okS; decide) hp5.lt))
      have HB6 := Lib.hid (HB5.out.trans (But.of_b bl6))
      have HX6 := Lib.hid (HX5.out.below bl6)
      rw [← hbr5] at HE2
      clear hx hp5 hb5 bl6 HB5 HX5 HC HB4 HP4 hbr5
      rcases PO.bind_some HE2.out with ⟨q2, e1, e2⟩ | ⟨u, q2, e1, e2⟩
      · have e3 := Option.some.inj e1
        rw [e3] at HW
        have HO := Lib.hid e2
        clear e1 e2 e3 HE2
        go_wp2_with (go_at_call 122; refine HW.out.mono ?_; rintro e w7 ⟨z7, g7, rfl, hfr7, hp7, hb7⟩)
        go_ret3
        rw [HO.out]
        exact ⟨_, _, g7, rfl, ⟨l, HX6.out.but hb7 (.inl hlt)⟩, hfr7, hp7, HB6.out.trans hb7⟩
      · have e3 := Option.some.inj e1
        rw [e3] at HW
        have HO := Lib.hid (Option.some.inj e2).symm
        clear e1 e2 e3 HE2
        go_wp2_with (go_at_call 122; refine HW.out.mono ?_; rintro e w7 ⟨b7, g7, rfl, hbr7, hbl7, hgb7, hp7, hb7⟩)
        go_ret3
        rw [HO.out]
        exact ⟨_, b7, g7, rfl, HX6.out.but hb7 (.inl hlt), hbr7, hbl7, hgb7, hp7, HB6.out.trans hb7⟩
end Go.Proofs.YtijahadmaggncaaDoor
