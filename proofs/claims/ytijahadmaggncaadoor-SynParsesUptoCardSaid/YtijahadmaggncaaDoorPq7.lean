/- The parser of syn.Parse: statements under way; block. -/
import Derived.Test.YtijahadmaggncaaDoorPq6
namespace Go.Proofs.YtijahadmaggncaaDoor
open Go.RowKit
set_option linter.unusedVariables false
/-- cells stored one by one -/
def setL (w : World) (R : Nat) : Nat → List Value → World
  | _, [] => w
  | o, v :: vs => setL (w.setCell ⟨R, o, none⟩ v) R (o + 1) vs
def setV : List Value → Nat → List Value → List Value
  | l, _, [] => l
  | l, o, v :: vs => setV (l.set o v) (o + 1) vs
theorem setL_blk {base R : Nat} : ∀ (vs : List Value) (w : World) (o : Nat) (l : List Value), Blk base w R l → o + vs.length ≤ l.length → Blk base (setL w R o vs) R (setV l o vs)
  | [], w, o, l, h, _ => h
  | v :: vs, w, o, l, h, hl => setL_blk vs _ _ _ (h.set (i := o) (by simp only [List.length_cons] at hl; omega) v) (by simp only [List.length_cons, List.length_set] at *; omega)
theorem setL_but {T : Blocks} {a : World} {R : Nat} (hR : T R ∨ a.heap.size ≤ R) : ∀ (vs : List Value) (w : World) (o : Nat), But T a w → But T a (setL w R o vs)
  | [], w, o, h => h
  | v :: vs, w, o, h => setL_but hR vs _ _ (h.setNew (p := ⟨R, o, none⟩) hR v)
theorem setL_is (W : World) (R o : Nat) (vs : List Value) : But (Is R) W (setL W R o vs) := setL_but (.inl (show Is R R from rfl)) vs W o (But.refl _ _)
def rdS (lo y : Nat) (w : World) (l : List St) (V : Value) : Prop := RdSts w (Rn lo y w) l V
section
variable {w w' : World} {lo y z lo' y' : Nat} {l : List St} {V : Value}
theorem rdS.but (h : rdS lo y w l V) (hb : But (Is z) w w') (hz : z < lo ∨ z = y) : rdS lo y w' l V := RdL.keep h RdSt.keeps (Rn.sub hb.size) (Rn.same hb hz)
theorem rdS.below (h : rdS lo y w l V) (hb : Below w.heap.size w w') : rdS lo y w' l V := RdL.keep h RdSt.keeps (Rn.sub hb.size) (same_of_below hb Rn.upto)
theorem rdS.to (h : rdS lo y w l V) (hl : lo' ≤ lo) (hy : y' < lo ∨ w.heap.size ≤ y' ∨ y' = y) : rdS lo' y' w l V := RdL.sub h RdSt.keeps (Rn.to hl hy)
theorem rdS.form (h : rdS lo y w l V) : ∃ A c, V = .slice A l.length c := by obtain ⟨A, c, h1, _⟩ := RdL.form h; exact ⟨A, c, h1⟩
theorem rdS.nil (lo y : Nat) (w : World) : rdS lo y w [] (.slice none 0 0) := RdL.nil (by unfold maxLen; omega)
theorem rdE.no (lo y : Nat) (w : World) : rdE lo y w noX (exV noX.kind noX.num noX.name (.slice none noX.args.length 0)) := RdE.leaf _ _ (by decide) (by decide) (by decide)
end
/-- a statement's cells -/
abbrev stC (k : Int) (s : Str) (a b : Ex) (l m : List St) (A1 A2 A3 A4 : Option Addr) (c1 c2 c3 c4 : Nat) : List Value :=
  [.int .i64 k, .string s, .int .i64 a.kind, .int .i64 a.num, .string a.name, .slice A1 a.args.length c1, .int .i64 b.kind, .int .i64 b.num, .string b.name, .slice A2 b.args.length c2, .slice A3 l.length c3, .slice A4 m.length c4]
def rdSt (lo y : Nat) (w : World) (st : St) (V : Value) : Prop := ∃ cs, V = .agg cs.toArray ∧ RdSt w (Rn lo y w) st cs
/-- a statement under way: in box d1 -/
structure BSt (d : Nat) (z : List Value) (p lo d1 : Nat) (en : En) (w W : World) (q : List LTok) (k : Int) (s : Str) (a b : Ex) (l m : List St) (A1 A2 A3 A4 : Option Addr) (c1 c2 c3 c4 : Nat) : Prop where
  pl : p < lo
  pd : p < d1
  wl : w.heap.size ≤ lo
  wd : w.heap.size ≤ d1
  hk : inI k
  hs : s.size ≤ 140737488355328
  bt : But (Is p) w W
  ps : PsAt p en W q
  box : Blk 0 W d1 (stC k s a b l m A1 A2 A3 A4 c1 c2 c3 c4)
  xa : rdE lo d1 W a (exV a.kind a.num a.name (.slice A1 a.args.length c1))
  xb : rdE lo d1 W b (exV b.kind b.num b.name (.slice A2 b.args.length c2))
  xl : rdS lo d1 W l (.slice A3 l.length c3)
  xm : rdS lo d1 W m (.slice A4 m.length c4)
  lw : lo ≤ W.heap.size
  res : z ≠ [] → d ≠ p ∧ d ≠ d1 ∧ Blk 0 W d z
section
variable {d : Nat} {z : List Value} {p lo d1 : Nat} {en : En} {w W W' : World} {q q' : List LTok} {k k' : Int} {s : Str} {a b a' : Ex} {l m l' : List St} {A1 A2 A3 A4 A' : Option Addr} {c1 c2 c3 c4 c' : Nat}
theorem BSt.step (h : BSt d z p lo d1 en w W q k s a b l m A1 A2 A3 A4 c1 c2 c3 c4) (hb : But (Is p) W W') (hp : PsAt p en W' q') : BSt d z p lo d1 en w W' q' k s a b l m A1 A2 A3 A4 c1 c2 c3 c4 :=
  ⟨h.pl, h.pd, h.wl, h.wd, h.hk, h.hs, h.bt.trans hb, hp, h.box.but hb (fun e => by have := h.pd; unfold Is at e; omega), h.xa.but hb (.inl h.pl), h.xb.but hb (.inl h.pl), h.xl.but hb (.inl h.pl), h.xm.but hb (.inl h.pl), Nat.le_trans h.lw hb.size, fun hz => ⟨(h.res hz).1, (h.res hz).2.1, (h.res hz).2.2.but hb (fun e => (h.res hz).1 e)⟩⟩
theorem BSt.lt (h : BSt d z p lo d1 en w W q k s a b l m A1 A2 A3 A4 c1 c2 c3 c4) : d1 < W.heap.size := h.box.lt
theorem BSt.pW (h : BSt d z p lo d1 en w W q k s a b l m A1 A2 A3 A4 c1 c2 c3 c4) : p < W.heap.size := h.ps.lt
theorem BSt.setA (h : BSt d z p lo d1 en w W q k s a b l m A1 A2 A3 A4 c1 c2 c3 c4) (hx : rdE lo d1 W a' (exV a'.kind a'.num a'.name (.slice A' a'.args.length c'))) : BSt d z p lo d1 en w (setL W d1 2 [.int .i64 a'.kind, .int .i64 a'.num, .string a'.name, .slice A' a'.args.length c']) q k s a' b l m A' A2 A3 A4 c' c2 c3 c4 :=
  have hb := setL_is W d1 2 [.int .i64 a'.kind, .int .i64 a'.num, .string a'.name, .slice A' a'.args.length c']
  ⟨h.pl, h.pd, h.wl, h.wd, h.hk, h.hs, setL_but (.inr h.wd) _ _ _ h.bt, h.ps.but hb h.pd, setL_blk _ _ _ _ h.box (by simp), hx.but hb (.inr rfl), h.xb.but hb (.inr rfl), h.xl.but hb (.inr rfl), h.xm.but hb (.inr rfl), Nat.le_trans h.lw hb.size, fun hz => ⟨(h.res hz).1, (h.res hz).2.1, (h.res hz).2.2.but hb (fun e => (h.res hz).2.1 e)⟩⟩
theorem BSt.setB (h : BSt d z p lo d1 en w W q k s a b l m A1 A2 A3 A4 c1 c2 c3 c4) (hx : rdE lo d1 W a' (exV a'.kind a'.num a'.name (.slice A' a'.args.length c'))) : BSt d z p lo d1 en w (setL W d1 6 [.int .i64 a'.kind, .int .i64 a'.num, .string a'.name, .slice A' a'.args.length c']) q k s a a' l m A1 A' A3 A4 c1 c' c3 c4 :=
  have hb := setL_is W d1 6 [.int .i64 a'.kind, .int .i64 a'.num, .string a'.name, .slice A' a'.args.length c']
  ⟨h.pl, h.pd, h.wl, h.wd, h.hk, h.hs, setL_but (.inr h.wd) _ _ _ h.bt, h.ps.but hb h.pd, setL_blk _ _ _ _ h.box (by simp), h.xa.but hb (.inr rfl), hx.but hb (.inr rfl), h.xl.but hb (.inr rfl), h.xm.but hb (.inr rfl), Nat.le_trans h.lw hb.size, fun hz => ⟨(h.res hz).1, (h.res hz).2.1, (h.res hz).2.2.but hb (fun e => (h.res hz).2.1 e)⟩⟩
theorem BSt.setBody (h : BSt d z p lo d1 en w W q k s a b l m A1 A2 A3 A4 c1 c2 c3 c4) (hx : rdS lo d1 W l' (.slice A' l'.length c')) : BSt d z p lo d1 en w (setL W d1 10 [.slice A' l'.length c']) q k s a b l' m A1 A2 A' A4 c1 c2 c' c4 :=
  have hb := setL_is W d1 10 [.slice A' l'.length c']
  ⟨h.pl, h.pd, h.wl, h.wd, h.hk, h.hs, setL_but (.inr h.wd) _ _ _ h.bt, h.ps.but hb h.pd, setL_blk _ _ _ _ h.box (by simp), h.xa.but hb (.inr rfl), h.xb.but hb (.inr rfl), hx.but hb (.inr rfl), h.xm.but hb (.inr rfl), Nat.le_trans h.lw hb.size, fun hz => ⟨(h.res hz).1, (h.res hz).2.1, (h.res hz).2.2.but hb (fun e => (h.res hz).2.1 e)⟩⟩
theorem BSt.setElse (h : BSt d z p lo d1 en w W q k s a b l m A1 A2 A3 A4 c1 c2 c3 c4) (hx : rdS lo d1 W l' (.slice A' l'.length c')) : BSt d z p lo d1 en w (setL W d1 11 [.slice A' l'.length c']) q k s a b l l' A1 A2 A3 A' c1 c2 c3 c' :=
  have hb := setL_is W d1 11 [.slice A' l'.length c']
  ⟨h.pl, h.pd, h.wl, h.wd, h.hk, h.hs, setL_but (.inr h.wd) _ _ _ h.bt, h.ps.but hb h.pd, setL_blk _ _ _ _ h.box (by simp), h.xa.but hb (.inr rfl), h.xb.but hb (.inr rfl), h.xl.but hb (.inr rfl), hx.but hb (.inr rfl), Nat.le_trans h.lw hb.size, fun hz => ⟨(h.res hz).1, (h.res hz).2.1, (h.res hz).2.2.but hb (fun e => (h.res hz).2.1 e)⟩⟩
theorem BSt.setKind (h : BSt d z p lo d1 en w W q k s a b l m A1 A2 A3 A4 c1 c2 c3 c4) (hk' : inI k') : BSt d z p lo d1 en w (setL W d1 0 [.int .i64 k']) q k' s a b l m A1 A2 A3 A4 c1 c2 c3 c4 :=
  have hb := setL_is W d1 0 [.int .i64 k']
  ⟨h.pl, h.pd, h.wl, h.wd, hk', h.hs, setL_but (.inr h.wd) _ _ _ h.bt, h.ps.but hb h.pd, setL_blk _ _ _ _ h.box (by simp), h.xa.but hb (.inr rfl), h.xb.but hb (.inr rfl), h.xl.but hb (.inr rfl), h.xm.but hb (.inr rfl), Nat.le_trans h.lw hb.size, fun hz => ⟨(h.res hz).1, (h.res hz).2.1, (h.res hz).2.2.but hb (fun e => (h.res hz).2.1 e)⟩⟩
theorem BSt.rd (h : BSt d z p lo d1 en w W q k s a b l m A1 A2 A3 A4 c1 c2 c3 c4) : RdSt W (Rn lo d1 W) (.mk k s a b l m) (stC k s a b l m A1 A2 A3 A4 c1 c2 c3 c4) :=
  RdSt.shut h.hk h.hs (RdE.toX h.xa) (RdE.toX h.xb) h.xl h.xm
/-- a box that was just made -/
theorem BSt.made (hp : PsAt p en W q) (hpl : p < lo) (hwl : w.heap.size ≤ lo) (hwW : w.heap.size ≤ W.heap.size) (hk : inI k) (hs : s.size ≤ 140737488355328) (hb : But (Is p) w W)
    (xa : rdE lo W.heap.size W a (exV a.kind a.num a.name (.slice A1 a.args.length c1))) (xl : rdS lo W.heap.size W l (.slice A3 l.length c3)) (hlo : lo ≤ W.heap.size) (hres : z ≠ [] → d ≠ p ∧ Blk 0 W d z) :
    BSt d z p lo W.heap.size en w (W.alloc (.cells (stC k s a noX l [] A1 none A3 none c1 0 c3 0).toArray 76)) q k s a noX l [] A1 none A3 none c1 0 c3 0 :=
  have bl : Below W.heap.size W (W.alloc (.cells (stC k s a noX l [] A1 none A3 none c1 0 c3 0).toArray 76)) := (Below.refl _ _).alloc (Nat.le_refl _) _
  ⟨hpl, hp.lt, hwl, hwW, hk, hs, hb.trans (But.of_b bl), hp.below bl, Blk.made W _ _ (Nat.zero_le _), xa.below bl, rdE.no _ _ _, xl.below bl, rdS.nil _ _ _, Nat.le_trans hlo bl.size, fun hz => ⟨(hres hz).1, Nat.ne_of_lt (hres hz).2.lt, (hres hz).2.below bl⟩⟩
/-- a statement in the result's box is handed back -/
theorem ret_st {fn : Func} {R : Ending → World → Prop} {act : Act} {T G base : Nat} (hr : fn.results = #[.cell T 76]) (ht : act.tmps.getD T undef = .pointer (some ⟨G, 0, none⟩)) (hd : act.defers = [])
    (B : Blk base w G (stC k s a b l m A1 A2 A3 A4 c1 c2 c3 c4)) (h : R (.returned (.agg (stC k s a b l m A1 A2 A3 A4 c1 c2 c3 c4).toArray)) w) : bodyPost Tryd.prog fn R .ret act w := by
  have r0 := B.cell 0 _ rfl; have r1 := B.cell 1 _ rfl; have r2 := B.cell 2 _ rfl; have r3 := B.cell 3 _ rfl; have r4 := B.cell 4 _ rfl; have r5 := B.cell 5 _ rfl; have r6 := B.cell 6 _ rfl; have r7 := B.cell 7 _ rfl; have r8 := B.cell 8 _ rfl; have r9 := B.cell 9 _ rfl; have r10 := B.cell 10 _ rfl; have r11 := B.cell 11 _ rfl
  rw [Array.getD_eq_getD_getElem?] at ht
  exact bodyPost_ret (v := .agg (stC k s a b l m A1 A2 A3 A4 c1 c2 c3 c4).toArray) (by simp [results, hr, ht, go_sem, r0, r1, r2, r3, r4, r5, r6, r7, r8, r9, r10, r11]) hd h
/-- the end: the statement is stored into the result's box and handed back -/
theorem ret_stbox {fn : Func} {act : Act} {T : Nat} {out : PR St} (hr : fn.results = #[.cell T 76]) (hz : z.length = 12) (h : BSt d z p lo d1 en w W q k s a b l m A1 A2 A3 A4 c1 c2 c3 c4) (hdw : w.heap.size ≤ d) (hdl : d < lo)
    (ho : out = .ok (.mk k s a b l m) q) (hpw : p < w.heap.size) (ht : act.tmps.getD T undef = .pointer (some ⟨d, 0, none⟩)) (hd : act.defers = []) {W9 : World} (hw9 : W9 = setL W d 0 (stC k s a b l m A1 A2 A3 A4 c1 c2 c3 c4)) :
    bodyPost Tryd.prog fn (POut p en w (rdSt w.heap.size p) out) .ret act W9 := by
  subst hw9
  have hB := (h.res (by intro e; rw [e] at hz; cases hz)).2.2
  have hb := setL_is W d 0 (stC k s a b l m A1 A2 A3 A4 c1 c2 c3 c4)
  have hB2 := setL_blk (stC k s a b l m A1 A2 A3 A4 c1 c2 c3 c4) W 0 z hB (by rw [hz]; simp)
  have e : setV z 0 (stC k s a b l m A1 A2 A3 A4 c1 c2 c3 c4) = stC k s a b l m A1 A2 A3 A4 c1 c2 c3 c4 := by
    match z, hz with
    | [_, _, _, _, _, _, _, _, _, _, _, _], _ => rfl
  rw [e] at hB2
  subst ho
  have hs2 : Sub (Rn lo d1 W) (Rn w.heap.size p (setL W d 0 (stC k s a b l m A1 A2 A3 A4 c1 c2 c3 c4))) := (Rn.to h.wl (.inl h.pl)).trans (Rn.sub hb.size)
  have hr2 := RdSt.keeps _ _ _ _ _ _ hs2 (Rn.same hb (.inl hdl)) h.rd
  refine ret_st hr ht hd hB2 ⟨_, rfl, ⟨_, rfl, hr2⟩, h.ps.but hb (by omega), setL_but (.inr hdw) _ _ _ h.bt⟩
end
theorem nameG_size {ts r : List LTok} {s : Str} (h : ∀ t ∈ ts, tokOk t) (e : nameG ts = .ok s r) : s.size ≤ 1048576 := by
  cases ts with
  | nil => cases e
  | cons t q =>
    rw [nameG] at e
    split at e
    · simp only [PR.ok.injEq] at e
      rw [← e.1]; exact (h t (List.mem_cons_self ..)).2
    · cases e
def PSs (n : Nat) : Prop := ∀ (p : Nat) (en : En) (ts : List LTok) (w : World) (out : PR (List St)), stsG n [] ts = some out → ts.length ≤ 1048576 → PsAt p en w ts → Calls Tryd.prog 24 #[.pointer (some ⟨p, 0, none⟩)] w (POut p en w (rdS w.heap.size p) out)
set_option maxHeartbeats 1000000 in
set_option maxRecDepth 100000 in
theorem pblock_any (n : Nat) (hn : PSs n) (p : Nat) (en : En) (ts : List LTok) (w : World) (out : PR (List St)) (ho : blockG (stsG n []) ts = some out) (hl : ts.length ≤ 1048576) (h : PsAt p en w ts) :
    Calls Tryd.prog 82 #[.pointer (some ⟨p, 0, none⟩)] w (POut p en w (rdS w.heap.size p) out) := by
  unfold blockG at ho
  have hlt := h.lt
  have bl1 : Below w.heap.size w (w.alloc (.cells #[.string ⟨#[123]⟩] 9)) := (Below.refl _ _).alloc (Nat.le_refl _) _
  have HW := Lib.hid (pwant_any (h.below bl1) (show WordsAt p (w.alloc (.cells #[.string ⟨#[123]⟩] 9)) [bz [123]] (.slice (some ⟨w.heap.size, 0, none⟩) 1 1) from words1 w (bz [123]) (by unfold okS; decide) hlt))
  have HB1 := Lib.hid (But.of_b (T := Is p) bl1)
  clear h bl1
  rcases PO.bind_some ho with ⟨q, e1, e2⟩ | ⟨u, q, e1, e2⟩
  · have e3 := Option.some.inj e1
    rw [e3] at HW
    have HO := Lib.hid e2
    clear e1 e2 e3 ho
    go_enter Tryd.func82, Tryd.ntmps82
    go_wp2_with (go_at_call 45; refine HW.out.mono ?_; rintro e w4 ⟨rfl, hb4⟩)
    rw [HO.out]
    exact ⟨rfl, rfl, HB1.out.trans hb4⟩
  · have e3 := Option.some.inj e1
    have hq := wantG_len e3
    simp only [List.length_cons, List.length_nil] at hq
    rw [e3] at HW
    have HE := Lib.hid e2
    have HN := Lib.hid hn
    clear e1 e2 e3 ho hn
    go_enter Tryd.func82, Tryd.ntmps82
    go_upto_region 2 with (go_at_call 45; refine HW.out.mono ?_; rintro e w4 ⟨x, rfl, _, hp4, hb4⟩)
    have HB4 := Lib.hid (HB1.out.trans hb4)
    have HP4 := Lib.hid hp4
    have hz4 := HB4.out.size
    clear hb4 hp4 HB1 HW
    rcases PO.bind_some HE.out with ⟨r, e1, e2⟩ | ⟨l, r, e1, e2⟩
    · have HO := Lib.hid e2
      have HC := Lib.hid (HN.out p en q w4 _ e1 (by omega) HP4.out)
      clear e1 e2 HE HN
      go_wp2_with (go_at_call 24; refine HC.out.mono ?_; rintro e w5 ⟨rfl, hb5⟩)
      rw [HO.out]
      exact ⟨rfl, rfl, HB4.out.trans hb5⟩
    · have HC := Lib.hid (HN.out p en q w4 _ e1 (by omega) HP4.out)
      have HE2 := Lib.hid e2
      clear e1 e2 HE HN
      go_upto_region 3 with (go_at_call 24; refine HC.out.mono ?_; rintro e w5 ⟨x, rfl, hx, hp5, hb5⟩; obtain ⟨A, c, rfl⟩ := hx.form)
      have HB5 := Lib.hid (HB4.out.trans hb5)
      have HX5 := Lib.hid (hx.to (lo' := w.heap.size) (y' := p) hz4 (.inr (.inr rfl)))
      have bl6 : Below w5.heap.size w5 (w5.alloc (.cells #[.string ⟨#[125]⟩] 9)) := (Below.refl _ _).alloc (Nat.le_refl _) _
      have HW := Lib.hid (pwant_any (hp5.below bl6) (show WordsAt p (w5.alloc (.cells #[.string ⟨#[125]⟩] 9)) [bz [125]] (.slice (some ⟨w5.heap.size, 0, none⟩) 1 1) from words1 w5 (bz [125]) (by unfold okS; decide) hp5.lt))
      have HB6 := Lib.hid (HB5.out.trans (But.of_b bl6))
      have HX6 := Lib.hid (HX5.out.below bl6)
      clear hx hp5 hb5 bl6 HB5 HX5 HC HB4 HP4
      rcases PO.bind_some HE2.out with ⟨q2, e1, e2⟩ | ⟨u, q2, e1, e2⟩
      · have e3 := Option.some.inj e1
        rw [e3] at HW
        have HO := Lib.hid e2
        clear e1 e2 e3 HE2
        go_wp2_with (go_at_call 45; refine HW.out.mono ?_; rintro e w7 ⟨rfl, hb7⟩)
        rw [HO.out]
        exact ⟨rfl, rfl, HB6.out.trans hb7⟩
      · have e3 := Option.some.inj e1
        rw [e3] at HW
        have HO := Lib.hid (Option.some.inj e2).symm
        clear e1 e2 e3 HE2
        go_wp2_with (go_at_call 45; refine HW.out.mono ?_; rintro e w7 ⟨x7, rfl, _, hp7, hb7⟩)
        go_ret
        rw [HO.out]
        exact ⟨_, rfl, HX6.out.but hb7 (.inl hlt), hp7, HB6.out.trans hb7⟩
end Go.Proofs.YtijahadmaggncaaDoor
