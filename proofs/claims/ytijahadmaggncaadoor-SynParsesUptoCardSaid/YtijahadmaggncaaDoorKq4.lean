/- The reader of KParse: expressions. -/
import Derived.Test.YtijahadmaggncaaDoorKq3
namespace Go.Proofs.YtijahadmaggncaaDoor
open Go.RowKit
set_option linter.unusedVariables false
def KEx (n lvl : Nat) : Prop := ∀ (k f : Nat) (L : List LTok) (w : World) (a : Nat) (out : PR Ex), exG n (.ex lvl) (L.drop a) = some out → RkAt k L w f → a ≤ L.length → f ≤ a →
  Calls Tryd.prog 121 #[.pointer (some ⟨k, 0, none⟩), .int .i64 (a : Int), .int .i64 (lvl : Int)] w (KOut k L w (rdE w.heap.size k) out)
def KAt (n : Nat) : Prop := ∀ (k f : Nat) (L : List LTok) (w : World) (a : Nat) (out : PR Ex), exG n (.ex 3) (L.drop a) = some out → RkAt k L w f → a ≤ L.length → f ≤ a →
  Calls Tryd.prog 153 #[.pointer (some ⟨k, 0, none⟩), .int .i64 (a : Int)] w (KOut k L w (rdE w.heap.size k) out)
/-- an expression in the result's box is handed back, with two more -/
theorem ret_kq {fn : Func} {R : Ending → World → Prop} {act : Act} {w : World} {T T1 T2 G base : Nat} {k c z : Int} {ok : Bool} {s : Str} {v : Value} (hr : fn.results = #[.cell T 74, .tmp T1, .tmp T2]) (ht : act.tmps.getD T undef = .pointer (some ⟨G, 0, none⟩)) (h1 : act.tmps.getD T1 undef = .int .i64 z) (h2 : act.tmps.getD T2 undef = .bool ok) (hd : act.defers = [])
    (B : Blk base w G [.int .i64 k, .int .i64 c, .string s, v]) (h : R (.returned (.tuple #[exV k c s v, .int .i64 z, .bool ok])) w) : bodyPost Tryd.prog fn R .ret act w := by
  have r0 := B.cell 0 _ rfl; have r1 := B.cell 1 _ rfl; have r2 := B.cell 2 _ rfl; have r3 := B.cell 3 _ rfl
  rw [Array.getD_eq_getD_getElem?] at ht h1 h2
  exact bodyPost_ret (v := .tuple #[exV k c s v, .int .i64 z, .bool ok]) (by simp [results, hr, ht, h1, h2, go_sem, r0, r1, r2, r3]) hd h
/-- the end where all is well -/
theorem ret_kok {fn : Func} {act : Act} {T T1 T2 k d lo f b : Nat} {L : List LTok} {w w1 : World} {a : Ex} {A : Option Addr} {c : Nat} {r : List LTok} {out : PR Ex} {v0 v1 v2 v3 : Value} (hr : fn.results = #[.cell T 74, .tmp T1, .tmp T2])
    (hB : Blk 0 w1 d [v0, v1, v2, v3]) {y : Nat} (hx : rdE lo y w1 a (exV a.kind a.num a.name (.slice A a.args.length c))) (hy : y < lo → y = k) (hky : k < lo) (hp : RkAt k L w1 f) (hb : But (Is k) w w1) (hkw : k < w.heap.size) (hdw : w.heap.size ≤ d) (hdl : d < lo) (ho : out = .ok a r) (hbr : L.drop b = r) (hbl : b ≤ L.length) (hfb : f ≤ b)
    (ht : act.tmps.getD T undef = .pointer (some ⟨d, 0, none⟩)) (h1 : act.tmps.getD T1 undef = .int .i64 (b : Int)) (h2 : act.tmps.getD T2 undef = .bool true) (hd : act.defers = []) :
    bodyPost Tryd.prog fn (KOut k L w (rdE w.heap.size k) out) .ret act (set4 w1 d (.int .i64 a.kind) (.int .i64 a.num) (.string a.name) (.slice A a.args.length c)) := by
  have HF2 := set4_blk hB (.int .i64 a.kind) (.int .i64 a.num) (.string a.name) (.slice A a.args.length c)
  have hbf : But (Is d) w1 (set4 w1 d (.int .i64 a.kind) (.int .i64 a.num) (.string a.name) (.slice A a.args.length c)) := set4_but (But.refl _ _) (.inl (show Is d d from rfl)) _ _ _ _
  have hx3 := (hx.but hbf (.inl hdl)).to (lo' := w.heap.size) (y' := k) (by omega) (.inl hky)
  have hp3 := hp.but hbf (by omega)
  have hb3 := set4_but hb (.inr hdw) (.int .i64 a.kind) (.int .i64 a.num) (.string a.name) (.slice A a.args.length c)
  subst ho
  exact ret_kq hr ht h1 h2 hd HF2 ⟨_, b, f, rfl, hx3, hbr, hbl, hfb, hp3, hb3⟩
/-- the end where something does not fit -/
theorem ret_kno {fn : Func} {act : Act} {T T1 T2 k d lo f : Nat} {z : Int} {L : List LTok} {w w1 : World} {a : Ex} {A : Option Addr} {c : Nat} {r : List LTok} {out : PR Ex} {v0 v1 v2 v3 : Value} (hr : fn.results = #[.cell T 74, .tmp T1, .tmp T2])
    (hB : Blk 0 w1 d [v0, v1, v2, v3]) {y : Nat} (hx : rdE lo y w1 a (exV a.kind a.num a.name (.slice A a.args.length c))) (hky : k < lo) (hp : RkAt k L w1 f) (hb : But (Is k) w w1) (hkw : k < w.heap.size) (hdw : w.heap.size ≤ d) (hdl : d < lo) (ho : out = .no r) (hfr : L.drop f = r)
    (ht : act.tmps.getD T undef = .pointer (some ⟨d, 0, none⟩)) (h1 : act.tmps.getD T1 undef = .int .i64 z) (h2 : act.tmps.getD T2 undef = .bool false) (hd : act.defers = []) :
    bodyPost Tryd.prog fn (KOut k L w (rdE w.heap.size k) out) .ret act (set4 w1 d (.int .i64 a.kind) (.int .i64 a.num) (.string a.name) (.slice A a.args.length c)) := by
  have HF2 := set4_blk hB (.int .i64 a.kind) (.int .i64 a.num) (.string a.name) (.slice A a.args.length c)
  have hbf : But (Is d) w1 (set4 w1 d (.int .i64 a.kind) (.int .i64 a.num) (.string a.name) (.slice A a.args.length c)) := set4_but (But.refl _ _) (.inl (show Is d d from rfl)) _ _ _ _
  have hx3 := (hx.but hbf (.inl hdl)).to (lo' := w.heap.size) (y' := k) (by omega) (.inl hky)
  have hp3 := hp.but hbf (by omega)
  have hb3 := set4_but hb (.inr hdw) (.int .i64 a.kind) (.int .i64 a.num) (.string a.name) (.slice A a.args.length c)
  subst ho
  exact ret_kq hr ht h1 h2 hd HF2 ⟨_, z, f, rfl, ⟨a, hx3⟩, hfr, hp3, hb3⟩
/-- two parts laid side by side, in either order with another's steps -/
theorem two_inA {lo y : Nat} {W w5 : World} {k : Int} {a b : Ex} {A1 A2 : Option Addr} {c1 c2 : Nat} (hk : inI k) (ha : rdE lo y W a (exV a.kind a.num a.name (.slice A1 a.args.length c1))) (hb : rdE lo y W b (exV b.kind b.num b.name (.slice A2 b.args.length c2))) (h5 : Below W.heap.size W w5) (hlo : lo ≤ W.heap.size) (hy : y < W.heap.size) :
    rdE lo y (w5.alloc (.cells #[.int .i64 a.kind, .int .i64 a.num, .string a.name, .slice A1 a.args.length c1, .int .i64 b.kind, .int .i64 b.num, .string b.name, .slice A2 b.args.length c2] 74)) (mkE k a b) (.agg #[.int .i64 k, .int .i64 0, .string noS, .slice (some ⟨w5.heap.size, 0, none⟩) 2 2]) := by
  have hz := h5.size
  have hbl := (Below.refl w5.heap.size w5).alloc (Nat.le_refl _) (.cells #[.int .i64 a.kind, .int .i64 a.num, .string a.name, .slice A1 a.args.length c1, .int .i64 b.kind, .int .i64 b.num, .string b.name, .slice A2 b.args.length c2] 74)
  have hblk := Blk.made w5 [.int .i64 a.kind, .int .i64 a.num, .string a.name, .slice A1 a.args.length c1, .int .i64 b.kind, .int .i64 b.num, .string b.name, .slice A2 b.args.length c2] 74 (base := 0) (Nat.zero_le _)
  exact RdE.two hk ((ha.below h5).below hbl) ((hb.below h5).below hbl) ⟨Nat.le_trans hlo hz, by simp, by omega⟩ hblk.cell
theorem two_inB {lo y : Nat} {W w5 : World} {k : Int} {a b : Ex} {A1 A2 : Option Addr} {c1 c2 : Nat} (hk : inI k) (ha : rdE lo y W a (exV a.kind a.num a.name (.slice A1 a.args.length c1))) (hb : rdE lo y W b (exV b.kind b.num b.name (.slice A2 b.args.length c2)))
    (h5 : Below (W.alloc (.cells #[.int .i64 a.kind, .int .i64 a.num, .string a.name, .slice A1 a.args.length c1, .int .i64 b.kind, .int .i64 b.num, .string b.name, .slice A2 b.args.length c2] 74)).heap.size (W.alloc (.cells #[.int .i64 a.kind, .int .i64 a.num, .string a.name, .slice A1 a.args.length c1, .int .i64 b.kind, .int .i64 b.num, .string b.name, .slice A2 b.args.length c2] 74)) w5) (hlo : lo ≤ W.heap.size) (hy : y < W.heap.size) :
    rdE lo y w5 (mkE k a b) (.agg #[.int .i64 k, .int .i64 0, .string noS, .slice (some ⟨W.heap.size, 0, none⟩) 2 2]) := by
  have h := two_inA hk ha hb (Below.refl _ _) hlo hy
  exact h.below h5
/-- what the drawn region of expr leaves -/
structure KReg (k d d1 lo g : Nat) (L : List LTok) (w WF : World) (X : Ex) (z : Nat) : Prop where
  x : rdE lo d1 WF X (exV X.kind X.num X.name (.slice (some ⟨z, 0, none⟩) X.args.length 2))
  p : RkAt k L WF g
  b : But (Is k) w WF
  y : Blk 0 WF d1 [.int .i64 X.kind, .int .i64 X.num, .string X.name, .slice (some ⟨z, 0, none⟩) X.args.length 2]
  r : Blk 0 WF d [.int .i64 0, .int .i64 0, .string ⟨#[]⟩, .slice none 0 0]
section
variable {k d d1 lo g : Nat} {L : List LTok} {w W w5 : World} {sg : Str} {a b : Ex} {A1 A2 : Option Addr} {c1 c2 : Nat} {v0 v1 v2 v3 : Value}
theorem KReg.of_a (ha : rdE lo d1 W a (exV a.kind a.num a.name (.slice A1 a.args.length c1))) (hb : rdE lo d1 W b (exV b.kind b.num b.name (.slice A2 b.args.length c2))) (hp : RkAt k L W g) (hw : But (Is k) w W) (hy : Blk 0 W d1 [v0, v1, v2, v3]) (hr : Blk 0 W d [.int .i64 0, .int .i64 0, .string ⟨#[]⟩, .slice none 0 0])
    (hkd : k < d1) (hwd : w.heap.size ≤ d1) (hdd : ¬ d1 = d) (hlo : lo ≤ W.heap.size) (h5 : Below W.heap.size W w5) :
    KReg k d d1 lo g L w ((set4 w5 d1 (.int .i64 (signK sg)) (.int .i64 0) (.string ⟨#[]⟩) (.slice (some ⟨w5.heap.size, 0, none⟩) 2 2)).alloc (.cells #[.int .i64 a.kind, .int .i64 a.num, .string a.name, .slice A1 a.args.length c1, .int .i64 b.kind, .int .i64 b.num, .string b.name, .slice A2 b.args.length c2] 74)) (twoX sg a b) w5.heap.size := by
  have hz := h5.size
  have hd1 := hy.lt
  have hs := set4_size w5 d1 (.int .i64 (signK sg)) (.int .i64 0) (.string ⟨#[]⟩) (.slice (some ⟨w5.heap.size, 0, none⟩) 2 2)
  have hbf : But (Is d1) w5 (set4 w5 d1 (.int .i64 (signK sg)) (.int .i64 0) (.string ⟨#[]⟩) (.slice (some ⟨w5.heap.size, 0, none⟩) 2 2)) := set4_but (But.refl _ _) (.inl (show Is d1 d1 from rfl)) _ _ _ _
  have hy5 := set4_blk (hy.below h5) (.int .i64 (signK sg)) (.int .i64 0) (.string ⟨#[]⟩) (.slice (some ⟨w5.heap.size, 0, none⟩) 2 2)
  have ha5 := (ha.below h5).but hbf (.inr rfl)
  have hb5 := (hb.below h5).but hbf (.inr rfl)
  have hp5 := (hp.below h5).but hbf hkd
  have hr5 := (hr.below h5).but hbf (fun e => hdd e.symm)
  have hw5 := set4_but (hw.trans (But.of_b h5)) (.inr hwd) (.int .i64 (signK sg)) (.int .i64 0) (.string ⟨#[]⟩) (.slice (some ⟨w5.heap.size, 0, none⟩) 2 2)
  generalize set4 w5 d1 (.int .i64 (signK sg)) (.int .i64 0) (.string ⟨#[]⟩) (.slice (some ⟨w5.heap.size, 0, none⟩) 2 2) = W6 at *
  have bl : Below W6.heap.size W6 (W6.alloc (.cells #[.int .i64 a.kind, .int .i64 a.num, .string a.name, .slice A1 a.args.length c1, .int .i64 b.kind, .int .i64 b.num, .string b.name, .slice A2 b.args.length c2] 74)) := (Below.refl _ _).alloc (Nat.le_refl _) _
  have h2 := two_inA (W := W6) (w5 := W6) (signK_in sg) ha5 hb5 (Below.refl _ _) (by omega) (by omega)
  rw [hs] at h2
  exact ⟨h2, hp5.below bl, hw5.trans (But.of_b bl), hy5.below bl, hr5.below bl⟩
theorem KReg.of_b (ha : rdE lo d1 W a (exV a.kind a.num a.name (.slice A1 a.args.length c1))) (hb : rdE lo d1 W b (exV b.kind b.num b.name (.slice A2 b.args.length c2))) (hp : RkAt k L W g) (hw : But (Is k) w W) (hy : Blk 0 W d1 [v0, v1, v2, v3]) (hr : Blk 0 W d [.int .i64 0, .int .i64 0, .string ⟨#[]⟩, .slice none 0 0])
    (hkd : k < d1) (hwd : w.heap.size ≤ d1) (hdd : ¬ d1 = d) (hlo : lo ≤ W.heap.size)
    (h5 : Below (W.alloc (.cells #[.int .i64 a.kind, .int .i64 a.num, .string a.name, .slice A1 a.args.length c1, .int .i64 b.kind, .int .i64 b.num, .string b.name, .slice A2 b.args.length c2] 74)).heap.size (W.alloc (.cells #[.int .i64 a.kind, .int .i64 a.num, .string a.name, .slice A1 a.args.length c1, .int .i64 b.kind, .int .i64 b.num, .string b.name, .slice A2 b.args.length c2] 74)) w5) :
    KReg k d d1 lo g L w (set4 w5 d1 (.int .i64 (signK sg)) (.int .i64 0) (.string ⟨#[]⟩) (.slice (some ⟨W.heap.size, 0, none⟩) 2 2)) (twoX sg a b) W.heap.size := by
  have h6 : Below W.heap.size W w5 := ((Below.refl _ _).alloc (Nat.le_refl _) _).trans (h5.mono (by simp))
  have hbf : But (Is d1) w5 (set4 w5 d1 (.int .i64 (signK sg)) (.int .i64 0) (.string ⟨#[]⟩) (.slice (some ⟨W.heap.size, 0, none⟩) 2 2)) := set4_but (But.refl _ _) (.inl (show Is d1 d1 from rfl)) _ _ _ _
  have h2 := two_inB (signK_in sg) ha hb h5 hlo hy.lt
  exact ⟨h2.but hbf (.inr rfl), (hp.below h6).but hbf hkd, set4_but (hw.trans (But.of_b h6)) (.inr hwd) _ _ _ _, set4_blk (hy.below h6) _ _ _ _, (hr.below h6).but hbf (fun e => hdd e.symm)⟩
end
set_option maxHeartbeats 8000000 in
set_option maxRecDepth 100000 in
theorem kexpr_step (n lvl : Nat) (hlv : lvl < 3) (h1 : ∀ m, m < n → KEx m (lvl + 1)) : KEx n lvl := by
  intro k f L w a out ho h ha hf
  cases n with
  | zero => cases ho
  | succ n =>
  rw [exG_ex hlv] at ho
  have hlt := h.lt
  have hll := h.len.1
  have hcast : ((lvl + 1 : Nat) : Int) = (lvl : Int) + 1 := by omega
  have h1' : ∀ m, m < n + 1 → ∀ (f : Nat) (w : World) (a : Nat) (out : PR Ex), exG m (.ex (lvl + 1)) (L.drop a) = some out → RkAt k L w f → a ≤ L.length → f ≤ a →
      Calls Tryd.prog 121 #[.pointer (some ⟨k, 0, none⟩), .int .i64 (a : Int), .int .i64 ((lvl : Int) + 1)] w (KOut k L w (rdE w.heap.size k) out) := by
    intro m hm f w a out e1 e2 e3 e4
    rw [← hcast]; exact h1 m hm k f L w a out e1 e2 e3 e4
  have H1 := Lib.hid h1'
  clear h1 h1' hcast
  have hl3 : ((lvl : Int) == 3) = false := by simp; omega
  have hln : -9223372036854775808 ≤ (lvl : Int) + 1 ∧ (lvl : Int) + 1 ≤ 9223372036854775807 := by omega
  have hbl : Below w.heap.size w (w.alloc (.cells #[.int .i64 0, .int .i64 0, .string ⟨#[]⟩, .slice none 0 0] 74)) := (Below.refl _ _).alloc (Nat.le_refl _) _
  have HBL := Lib.hid (But.of_b (T := Is k) hbl)
  have HBX := Lib.hid (Blk.made w [.int .i64 0, .int .i64 0, .string ⟨#[]⟩, .slice none 0 0] 74 (base := 0) (Nat.zero_le _))
  have HP0 := Lib.hid (h.below hbl)
  have HE := Lib.hid ho
  obtain ⟨d, hd⟩ : ∃ d, d = w.heap.size := ⟨_, rfl⟩
  have hdk : ¬ d = k := by omega
  have hdw : w.heap.size ≤ d := by omega
  have hkd : k < d := by omega
  have hWd : d < (w.alloc (.cells #[.int .i64 0, .int .i64 0, .string ⟨#[]⟩, .slice none 0 0] 74)).heap.size := by simp [hd]
  have hkW0 : k < (w.alloc (.cells #[.int .i64 0, .int .i64 0, .string ⟨#[]⟩, .slice none 0 0] 74)).heap.size := by simp; omega
  rw [← hd] at HBX
  clear h hbl ho
  go_enter Tryd.func121, Tryd.ntmps121
  go_upto_region 1 with (fail)
  rw [← hd]
  clear hd
  generalize (w.alloc (.cells #[.int .i64 0, .int .i64 0, .string ⟨#[]⟩, .slice none 0 0] 74)) = W0 at *
  rcases PO.bind_some HE.out with ⟨r, e1, e2⟩ | ⟨x1, r, e1, e2⟩
  · have HC := Lib.hid (H1.out n (by omega) f W0 a _ e1 HP0.out ha hf)
    have HO := Lib.hid e2
    clear e1 e2 HE H1
    go_upto_region 4 with (go_at_call 121; refine HC.out.mono ?_; rintro e w1 ⟨x, z, g, rfl, ⟨t1, hx⟩, hfr, hp1, hb1⟩; obtain ⟨A, c, rfl⟩ := hx.form)
    have bl1 : Below w1.heap.size w1 (w1.alloc (.cells #[.int .i64 t1.kind, .int .i64 t1.num, .string t1.name, .slice A t1.args.length c] 74)) := (Below.refl _ _).alloc (Nat.le_refl _) _
    have HY1 := Lib.hid (Blk.made w1 [.int .i64 t1.kind, .int .i64 t1.num, .string t1.name, .slice A t1.args.length c] 74 (base := 0) (Nat.zero_le _))
    have HR1 := Lib.hid ((HBX.out.but hb1 (fun e => hdk e)).below bl1)
    have HX1 := Lib.hid (hx.below bl1)
    have HP1 := Lib.hid (hp1.below bl1)
    have HB1 := Lib.hid (HBL.out.trans (hb1.trans (But.of_b bl1)))
    have HFR := Lib.hid hfr
    have hz1 := hb1.size
    have hd1d : ¬ w1.heap.size = d := by omega
    clear hx hp1 hb1 bl1 hfr HBX HC HBL HP0
    generalize (w1.alloc (.cells #[.int .i64 t1.kind, .int .i64 t1.num, .string t1.name, .slice A t1.args.length c] 74)) = W1 at *
    generalize w1.heap.size = d1 at *
    have y0 := HY1.out.cell 0 _ rfl; have y1 := HY1.out.cell 1 _ rfl; have y2 := HY1.out.cell 2 _ rfl; have y3 := HY1.out.cell 3 _ rfl
    have r0 := HR1.out.cell 0 _ rfl; have r1 := HR1.out.cell 1 _ rfl; have r2 := HR1.out.cell 2 _ rfl; have r3 := HR1.out.cell 3 _ rfl
    have f0 := HR1.out.fr 0; have f1 := HR1.out.fr 1; have f2 := HR1.out.fr 2; have f3 := HR1.out.fr 3
    go_loop [1] (fun u => u = .int .i64 z) (fun _ => 0)
    case atStart => rfl
    case round =>
    obtain rfl := hrel
    go_wp2
    exact ret_kno Tryd.results121 HR1.out HX1.out hkW0 HP1.out HB1.out hlt hdw hWd HO.out HFR.out rfl rfl rfl rfl
  · have HC := Lib.hid (H1.out n (by omega) f W0 a _ e1 HP0.out ha hf)
    have HE2 := Lib.hid e2
    clear e1 e2 HE
    go_upto_region 4 with (go_at_call 121; refine HC.out.mono ?_; rintro e w1 ⟨x, b1, g1, rfl, hx, hbr, hbl1, hgb1, hp1, hb1⟩; obtain ⟨A, c, rfl⟩ := hx.form)
    have bl1 : Below w1.heap.size w1 (w1.alloc (.cells #[.int .i64 x1.kind, .int .i64 x1.num, .string x1.name, .slice A x1.args.length c] 74)) := (Below.refl _ _).alloc (Nat.le_refl _) _
    obtain ⟨d1, hd1⟩ : ∃ d1, d1 = w1.heap.size := ⟨_, rfl⟩
    have hz1 := hb1.size
    have HY1 := Lib.hid (Blk.made w1 [.int .i64 x1.kind, .int .i64 x1.num, .string x1.name, .slice A x1.args.length c] 74 (base := 0) (Nat.zero_le _))
    have HR1 := Lib.hid ((HBX.out.but hb1 (fun e => hdk e)).below bl1)
    have HX1 := Lib.hid ((hx.to (lo' := W0.heap.size) (y' := d1) (Nat.le_refl _) (.inr (.inl (by omega)))).below bl1)
    have HP1 := Lib.hid (hp1.below bl1)
    have HB1 := Lib.hid (HBL.out.trans (hb1.trans (But.of_b bl1)))
    have HE3 := Lib.hid (show exG n (.row lvl x1) (L.drop b1) = some out by rw [hbr]; exact HE2.out)
    have hW0w : w.heap.size ≤ W0.heap.size := by omega
    have hdd : ¬ d1 = k := by omega
    have hd1d : ¬ d1 = d := by omega
    have hW0d1 : W0.heap.size ≤ d1 := by omega
    have hkd1 : k < d1 := by omega
    have hwd1 : w.heap.size ≤ d1 := by omega
    rw [← hd1] at HY1 ⊢
    clear hx hp1 hb1 bl1 hbr HBX HC HBL HP0 HE2 hd1 hz1
    generalize (w1.alloc (.cells #[.int .i64 x1.kind, .int .i64 x1.num, .string x1.name, .slice A x1.args.length c] 74)) = W1 at *
    go_loopw [1] (fun u wr => ∃ (x2 : Ex) (b g m : Nat) (A2 : Option Addr) (c2 : Nat), u = .int .i64 (b : Int) ∧ m ≤ n ∧ b ≤ L.length ∧ g ≤ b ∧ Hid (exG m (.row lvl x2) (L.drop b) = some out) ∧ Hid (RkAt k L wr g) ∧ Hid (But (Is k) w wr) ∧ Hid (rdE W0.heap.size d1 wr x2 (exV x2.kind x2.num x2.name (.slice A2 x2.args.length c2))) ∧ Hid (Blk 0 wr d1 [.int .i64 x2.kind, .int .i64 x2.num, .string x2.name, .slice A2 x2.args.length c2]) ∧ Hid (Blk 0 wr d [.int .i64 0, .int .i64 0, .string ⟨#[]⟩, .slice none 0 0])) (fun u _ => L.length - (intOf u).toNat)
    case atStart => exact ⟨x1, b1, g1, n, A, c, rfl, Nat.le_refl _, hbl1, hgb1, HE3, HP1, HB1, HX1, HY1, HR1⟩
    case round =>
      clear HE3 HP1 HB1 HX1 HY1 HR1 hbl1 hgb1
      obtain ⟨x2, b, g, m, A2, c2, rfl, hmn, hbL, hgb, HE, HP, HB, HX, HY, HR⟩ := hrel
      obtain ⟨m, rfl⟩ : ∃ j, m = j + 1 := by cases m with
        | zero => cases HE.out
        | succ m => exact ⟨m, rfl⟩
      have HSG := Lib.hid (krsign_any HP.out b hbL hgb lvl (by omega))
      by_cases hs : anyG (lvlS lvl) (L.drop b) = ⟨#[]⟩
      · have HO := Lib.hid (show out = .ok x2 (L.drop b) by have h := HE.out; rw [exG_stop hs] at h; exact (Option.some.inj h).symm)
        rw [hs] at HSG
        clear hs HE H1
        go_upto_region 7 with (go_at_call 154; refine HSG.out.mono ?_; rintro e w3 ⟨b9, rfl, _, hp3, hb3⟩)
        have HR3 := Lib.hid (HR.out.but hb3 (fun e => hdk e))
        have HY3 := Lib.hid (HY.out.but hb3 (fun e => hdd e))
        have HX3 := Lib.hid (HX.out.but hb3 (.inl hkW0))
        have HB3 := Lib.hid (HB.out.trans hb3)
        have HP3 := Lib.hid hp3
        clear hp3 hb3 HR HY HX HB HP HSG
        have y0 := HY3.out.cell 0 _ rfl; have y1 := HY3.out.cell 1 _ rfl; have y2 := HY3.out.cell 2 _ rfl; have y3 := HY3.out.cell 3 _ rfl
        have r0 := HR3.out.cell 0 _ rfl; have r1 := HR3.out.cell 1 _ rfl; have r2 := HR3.out.cell 2 _ rfl; have r3 := HR3.out.cell 3 _ rfl
        have f0 := HR3.out.fr 0; have f1 := HR3.out.fr 1; have f2 := HR3.out.fr 2; have f3 := HR3.out.fr 3
        go_wp2
        exact ret_kok Tryd.results121 HR3.out HX3.out (fun h => by omega) hkW0 HP3.out HB3.out hlt hdw hWd HO.out rfl hbL (Nat.le_refl _) rfl rfl rfl rfl
      · obtain ⟨t, r2, hdr⟩ := anyG_ne hs
        obtain ⟨_, _, _, _, hbl, _, _, hdr1, _⟩ := HP.out.tok hdr
        have he3 := HE.out
        rw [exG_row hs, hdr, List.tail_cons, ← hdr] at he3
        rw [← hdr1] at he3
        have hS1 := H1.out m (by omega)
        have hs0 := ne_nil hs
        have hsev := lvl_sev (any_in hs)
        have hsn : ¬ anyG (lvlS lvl) (L.drop b) = ⟨#[]⟩ := hs
        obtain ⟨sg, hsg⟩ : ∃ sg, sg = anyG (lvlS lvl) (L.drop b) := ⟨_, rfl⟩
        rw [← hsg] at HSG he3 hs0 hsev hsn
        have HE3 := Lib.hid he3
        have HS1 := Lib.hid hS1
        have HKS := Lib.hid (fun W => ksign_any sg hsev W)
        have HSN := Lib.hid hsn
        have hbb : b + 1 ≤ L.length := by omega
        clear he3 hS1 HE hs hsg hdr hdr1 hsev hsn H1
        go_upto_region 8 with (go_at_call 154; refine HSG.out.mono ?_; rintro e w3 ⟨b9, rfl, hb9, hp3, hb3⟩; obtain rfl := hb9 HSN.out)
        have HR3 := Lib.hid (HR.out.but hb3 (fun e => hdk e))
        have HY3 := Lib.hid (HY.out.but hb3 (fun e => hdd e))
        have HX3 := Lib.hid (HX.out.but hb3 (.inl hkW0))
        have HB3 := Lib.hid (HB.out.trans hb3)
        have HP3 := Lib.hid hp3
        clear hp3 hb3 hb9 HR HY HX HB HP HSG HSN hs0
        rcases PO.bind_some HE3.out with ⟨q, e1, e2⟩ | ⟨x4, q, e1, e2⟩
        · have HC := Lib.hid (HS1.out b w3 (b + 1) _ e1 HP3.out hbb (by omega))
          have HO := Lib.hid e2
          clear e1 e2 HE3 HS1
          go_upto_region 9 with (go_at_call 121; refine HC.out.mono ?_; rintro e w4 ⟨x, z, g4, rfl, ⟨t4, hx4⟩, hfr, hp4, hb4⟩; obtain ⟨A4, c4, rfl⟩ := hx4.form)
          have bl4 : Below w4.heap.size w4 (w4.alloc (.cells #[.int .i64 t4.kind, .int .i64 t4.num, .string t4.name, .slice A4 t4.args.length c4] 74)) := (Below.refl _ _).alloc (Nat.le_refl _) _
          have HR4 := Lib.hid ((HR3.out.but hb4 (fun e => hdk e)).below bl4)
          have HY4 := Lib.hid ((HY3.out.but hb4 (fun e => hdd e)).below bl4)
          have HX4 := Lib.hid ((HX3.out.but hb4 (.inl hkW0)).below bl4)
          have HB4 := Lib.hid (HB3.out.trans (hb4.trans (But.of_b bl4)))
          have HP4 := Lib.hid (hp4.below bl4)
          have HFR := Lib.hid hfr
          clear hx4 hp4 hb4 bl4 hfr HR3 HY3 HX3 HB3 HP3 HC
          generalize (w4.alloc (.cells #[.int .i64 t4.kind, .int .i64 t4.num, .string t4.name, .slice A4 t4.args.length c4] 74)) = W4 at *
          have y0 := HY4.out.cell 0 _ rfl; have y1 := HY4.out.cell 1 _ rfl; have y2 := HY4.out.cell 2 _ rfl; have y3 := HY4.out.cell 3 _ rfl
          have r0 := HR4.out.cell 0 _ rfl; have r1 := HR4.out.cell 1 _ rfl; have r2 := HR4.out.cell 2 _ rfl; have r3 := HR4.out.cell 3 _ rfl
          have f0 := HR4.out.fr 0; have f1 := HR4.out.fr 1; have f2 := HR4.out.fr 2; have f3 := HR4.out.fr 3
          go_wp2
          exact ret_kno Tryd.results121 HR4.out HX4.out hkW0 HP4.out HB4.out hlt hdw hWd HO.out HFR.out rfl rfl rfl rfl
        · have HC := Lib.hid (HS1.out b w3 (b + 1) _ e1 HP3.out hbb (by omega))
          have HE4 := Lib.hid e2
          have hlen := exG_len _ _ _ _ _ e1
          simp only [moLen, List.length_drop] at hlen
          clear e1 e2 HE3 HS1
          go_upto_region 11 with (go_at_call 121; refine HC.out.mono ?_; rintro e w4 ⟨x, b4, g4, rfl, hx4, hbr, hbl4, hgb4, hp4, hb4⟩; obtain ⟨A4, c4, rfl⟩ := hx4.form)
          have bl4 : Below w4.heap.size w4 (w4.alloc (.cells #[.int .i64 x4.kind, .int .i64 x4.num, .string x4.name, .slice A4 x4.args.length c4] 74)) := (Below.refl _ _).alloc (Nat.le_refl _) _
          have hz3 := HY3.out.lt
          have hz4 := hb4.size
          have hz9 := HB3.out.size
          have HR4 := Lib.hid ((HR3.out.but hb4 (fun e => hdk e)).below bl4)
          have HY4 := Lib.hid ((HY3.out.but hb4 (fun e => hdd e)).below bl4)
          have HX4 := Lib.hid ((HX3.out.but hb4 (.inl hkW0)).below bl4)
          have HXB := Lib.hid (((rdE.to hx4 (lo' := W0.heap.size) (y' := d1) (by omega) (.inl hz3))).below bl4)
          have HB4 := Lib.hid (HB3.out.trans (hb4.trans (But.of_b bl4)))
          have HP4 := Lib.hid (hp4.below bl4)
          have HZ4 := Lib.hid (Blk.made w4 [.int .i64 x4.kind, .int .i64 x4.num, .string x4.name, .slice A4 x4.args.length c4] 74 (base := 0) (Nat.zero_le _))
          have HBR := Lib.hid hbr
          obtain ⟨d2, hd2⟩ : ∃ d2, d2 = w4.heap.size := ⟨_, rfl⟩
          have hd2d : ¬ d2 = d1 := by omega
          have hd24 : d2 < (w4.alloc (.cells #[.int .i64 x4.kind, .int .i64 x4.num, .string x4.name, .slice A4 x4.args.length c4] 74)).heap.size := by simp [hd2]
          have hd14 : d1 < (w4.alloc (.cells #[.int .i64 x4.kind, .int .i64 x4.num, .string x4.name, .slice A4 x4.args.length c4] 74)).heap.size := by simp; omega
          have hb4b : b < b4 := by have h2 := congrArg List.length hbr; rw [List.length_drop] at h2; omega
          rw [← hd2] at HZ4 ⊢
          clear hx4 hp4 hb4 bl4 hbr HR3 HY3 HX3 HB3 HP3 HC hd2 hz3 hz4 hz9
          generalize (w4.alloc (.cells #[.int .i64 x4.kind, .int .i64 x4.num, .string x4.name, .slice A4 x4.args.length c4] 74)) = W4 at *
          have y0 := HY4.out.cell 0 _ rfl; have y1 := HY4.out.cell 1 _ rfl; have y2 := HY4.out.cell 2 _ rfl; have y3 := HY4.out.cell 3 _ rfl
          have f0 := HY4.out.fr 0; have f1 := HY4.out.fr 1; have f2 := HY4.out.fr 2; have f3 := HY4.out.fr 3
          have z0 := HZ4.out.cell 0 _ rfl; have z1 := HZ4.out.cell 1 _ rfl; have z2 := HZ4.out.cell 2 _ rfl; have z3 := HZ4.out.cell 3 _ rfl
          go_region_with (go_at_call 155; refine (HKS.out _).mono ?_; rintro e w5 ⟨rfl, hb5⟩; have hbw : Below W4.heap.size W4 w5 := (by first | exact (Below.refl _ _).drew.trans hb5 | exact (((Below.refl _ _).alloc (Nat.le_refl _) _).drew.trans (hb5.mono (by simp)))); have hY5 := HY4.out.below hbw; have hZ5 := HZ4.out.below hbw; have hl5 := hY5.lt; have hl6 := hZ5.lt; have p0 := hY5.cell 0 _ rfl; have p1 := hY5.cell 1 _ rfl; have p2 := hY5.cell 2 _ rfl; have p3 := hY5.cell 3 _ rfl; have g0 := hY5.fr 0; have g1 := hY5.fr 1; have g2 := hY5.fr 2; have g3 := hY5.fr 3; have q0 := hZ5.cell 0 _ rfl; have q1 := hZ5.cell 1 _ rfl; have q2 := hZ5.cell 2 _ rfl; have q3 := hZ5.cell 3 _ rfl)
          all_goals (first
            | (change Exit.then _ _ Exit.normal _ ((set4 w5 d1 (.int .i64 (signK sg)) (.int .i64 0) (.string ⟨#[]⟩) (.slice (some ⟨w5.heap.size, 0, none⟩) 2 2)).alloc (.cells #[.int .i64 x2.kind, .int .i64 x2.num, .string x2.name, .slice A2 x2.args.length c2, .int .i64 x4.kind, .int .i64 x4.num, .string x4.name, .slice A4 x4.args.length c4] 74)); have HKR := Lib.hid (KReg.of_a (sg := sg) HX4.out HXB.out HP4.out HB4.out HY4.out HR4.out hkd1 hwd1 hd1d (by omega) hbw); clear hbw hb5 hY5 hZ5 hl5 hl6 p0 p1 p2 p3 g0 g1 g2 g3 q0 q1 q2 q3; generalize ((set4 w5 d1 (.int .i64 (signK sg)) (.int .i64 0) (.string ⟨#[]⟩) (.slice (some ⟨w5.heap.size, 0, none⟩) 2 2)).alloc (.cells #[.int .i64 x2.kind, .int .i64 x2.num, .string x2.name, .slice A2 x2.args.length c2, .int .i64 x4.kind, .int .i64 x4.num, .string x4.name, .slice A4 x4.args.length c4] 74)) = WF at *; generalize w5.heap.size = zz at *)
            | (change Exit.then _ _ Exit.normal _ (set4 w5 d1 (.int .i64 (signK sg)) (.int .i64 0) (.string ⟨#[]⟩) (.slice (some ⟨W4.heap.size, 0, none⟩) 2 2)); have HKR := Lib.hid (KReg.of_b (sg := sg) HX4.out HXB.out HP4.out HB4.out HY4.out HR4.out hkd1 hwd1 hd1d (by omega) ((Below.refl _ _).drew.trans hb5)); clear hbw hb5 hY5 hZ5 hl5 hl6 p0 p1 p2 p3 g0 g1 g2 g3 q0 q1 q2 q3; generalize (set4 w5 d1 (.int .i64 (signK sg)) (.int .i64 0) (.string ⟨#[]⟩) (.slice (some ⟨W4.heap.size, 0, none⟩) 2 2)) = WF at *; generalize W4.heap.size = zz at *))
          all_goals
            clear HX4 HXB HP4 HB4 HY4 HR4 HZ4 HKS
            by_cases hl0 : lvl = 0
            · have hlb : ((lvl : Int) == 0) = true := by rw [hl0]; rfl
              have HO := Lib.hid (show out = .ok (twoX sg x2 x4) q by have h := HE4.out; simp only [hl0, if_true] at h; exact (Option.some.inj h).symm)
              have a0 := HKR.out.y.cell 0 _ rfl; have a1 := HKR.out.y.cell 1 _ rfl; have a2 := HKR.out.y.cell 2 _ rfl; have a3 := HKR.out.y.cell 3 _ rfl
              have r0 := HKR.out.r.cell 0 _ rfl; have r1 := HKR.out.r.cell 1 _ rfl; have r2 := HKR.out.r.cell 2 _ rfl; have r3 := HKR.out.r.cell 3 _ rfl
              have s0 := HKR.out.r.fr 0; have s1 := HKR.out.r.fr 1; have s2 := HKR.out.r.fr 2; have s3 := HKR.out.r.fr 3
              clear HE4 hl0
              go_wp2
              exact ret_kok Tryd.results121 HKR.out.r HKR.out.x (fun h => by omega) hkW0 HKR.out.p HKR.out.b hlt hdw hWd HO.out HBR.out hbl4 hgb4 rfl rfl rfl rfl
            · have hlb : ((lvl : Int) == 0) = false := by simpa using hl0
              have HE5 := Lib.hid (show exG m (.row lvl (twoX sg x2 x4)) (L.drop b4) = some out by have h := HE4.out; rw [if_neg hl0] at h; rw [HBR.out]; exact h)
              clear HE4 hl0
              go_wp2
              go_roundw
              case rel => exact ⟨twoX sg x2 x4, b4, g4, m, _, _, rfl, by omega, hbl4, hgb4, HE5, Lib.hid HKR.out.p, Lib.hid HKR.out.b, Lib.hid HKR.out.x, Lib.hid HKR.out.y, Lib.hid HKR.out.r⟩
              case measure => simp [intOf]; omega
end Go.Proofs.YtijahadmaggncaaDoor
