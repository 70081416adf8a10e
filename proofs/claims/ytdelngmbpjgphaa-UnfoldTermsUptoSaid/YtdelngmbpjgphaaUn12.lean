/- The walks of the builder's loop, and of what is left behind a round; the builder's block at nothing. -/
import Derived.Test.YtdelngmbpjgphaaUn11
namespace Go.Proofs.Ytdelngmbpjgphaa
open Go.RowKit
set_option linter.unusedVariables false
/-- the loop with N rounds left, as PLu has it -/
def PLuN (F : Nat) (s : ByteArray) (body els : List St) (N : Nat) : Prop := ∀ (base : Nat) (w : World) (d : Nat) (m : US) (env : List Bd) (lab : Nat) (S : Blocks) (ve tv : Value) (k : UK) (i tz : Int) (k1 n1 : Int) (s1 : ByteArray) (A1 : Option Addr) (m1 p1 : Nat) (k2 n2 : Int) (s2 : ByteArray) (A2 : Option Addr) (m2 p2 : Nat) (A3 : Option Addr) (p3 : Nat) (A4 : Option Addr) (p4 : Nat),
  BdAt w d F m → base ≤ d → Sub S (Upto base) → s.size ≤ 140737488355328 → RdSts w S body (.slice A3 body.length p3) → FrX (Is d) w env ve → env.length < m.st → ThenOk F d m.st w tv k → lab + labelsL body ≤ 1048576 → St.wts body ≤ 1048576 → inI i → inI tz → F < N + m.st →
  ∀ r, loopU F tz (fun i K m => blU F body (env ++ [⟨s, i⟩]) lab K m) N i k m = r →
  Calls Try.prog 47 #[.pointer (some ⟨d, 0, none⟩), .agg [.int .i64 7, .string s, .int .i64 k1, .int .i64 n1, .string s1, .slice A1 m1 p1, .int .i64 k2, .int .i64 n2, .string s2, .slice A2 m2 p2, .slice A3 body.length p3, .slice A4 els.length p4].toArray, ve, vI (lab : Int), vI i, vI tz, tv] w (OutU d F m.st w r)
/-- the boxes of a loop -/
structure LBx (base d : Nat) (g : Nat) (cs : List Value) (ve : Value) (lab : Nat) (i tz : Int) (tv : Value) (w : World) : Prop where
  b0 : Blk base w g [.pointer (some ⟨d, 0, none⟩)]
  b1 : Blk base w (g + 1) cs
  b2 : Blk base w (g + 2) [ve]
  b3 : Blk base w (g + 3) [vI (lab : Int)]
  b4 : Blk base w (g + 4) [vI i]
  b5 : Blk base w (g + 5) [vI tz]
  b6 : Blk base w (g + 6) [tv]
theorem LBx.but {base d g : Nat} {cs : List Value} {ve : Value} {lab : Nat} {i tz : Int} {tv : Value} {w w' : World} (h : LBx base d g cs ve lab i tz tv w) (hb : But (Is d) w w') (hd : d < g) : LBx base d g cs ve lab i tz tv w' := by
  have nd : ∀ j, ¬ Is d (g + j) := fun j e => by have e : g + j = d := e; omega
  exact ⟨h.b0.but hb (nd 0), h.b1.but hb (nd 1), h.b2.but hb (nd 2), h.b3.but hb (nd 3), h.b4.but hb (nd 4), h.b5.but hb (nd 5), h.b6.but hb (nd 6)⟩
set_option maxHeartbeats 2000000 in
set_option maxRecDepth 100000 in
theorem loopThen {F base d n g N : Nat} {w : World} {S : Blocks} {s : ByteArray} {body els : List St} {env : List Bd} {Ae : Option Addr} {ce lab : Nat} {i tz : Int} {tv : Value} {k : UK} {k1 n1 : Int} {s1 : ByteArray} {A1 : Option Addr} {m1 p1 : Nat} {k2 n2 : Int} {s2 : ByteArray} {A2 : Option Addr} {m2 p2 : Nat} {A3 : Option Addr} {p3 : Nat} {A4 : Option Addr} {p4 : Nat}
    (ih : PLuN F s body els N) (bx : LBx base d g [.int .i64 7, .string s, .int .i64 k1, .int .i64 n1, .string s1, .slice A1 m1 p1, .int .i64 k2, .int .i64 n2, .string s2, .slice A2 m2 p2, .slice A3 body.length p3, .slice A4 els.length p4] (.slice Ae env.length ce) lab i tz tv w) (hbd : base ≤ d) (hdg : d < g) (hS : Sub S (Upto base)) (hs : s.size ≤ 140737488355328) (r : RdSts w S body (.slice A3 body.length p3)) (hfx : FrX (Is d) w env (.slice Ae env.length ce)) (hel : env.length < n) (ht : ThenOk F d n w tv k) (hlab : lab + labelsL body ≤ 1048576) (hw : St.wts body ≤ 1048576)
    (hi : inI i) (htz : inI tz) (hit : i < tz) (hF : F < N + n) :
    ThenOk F d n w (.func (.func 62) #[] #[.pointer (some ⟨g, 0, none⟩), .pointer (some ⟨g + 1, 0, none⟩), .pointer (some ⟨g + 2, 0, none⟩), .pointer (some ⟨g + 3, 0, none⟩), .pointer (some ⟨g + 4, 0, none⟩), .pointer (some ⟨g + 5, 0, none⟩), .pointer (some ⟨g + 6, 0, none⟩)]) (fun m => loopU F tz (fun i K m => blU F body (env ++ [⟨s, i⟩]) lab K m) N (i + 1) k m) := by
  refine ⟨_, _, rfl, fun args w => by kernel_rfl, fun w' m hb ha hn x hx => ?_⟩
  have ht' := ht.but hb hn
  obtain ⟨K, caps, rfl, _⟩ := ht
  have hbw0 : base ≤ w.heap.size := by have := bx.b0.ge; have := bx.b0.lt; omega
  have hbw : base ≤ w'.heap.size := Nat.le_trans hbw0 hb.size
  have hsame : Same S w w' := hb.same (hS.trans (Sub.upto hbw0)) (fun q hq e => by have e : q = d := e; have := hS q hq; unfold Upto at this; omega)
  replace bx := bx.but hb hdg
  replace r := r.keep RdSt.keeps (Sub.refl _) hsame
  replace hfx := hfx.step hb (X' := Is d) (Sub.plus _ _ _)
  replace hel : env.length < m.st := Nat.lt_of_lt_of_le hel hn
  have hdw := HtAt.lt ha.1
  have bl1 : Below w'.heap.size w' (w'.alloc (.cells #[.int .i64 0, .int .i64 0, .bool false, .int .i64 0, .slice none 0 0] 26)) := (Below.refl _ _).alloc (Nat.le_refl _) _
  have HBA := Lib.hid (Blk.made w' [.int .i64 0, .int .i64 0, .bool false, .int .i64 0, .slice none 0 0] 26 (base := w'.heap.size) (Nat.le_refl _))
  have HBW := Lib.hid (show But (Is d) w' (w'.alloc (.cells #[.int .i64 0, .int .i64 0, .bool false, .int .i64 0, .slice none 0 0] 26)) from But.of_below bl1)
  have HS := Lib.hid hS
  have HIH := Lib.hid ih
  have HX := Lib.hid (bx.but (But.of_below bl1) hdg)
  have HA := Lib.hid (ha.below bl1)
  have HFX := Lib.hid (hfx.below bl1)
  have HTH := Lib.hid (ht'.below bl1 (Nat.le_refl _))
  have HR := Lib.hid (r.go RdSt.keeps bl1 (hS.trans (Sub.upto hbw)) (Sub.refl _))
  have hi1 : inI (i + 1) := by unfold inI at *; omega
  have hx1 : IntKind.i64.wrap (i + 1) = i + 1 := IntWalk.i64_in _ (by unfold inI at hi1; omega)
  have hx2 : wrap64 (i + 1) = i + 1 := IntWalk.wrap64_in _ (by unfold inI at hi1; omega)
  have hF2 : F < N + m.st := by omega
  clear ha hfx ht' bl1 r hS ih hsame hb bx
  go_enter Try.func62, Try.ntmps62
  go_upto_region 1 with (fail)
  generalize (w'.alloc (.cells #[.int .i64 0, .int .i64 0, .bool false, .int .i64 0, .slice none 0 0] 26)) = W at *
  have hgd : ¬ Is d w'.heap.size := fun e => by have e : w'.heap.size = d := e; omega
  have hgW : w'.heap.size < W.heap.size := HBA.out.lt
  have hgw : w'.heap.size ≤ w'.heap.size := Nat.le_refl _
  have a0 := HX.out.b0.cell 0 _ rfl
  have c0 := HX.out.b1.cell 0 _ rfl; have c1 := HX.out.b1.cell 1 _ rfl; have c2 := HX.out.b1.cell 2 _ rfl; have c3 := HX.out.b1.cell 3 _ rfl; have c4 := HX.out.b1.cell 4 _ rfl; have c5 := HX.out.b1.cell 5 _ rfl; have c6 := HX.out.b1.cell 6 _ rfl; have c7 := HX.out.b1.cell 7 _ rfl; have c8 := HX.out.b1.cell 8 _ rfl; have c9 := HX.out.b1.cell 9 _ rfl; have c10 := HX.out.b1.cell 10 _ rfl; have c11 := HX.out.b1.cell 11 _ rfl
  have a2 := HX.out.b2.cell 0 _ rfl
  have a3 := HX.out.b3.cell 0 _ rfl
  have a4 := HX.out.b4.cell 0 _ rfl
  have a5 := HX.out.b5.cell 0 _ rfl
  have a6 := HX.out.b6.cell 0 _ rfl
  go_wp2_with fail
  refine (HIH.out base W d m env lab S _ _ _ (i + 1) tz k1 n1 s1 A1 m1 p1 k2 n2 s2 A2 m2 p2 A3 p3 A4 p4 HA.out hbd HS.out hs HR.out HFX.out hel HTH.out hlab hw hi1 htz hF2 x hx).mono ?_
  clear a0 a2 a3 a4 a5 a6 hx1 hx2
  rintro e w4 ho
  cases x with
  | none =>
    obtain ⟨rfl, hb4⟩ := ho
    exact ⟨rfl, rfl, HBW.out.trans ((But.refl (Is d) W).trans hb4)⟩
  | some x =>
    obtain ⟨t, m1⟩ := x
    obtain ⟨⟨V, rfl, hf⟩, ha4, hn4, hb4⟩ := ho
    obtain ⟨k5, c5, wr5, lb5, A5, n5, cap5, rfl⟩ := hf.form
    have hb5 := (But.refl (Is d) W).trans hb4
    have HBA5 := Lib.hid (HBA.out.but hb5 hgd)
    have HF5 := Lib.hid (show FrT (Upto W.heap.size) w4 t (tmV k5 c5 wr5 lb5 (.slice A5 n5 cap5)) from hf.fewer (Sub.upto ((But.refl (Is d) W)).size))
    have HA5 := Lib.hid ha4
    have HB5 := Lib.hid (HBW.out.trans hb5)
    clear hf ha4 hb4 hb5
    (try clear c0 c1 c2 c3 c4 c5 c6 c7 c8 c9 c10 c11)
    have r0 := HBA5.out.cell 0 _ rfl; have r1 := HBA5.out.cell 1 _ rfl; have r2 := HBA5.out.cell 2 _ rfl; have r3 := HBA5.out.cell 3 _ rfl; have r4 := HBA5.out.cell 4 _ rfl
    have f0 := HBA5.out.fr 0; have f1 := HBA5.out.fr 1; have f2 := HBA5.out.fr 2; have f3 := HBA5.out.fr 3; have f4 := HBA5.out.fr 4
    go_wp2
    clear r0 r1 r2 r3 r4 f0 f1 f2 f3 f4
    have BF := set5_blk HBA5.out (.int .i64 k5) (.int .i64 c5) (.bool wr5) (.int .i64 lb5) (.slice A5 n5 cap5)
    have bg : But (Is (w'.heap.size)) w4 (((((w4.setCell ⟨w'.heap.size, 0, none⟩ (.int .i64 k5)).setCell ⟨w'.heap.size, 1, none⟩ (.int .i64 c5)).setCell ⟨w'.heap.size, 2, none⟩ (.bool wr5)).setCell ⟨w'.heap.size, 3, none⟩ (.int .i64 lb5)).setCell ⟨w'.heap.size, 4, none⟩ (.slice A5 n5 cap5)) := set5_but (But.refl _ _) (.inl (show Is (w'.heap.size) (w'.heap.size) from rfl)) _ _ _ _ _
    have bw := set5_but HB5.out (b := w'.heap.size) (.inr hgw) (.int .i64 k5) (.int .i64 c5) (.bool wr5) (.int .i64 lb5) (.slice A5 n5 cap5)
    have hf6 := (HF5.out.but (bg.sub (fun k hk => by have e : k = w'.heap.size := hk; subst e; exact hgW))).fewer (Sub.upto HBW.out.size)
    have ha6 := HA5.out.but bg (fun e => hgd e.symm)
    generalize (((((w4.setCell ⟨w'.heap.size, 0, none⟩ (.int .i64 k5)).setCell ⟨w'.heap.size, 1, none⟩ (.int .i64 c5)).setCell ⟨w'.heap.size, 2, none⟩ (.bool wr5)).setCell ⟨w'.heap.size, 3, none⟩ (.int .i64 lb5)).setCell ⟨w'.heap.size, 4, none⟩ (.slice A5 n5 cap5)) = WF at *
    refine ret_term Try.results62 rfl rfl BF ?_
    exact ⟨⟨_, rfl, hf6⟩, ha6, (by first | exact hn4 | exact Nat.le_trans (Nat.le_succ _) hn4), bw⟩
theorem loopU_zero {F : Nat} {tz : Int} {body : Int → UK → UK} {i : Int} {k : UK} {m : US} : loopU F tz body 0 i k m = if i < tz then none else k m := by rw [loopU]
theorem loopU_succ {F n : Nat} {tz : Int} {body : Int → UK → UK} {i : Int} {k : UK} {m : US} : loopU F tz body (n + 1) i k m = if i < tz then (if m.st < F then body i (loopU F tz body n (i + 1) k) m.step else none) else k m := by rw [loopU]
theorem loopU_done {F n : Nat} {tz : Int} {body : Int → UK → UK} {i : Int} {k : UK} {m : US} (h : ¬ i < tz) : loopU F tz body n i k m = k m := by
  cases n with
  | zero => rw [loopU_zero, if_neg h]
  | succ n => rw [loopU_succ, if_neg h]
theorem blk8 {base : Nat} (w : World) (cs : List Value) (v0 v2 v3 v4 v5 v6 : Value) (z : List Value) (t0 t1 t2 t3 t4 t5 t6 t7 : TypeId) (hb : base ≤ w.heap.size) :
    Below w.heap.size w ((((((((w.alloc (.cells [v0].toArray t0)).alloc (.cells cs.toArray t1)).alloc (.cells [v2].toArray t2)).alloc (.cells [v3].toArray t3)).alloc (.cells [v4].toArray t4)).alloc (.cells [v5].toArray t5)).alloc (.cells [v6].toArray t6)).alloc (.cells z.toArray t7)) ∧ Blk base ((((((((w.alloc (.cells [v0].toArray t0)).alloc (.cells cs.toArray t1)).alloc (.cells [v2].toArray t2)).alloc (.cells [v3].toArray t3)).alloc (.cells [v4].toArray t4)).alloc (.cells [v5].toArray t5)).alloc (.cells [v6].toArray t6)).alloc (.cells z.toArray t7)) w.heap.size [v0] ∧ Blk base ((((((((w.alloc (.cells [v0].toArray t0)).alloc (.cells cs.toArray t1)).alloc (.cells [v2].toArray t2)).alloc (.cells [v3].toArray t3)).alloc (.cells [v4].toArray t4)).alloc (.cells [v5].toArray t5)).alloc (.cells [v6].toArray t6)).alloc (.cells z.toArray t7)) (w.heap.size + 1) cs ∧ Blk base ((((((((w.alloc (.cells [v0].toArray t0)).alloc (.cells cs.toArray t1)).alloc (.cells [v2].toArray t2)).alloc (.cells [v3].toArray t3)).alloc (.cells [v4].toArray t4)).alloc (.cells [v5].toArray t5)).alloc (.cells [v6].toArray t6)).alloc (.cells z.toArray t7)) (w.heap.size + 2) [v2] ∧ Blk base ((((((((w.alloc (.cells [v0].toArray t0)).alloc (.cells cs.toArray t1)).alloc (.cells [v2].toArray t2)).alloc (.cells [v3].toArray t3)).alloc (.cells [v4].toArray t4)).alloc (.cells [v5].toArray t5)).alloc (.cells [v6].toArray t6)).alloc (.cells z.toArray t7)) (w.heap.size + 3) [v3] ∧ Blk base ((((((((w.alloc (.cells [v0].toArray t0)).alloc (.cells cs.toArray t1)).alloc (.cells [v2].toArray t2)).alloc (.cells [v3].toArray t3)).alloc (.cells [v4].toArray t4)).alloc (.cells [v5].toArray t5)).alloc (.cells [v6].toArray t6)).alloc (.cells z.toArray t7)) (w.heap.size + 4) [v4] ∧ Blk base ((((((((w.alloc (.cells [v0].toArray t0)).alloc (.cells cs.toArray t1)).alloc (.cells [v2].toArray t2)).alloc (.cells [v3].toArray t3)).alloc (.cells [v4].toArray t4)).alloc (.cells [v5].toArray t5)).alloc (.cells [v6].toArray t6)).alloc (.cells z.toArray t7)) (w.heap.size + 5) [v5] ∧ Blk base ((((((((w.alloc (.cells [v0].toArray t0)).alloc (.cells cs.toArray t1)).alloc (.cells [v2].toArray t2)).alloc (.cells [v3].toArray t3)).alloc (.cells [v4].toArray t4)).alloc (.cells [v5].toArray t5)).alloc (.cells [v6].toArray t6)).alloc (.cells z.toArray t7)) (w.heap.size + 6) [v6] ∧ Blk base ((((((((w.alloc (.cells [v0].toArray t0)).alloc (.cells cs.toArray t1)).alloc (.cells [v2].toArray t2)).alloc (.cells [v3].toArray t3)).alloc (.cells [v4].toArray t4)).alloc (.cells [v5].toArray t5)).alloc (.cells [v6].toArray t6)).alloc (.cells z.toArray t7)) (w.heap.size + 7) z := by
  have al : ∀ {w : World} {b : Nat} {vs : List Value} (o : Obj), Blk base w b vs → Blk base (w.alloc o) b vs := fun o h => h.below ((Below.refl _ _).alloc (Nat.le_refl _) o)
  have ne : ∀ (w : World) (n : Nat) (vs : List Value) (t : TypeId), w.heap.size = n → base ≤ n → Blk base (w.alloc (.cells vs.toArray t)) n vs := fun w n vs t e h => by subst e; exact Blk.made w vs t h
  have sz : ∀ {w : World} {n : Nat} (o : Obj), w.heap.size = n → (w.alloc o).heap.size = n + 1 := fun o e => by rw [World.size_alloc, e]
  have s1 := sz (.cells [v0].toArray t0) (rfl : w.heap.size = w.heap.size)
  have s2 := sz (.cells cs.toArray t1) s1
  have s3 := sz (.cells [v2].toArray t2) s2
  have s4 := sz (.cells [v3].toArray t3) s3
  have s5 := sz (.cells [v4].toArray t4) s4
  have s6 := sz (.cells [v5].toArray t5) s5
  have s7 := sz (.cells [v6].toArray t6) s6
  refine ⟨(((((((((Below.refl _ _).alloc (Nat.le_refl _) _).alloc (by omega) _).alloc (by omega) _).alloc (by omega) _).alloc (by omega) _).alloc (by omega) _).alloc (by omega) _).alloc (by omega) _), al _ (al _ (al _ (al _ (al _ (al _ (al _ (ne _ _ [v0] _ rfl hb))))))), al _ (al _ (al _ (al _ (al _ (al _ (ne _ _ cs _ s1 (by omega))))))), al _ (al _ (al _ (al _ (al _ (ne _ _ [v2] _ s2 (by omega)))))), al _ (al _ (al _ (al _ (ne _ _ [v3] _ s3 (by omega))))), al _ (al _ (al _ (ne _ _ [v4] _ s4 (by omega)))), al _ (al _ (ne _ _ [v5] _ s5 (by omega))), al _ (ne _ _ [v6] _ s6 (by omega)), ne _ _ z _ s7 (by omega)⟩
set_option maxHeartbeats 4000000 in
set_option maxRecDepth 100000 in
theorem loop_all (F : Nat) (s : ByteArray) (body els : List St) (hbody : PBu F body) : ∀ N, PLuN F s body els N := by
  intro N
  induction N with
  | zero =>
    intro base w d m env lab S ve tv k i tz k1 n1 s1 A1 m1 p1 k2 n2 s2 A2 m2 p2 A3 p3 A4 p4 ha hbd hS hs r hfx hel hth hlab hwt hi htz hF
    exact absurd hF (by have := ha.2.1; omega)
  | succ N ih =>
    intro base w d m env lab S ve tv kk i tz k1 n1 s1 A1 m1 p1 k2 n2 s2 A2 m2 p2 A3 p3 A4 p4 ha hbd hS hs r hfx hel hth hlab hwt hi htz hF res hres
    obtain ⟨Ae, ce, rfl, -, -⟩ := hfx.form
    have hth0 := hth
    obtain ⟨KK, caps, rfl, hKK, -⟩ := hth
    have hdw := HtAt.lt ha.1
    have hbw : base ≤ w.heap.size := by omega
    obtain ⟨bel, d0, d1, d2, d3, d4, d5, d6, d7⟩ := blk8 (base := base) w [.int .i64 7, .string s, .int .i64 k1, .int .i64 n1, .string s1, .slice A1 m1 p1, .int .i64 k2, .int .i64 n2, .string s2, .slice A2 m2 p2, .slice A3 body.length p3, .slice A4 els.length p4] (.pointer (some ⟨d, 0, none⟩)) (.slice Ae env.length ce) (vI (lab : Int)) (vI i) (vI tz) (.func (.func KK) #[] caps) [.int .i64 0, .int .i64 0, .bool false, .int .i64 0, .slice none 0 0] 79 112 106 3 3 3 107 26 hbw
    have HX := Lib.hid (show LBx base d w.heap.size [.int .i64 7, .string s, .int .i64 k1, .int .i64 n1, .string s1, .slice A1 m1 p1, .int .i64 k2, .int .i64 n2, .string s2, .slice A2 m2 p2, .slice A3 body.length p3, .slice A4 els.length p4] (.slice Ae env.length ce) lab i tz (.func (.func KK) #[] caps) ((((((((w.alloc (.cells #[.pointer (some ⟨d, 0, none⟩)] 79)).alloc (.cells [.int .i64 7, .string s, .int .i64 k1, .int .i64 n1, .string s1, .slice A1 m1 p1, .int .i64 k2, .int .i64 n2, .string s2, .slice A2 m2 p2, .slice A3 body.length p3, .slice A4 els.length p4].toArray 112)).alloc (.cells #[.slice Ae env.length ce] 106)).alloc (.cells #[vI (lab : Int)] 3)).alloc (.cells #[vI i] 3)).alloc (.cells #[vI tz] 3)).alloc (.cells #[.func (.func KK) #[] caps] 107)).alloc (.cells #[.int .i64 0, .int .i64 0, .bool false, .int .i64 0, .slice none 0 0] 26)) from ⟨d0, d1, d2, d3, d4, d5, d6⟩)
    have HBA := Lib.hid d7
    have HBW := Lib.hid (show But (Is d) w ((((((((w.alloc (.cells #[.pointer (some ⟨d, 0, none⟩)] 79)).alloc (.cells [.int .i64 7, .string s, .int .i64 k1, .int .i64 n1, .string s1, .slice A1 m1 p1, .int .i64 k2, .int .i64 n2, .string s2, .slice A2 m2 p2, .slice A3 body.length p3, .slice A4 els.length p4].toArray 112)).alloc (.cells #[.slice Ae env.length ce] 106)).alloc (.cells #[vI (lab : Int)] 3)).alloc (.cells #[vI i] 3)).alloc (.cells #[vI tz] 3)).alloc (.cells #[.func (.func KK) #[] caps] 107)).alloc (.cells #[.int .i64 0, .int .i64 0, .bool false, .int .i64 0, .slice none 0 0] 26)) from But.of_below bel)
    have HS := Lib.hid hS
    have HIH := Lib.hid ih
    have HBO := Lib.hid hbody
    have HA := Lib.hid (ha.below bel)
    have HFX := Lib.hid (hfx.below bel)
    have HTH := Lib.hid (hth0.below bel (Nat.le_refl _))
    have HR := Lib.hid (r.go RdSt.keeps bel (hS.trans (Sub.upto hbw)) (Sub.refl _))
    have HRES := Lib.hid hres
    have hsl := ha.2.1
    have hF2 := ha.2.2
    clear ha hfx hth0 bel r hS ih hbody d0 d1 d2 d3 d4 d5 d6 d7 hres
    go_enter Try.func47, Try.ntmps47
    go_upto_region 1 with (fail)
    generalize ((((((((w.alloc (.cells #[.pointer (some ⟨d, 0, none⟩)] 79)).alloc (.cells [.int .i64 7, .string s, .int .i64 k1, .int .i64 n1, .string s1, .slice A1 m1 p1, .int .i64 k2, .int .i64 n2, .string s2, .slice A2 m2 p2, .slice A3 body.length p3, .slice A4 els.length p4].toArray 112)).alloc (.cells #[.slice Ae env.length ce] 106)).alloc (.cells #[vI (lab : Int)] 3)).alloc (.cells #[vI i] 3)).alloc (.cells #[vI tz] 3)).alloc (.cells #[.func (.func KK) #[] caps] 107)).alloc (.cells #[.int .i64 0, .int .i64 0, .bool false, .int .i64 0, .slice none 0 0] 26)) = W at *
    obtain ⟨g, hg⟩ : ∃ g, g = w.heap.size := ⟨_, rfl⟩
    rw [← hg] at HX HBA ⊢
    have hdg : d < g := by omega
    have hgd : ¬ Is d (g + 1 + 1 + 1 + 1 + 1 + 1 + 1) := fun e => by have e : g + 1 + 1 + 1 + 1 + 1 + 1 + 1 = d := e; omega
    have hgW : g + 1 + 1 + 1 + 1 + 1 + 1 + 1 < W.heap.size := HBA.out.lt
    have hgw : w.heap.size ≤ g + 1 + 1 + 1 + 1 + 1 + 1 + 1 := by omega
    clear hg
    have a0 : W.cell? ⟨g, 0, none⟩ = _ := HX.out.b0.cell 0 _ rfl
    have c0 : W.cell? ⟨g + 1, 0, none⟩ = _ := HX.out.b1.cell 0 _ rfl; have c1 : W.cell? ⟨g + 1, 1, none⟩ = _ := HX.out.b1.cell 1 _ rfl; have c2 : W.cell? ⟨g + 1, 2, none⟩ = _ := HX.out.b1.cell 2 _ rfl; have c3 : W.cell? ⟨g + 1, 3, none⟩ = _ := HX.out.b1.cell 3 _ rfl; have c4 : W.cell? ⟨g + 1, 4, none⟩ = _ := HX.out.b1.cell 4 _ rfl; have c5 : W.cell? ⟨g + 1, 5, none⟩ = _ := HX.out.b1.cell 5 _ rfl; have c6 : W.cell? ⟨g + 1, 6, none⟩ = _ := HX.out.b1.cell 6 _ rfl; have c7 : W.cell? ⟨g + 1, 7, none⟩ = _ := HX.out.b1.cell 7 _ rfl; have c8 : W.cell? ⟨g + 1, 8, none⟩ = _ := HX.out.b1.cell 8 _ rfl; have c9 : W.cell? ⟨g + 1, 9, none⟩ = _ := HX.out.b1.cell 9 _ rfl; have c10 : W.cell? ⟨g + 1, 10, none⟩ = _ := HX.out.b1.cell 10 _ rfl; have c11 : W.cell? ⟨g + 1, 11, none⟩ = _ := HX.out.b1.cell 11 _ rfl
    have a2 : W.cell? ⟨g + 1 + 1, 0, none⟩ = _ := HX.out.b2.cell 0 _ rfl
    have a3 : W.cell? ⟨g + 1 + 1 + 1, 0, none⟩ = _ := HX.out.b3.cell 0 _ rfl
    have a4 : W.cell? ⟨g + 1 + 1 + 1 + 1, 0, none⟩ = _ := HX.out.b4.cell 0 _ rfl
    have a5 : W.cell? ⟨g + 1 + 1 + 1 + 1 + 1, 0, none⟩ = _ := HX.out.b5.cell 0 _ rfl
    have a6 : W.cell? ⟨g + 1 + 1 + 1 + 1 + 1 + 1, 0, none⟩ = _ := HX.out.b6.cell 0 _ rfl
    by_cases hlt : i < tz
    · by_cases hf : m.st < F
      · have hres2 : blU F body (env ++ [⟨s, i⟩]) lab (fun m => loopU F tz (fun i K m => blU F body (env ++ [⟨s, i⟩]) lab K m) N (i + 1) kk m) m.step = res := by have h := HRES.out; rw [loopU_succ, if_pos hlt, if_pos hf] at h; exact h
        obtain ⟨env1, he1⟩ : ∃ env1, env1 = env ++ [(⟨s, i⟩ : Bd)] := ⟨_, rfl⟩
        have HL1 := Lib.hid (show env1.length ≤ m.step.st from by rw [he1]; simp only [List.length_append, List.length_singleton, US.step]; omega)
        rw [← he1] at hres2
        have HE1 := Lib.hid he1
        clear he1
        go_upto_region 3 with (fail)
        go_wp2_with fail
        refine (ustep_ok HA.out hf).mono ?_
        rintro e w2 ⟨rfl, ha, hb⟩
        have HX2 := Lib.hid (HX.out.but hb hdg)
        have HBA2 := Lib.hid (HBA.out.but hb hgd)
        have HBW2 := Lib.hid (HBW.out.trans hb)
        have HA2 := Lib.hid ha
        have HFX2 := Lib.hid (HFX.out.step hb (X' := Is d) (Sub.plus _ _ _))
        have HTH2 := Lib.hid (HTH.out.but hb (Nat.le_succ _) : ThenOk F d m.step.st w2 _ kk)
        have hsW : Sub S (Upto W.heap.size) := HS.out.trans (Sub.upto (Nat.le_trans hbw HBW.out.size))
        have HR2 := Lib.hid (HR.out.keep RdSt.keeps (Sub.refl _) (hb.same hsW (fun q hq e => by have e : q = d := e; have := HS.out q hq; unfold Upto at this; omega)))
        have hgW2 : g + 1 + 1 + 1 + 1 + 1 + 1 + 1 < w2.heap.size := HBA2.out.lt
        have hsW2 : Sub S (Upto w2.heap.size) := hsW.trans (Sub.upto hb.size)
        clear ha hb a0 c0 c1 c2 c3 c4 c5 c6 c7 c8 c9 c10 c11 a2 a3 a4 a5 a6 HX HBA HBW HA HFX HTH HR hgW hsW
        have hgW := hgW2
        have HBW := HBW2
        have HBA := HBA2
        clear HBW2 HBA2 hgW2
        have a0 : w2.cell? ⟨g, 0, none⟩ = _ := HX2.out.b0.cell 0 _ rfl
        have c0 : w2.cell? ⟨g + 1, 0, none⟩ = _ := HX2.out.b1.cell 0 _ rfl; have c1 : w2.cell? ⟨g + 1, 1, none⟩ = _ := HX2.out.b1.cell 1 _ rfl; have c2 : w2.cell? ⟨g + 1, 2, none⟩ = _ := HX2.out.b1.cell 2 _ rfl; have c3 : w2.cell? ⟨g + 1, 3, none⟩ = _ := HX2.out.b1.cell 3 _ rfl; have c4 : w2.cell? ⟨g + 1, 4, none⟩ = _ := HX2.out.b1.cell 4 _ rfl; have c5 : w2.cell? ⟨g + 1, 5, none⟩ = _ := HX2.out.b1.cell 5 _ rfl; have c6 : w2.cell? ⟨g + 1, 6, none⟩ = _ := HX2.out.b1.cell 6 _ rfl; have c7 : w2.cell? ⟨g + 1, 7, none⟩ = _ := HX2.out.b1.cell 7 _ rfl; have c8 : w2.cell? ⟨g + 1, 8, none⟩ = _ := HX2.out.b1.cell 8 _ rfl; have c9 : w2.cell? ⟨g + 1, 9, none⟩ = _ := HX2.out.b1.cell 9 _ rfl; have c10 : w2.cell? ⟨g + 1, 10, none⟩ = _ := HX2.out.b1.cell 10 _ rfl; have c11 : w2.cell? ⟨g + 1, 11, none⟩ = _ := HX2.out.b1.cell 11 _ rfl
        have a2 : w2.cell? ⟨g + 1 + 1, 0, none⟩ = _ := HX2.out.b2.cell 0 _ rfl
        have a3 : w2.cell? ⟨g + 1 + 1 + 1, 0, none⟩ = _ := HX2.out.b3.cell 0 _ rfl
        have a4 : w2.cell? ⟨g + 1 + 1 + 1 + 1, 0, none⟩ = _ := HX2.out.b4.cell 0 _ rfl
        have HS5 := Lib.hid (show ∀ w', But (Is d) w2 w' → Same5 g (g + 1) (g + 1 + 1) (g + 1 + 1 + 1) (g + 1 + 1 + 1 + 1) w2 w' from fun w' h p hp => World.cell?_of_block (h.block _ (by omega) (fun e => by have e : p.block = d := e; omega)))
        have HDD := Lib.hid (show ∀ q, Is d q → q < w2.heap.size from fun q hq => by have e : q = d := hq; omega)
        go_upto_region 4 with (fail)
        refine wp_region_pre 10 (S := (fun w' => Same5 g (g + 1) (g + 1 + 1) (g + 1 + 1 + 1) (g + 1 + 1 + 1 + 1) w2 w')) (by kernel_rfl) (by kernel_rfl) (Same5.drew w2) (fun hHeld => ?_)
        simp only [List.take_succ_cons, List.take_zero]
        refine wpAnyH_take_at (i := 0) (v := ?_) (some 22) rfl rfl (by kernel_rfl) (by kernel_rfl) (by kernel_rfl) (fun _ _ _ h => h) (Or.inl ⟨by rfl, ?_⟩) (by assumption) ?_
        rotate_left
        · (intro w hSw; (try dsimp only at hSw); go_simp; (try with_reducible rfl))
        (try simp only [Act.put, List.setIfInBounds_toArray, List.set_cons_zero, List.set_cons_succ])
        refine wpAnyH_take_at (i := 1) (v := ?_) (some 23) rfl rfl (by kernel_rfl) (by kernel_rfl) (by kernel_rfl) (fun _ _ _ h => h) (Or.inl ⟨by rfl, ?_⟩) (by assumption) ?_
        rotate_left
        · (intro w hSw; (try dsimp only at hSw); go_simp; (try with_reducible rfl))
        (try simp only [Act.put, List.setIfInBounds_toArray, List.set_cons_zero, List.set_cons_succ])
        refine wpAnyH_take_at (i := 2) (v := ?_) (some 24) rfl rfl (by kernel_rfl) (by kernel_rfl) (by kernel_rfl) (fun _ _ _ h => h) (Or.inl ⟨by rfl, ?_⟩) (by assumption) ?_
        rotate_left
        · (intro w hSw; (try dsimp only at hSw); go_simp; (try with_reducible rfl))
        (try simp only [Act.put, List.setIfInBounds_toArray, List.set_cons_zero, List.set_cons_succ])
        refine wpAnyH_take_at (i := 3) (v := ?_) (some 25) rfl rfl (by kernel_rfl) (by kernel_rfl) (by kernel_rfl) (fun _ _ _ h => h) (Or.inl ⟨by rfl, ?_⟩) (by assumption) ?_
        rotate_left
        · (intro w hSw; (try dsimp only at hSw); go_simp; (try with_reducible rfl))
        (try simp only [Act.put, List.setIfInBounds_toArray, List.set_cons_zero, List.set_cons_succ])
        refine wpAnyH_take_at (i := 4) (v := ?_) (some 26) rfl rfl (by kernel_rfl) (by kernel_rfl) (by kernel_rfl) (fun _ _ _ h => h) (Or.inl ⟨by rfl, ?_⟩) (by assumption) ?_
        rotate_left
        · (intro w hSw; (try dsimp only at hSw); go_simp; (try with_reducible rfl))
        (try simp only [Act.put, List.setIfInBounds_toArray, List.set_cons_zero, List.set_cons_succ])
        refine wpAnyH_take_at (i := 5) (v := ?_) (some 27) rfl rfl (by kernel_rfl) (by kernel_rfl) (by kernel_rfl) (fun _ _ _ h => h) (Or.inl ⟨by rfl, ?_⟩) (by assumption) ?_
        rotate_left
        · (intro w hSw; (try dsimp only at hSw); go_simp; (try with_reducible rfl))
        (try simp only [Act.put, List.setIfInBounds_toArray, List.set_cons_zero, List.set_cons_succ])
        refine wpAnyH_take_at (i := 6) (v := ?_) (some 28) rfl rfl (by kernel_rfl) (by kernel_rfl) (by kernel_rfl) (fun _ _ _ h => h) (Or.inl ⟨by rfl, ?_⟩) (by assumption) ?_
        rotate_left
        · (intro w hSw; (try dsimp only at hSw); go_simp; (try with_reducible rfl))
        (try simp only [Act.put, List.setIfInBounds_toArray, List.set_cons_zero, List.set_cons_succ])
        refine wpAnyH_take_at (i := 8) (v := ?_) (some 30) rfl rfl (by kernel_rfl) (by kernel_rfl) (by kernel_rfl) (fun _ _ _ h => h) (Or.inl ⟨by rfl, ?_⟩) (by assumption) ?_
        rotate_left
        · (intro w hSw; (try dsimp only at hSw); go_simp; (try with_reducible rfl))
        (try simp only [Act.put, List.setIfInBounds_toArray, List.set_cons_zero, List.set_cons_succ])
        refine wpAnyH_take_at (i := 9) (v := ?_) (some 31) rfl rfl (by kernel_rfl) (by kernel_rfl) (by kernel_rfl) (fun _ _ _ h => h) (Or.inl ⟨by rfl, ?_⟩) (by assumption) ?_
        rotate_left
        · (intro w hSw; (try dsimp only at hSw); go_simp; (try with_reducible rfl))
        (try simp only [Act.put, List.setIfInBounds_toArray, List.set_cons_zero, List.set_cons_succ])
        refine wpAnyH_ready (rs := [7]) (by kernel_rfl) (by simp) ?_
        refine AllReadyH.cons rfl (fun K hK => ?_) AllReadyH.nil
        go_simp
        refine (bind_any env (by omega) s hs i hi w2.drew (Is d) _ HDD.out HFX2.out.drew).mono ?_
        rw [← HE1.out]
        rintro e w4 ⟨⟨x, rfl, hfx⟩, hb⟩
        obtain ⟨Ax, cx, rfl, -⟩ := hfx.form
        have hb34 := (But.refl (Is d) w2).drew.trans (But.of_below (T := Is d) hb)
        refine hK.out _ _ ?_ (fun hHeld => ?_)
        · exact HS5.out _ hb34
        clear hK K
        (try simp only [Act.put, List.setIfInBounds_toArray, List.set_cons_zero, List.set_cons_succ])
        have HX4 := Lib.hid (HX2.out.but hb34 hdg)
        have HA4 := Lib.hid (show BdAt w4 d F m.step from (HA2.out.but (T := Nowhere) (But.refl _ _).drew (fun h => h)).below hb)
        have HR4 := Lib.hid (HR2.out.keep RdSt.keeps (Sub.refl _) (hb34.same hsW2 (fun q hq e => by have e : q = d := e; have := HS.out q hq; unfold Upto at this; omega)))
        have HTHL := Lib.hid (loopThen HIH.out HX4.out hbd hdg HS.out hs HR4.out (HFX2.out.step hb34 (X' := Is d) (Sub.plus _ _ _)) (show env.length < m.step.st from by simp only [US.step]; omega) (HTH2.out.but hb34 (Nat.le_refl _)) hlab hwt hi htz hlt (show F < N + m.step.st from by simp only [US.step]; omega))
        clear hb
        refine wpAnyH_done (by kernel_rfl) ?_ _
        unfold QPre
        simp only [List.drop_succ_cons, List.drop_zero]
        clear a0 a2 a3 a4
        go_wp2_with fail
        refine (HBO.out base w4 d m.step env1 lab S _ _ _ _ HA4.out hbd HS.out HR4.out hfx HL1.out HTHL.out hlab hwt res hres2).mono ?_
        rintro e w4 ho
        cases res with
        | none =>
          obtain ⟨rfl, hb4⟩ := ho
          exact ⟨rfl, rfl, HBW.out.trans (hb34.trans hb4)⟩
        | some x =>
          obtain ⟨t, m1⟩ := x
          obtain ⟨⟨V, rfl, hf⟩, ha4, hn4, hb4⟩ := ho
          obtain ⟨k5, c5, wr5, lb5, A5, n5, cap5, rfl⟩ := hf.form
          have hb5 := hb34.trans hb4
          have HBA5 := Lib.hid (HBA.out.but hb5 hgd)
          have HF5 := Lib.hid (show FrT (Upto w2.heap.size) w4 t (tmV k5 c5 wr5 lb5 (.slice A5 n5 cap5)) from hf.fewer (Sub.upto (hb34).size))
          have HA5 := Lib.hid ha4
          have HB5 := Lib.hid (HBW.out.trans hb5)
          clear hf ha4 hb4 hb5
          (try clear c0 c1 c2 c3 c4 c5 c6 c7 c8 c9 c10 c11)
          have r0 := HBA5.out.cell 0 _ rfl; have r1 := HBA5.out.cell 1 _ rfl; have r2 := HBA5.out.cell 2 _ rfl; have r3 := HBA5.out.cell 3 _ rfl; have r4 := HBA5.out.cell 4 _ rfl
          have f0 := HBA5.out.fr 0; have f1 := HBA5.out.fr 1; have f2 := HBA5.out.fr 2; have f3 := HBA5.out.fr 3; have f4 := HBA5.out.fr 4
          go_wp2
          clear r0 r1 r2 r3 r4 f0 f1 f2 f3 f4
          have BF := set5_blk HBA5.out (.int .i64 k5) (.int .i64 c5) (.bool wr5) (.int .i64 lb5) (.slice A5 n5 cap5)
          have bg : But (Is (g + 1 + 1 + 1 + 1 + 1 + 1 + 1)) w4 (((((w4.setCell ⟨g + 1 + 1 + 1 + 1 + 1 + 1 + 1, 0, none⟩ (.int .i64 k5)).setCell ⟨g + 1 + 1 + 1 + 1 + 1 + 1 + 1, 1, none⟩ (.int .i64 c5)).setCell ⟨g + 1 + 1 + 1 + 1 + 1 + 1 + 1, 2, none⟩ (.bool wr5)).setCell ⟨g + 1 + 1 + 1 + 1 + 1 + 1 + 1, 3, none⟩ (.int .i64 lb5)).setCell ⟨g + 1 + 1 + 1 + 1 + 1 + 1 + 1, 4, none⟩ (.slice A5 n5 cap5)) := set5_but (But.refl _ _) (.inl (show Is (g + 1 + 1 + 1 + 1 + 1 + 1 + 1) (g + 1 + 1 + 1 + 1 + 1 + 1 + 1) from rfl)) _ _ _ _ _
          have bw := set5_but HB5.out (b := g + 1 + 1 + 1 + 1 + 1 + 1 + 1) (.inr hgw) (.int .i64 k5) (.int .i64 c5) (.bool wr5) (.int .i64 lb5) (.slice A5 n5 cap5)
          have hf6 := (HF5.out.but (bg.sub (fun k hk => by have e : k = g + 1 + 1 + 1 + 1 + 1 + 1 + 1 := hk; subst e; exact hgW))).fewer (Sub.upto HBW.out.size)
          have ha6 := HA5.out.but bg (fun e => hgd e.symm)
          generalize (((((w4.setCell ⟨g + 1 + 1 + 1 + 1 + 1 + 1 + 1, 0, none⟩ (.int .i64 k5)).setCell ⟨g + 1 + 1 + 1 + 1 + 1 + 1 + 1, 1, none⟩ (.int .i64 c5)).setCell ⟨g + 1 + 1 + 1 + 1 + 1 + 1 + 1, 2, none⟩ (.bool wr5)).setCell ⟨g + 1 + 1 + 1 + 1 + 1 + 1 + 1, 3, none⟩ (.int .i64 lb5)).setCell ⟨g + 1 + 1 + 1 + 1 + 1 + 1 + 1, 4, none⟩ (.slice A5 n5 cap5)) = WF at *
          refine ret_term Try.results47 rfl rfl BF ?_
          exact ⟨⟨_, rfl, hf6⟩, ha6, (by first | exact hn4 | exact Nat.le_trans (Nat.le_succ _) hn4), bw⟩
      · have hrn : res = none := by have h := HRES.out; rw [loopU_succ, if_pos hlt, if_neg hf] at h; exact h.symm
        subst hrn
        go_upto_region 3 with (fail)
        go_wp2_with fail
        refine (ustep_no HA.out hf).mono ?_
        rintro e w' ⟨rfl, hb⟩
        exact ⟨rfl, rfl, HBW.out.trans hb⟩
    · have hres2 : kk m = res := by have h := HRES.out; rw [loopU_done hlt] at h; exact h
      have hge : tz ≤ i := by omega
      go_upto_region 2 with (fail)
      go_wp2_with fail
      refine (HTH.out.run W m (But.refl _ _) HA.out (Nat.le_refl _) res hres2).mono ?_
      clear a0 c0 c1 c2 c3 c4 c5 c6 c7 c8 c9 c10 c11 a2 a3 a4 a5 a6
      rintro e w4 ho
      cases res with
      | none =>
        obtain ⟨rfl, hb4⟩ := ho
        exact ⟨rfl, rfl, HBW.out.trans ((But.refl (Is d) W).trans hb4)⟩
      | some x =>
        obtain ⟨t, m1⟩ := x
        obtain ⟨⟨V, rfl, hf⟩, ha4, hn4, hb4⟩ := ho
        obtain ⟨k5, c5, wr5, lb5, A5, n5, cap5, rfl⟩ := hf.form
        have hb5 := (But.refl (Is d) W).trans hb4
        have HBA5 := Lib.hid (HBA.out.but hb5 hgd)
        have HF5 := Lib.hid (show FrT (Upto W.heap.size) w4 t (tmV k5 c5 wr5 lb5 (.slice A5 n5 cap5)) from hf.fewer (Sub.upto ((But.refl (Is d) W)).size))
        have HA5 := Lib.hid ha4
        have HB5 := Lib.hid (HBW.out.trans hb5)
        clear hf ha4 hb4 hb5
        (try clear c0 c1 c2 c3 c4 c5 c6 c7 c8 c9 c10 c11)
        have r0 := HBA5.out.cell 0 _ rfl; have r1 := HBA5.out.cell 1 _ rfl; have r2 := HBA5.out.cell 2 _ rfl; have r3 := HBA5.out.cell 3 _ rfl; have r4 := HBA5.out.cell 4 _ rfl
        have f0 := HBA5.out.fr 0; have f1 := HBA5.out.fr 1; have f2 := HBA5.out.fr 2; have f3 := HBA5.out.fr 3; have f4 := HBA5.out.fr 4
        go_wp2
        clear r0 r1 r2 r3 r4 f0 f1 f2 f3 f4
        have BF := set5_blk HBA5.out (.int .i64 k5) (.int .i64 c5) (.bool wr5) (.int .i64 lb5) (.slice A5 n5 cap5)
        have bg : But (Is (g + 1 + 1 + 1 + 1 + 1 + 1 + 1)) w4 (((((w4.setCell ⟨g + 1 + 1 + 1 + 1 + 1 + 1 + 1, 0, none⟩ (.int .i64 k5)).setCell ⟨g + 1 + 1 + 1 + 1 + 1 + 1 + 1, 1, none⟩ (.int .i64 c5)).setCell ⟨g + 1 + 1 + 1 + 1 + 1 + 1 + 1, 2, none⟩ (.bool wr5)).setCell ⟨g + 1 + 1 + 1 + 1 + 1 + 1 + 1, 3, none⟩ (.int .i64 lb5)).setCell ⟨g + 1 + 1 + 1 + 1 + 1 + 1 + 1, 4, none⟩ (.slice A5 n5 cap5)) := set5_but (But.refl _ _) (.inl (show Is (g + 1 + 1 + 1 + 1 + 1 + 1 + 1) (g + 1 + 1 + 1 + 1 + 1 + 1 + 1) from rfl)) _ _ _ _ _
        have bw := set5_but HB5.out (b := g + 1 + 1 + 1 + 1 + 1 + 1 + 1) (.inr hgw) (.int .i64 k5) (.int .i64 c5) (.bool wr5) (.int .i64 lb5) (.slice A5 n5 cap5)
        have hf6 := (HF5.out.but (bg.sub (fun k hk => by have e : k = g + 1 + 1 + 1 + 1 + 1 + 1 + 1 := hk; subst e; exact hgW))).fewer (Sub.upto HBW.out.size)
        have ha6 := HA5.out.but bg (fun e => hgd e.symm)
        generalize (((((w4.setCell ⟨g + 1 + 1 + 1 + 1 + 1 + 1 + 1, 0, none⟩ (.int .i64 k5)).setCell ⟨g + 1 + 1 + 1 + 1 + 1 + 1 + 1, 1, none⟩ (.int .i64 c5)).setCell ⟨g + 1 + 1 + 1 + 1 + 1 + 1 + 1, 2, none⟩ (.bool wr5)).setCell ⟨g + 1 + 1 + 1 + 1 + 1 + 1 + 1, 3, none⟩ (.int .i64 lb5)).setCell ⟨g + 1 + 1 + 1 + 1 + 1 + 1 + 1, 4, none⟩ (.slice A5 n5 cap5)) = WF at *
        refine ret_term Try.results47 rfl rfl BF ?_
        exact ⟨⟨_, rfl, hf6⟩, ha6, (by first | exact hn4 | exact Nat.le_trans (Nat.le_succ _) hn4), bw⟩
end Go.Proofs.Ytdelngmbpjgphaa
