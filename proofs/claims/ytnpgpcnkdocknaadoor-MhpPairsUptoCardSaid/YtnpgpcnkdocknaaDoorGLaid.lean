/- Texts merged: EqI, EqPr, MpLaw, OpenEx, Open2, LaidUp, Laid. -/
import Derived.Test.YtnpgpcnkdocknaaDoorGRdEW
import Derived.BigQuiet
import Derived.Test.YtnpgpcnkdocknaaDoorGPrI
import Derived.Test.YtnpgpcnkdocknaaDoorMp3
import Derived.Test.YtnpgpcnkdocknaaDoorTq4
import Derived.Test.YtnpgpcnkdocknaaDoorGScW
import Derived.Test.YtnpgpcnkdocknaaDoorBase
import Derived.ProofKit
import Derived.LaidMore
import Derived.JoinedCond
import Derived.Deep.CondSized
import Derived.Test.YtnpgpcnkdocknaaDoorGTzLib
import Derived.Lib.LaidTab
namespace Go.Proofs.YtnpgpcnkdocknaaDoor
open Go.RowKit
set_option linter.unusedVariables false
set_option maxHeartbeats 400000 in
theorem equalIs (l : List Int) (w : World) (S T : Blocks) (v u : Value) (hS : Sub S (Upto w.heap.size)) (hT : Sub T (Upto w.heap.size)) (r : RdI w S l v) (r' : RdI w T l u) :
    Calls Tryd.prog 9 #[v, u] w fun e w' => e = .returned (.bool true) ∧ Below w.heap.size w w' := by
  obtain ⟨A, cap, rfl, hl, hcm, hby⟩ := r.form
  obtain ⟨A', cap', rfl, hl', hcm', _⟩ := r'.form
  unfold maxLen at hcm hcm'
  go_enter Tryd.func9, Tryd.ntmps9
  go_wp2
  go_loopw [13] (fun t wr => ∃ q : Nat, q ≤ l.length ∧ t = .int .i64 q ∧ Below w.heap.size w wr) (fun t _ => l.length - (intOf t).toNat)
  case atStart => exact ⟨0, by omega, rfl, Below.refl _ _⟩
  case round =>
    obtain ⟨q, hq, rfl, hbel⟩ := hrel
    by_cases hlt : q < l.length
    · obtain ⟨b, off, rfl, hb, hok, hc⟩ := RdI.at1 r hlt
      obtain ⟨b', off', rfl, hb', hok', hc'⟩ := RdI.at1 r' hlt
      have e0 := (hbel.cell (p := ⟨b, off + q, none⟩) (hS _ hb)).trans hc
      have e1 := (hbel.cell (p := ⟨b', off' + q, none⟩) (hT _ hb')).trans hc'
      have hq1 : (q : Int) < (l.length : Int) := by omega
      have hq0 : (0 : Int) ≤ (q : Int) := by omega
      clear r r' hc hc'
      go_wp2
      all_goals (try go_quiet (fail))
      all_goals (try go_wp2)
      go_roundw
      case rel => exact ⟨q + 1, by omega, by go_num, below_drewN hbel _⟩
      case measure => simp [intOf]; omega
    · go_wp2
      go_ret
      exact ⟨rfl, hbel⟩
set_option maxHeartbeats 400000 in
theorem equalPrs (l : List (Int × Int)) (w : World) (S T : Blocks) (v u : Value) (hS : Sub S (Upto w.heap.size)) (hT : Sub T (Upto w.heap.size)) (r : RdP w S l v) (r' : RdP w T l u) :
    Calls Tryd.prog 7 #[v, u] w fun e w' => e = .returned (.bool true) ∧ Below w.heap.size w w' := by
  obtain ⟨A, cap, rfl, hl, hcm, hby⟩ := r.form
  obtain ⟨A', cap', rfl, hl', hcm', _⟩ := r'.form
  unfold maxLen at hcm hcm'
  go_enter Tryd.func7, Tryd.ntmps7
  go_wp2
  go_loopw [13] (fun t wr => ∃ q : Nat, q ≤ l.length ∧ t = .int .i64 q ∧ Below w.heap.size w wr) (fun t _ => l.length - (intOf t).toNat)
  case atStart => exact ⟨0, by omega, rfl, Below.refl _ _⟩
  case round =>
    obtain ⟨q, hq, rfl, hbel⟩ := hrel
    by_cases hlt : q < l.length
    · obtain ⟨b, off, rfl, hb, hok, hc, hd⟩ := RdP.at1 r hlt
      obtain ⟨b', off', rfl, hb', hok', hc', hd'⟩ := RdP.at1 r' hlt
      have e0 := (hbel.cell (p := ⟨b, off + q * 2, none⟩) (hS _ hb)).trans hc
      have e1 := (hbel.cell (p := ⟨b', off' + q * 2, none⟩) (hT _ hb')).trans hc'
      have f0 := (hbel.cell (p := ⟨b, off + q * 2 + 1, none⟩) (hS _ hb)).trans hd
      have f1 := (hbel.cell (p := ⟨b', off' + q * 2 + 1, none⟩) (hT _ hb')).trans hd'
      have hq1 : (q : Int) < (l.length : Int) := by omega
      have hq0 : (0 : Int) ≤ (q : Int) := by omega
      clear r r' hc hc' hd hd'
      go_wp2
      all_goals (try go_quiet (fail))
      all_goals (try go_wp2)
      go_roundw
      case rel => exact ⟨q + 1, by omega, by go_num, below_drewN hbel _⟩
      case measure => simp [intOf]; omega
    · go_wp2
      go_ret
      exact ⟨rfl, hbel⟩
set_option maxHeartbeats 1000000 in
theorem mhpPairs_walk (l : List St) (w : World) (v : Value) (r : RdSts w (Upto w.heap.size) l v) (hwt : St.wts l ≤ 1048576) (hT : Tab w) :
    Calls Tryd.prog 3 #[v] w fun e w' => e = .returned (.bool true) ∧ Below w.heap.size w w' := by
  have HL := Lib.hid ((labs_all _ l (Nat.le_refl _)).2 w _ v (Sub.refl _) r hwt)
  have RD := Lib.hid (fun (w1 : World) (hb : Below w.heap.size w w1) => r.go RdSt.keeps hb (Sub.refl _) (Sub.refl _))
  have TD := Lib.hid (fun (w1 : World) (hb : Below w.heap.size w w1) => hT.go hb)
  have hlw := labelsL_le l
  clear r hT
  have HP := Lib.hid (fun (w1 : World) (hb : Below w.heap.size w w1) => pairs_any l hwt w1 (Upto w.heap.size) v (Sub.upto hb.size) (TD.out w1 hb) (RD.out w1 hb))
  have HO := Lib.hid (fun (w1 : World) (hb : Below w.heap.size w w1) => open_any l hwt w1 (Upto w.heap.size) v (Sub.upto hb.size) (TD.out w1 hb) (RD.out w1 hb))
  by_cases hn : labelsL l ≤ 65535
  · have HTP := Lib.hid (fun (w1 : World) (hb : Below w.heap.size w w1) => tpairs_any l 0 w1 (Upto w.heap.size) v (Sub.upto hb.size) (RD.out w1 hb) hwt (by omega))
    have HTO := Lib.hid (fun (w1 : World) (hb : Below w.heap.size w w1) => topen_any l 0 w1 (Upto w.heap.size) v (Sub.upto hb.size) (RD.out w1 hb) hwt (by omega))
    simp only [if_pos hn] at HP HO
    clear RD TD
    go_enter Tryd.func3, Tryd.ntmps3
    go_wp2_with fail
    refine HL.out.mono ?_
    rintro e w1 ⟨rfl, hb1⟩
    have B1 := Lib.hid hb1
    have C1 := Lib.hid (HP.out w1 hb1)
    clear hb1 HL HP
    go_wp2_with fail
    refine C1.out.mono ?_
    rintro e w2 ⟨u2, rfl, hr2, hb2⟩
    have B2 := Lib.hid (B1.out.trans (hb2.mono B1.out.size))
    have R2 := Lib.hid hr2
    have C2 := Lib.hid (HTP.out w2 B2.out)
    clear hb2 hr2 HTP C1
    go_wp2_with fail
    refine C2.out.mono ?_
    rintro e w3 ⟨A3, c3, rfl, hr3, hb3⟩
    have B3 := Lib.hid (B2.out.trans (hb3.mono B2.out.size))
    have C3 := Lib.hid (equalPrs (prsI l 0) w3 _ _ _ _ (plus_upto.trans (Sub.upto hb3.size)) plus_upto (R2.out.go Flat.keeps hb3 plus_upto (Sub.refl _)) hr3)
    clear hb3 hr3 C2 R2
    go_wp2_with fail
    refine C3.out.mono ?_
    rintro e w4 ⟨rfl, hb4⟩
    have B4 := Lib.hid (B3.out.trans (hb4.mono B3.out.size))
    have C4 := Lib.hid (HO.out w4 B4.out)
    clear hb4 C3 HO
    go_wp2_with fail
    refine C4.out.mono ?_
    rintro e w5 ⟨u5, rfl, hr5, hb5⟩
    have B5 := Lib.hid (B4.out.trans (hb5.mono B4.out.size))
    have R5 := Lib.hid hr5
    have C5 := Lib.hid (HTO.out w5 B5.out)
    clear hb5 hr5 C4 HTO
    go_wp2_with fail
    refine C5.out.mono ?_
    rintro e w6 ⟨A6, c6, rfl, hr6, hb6⟩
    have B6 := Lib.hid (B5.out.trans (hb6.mono B5.out.size))
    have C6 := Lib.hid (equalIs (opsI l 0) w6 _ _ _ _ (plus_upto.trans (Sub.upto hb6.size)) plus_upto (R5.out.go Flat.keeps hb6 plus_upto (Sub.refl _)) hr6)
    clear hb6 hr6 C5 R5
    go_wp2_with fail
    refine C6.out.mono ?_
    rintro e w7 ⟨rfl, hb7⟩
    have B7 := Lib.hid (B6.out.trans (hb7.mono B6.out.size))
    clear hb7 C6
    go_wp2_with fail
    go_ret
    exact ⟨rfl, B7.out⟩
  · simp only [if_neg hn] at HP HO
    have hgt : 65535 < labelsL l := by omega
    clear RD TD
    go_enter Tryd.func3, Tryd.ntmps3
    go_wp2_with fail
    refine HL.out.mono ?_
    rintro e w1 ⟨rfl, hb1⟩
    have B1 := Lib.hid hb1
    have C1 := Lib.hid (HP.out w1 hb1)
    clear hb1 HL HP
    go_wp2_with fail
    refine C1.out.mono ?_
    rintro e w2 ⟨u2, rfl, hr2, hb2⟩
    obtain ⟨A2, c2, rfl, _⟩ := hr2.form
    have B2 := Lib.hid (B1.out.trans (hb2.mono B1.out.size))
    have C2 := Lib.hid (HO.out w2 B2.out)
    clear hb2 hr2 C1 HO
    simp only [List.length_nil]
    go_wp2_with fail
    refine C2.out.mono ?_
    rintro e w3 ⟨u3, rfl, hr3, hb3⟩
    obtain ⟨A3, c3, rfl, _⟩ := hr3.form
    have B3 := Lib.hid (B2.out.trans (hb3.mono B2.out.size))
    clear hb3 hr3 C2
    simp only [List.length_nil]
    go_wp2_with fail
    go_ret
    exact ⟨rfl, B3.out⟩
end Go.Proofs.YtnpgpcnkdocknaaDoor
namespace Go.Proofs.YtnpgpcnkdocknaaDoor
open Go.ChangeShapes Go.WideShapes Go.ChangeAt Go.RowKit Go.Deep
set_option linter.unusedVariables false
instance : Inhabited Ex := ⟨.mk 0 0 ⟨#[]⟩ []⟩
instance : Inhabited St := ⟨.mk 0 ⟨#[]⟩ default default [] []⟩
instance : Inhabited Tm := ⟨.mk 0 0 false 0 []⟩
theorem cellsInt : Tryd.prog.cellsOf 3 = 1 := by kernel_rfl
theorem cellsStr : Tryd.prog.cellsOf 9 = 1 := by kernel_rfl
theorem cellsBool : Tryd.prog.cellsOf 4 = 1 := by kernel_rfl
theorem cellsEx : Tryd.prog.cellsOf 37 = 4 := by kernel_rfl
theorem cellsExs : Tryd.prog.cellsOf 35 = 1 := by kernel_rfl
theorem bytesEx : Tryd.prog.bytesOf 37 = 56 := by kernel_rfl

section
variable {H : Type} {enc : TypeId × Value → H} {w : World} {spare : Nat → Bool} {held : Bool}
theorem ex_open : ∀ (fuel : Nat) (cs : List Value) (x : DataW H × List MemPlace), DataW.trod enc Tryd.prog w 0 spare held fuel 37 cs = some x → Light Tryd.prog 37 x.1 →
    ∃ e, RdEx w (Upto w.heap.size) e cs ∧ Ex.wt e ≤ Rows.uptoBulk x.1 := by
  intro fuel
  induction fuel using Nat.strongRecOn with
  | ind fuel ih =>
    intro cs x h hL
    obtain ⟨xs, n, rfl, rfl, hlen, hxl, hg⟩ := DataW.trod_struct Tryd.underlying37 h
    rw [cellsEx] at hlen
    obtain ⟨c0, c1, c2, c3, rfl⟩ := len4 hlen
    obtain ⟨y0, y1, y2, y3, rfl⟩ := len4 hxl
    have g0 := hg 0 _ rfl
    have g1 := hg 1 _ rfl
    have g2 := hg 2 _ rfl
    have g3 := hg 3 _ rfl
    simp [cellsInt, cellsStr, cellsExs] at g0 g1 g2 g3
    have l2 := hL.field Tryd.underlying37 (i := 2) (f := _) (d := y2.1) rfl rfl
    have l3 := hL.field Tryd.underlying37 (i := 3) (f := _) (d := y3.1) rfl rfl
    obtain ⟨k, e0, rfl, wk⟩ := DataW.trod_int Tryd.underlying3 g0
    obtain ⟨m, e1, rfl, wm⟩ := DataW.trod_int Tryd.underlying3 g1
    obtain ⟨s, e2, rfl, ws⟩ := DataW.trod_string Tryd.underlying9 g2
    obtain ⟨l, v, e3, hv, hb⟩ := slice_open (mu := Ex.wt) (rd := RdEx) Tryd.underlying35 cellsEx bytesEx (by decide) l3 g3 (fun n' cs' y hn hy hLy => ih n' (by omega) cs' y hy hLy)
    simp only [List.cons.injEq, and_true] at e0 e1 e2 e3
    subst e0 e1 e2 e3
    refine ⟨.mk k m s l, RdEx.shut (inI_wf wk) (inI_wf wm) l2.string hv, ?_⟩
    simp only [Ex.wt, Ex.wts_eq, List.map_cons, List.map_nil, Rows.uptoBulk, Rows.uptoBulkAll, Array.length_toList]
    have : s.data.size = s.size := rfl
    omega
end
theorem cellsSt : Tryd.prog.cellsOf 39 = 12 := by kernel_rfl
theorem cellsSts : Tryd.prog.cellsOf 22 = 1 := by kernel_rfl
theorem bytesSt : Tryd.prog.bytesOf 39 = 184 := by kernel_rfl

section
variable {H : Type} {enc : TypeId × Value → H} {w : World} {spare : Nat → Bool} {held : Bool}
theorem st_open : ∀ (fuel : Nat) (cs : List Value) (x : DataW H × List MemPlace), DataW.trod enc Tryd.prog w 0 spare held fuel 39 cs = some x → Light Tryd.prog 39 x.1 →
    ∃ e, RdSt w (Upto w.heap.size) e cs ∧ St.wt e ≤ Rows.uptoBulk x.1 := by
  intro fuel
  induction fuel using Nat.strongRecOn with
  | ind fuel ih =>
    intro cs x h hL
    obtain ⟨xs, n, rfl, rfl, hlen, hxl, hg⟩ := DataW.trod_struct Tryd.underlying39 h
    rw [cellsSt] at hlen
    obtain ⟨c0, c1, c2, c3, c4, c5, c6, c7, c8, c9, c10, c11, rfl⟩ := len12 hlen
    obtain ⟨y0, y1, y2, y3, y4, y5, rfl⟩ := len6 hxl
    have g0 := hg 0 _ rfl
    have g1 := hg 1 _ rfl
    have g2 := hg 2 _ rfl
    have g3 := hg 3 _ rfl
    have g4 := hg 4 _ rfl
    have g5 := hg 5 _ rfl
    simp [cellsInt, cellsStr, cellsEx, cellsSts] at g0 g1 g2 g3 g4 g5
    have l1 := hL.field Tryd.underlying39 (i := 1) (f := _) (d := y1.1) rfl rfl
    have l2 := hL.field Tryd.underlying39 (i := 2) (f := _) (d := y2.1) rfl rfl
    have l3 := hL.field Tryd.underlying39 (i := 3) (f := _) (d := y3.1) rfl rfl
    have l4 := hL.field Tryd.underlying39 (i := 4) (f := _) (d := y4.1) rfl rfl
    have l5 := hL.field Tryd.underlying39 (i := 5) (f := _) (d := y5.1) rfl rfl
    obtain ⟨k, e0, rfl, wk⟩ := DataW.trod_int Tryd.underlying3 g0
    obtain ⟨s, e1, rfl, ws⟩ := DataW.trod_string Tryd.underlying9 g1
    obtain ⟨a, ra, ha⟩ := ex_open _ _ _ g2 l2
    obtain ⟨b, rb, hb⟩ := ex_open _ _ _ g3 l3
    obtain ⟨l, v, e4, hv, hbl⟩ := slice_open (mu := St.wt) (rd := RdSt) Tryd.underlying22 cellsSt bytesSt (by decide) l4 g4 (fun n' cs' y hn hy hLy => ih n' (by omega) cs' y hy hLy)
    obtain ⟨l', v', e5, hv', hbl'⟩ := slice_open (mu := St.wt) (rd := RdSt) Tryd.underlying22 cellsSt bytesSt (by decide) l5 g5 (fun n' cs' y hn hy hLy => ih n' (by omega) cs' y hy hLy)
    simp only [List.cons.injEq, and_true] at e0 e1 e4 e5
    subst e0 e1 e4 e5
    refine ⟨.mk k s a b l l', RdSt.shut (inI_wf wk) l1.string ra rb hv hv', ?_⟩
    simp only [St.wt, St.wts_eq, List.map_cons, List.map_nil, Rows.uptoBulk, Rows.uptoBulkAll, Array.length_toList]
    have : s.data.size = s.size := rfl
    omega
theorem sts_open {fuel : Nat} {cs : List Value} {x : DataW H × List MemPlace} (h : DataW.trod enc Tryd.prog w 0 spare held fuel 22 cs = some x) (hL : Light Tryd.prog 22 x.1) :
    ∃ l v, cs = [v] ∧ RdSts w (Upto w.heap.size) l v ∧ St.wts l + 1 ≤ Rows.uptoBulk x.1 := by
  obtain ⟨l, v, h1, h2, h3⟩ := slice_open (mu := St.wt) (rd := RdSt) Tryd.underlying22 cellsSt bytesSt (by decide) hL h (fun n' cs' y _ hy hLy => st_open n' cs' y hy hLy)
  exact ⟨l, v, h1, h2, by rw [St.wts_eq]; exact h3⟩
end
end Go.Proofs.YtnpgpcnkdocknaaDoor
namespace Go.Proofs.YtnpgpcnkdocknaaDoor
section
variable {H : Type} {enc : TypeId × Value → H}
theorem returns_of_cond_and {a : Assume} {C : Checked} {os : Os} {f : FuncId} {fn : Func} {s : OpenSpec} {k : (H : Type) → List (DataW H) → Bool} (hk : s.cond = some k) {F : Stop.Interp} {conds : List PathCond} {apart fresh handsOn again : Bool} {X : World → Array Value → Prop}
    (hX : ∀ (w w' : World) (args : Array Value), w.heap = w'.heap → X w args → X w' args)
    (own : ownKnob C.prog.godebug = none) (started : os.Started) (noInit : C.prog.inits.idxOf? f = none) (hfn : C.prog.funcs[f]? = some fn)
    (witness : ∃ (w : World) (tape : Tape) (i : Input), w.os = os ∧ (w.forCall tape i).Shaped C.prog ∧ i.vars = [] ∧ Input.okWide C.prog (w.forCall tape i) .any w.heap.size f i ∧
      ((s.pre enc C.prog fn conds apart (w.forCall tape i).memory i.args ∧ X (w.forCall tape i).memory i.args) ∧ sizedMet enc C.prog fn s apart (w.forCall tape i).memory i.args) ∧ a.holds C.prog (lone (Frame.enter C.prog f i.args .normal) [] (w.forCall tape i)))
    (contract : ∀ (W : World) (base : Nat) (args : Array Value) (ds gs : List (DataW H)) (before : List MemPlace),
      (∀ (j : Nat) t v, fn.params[j]? = some t → args[j]? = some v → Value.okWide C.prog W .any base t v) →
      DataW.Whole enc C.prog fn.params.toList s.vars apart W args.toList ds gs before →
      conds.all (PathCond.test C.prog ⟨fn.params.toList, ds, s.bare.plain.varTypes C.prog, gs⟩) = true → k H (ds ++ gs) = true →
      (DataW.weightsEach C.prog (fn.params.toList ++ s.bare.plain.varTypes C.prog) (ds ++ gs)).all (· ≤ reachBytes) = true → X W args →
      a.holds C.prog (lone (Frame.enter C.prog f args .normal) [] W) →
      Calls C.prog f args W fun e W' => ∃ v, e = .returned v ∧ (s.at F).post enc C.prog fn apart fresh handsOn again W args v W') :
    ReturnsInHanded a C os f .any (fun w args => (s.pre enc C.prog fn conds apart w args ∧ X w args) ∧ sizedMet enc C.prog fn s apart w args) ((s.at F).post enc C.prog fn apart fresh handsOn again) := by
  refine returnsInHanded_of_calls own started noInit witness ?_
  intro w tape i _ _ _ hok hpre hholds
  obtain ⟨_, _, _, fn', hfn', _, _, _, _, hval⟩ := hok
  have e : fn' = fn := Option.some.inj (hfn'.symm.trans hfn)
  subst e
  obtain ⟨ds, gs, before, hw, hc, hkk⟩ := (OpenSpec.pre_some hk conds apart _ _).1 hpre.1.1
  have hw' := DataW.Whole.of_heap (w' := w.forCall tape i) (by rfl) hw
  refine (contract (w.forCall tape i) w.heap.size i.args ds gs before hval hw' hc hkk (hpre.2.weights hw) (hX _ _ _ (by rfl) hpre.1.2) hholds).mono fun e W' ⟨v, he, hp⟩ => ?_
  subst he
  exact ChangeSpec.post_blind hp
theorem witness_cond_shaped {C : Checked} {os : Os} {f : FuncId} {fn : Func} {s : OpenSpec} {k : (H : Type) → List (DataW H) → Bool} (hk : s.cond = some k) {conds : List PathCond} {apart : Bool} {X : World → Array Value → Prop} (modest : Bool) (w0 : World) (args : Array Value) (fuel : Nat) (hos : w0.os = os)
    (hsh : (w0.forCall (fun _ _ => 0) ⟨#[], args, []⟩).Shaped C.prog)
    (hok : Input.okWideB C.prog (w0.forCall (fun _ _ => 0) ⟨#[], args, []⟩) f ⟨#[], args, []⟩ = true)
    {x : List (DataW H) × List (DataW H) × List MemPlace} (hx : DataW.whole enc C.prog (w0.forCall (fun _ _ => 0) ⟨#[], args, []⟩).memory fn.params.toList s.vars apart args.toList fuel = some x)
    (hconds : conds.all (PathCond.test C.prog ⟨fn.params.toList, x.1, s.bare.plain.varTypes C.prog, x.2.1⟩) = true) (hkk : k H (x.1 ++ x.2.1) = true)
    (hsz : s.bare.sizedB enc C.prog fn apart (w0.forCall (fun _ _ => 0) ⟨#[], args, []⟩).memory args fuel = true)
    (hX : X (w0.forCall (fun _ _ => 0) ⟨#[], args, []⟩).memory args) :
    ∃ (w : World) (tape : Tape) (i : Input), w.os = os ∧ (w.forCall tape i).Shaped C.prog ∧ i.vars = [] ∧ Input.okWide C.prog (w.forCall tape i) .any w.heap.size f i ∧
      ((s.pre enc C.prog fn conds apart (w.forCall tape i).memory i.args ∧ X (w.forCall tape i).memory i.args) ∧ sizedMet enc C.prog fn s apart (w.forCall tape i).memory i.args) ∧ ({ modest := modest } : Assume).holds C.prog (lone (Frame.enter C.prog f i.args .normal) [] (w.forCall tape i)) :=
  ⟨w0, fun _ _ => 0, ⟨#[], args, []⟩, hos, hsh, (Input.okWide_of_okWideB (base := 0) hok).1, (Input.okWide_of_okWideB hok).2,
    ⟨⟨(OpenSpec.pre_some hk conds apart _ _).2 ⟨x.1, x.2.1, x.2.2, DataW.Whole_of_whole hx, hconds, hkk⟩, hX⟩, sizedMet_of_sizedB hsz⟩, by
    simp only [Assume.holds]
    exact ⟨by simp, by simp, fun _ => Modest.zero, by simp, by simp⟩⟩
end
end Go.Proofs.YtnpgpcnkdocknaaDoor
namespace Go.Proofs.YtnpgpcnkdocknaaDoor
open Go.ChangeShapes Go.WideShapes Go.ChangeAt Go.RowKit
set_option linter.unusedVariables false
def laid1 : List (String × DataW Unit) := [("math/bits.deBruijn64tab", Rows.laid_math_bits_deBruijn64tab)]
theorem gTab : Tryd.prog.globalNamed "math/bits.deBruijn64tab" = some 0 := by kernel_rfl
theorem tTab : (Tryd.prog.globals[0]?).map (·.type) = some 71 := by kernel_rfl
theorem cTab : Tryd.prog.cellsOf 71 = 64 := by kernel_rfl
theorem cTab1 : Tryd.prog.cellsOf 5 = 1 := by kernel_rfl
theorem tab_of_laid {W : World} (h : laidMetH Tryd.prog laid1 W) : Tab W := by
  rw [MakeChecks.laidMetH_plain _ _ _ (by kernel_rfl)] at h
  have hT : Lib.TabIs Tryd.prog W "math/bits.deBruijn64tab" .u8 (Lib.deBruijn64tab.map fun (n : Nat) => (n : Int)) := Lib.tabIs_of_head (rest := []) gTab tTab Tryd.underlying71 Tryd.underlying5 cTab1 cTab h
  have hc : TabAt 0 Lib.deBruijn64tab W := by
    intro j hj
    have := hT.cell gTab j (by simpa using hj)
    rw [this]
    simp [List.getD, hj]
  exact ⟨hc, World.block_lt_of_cell? W _ (hc 0 (by decide))⟩
/-- The door's own heap meets the condition: three closed facts. -/
theorem door_met (os : Os) (args : Array Value) : laidMetH Tryd.prog laid1 ((World.doorLaid Tryd.prog 400 os).forCall (fun _ _ => 0) ⟨#[], args, []⟩).memory :=
  laidMetH_of_parts3 (fuel := 8) (laidMet_of_run' 8 (by kernel_rfl) (by kernel_rfl)) (by kernel_rfl) (by kernel_rfl)
end Go.Proofs.YtnpgpcnkdocknaaDoor
