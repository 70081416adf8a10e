/- forkwright's law SpGraphs (second form, for arguments of bulk at most 1048576): it returns true for every term (the library's table is what its text lays: tied). -/
import Derived.Test.YtknaoianhjeccaaDoorSg8
import Derived.Test.YtknaoianhjeccaaDoorOpenTm
import Derived.Test.YtknaoianhjeccaaDoorLaidUp
import Derived.Test.YtknaoianhjeccaaDoorLaid
import Derived.Test.YtknaoianhjeccaaDoorTie
import Derived.Test.YtknaoianhjeccaaDoorCards
import Derived.SevenTiedAt
import Derived.LaidMore
import Derived.Stop.Joined
import Derived.ProofKit
import Derived.OpenShut
import Derived.ShutString
import Derived.JoinedCond
import Derived.Deep.CondSized
namespace Go.Proofs.YtknaoianhjeccaaDoor.spGraphsUpto
open Go.ChangeShapes Go.WideShapes Go.ChangeAt Go.RowKit
open Go.ChangeMaps (open_string shut_string)
set_option linter.unusedVariables false

theorem own : ownKnob Tryd.prog.godebug = none := by kernel_rfl
theorem laidOut : laidOutB Tryd.prog = true := by kernel_rfl

set_option maxRecDepth 100000 in
theorem lifted (os : Os) (started : os.Started) (H : Type) (enc : TypeId × Value → H) (F : Stop.Interp) :
    ReturnsInHanded {} Tryd.checked os 4 .any (fun w args => ((Rows.OpenSpec.upto Rows.spGraphsSpec).pre enc Tryd.prog Tryd.f4 [] false w args ∧ laidMetH Tryd.prog laid1 w) ∧ sizedMet enc Tryd.prog Tryd.f4 (Rows.OpenSpec.upto Rows.spGraphsSpec) false w args)
      (((Rows.OpenSpec.upto Rows.spGraphsSpec).at F).post enc Tryd.prog Tryd.f4 false true false false) := by
  refine returns_of_cond_and (C := Tryd.checked) (s := Rows.OpenSpec.upto Rows.spGraphsSpec) (k := Rows.uptoSmall) rfl (X := fun w _ => laidMetH Tryd.prog laid1 w) (fun _ _ _ hh h => h.of_heap hh) own started (by kernel_rfl) Tryd.func4
    (witness_cond_shaped (enc := enc) (C := Tryd.checked) (os := os) (s := Rows.OpenSpec.upto Rows.spGraphsSpec) (k := Rows.uptoSmall) rfl (X := fun w _ => laidMetH Tryd.prog laid1 w) false (World.doorLaid Tryd.prog 400 os) #[.agg #[.int .i64 0, .int .i64 0, .bool false, .int .i64 0, .slice none 0 0]] 8 rfl (World.shaped_of_RefB (by kernel_rfl) (by kernel_rfl)) (by kernel_rfl) (x := ([.agg [.lit (.int .i64 0), .agg [.lit (.int .i64 0), .lit (.bool false), .lit (.int .i64 0)], .nil]], [], [])) (by kernel_rfl) rfl (by kernel_rfl) (by kernel_rfl) (door_met os _)) ?_
  intro W base args ds gs before hval0 hW hcnd hk0 hsz hLd _
  have hk : Rows.uptoBulkAll (ds ++ gs) ≤ 1048576 := of_decide_eq_true hk0
  have hval : ∀ (j : Nat) t v, Tryd.f4.params[j]? = some t → args[j]? = some v → Value.okWide Tryd.prog W .any base t v := hval0
  have hW' := hW
  obtain ⟨p, q, hA0, hV, rfl, hfz, hnd⟩ := hW
  have hA : DataW.TrodAll enc Tryd.prog W 0 (fun _ => true) true Tryd.f4.params.toList args.toList ds p := hA0
  rw [Tryd.params4] at hA hval
  obtain ⟨v0, vs0, d0, ds0, p0, q0, hargs, rfl, rfl, h0, rt0⟩ := trodAll_cons hA
  obtain ⟨rfl, rfl, rfl⟩ := trodAll_nil rt0
  obtain rfl : args = #[v0] := by cases args; simp_all
  obtain ⟨rfl, rfl⟩ := trodVars_none hV
  simp only [List.append_nil] at hk
  have k0 := h0
  have lt0 : ∀ x ∈ p0, x.block < W.heap.size := by obtain ⟨m, hm⟩ := k0; exact DataW.trod_lt m _ _ _ hm
  have hL0 : Light Tryd.prog 35 d0 := light_of hsz (j := 0) (by rw [Tryd.params4]; rfl) rfl
  obtain ⟨cs0, hv0, hcs0⟩ := okWide_struct Tryd.underlying35 (hval 0 35 v0 rfl rfl)
  obtain ⟨x0, r0, q0⟩ : ∃ x, RdTm W (Upto W.heap.size) x cs0.toList ∧ Tm.wt x ≤ Rows.uptoBulk d0 := by
    obtain ⟨fuel, hf⟩ := h0
    rw [hv0] at hf
    exact tm_open _ _ _ hf hL0
  clear hA0 hval0
  subst hv0
  refine (spGraphs_walk x0 W (.agg cs0) (rdT_of r0) (by have h1 := Tm.count_le_wt x0; simp only [Rows.uptoBulkAll] at hk; omega) (tab_of_laid hLd)).mono fun e W' ⟨he, bel⟩ => ?_
  subst he
  exact ⟨_, rfl, _, _, _, [], _, [], hW', trodAll_mk1 (shut_bool Tryd.underlying4 _), trodAll_cons_mk (Below.trod laidOut (by kernel_rfl) (of_decide_eq_true (by kernel_rfl)) k0 bel lt0) trodAll_mk0, rfl, bel.frame _, fun h => by cases h⟩

theorem over : Rows.SpGraphsUptoSaid :=
  OpenClaim.holds_of_cond 4 Tryd.f4 rfl rfl rfl rfl rfl rfl rfl ⟨rfl, rfl, rfl, rfl, rfl⟩ rfl rfl rfl rfl rfl (by kernel_rfl) Tryd.func4 (by kernel_rfl)
    (of_decide_eq_true (by kernel_rfl)) (by unfold Func.isWrapper; first | (rw [if_pos (by decide +kernel)]; kernel_rfl) | (rw [if_neg (by decide +kernel)]; exact ⟨rfl, rfl⟩))
    (fun os started H enc _ F => lifted os started H enc F)

theorem proved : Rows.SpGraphsUptoCardSaid :=
  Claim7.holds_tied_plain_at .later [] Rows.spGraphsUptoCard.laidKinds true Rows.spGraphsUptoCard.stood.harness Rows.spGraphsUptoCard.stood.looks
    over (fun _ h => by cases h) (by kernel_rfl) (fun _ h => by cases h) spGraphsUpto_row_tie rfl ⟨rfl, rfl⟩ (by kernel_rfl) rfl
    (fun f fn hf hfn => by
      obtain rfl : f = 4 := Option.some.inj ((show Tryd.prog.funcNamed "forkwright/forkwrightlaw.SpGraphs" = some 4 by kernel_rfl).symm.trans hf) |>.symm
      obtain rfl : fn = Tryd.f4 := (Option.some.inj (Tryd.func4.symm.trans hfn)).symm
      exact ⟨by kernel_rfl, fun j t ht => by
        rw [Tryd.params4] at ht
        rcases j with _ | j
        · have h3 : t = 35 := by simpa using ht.symm
          subst h3
          exact (show Tryd.prog.wantsStandIn 35 = false by kernel_rfl)
        · simp at ht⟩)
    (by kernel_rfl)
#print axioms proved
end Go.Proofs.YtknaoianhjeccaaDoor.spGraphsUpto
