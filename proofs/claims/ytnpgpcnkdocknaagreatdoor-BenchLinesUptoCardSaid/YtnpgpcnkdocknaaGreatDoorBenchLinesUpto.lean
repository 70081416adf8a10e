/- forkwright's law BenchLines (second form, for arguments of bulk at most 1048576): it returns true for every report and every text (the library's variables are what its text lays: tied). -/
import Derived.Test.YtnpgpcnkdocknaaGreatDoorGBnLaid
import Derived.Test.YtnpgpcnkdocknaaGreatDoorGAppZ
import Derived.Test.YtnpgpcnkdocknaaGreatDoorTie
import Derived.Test.YtnpgpcnkdocknaaGreatDoorCards
import Derived.SevenTiedAt
import Derived.LaidMore
import Derived.Stop.Joined
import Derived.ProofKit
import Derived.OpenShut
import Derived.ShutString
import Derived.JoinedCond
import Derived.Deep.CondSized
namespace Go.Proofs.YtnpgpcnkdocknaaGreatDoor.benchLinesUpto
open Go.ChangeShapes Go.WideShapes Go.ChangeAt Go.RowKit
open Go.ChangeMaps (open_string shut_string)
set_option linter.unusedVariables false

theorem own : ownKnob Tryz.prog.godebug = none := by kernel_rfl
theorem laidOut : laidOutB Tryz.prog = true := by kernel_rfl

set_option maxRecDepth 100000 in
theorem lifted (os : Os) (started : os.Started) (H : Type) (enc : TypeId × Value → H) (F : Stop.Interp) :
    ReturnsInHanded {} Tryz.checked os 3 .any (fun w args => ((Rows.OpenSpec.upto Rows.benchLinesSpec).pre enc Tryz.prog Tryz.f3 [] false w args ∧ laidMetH Tryz.prog laid1 w) ∧ sizedMet enc Tryz.prog Tryz.f3 (Rows.OpenSpec.upto Rows.benchLinesSpec) false w args)
     (((Rows.OpenSpec.upto Rows.benchLinesSpec).at F).post enc Tryz.prog Tryz.f3 false true false false) := by
 refine returns_of_cond_and (C := Tryz.checked) (s := Rows.OpenSpec.upto Rows.benchLinesSpec) (k := Rows.uptoSmall) rfl (X := fun w _ => laidMetH Tryz.prog laid1 w) (fun _ _ _ hh h => h.of_heap hh) own started (by kernel_rfl) Tryz.func3
  (witness_cond_shaped (enc := enc) (C := Tryz.checked) (os := os) (s := Rows.OpenSpec.upto Rows.benchLinesSpec) (k := Rows.uptoSmall) rfl (X := fun w _ => laidMetH Tryz.prog laid1 w) false (World.doorLaid Tryz.prog 400 os) #[.agg #[.int .i64 0, .int .i64 0, .int .i64 0, .int .i64 0, .int .i64 0, .int .i64 0, .int .i64 0, .int .i64 0, .int .i64 0, .int .i64 0, .int .i64 0, .int .i64 0, .slice none 0 0, .slice none 0 0, .slice none 0 0], .string .empty] 8 rfl (World.shaped_of_RefB (by kernel_rfl) (by kernel_rfl)) (by kernel_rfl) (x := ([.agg [.lit (.int .i64 0), .lit (.int .i64 0), .agg [.lit (.int .i64 0), .lit (.int .i64 0), .lit (.int .i64 0), .lit (.int .i64 0), .lit (.int .i64 0), .lit (.int .i64 0), .lit (.int .i64 0), .lit (.int .i64 0)], .lit (.int .i64 0), .lit (.int .i64 0), .nil, .nil, .nil], .lit (.string [])], [], [])) (by kernel_rfl) rfl (by kernel_rfl) (by kernel_rfl) (door_met os _)) ?_
 intro W base args ds gs before hval0 hW hcnd hk0 hsz hLd _
 have hk : Rows.uptoBulkAll (ds ++ gs) ≤ 1048576 := of_decide_eq_true hk0
 have hval : ∀ (j : Nat) t v, Tryz.f3.params[j]? = some t → args[j]? = some v → Value.okWide Tryz.prog W .any base t v := hval0
 have hW' := hW
 obtain ⟨p, q, hA0, hV, rfl, hfz, hnd⟩ := hW
 have hA : DataW.TrodAll enc Tryz.prog W 0 (fun _ => true) true Tryz.f3.params.toList args.toList ds p := hA0
 rw [Tryz.params3] at hA hval
 obtain ⟨v0, vs0, d0, ds0, p0, q0, hargs, rfl, rfl, h0, rt0⟩ := trodAll_cons hA
 obtain ⟨v1, vs1, d1, ds1, p1, q1, rfl, rfl, rfl, h1, rt1⟩ := trodAll_cons rt0
 obtain ⟨rfl, rfl, rfl⟩ := trodAll_nil rt1
 obtain rfl : args = #[v0, v1] := by cases args; simp_all
 obtain ⟨rfl, rfl⟩ := trodVars_none hV
 simp only [List.append_nil] at hk
 have k0 := h0
 have lt0 : ∀ x ∈ p0, x.block < W.heap.size := by obtain ⟨m, hm⟩ := k0; exact DataW.trod_lt m _ _ _ hm
 have hL0 : Light Tryz.prog 28 d0 := light_of hsz (j := 0) (by rw [Tryz.params3]; rfl) rfl
 obtain ⟨cs0, hv0, hcs0⟩ := okWide_struct Tryz.underlying28 (hval 0 28 v0 rfl rfl)
 obtain ⟨x0, r0, q0⟩ : ∃ x, RdRep W (Upto W.heap.size) x cs0.toList ∧ Rep.mu x ≤ Rows.uptoBulk d0 := by
  obtain ⟨fuel, hf⟩ := h0
  rw [hv0] at hf
  exact rep_open _ _ _ hf hL0
 have hls1 : ∀ bs, d1 = .lit (.string bs) → bs.length ≤ reachBytes := fun bs e => sized_string hsz (j := 1) (t := 9) (by rw [Tryz.params3]; rfl) (by subst e; rfl)
 obtain ⟨s1, rfl, rfl, rfl, w1⟩ := open_string Tryz.underlying9 (hval 1 9 v1 rfl rfl) h1
 have hs1 : s1.size ≤ reachBytes := by have := hls1 _ rfl; rwa [Array.length_toList] at this
 clear hA0 hval0
 subst hv0
 refine (benchLines_walk x0 cs0 s1 W r0 (by simp only [Rows.uptoBulkAll, Rows.uptoBulk] at hk; omega) (by simp only [Rows.uptoBulkAll, Rows.uptoBulk] at hk; have := data_len s1; omega) (nums_of_laid hLd) (fmt_of_laid hLd)).mono fun e W' ⟨he, bel⟩ => ?_
 subst he
 exact ⟨_, rfl, _, _, _, [], _, [], hW', trodAll_mk1 (shut_bool Tryz.underlying4 _), trodAll_cons_mk (Below.trod laidOut (by kernel_rfl) (of_decide_eq_true (by kernel_rfl)) k0 bel lt0) (trodAll_cons_mk (shut_string Tryz.underlying9 w1) trodAll_mk0), rfl, bel.frame _, fun h => by cases h⟩

theorem over : Rows.BenchLinesUptoSaid :=
 OpenClaim.holds_of_cond 3 Tryz.f3 rfl rfl rfl rfl rfl rfl rfl ⟨rfl, rfl, rfl, rfl, rfl⟩ rfl rfl rfl rfl rfl (by kernel_rfl) Tryz.func3 (by kernel_rfl)
  (of_decide_eq_true (by kernel_rfl)) (by unfold Func.isWrapper; first | (rw [if_pos (by decide +kernel)]; kernel_rfl) | (rw [if_neg (by decide +kernel)]; exact ⟨rfl, rfl⟩))
  (fun os started H enc _ F => lifted os started H enc F)

theorem proved : Rows.BenchLinesUptoCardSaid :=
 Claim7.holds_tied_plain_at .later [] Rows.benchLinesUptoCard.laidKinds true Rows.benchLinesUptoCard.stood.harness Rows.benchLinesUptoCard.stood.looks
  over (fun _ h => by cases h) (by kernel_rfl) (fun _ h => by cases h) benchLinesUpto_row_tie rfl ⟨rfl, rfl⟩ (by kernel_rfl) rfl
  (fun f fn hf hfn => by
   obtain rfl : f = 3 := Option.some.inj ((show Tryz.prog.funcNamed "forkwright/forkwrightlaw.BenchLines" = some 3 by kernel_rfl).symm.trans hf) |>.symm
   obtain rfl : fn = Tryz.f3 := (Option.some.inj (Tryz.func3.symm.trans hfn)).symm
   exact ⟨by kernel_rfl, fun j t ht => by
    rw [Tryz.params3] at ht
    rcases j with _ | _ | j
    ·have h3 : t = 28 := by simpa using ht.symm
     subst h3
     exact (show Tryz.prog.wantsStandIn 28 = false by kernel_rfl)
    ·have h3 : t = 9 := by simpa using ht.symm
     subst h3
     exact (show Tryz.prog.wantsStandIn 9 = false by kernel_rfl)
    ·simp at ht⟩)
  (by kernel_rfl)
#print axioms proved
end Go.Proofs.YtnpgpcnkdocknaaGreatDoor.benchLinesUpto
