/- forkwright's law StealRuns (second form, for arguments of bulk at most 1048576): it returns true for every term, every number and every list of picks. -/
import Derived.Test.YtbpooepbnnbipaaStLaw
import Derived.Test.YtbpooepbnnbipaaOpenPk
import Derived.Test.YtbpooepbnnbipaaOpenTm
import Derived.ProofKit
import Derived.OpenShut
import Derived.ShutString
import Derived.JoinedCond
import Derived.Deep.CondSized
namespace Go.Proofs.Ytbpooepbnnbipaa.stealRunsUpto
open Go.ChangeShapes Go.WideShapes Go.ChangeAt Go.RowKit
open Go.ChangeMaps (open_string shut_string)
set_option linter.unusedVariables false

theorem own : ownKnob Try.prog.godebug = none := by kernel_rfl
theorem laidOut : laidOutB Try.prog = true := by kernel_rfl

set_option maxRecDepth 100000 in
theorem lifted (os : Os) (started : os.Started) (H : Type) (enc : TypeId × Value → H) (F : Stop.Interp) :
    ReturnsInHanded {} Try.checked os 3 .any ((Rows.OpenSpec.upto Rows.stealRunsSpec).pre6 enc Try.prog Try.f3 Rows.stealRunsUptoRow.domain false) (((Rows.OpenSpec.upto Rows.stealRunsSpec).at F).post enc Try.prog Try.f3 false true false false) := by
  refine returnsInHanded_of_cond_sized (C := Try.checked) (s := Rows.OpenSpec.upto Rows.stealRunsSpec) (k := Rows.uptoSmall) rfl own started (by kernel_rfl) Try.func3
    (OpenSpec.witness (enc := enc) (C := Try.checked) (s := Rows.OpenSpec.upto Rows.stealRunsSpec) (k := Rows.uptoSmall) rfl false ⟨#[], #[.agg #[.int .i64 0, .int .i64 0, .bool false, .int .i64 0, .slice none 0 0], .int .i64 0, .slice none 0 0], []⟩ 8 (by kernel_rfl) (by kernel_rfl) (by kernel_rfl)
      (x := ([.agg [.lit (.int .i64 0), .agg [.lit (.int .i64 0), .lit (.bool false), .lit (.int .i64 0)], .nil], .lit (.int .i64 0), .nil], [], [])) (by kernel_rfl) rfl (by kernel_rfl)) ?_
  intro W base args ds gs before hval0 hW hcnd hk0 hsz _
  have hk : Rows.uptoBulkAll (ds ++ gs) ≤ 1048576 := of_decide_eq_true hk0
  have hval : ∀ (j : Nat) t v, Try.f3.params[j]? = some t → args[j]? = some v → Value.okWide Try.prog W .any base t v := hval0
  have hW' := hW
  obtain ⟨p, q, hA0, hV, rfl, hfz, hnd⟩ := hW
  have hA : DataW.TrodAll enc Try.prog W 0 (fun _ => true) true Try.f3.params.toList args.toList ds p := hA0
  rw [Try.params3] at hA hval
  obtain ⟨v0, vs0, d0, ds0, p0, q0, hargs, rfl, rfl, h0, rt0⟩ := trodAll_cons hA
  obtain ⟨v1, vs1, d1, ds1, p1, q1, rfl, rfl, rfl, h1, rt1⟩ := trodAll_cons rt0
  obtain ⟨v2, vs2, d2, ds2, p2, q2, rfl, rfl, rfl, h2, rt2⟩ := trodAll_cons rt1
  obtain ⟨rfl, rfl, rfl⟩ := trodAll_nil rt2
  obtain rfl : args = #[v0, v1, v2] := by cases args; simp_all
  obtain ⟨rfl, rfl⟩ := trodVars_none hV
  simp only [List.append_nil] at hk
  have k0 := h0
  have lt0 : ∀ x ∈ p0, x.block < W.heap.size := by obtain ⟨m, hm⟩ := k0; exact DataW.trod_lt m _ _ _ hm
  have hL0 : Light Try.prog 26 d0 := light_of hsz (j := 0) (by rw [Try.params3]; rfl) rfl
  obtain ⟨cs0, hv0, hcs0⟩ := okWide_struct Try.underlying26 (hval 0 26 v0 rfl rfl)
  obtain ⟨x0, r0, q0⟩ : ∃ x, RdTm W (Upto W.heap.size) x cs0.toList ∧ Tm.wt x ≤ Rows.uptoBulk d0 := by
    obtain ⟨fuel, hf⟩ := h0
    rw [hv0] at hf
    exact tm_open _ _ _ hf hL0
  obtain ⟨n1, rfl, rfl, rfl, w1⟩ := open_int Try.underlying3 (hval 1 3 v1 rfl rfl) h1
  have k2 := h2
  have lt2 : ∀ x ∈ p2, x.block < W.heap.size := by obtain ⟨m, hm⟩ := k2; exact DataW.trod_lt m _ _ _ hm
  have hL2 : Light Try.prog 27 d2 := light_of hsz (j := 2) (by rw [Try.params3]; rfl) rfl
  obtain ⟨a2, len2, cap2, hv2⟩ := okWide_slice Try.underlying27 (hval 2 27 v2 rfl rfl)
  obtain ⟨x2, r2, q2⟩ : ∃ x, RdL (Flat encPk okPk) 2 16 W (Upto W.heap.size) x v2 ∧ List.length x + 1 ≤ Rows.uptoBulk d2 := by
    obtain ⟨fuel, hf⟩ := h2
    obtain ⟨l, v, e, hr, hq⟩ := picks_open hf hL2
    rw [hv2] at e
    simp only [Value.cells, List.cons.injEq, and_true] at e
    rw [hv2, e]
    exact ⟨l, hr, hq⟩
  clear hA0 hval0
  subst hv0
  refine (stealRuns_walk x0 n1 x2 W (.agg cs0) v2 (rdT_of r0) r2 (by have h1 := nodes_le_wt x0; simp only [Rows.uptoBulkAll] at hk; omega) (by simp only [Rows.uptoBulkAll] at hk; omega)).mono fun e W' ⟨he, bel⟩ => ?_
  subst he
  exact ⟨_, rfl, _, _, _, [], _, [], hW', trodAll_mk1 (shut_bool Try.underlying4 _), trodAll_cons_mk (Below.trod laidOut (by kernel_rfl) (of_decide_eq_true (by kernel_rfl)) k0 bel lt0) (trodAll_cons_mk (shut_int Try.underlying3 w1) (trodAll_cons_mk (Below.trod laidOut (by kernel_rfl) (of_decide_eq_true (by kernel_rfl)) k2 bel lt2) trodAll_mk0)), rfl, bel.frame _, fun h => by cases h⟩

theorem over : Rows.stealRunsUptoRow.holds Try.pinned (Rows.OpenSpec.upto Rows.stealRunsSpec) :=
  OpenClaim.holds_of_cond 3 Try.f3 rfl rfl rfl rfl rfl rfl rfl ⟨rfl, rfl, rfl, rfl, rfl⟩ rfl rfl rfl rfl rfl (by kernel_rfl) Try.func3 (by kernel_rfl)
    (of_decide_eq_true (by kernel_rfl)) (by unfold Func.isWrapper; first | (rw [if_pos (by decide +kernel)]; kernel_rfl) | (rw [if_neg (by decide +kernel)]; exact ⟨rfl, rfl⟩))
    (fun os started H enc _ F => lifted os started H enc F)

theorem proved : Rows.StealRunsUptoSaid := over
#print axioms proved
end Go.Proofs.Ytbpooepbnnbipaa.stealRunsUpto
