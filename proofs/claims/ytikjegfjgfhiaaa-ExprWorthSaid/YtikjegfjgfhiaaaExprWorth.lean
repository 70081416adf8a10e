/- forkwright's law ExprWorth: it returns true for every expression and every list of binds (no condition of our own). -/
import Derived.Test.YtikjegfjgfhiaaaExLaw
import Derived.ProofKit
import Derived.OpenShut
import Derived.ShutString
import Derived.JoinedCond
import Derived.Deep.CondSized
namespace Go.Proofs.Ytikjegfjgfhiaaa.exprWorth
open Go.ChangeShapes Go.WideShapes Go.ChangeAt Go.RowKit
open Go.ChangeMaps (open_string shut_string)
set_option linter.unusedVariables false

theorem own : ownKnob Try.prog.godebug = none := by kernel_rfl
theorem laidOut : laidOutB Try.prog = true := by kernel_rfl

set_option maxRecDepth 100000 in
theorem lifted (os : Os) (started : os.Started) (H : Type) (enc : TypeId × Value → H) :
    ReturnsInHanded {} Try.checked os 3 .any (Rows.exprWorthSpec.pre6 enc Try.prog Try.f3 Rows.exprWorthRow.domain false) (Rows.exprWorthSpec.post enc Try.prog Try.f3 false true false false) := by
  refine returnsInHanded_of_change_sized (C := Try.checked) own started (by kernel_rfl) Try.func3
    (ChangeSpec.witness6 (enc := enc) (C := Try.checked) false ⟨#[], #[.agg #[.int .i64 0, .int .i64 0, .string .empty, .slice none 0 0], .slice none 0 0], []⟩ 8 (by kernel_rfl) (by kernel_rfl) (by kernel_rfl) (by kernel_rfl)) ?_
  intro W base args ds gs before hval0 hW hcnd hsz _
  have hval : ∀ (j : Nat) t v, Try.f3.params[j]? = some t → args[j]? = some v → Value.okWide Try.prog W .any base t v := hval0
  have hW' := hW
  obtain ⟨p, q, hA0, hV, rfl, hfz, hnd⟩ := hW
  have hA : DataW.TrodAll enc Try.prog W 0 (fun _ => true) true Try.f3.params.toList args.toList ds p := hA0
  rw [Try.params3] at hA hval
  obtain ⟨v0, vs0, d0, ds0, p0, q0, hargs, rfl, rfl, h0, rt0⟩ := trodAll_cons hA
  obtain ⟨v1, vs1, d1, ds1, p1, q1, rfl, rfl, rfl, h1, rt1⟩ := trodAll_cons rt0
  obtain ⟨rfl, rfl, rfl⟩ := trodAll_nil rt1
  obtain rfl : args = #[v0, v1] := by cases args; simp_all
  obtain ⟨rfl, rfl⟩ := trodVars_none hV
  have k0 := h0
  have lt0 : ∀ x ∈ p0, x.block < W.heap.size := by obtain ⟨m, hm⟩ := k0; exact DataW.trod_lt m _ _ _ hm
  have hL0 : Light Try.prog 24 d0 := light_of hsz (j := 0) (by rw [Try.params3]; rfl) rfl
  obtain ⟨cs0, hv0, hcs0⟩ := okWide_struct Try.underlying24 (hval 0 24 v0 rfl rfl)
  obtain ⟨x0, r0, q0⟩ : ∃ x, RdEx W (Upto W.heap.size) x cs0.toList ∧ Ex.wt x ≤ Rows.uptoBulk d0 := by
    obtain ⟨fuel, hf⟩ := h0
    rw [hv0] at hf
    exact ex_open _ _ _ hf hL0
  have k1 := h1
  have lt1 : ∀ x ∈ p1, x.block < W.heap.size := by obtain ⟨m, hm⟩ := k1; exact DataW.trod_lt m _ _ _ hm
  have hL1 : Light Try.prog 25 d1 := light_of hsz (j := 1) (by rw [Try.params3]; rfl) rfl
  obtain ⟨a1, len1, cap1, hv1⟩ := okWide_slice Try.underlying25 (hval 1 25 v1 rfl rfl)
  obtain ⟨x1, r1, q1⟩ : ∃ x, RdBds W (Upto W.heap.size) x v1 ∧ List.length x + 1 ≤ Rows.uptoBulk d1 := by
    obtain ⟨fuel, hf⟩ := h1
    obtain ⟨l, v, e, hr, hq⟩ := bds_open hf hL1
    rw [hv1] at e
    simp only [Value.cells, List.cons.injEq, and_true] at e
    rw [hv1, e]
    exact ⟨l, hr, hq⟩
  clear hA0 hval0
  subst hv0
  refine (exprWorth_walk x0 x1 W (.agg cs0) v1 (rdE_of r0) r1).mono fun e W' ⟨he, bel⟩ => ?_
  subst he
  exact ⟨_, rfl, _, _, _, [], _, [], hW', trodAll_mk1 (shut_bool Try.underlying4 _), trodAll_cons_mk (Below.trod laidOut (by kernel_rfl) (of_decide_eq_true (by kernel_rfl)) k0 bel lt0) (trodAll_cons_mk (Below.trod laidOut (by kernel_rfl) (of_decide_eq_true (by kernel_rfl)) k1 bel lt1) trodAll_mk0), rfl, bel.frame _, fun h => by cases h⟩

theorem over : Rows.exprWorthRow.holds Try.pinned (OpenSpec.ofChange Rows.exprWorthSpec) :=
  OpenClaim.holds_of_wide 3 Try.f3 rfl rfl rfl rfl rfl rfl rfl ⟨rfl, rfl, rfl, rfl, rfl⟩ rfl rfl rfl rfl rfl (by kernel_rfl) Try.func3 (by kernel_rfl)
    (of_decide_eq_true (by kernel_rfl)) (by unfold Func.isWrapper; first | (rw [if_pos (by decide +kernel)]; kernel_rfl) | (rw [if_neg (by decide +kernel)]; exact ⟨rfl, rfl⟩))
    (fun os started H enc _ => lifted os started H enc)

theorem proved : Rows.ExprWorthSaid := over
#print axioms proved
end Go.Proofs.Ytikjegfjgfhiaaa.exprWorth
