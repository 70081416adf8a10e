/- forkwright's law UnfoldTerms (second form, for arguments of bulk at most 1048576): it returns true for every list of statements, every heap and every fuel. -/
import Derived.Test.YtdelngmbpjgphaaGOpenEx
import Derived.Test.YtdelngmbpjgphaaGOpenH
import Derived.ProofKit
import Derived.OpenShut
import Derived.ShutString
import Derived.JoinedCond
import Derived.Deep.CondSized
namespace Go.Proofs.Ytdelngmbpjgphaa.unfoldTermsUpto
open Go.ChangeShapes Go.WideShapes Go.ChangeAt Go.RowKit
open Go.ChangeMaps (open_string shut_string)
set_option linter.unusedVariables false

theorem own : ownKnob Try.prog.godebug = none := by kernel_rfl
theorem laidOut : laidOutB Try.prog = true := by kernel_rfl

set_option maxRecDepth 100000 in
theorem lifted (os : Os) (started : os.Started) (H : Type) (enc : TypeId × Value → H) (F : Stop.Interp) :
    ReturnsInHanded {} Try.checked os 4 .any ((Rows.OpenSpec.upto Rows.unfoldTermsSpec).pre6 enc Try.prog Try.f4 Rows.unfoldTermsUptoRow.domain false) (((Rows.OpenSpec.upto Rows.unfoldTermsSpec).at F).post enc Try.prog Try.f4 false true false false) := by
  refine returnsInHanded_of_cond_sized (C := Try.checked) (s := Rows.OpenSpec.upto Rows.unfoldTermsSpec) (k := Rows.uptoSmall) rfl own started (by kernel_rfl) Try.func4
    (OpenSpec.witness (enc := enc) (C := Try.checked) (s := Rows.OpenSpec.upto Rows.unfoldTermsSpec) (k := Rows.uptoSmall) rfl false ⟨#[], #[.slice none 0 0, .agg #[.int .i64 0, .int .i64 0, .int .i64 0, .int .i64 0, .int .i64 0, .int .i64 0, .int .i64 0, .int .i64 0], .int .i64 0], []⟩ 8 (by kernel_rfl) (by kernel_rfl) (by kernel_rfl)
      (x := ([.nil, .agg [.lit (.int .i64 0), .lit (.int .i64 0), .lit (.int .i64 0), .lit (.int .i64 0), .lit (.int .i64 0), .lit (.int .i64 0), .lit (.int .i64 0), .lit (.int .i64 0)], .lit (.int .i64 0)], [], [])) (by kernel_rfl) rfl (by kernel_rfl)) ?_
  intro W base args ds gs before hval0 hW hcnd hk0 hsz _
  have hk : Rows.uptoBulkAll (ds ++ gs) ≤ 1048576 := of_decide_eq_true hk0
  have hval : ∀ (j : Nat) t v, Try.f4.params[j]? = some t → args[j]? = some v → Value.okWide Try.prog W .any base t v := hval0
  have hW' := hW
  obtain ⟨p, q, hA0, hV, rfl, hfz, hnd⟩ := hW
  have hA : DataW.TrodAll enc Try.prog W 0 (fun _ => true) true Try.f4.params.toList args.toList ds p := hA0
  rw [Try.params4] at hA hval
  obtain ⟨v0, vs0, d0, ds0, p0, q0, hargs, rfl, rfl, h0, rt0⟩ := trodAll_cons hA
  obtain ⟨v1, vs1, d1, ds1, p1, q1, rfl, rfl, rfl, h1, rt1⟩ := trodAll_cons rt0
  obtain ⟨v2, vs2, d2, ds2, p2, q2, rfl, rfl, rfl, h2, rt2⟩ := trodAll_cons rt1
  obtain ⟨rfl, rfl, rfl⟩ := trodAll_nil rt2
  obtain rfl : args = #[v0, v1, v2] := by cases args; simp_all
  obtain ⟨rfl, rfl⟩ := trodVars_none hV
  simp only [List.append_nil] at hk
  have k0 := h0
  have lt0 : ∀ x ∈ p0, x.block < W.heap.size := by obtain ⟨m, hm⟩ := k0; exact DataW.trod_lt m _ _ _ hm
  have hL0 : Light Try.prog 36 d0 := light_of hsz (j := 0) (by rw [Try.params4]; rfl) rfl
  obtain ⟨a0, len0, cap0, hv0⟩ := okWide_slice Try.underlying36 (hval 0 36 v0 rfl rfl)
  obtain ⟨x0, r0, q0⟩ : ∃ x, RdSts W (Upto W.heap.size) x v0 ∧ St.wts x + 1 ≤ Rows.uptoBulk d0 := by
    obtain ⟨fuel, hf⟩ := h0
    obtain ⟨l, v, e, hr, hq⟩ := sts_open hf hL0
    rw [hv0] at e
    simp only [Value.cells, List.cons.injEq, and_true] at e
    rw [hv0, e]
    exact ⟨l, hr, hq⟩
  have k1 := h1
  have lt1 : ∀ x ∈ p1, x.block < W.heap.size := by obtain ⟨m, hm⟩ := k1; exact DataW.trod_lt m _ _ _ hm
  have hL1 : Light Try.prog 38 d1 := light_of hsz (j := 1) (by rw [Try.params4]; rfl) rfl
  obtain ⟨cs1, hv1, hcs1⟩ := okWide_array' Try.underlying38 (hval 1 38 v1 rfl rfl)
  obtain ⟨x1, hx1, hl1, hi1⟩ : ∃ l : List Int, cs1.toList = l.map (Value.int .i64) ∧ l.length = 8 ∧ ∀ z ∈ l, inI z := by
    obtain ⟨fuel, hf⟩ := h1
    rw [hv1] at hf
    exact heap_open hf
  obtain rfl : cs1 = (x1.map vI).toArray := Array.toList_inj.1 hx1
  obtain ⟨n2, rfl, rfl, rfl, w2⟩ := open_int Try.underlying3 (hval 2 3 v2 rfl rfl) h2
  clear hA0 hval0
  subst hv1
  refine (unfoldTerms_walk x0 n2 x1 W v0 r0 (by simp only [Rows.uptoBulkAll] at hk; omega) hl1 hi1).mono fun e W' ⟨he, bel⟩ => ?_
  subst he
  exact ⟨_, rfl, _, _, _, [], _, [], hW', trodAll_mk1 (shut_bool Try.underlying4 _), trodAll_cons_mk (Below.trod laidOut (by kernel_rfl) (of_decide_eq_true (by kernel_rfl)) k0 bel lt0) (trodAll_cons_mk (Below.trod laidOut (by kernel_rfl) (of_decide_eq_true (by kernel_rfl)) k1 bel lt1) (trodAll_cons_mk (shut_int Try.underlying3 w2) trodAll_mk0)), rfl, bel.frame _, fun h => by cases h⟩

theorem over : Rows.unfoldTermsUptoRow.holds Try.pinned (Rows.OpenSpec.upto Rows.unfoldTermsSpec) :=
  OpenClaim.holds_of_cond 4 Try.f4 rfl rfl rfl rfl rfl rfl rfl ⟨rfl, rfl, rfl, rfl, rfl⟩ rfl rfl rfl rfl rfl (by kernel_rfl) Try.func4 (by kernel_rfl)
    (of_decide_eq_true (by kernel_rfl)) (by unfold Func.isWrapper; first | (rw [if_pos (by decide +kernel)]; kernel_rfl) | (rw [if_neg (by decide +kernel)]; exact ⟨rfl, rfl⟩))
    (fun os started H enc _ F => lifted os started H enc F)

theorem proved : Rows.UnfoldTermsUptoSaid := over
#print axioms proved
end Go.Proofs.Ytdelngmbpjgphaa.unfoldTermsUpto
