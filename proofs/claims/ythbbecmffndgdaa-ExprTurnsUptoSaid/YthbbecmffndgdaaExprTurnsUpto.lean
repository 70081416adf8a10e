/- forkwright's law ExprTurns (second form, for arguments of bulk at most 1048576): it returns true for every two expressions and every name. -/
import Derived.Test.YthbbecmffndgdaaEt7
import Derived.ProofKit
import Derived.OpenShut
import Derived.ShutString
import Derived.JoinedCond
import Derived.Deep.CondSized
namespace Go.Proofs.Ythbbecmffndgdaa.exprTurnsUpto
open Go.ChangeShapes Go.WideShapes Go.ChangeAt Go.RowKit
open Go.ChangeMaps (open_string shut_string)
set_option linter.unusedVariables false

theorem own : ownKnob Try.prog.godebug = none := by kernel_rfl
theorem laidOut : laidOutB Try.prog = true := by kernel_rfl

set_option maxRecDepth 100000 in
theorem lifted (os : Os) (started : os.Started) (H : Type) (enc : TypeId × Value → H) (F : Stop.Interp) :
    ReturnsInHanded {} Try.checked os 5 .any ((Rows.OpenSpec.upto Rows.exprTurnsSpec).pre6 enc Try.prog Try.f5 Rows.exprTurnsUptoRow.domain false) (((Rows.OpenSpec.upto Rows.exprTurnsSpec).at F).post enc Try.prog Try.f5 false true false false) := by
  refine returnsInHanded_of_cond_sized (C := Try.checked) (s := Rows.OpenSpec.upto Rows.exprTurnsSpec) (k := Rows.uptoSmall) rfl own started (by kernel_rfl) Try.func5
    (OpenSpec.witness (enc := enc) (C := Try.checked) (s := Rows.OpenSpec.upto Rows.exprTurnsSpec) (k := Rows.uptoSmall) rfl false ⟨#[], #[.agg #[.int .i64 0, .int .i64 0, .string .empty, .slice none 0 0], .string .empty, .agg #[.int .i64 0, .int .i64 0, .string .empty, .slice none 0 0]], []⟩ 8 (by kernel_rfl) (by kernel_rfl) (by kernel_rfl)
      (x := ([.agg [.lit (.int .i64 0), .lit (.int .i64 0), .lit (.string []), .nil], .lit (.string []), .agg [.lit (.int .i64 0), .lit (.int .i64 0), .lit (.string []), .nil]], [], [])) (by kernel_rfl) rfl (by kernel_rfl)) ?_
  intro W base args ds gs before hval0 hW hcnd hk0 hsz _
  have hk : Rows.uptoBulkAll (ds ++ gs) ≤ 1048576 := of_decide_eq_true hk0
  have hval : ∀ (j : Nat) t v, Try.f5.params[j]? = some t → args[j]? = some v → Value.okWide Try.prog W .any base t v := hval0
  have hW' := hW
  obtain ⟨p, q, hA0, hV, rfl, hfz, hnd⟩ := hW
  have hA : DataW.TrodAll enc Try.prog W 0 (fun _ => true) true Try.f5.params.toList args.toList ds p := hA0
  rw [Try.params5] at hA hval
  obtain ⟨v0, vs0, d0, ds0, p0, q0, hargs, rfl, rfl, h0, rt0⟩ := trodAll_cons hA
  obtain ⟨v1, vs1, d1, ds1, p1, q1, rfl, rfl, rfl, h1, rt1⟩ := trodAll_cons rt0
  obtain ⟨v2, vs2, d2, ds2, p2, q2, rfl, rfl, rfl, h2, rt2⟩ := trodAll_cons rt1
  obtain ⟨rfl, rfl, rfl⟩ := trodAll_nil rt2
  obtain rfl : args = #[v0, v1, v2] := by cases args; simp_all
  obtain ⟨rfl, rfl⟩ := trodVars_none hV
  simp only [List.append_nil] at hk
  have k0 := h0
  have lt0 : ∀ x ∈ p0, x.block < W.heap.size := by obtain ⟨m, hm⟩ := k0; exact DataW.trod_lt m _ _ _ hm
  have hL0 : Light Try.prog 38 d0 := light_of hsz (j := 0) (by rw [Try.params5]; rfl) rfl
  obtain ⟨cs0, hv0, hcs0⟩ := okWide_struct Try.underlying38 (hval 0 38 v0 rfl rfl)
  obtain ⟨x0, r0, q0⟩ : ∃ x, RdEx W (Upto W.heap.size) x cs0.toList ∧ Ex.wt x ≤ Rows.uptoBulk d0 := by
    obtain ⟨fuel, hf⟩ := h0
    rw [hv0] at hf
    exact ex_open _ _ _ hf hL0
  have hls1 : ∀ bs, d1 = .lit (.string bs) → bs.length ≤ reachBytes := fun bs e => sized_string hsz (j := 1) (t := 9) (by rw [Try.params5]; rfl) (by subst e; rfl)
  obtain ⟨s1, rfl, rfl, rfl, w1⟩ := open_string Try.underlying9 (hval 1 9 v1 rfl rfl) h1
  have hs1 : s1.size ≤ reachBytes := by have := hls1 _ rfl; rwa [Array.length_toList] at this
  have k2 := h2
  have lt2 : ∀ x ∈ p2, x.block < W.heap.size := by obtain ⟨m, hm⟩ := k2; exact DataW.trod_lt m _ _ _ hm
  have hL2 : Light Try.prog 38 d2 := light_of hsz (j := 2) (by rw [Try.params5]; rfl) rfl
  obtain ⟨cs2, hv2, hcs2⟩ := okWide_struct Try.underlying38 (hval 2 38 v2 rfl rfl)
  obtain ⟨x2, r2, q2⟩ : ∃ x, RdEx W (Upto W.heap.size) x cs2.toList ∧ Ex.wt x ≤ Rows.uptoBulk d2 := by
    obtain ⟨fuel, hf⟩ := h2
    rw [hv2] at hf
    exact ex_open _ _ _ hf hL2
  clear hA0 hval0
  subst hv0
  subst hv2
  refine (exprTurns_walk x0 s1 x2 W (.agg cs0) (.agg cs2) (rdE_of' r0) (rdE_of' r2) (by simp only [Rows.uptoBulkAll] at hk; omega)).mono fun e W' ⟨he, bel⟩ => ?_
  subst he
  exact ⟨_, rfl, _, _, _, [], _, [], hW', trodAll_mk1 (shut_bool Try.underlying4 _), trodAll_cons_mk (Below.trod laidOut (by kernel_rfl) (of_decide_eq_true (by kernel_rfl)) k0 bel lt0) (trodAll_cons_mk (shut_string Try.underlying9 w1) (trodAll_cons_mk (Below.trod laidOut (by kernel_rfl) (of_decide_eq_true (by kernel_rfl)) k2 bel lt2) trodAll_mk0)), rfl, bel.frame _, fun h => by cases h⟩

theorem over : Rows.exprTurnsUptoRow.holds Try.pinned (Rows.OpenSpec.upto Rows.exprTurnsSpec) :=
  OpenClaim.holds_of_cond 5 Try.f5 rfl rfl rfl rfl rfl rfl rfl ⟨rfl, rfl, rfl, rfl, rfl⟩ rfl rfl rfl rfl rfl (by kernel_rfl) Try.func5 (by kernel_rfl)
    (of_decide_eq_true (by kernel_rfl)) (by unfold Func.isWrapper; first | (rw [if_pos (by decide +kernel)]; kernel_rfl) | (rw [if_neg (by decide +kernel)]; exact ⟨rfl, rfl⟩))
    (fun os started H enc _ F => lifted os started H enc F)

theorem proved : Rows.ExprTurnsUptoSaid := over
#print axioms proved
end Go.Proofs.Ythbbecmffndgdaa.exprTurnsUpto
