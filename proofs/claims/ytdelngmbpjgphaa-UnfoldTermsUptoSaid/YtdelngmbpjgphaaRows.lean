/-
  NARROWER THAN 'FOR EVERY INPUT', by the rows' own cells (each row's printed sentence says how): StealRuns: loops · UnfoldTerms: loops · SerialRuns: loops.
  DERIVED. THE GIVEN ROWS OF THIS SEAT. 3 by the template 'for every input the law returns true; each argument reads behind the call as it read before'; 0 by the template 'total and deterministic' (their statements: YtdelngmbpjgphaaTotals.lean).
  GIVEN WITH THE SEED: the statements are not yours to turn. If you find one false, say at which input.
  Laid BY PROGRAM, IN A SANDBOX (cutbox-rows.mjs): the forced cells as the released guide's own fill.sh prints them over the translation 1283e752d42a3019… (all of the seat's roots in one cut). By AI agents, Wed Nov 11 2026. No macro, syntax, notation, axiom, sorry.
-/
import Derived.Test.YtdelngmbpjgphaaChecked
import GoSem.Claim
import GoSem.ClaimJoined
import GoSem.ClaimMapViews
import Derived.JoinedTies
import Derived.KernelRfl
namespace Go.Proofs.Ytdelngmbpjgphaa
/- THE CELL 'sum', in the pinned program and in every row, IS THE sha256 OF THE DUMP (.gsa) THAT YtdelngmbpjgphaaProg.lean LOADS. Nothing in Lean hashes anything: it is a label: what it is worth is what the hold of that sum in a sandbox is worth. -/
noncomputable def Try.pinned : Pinned := { name := "ytdelngmbpjgphaa", sum := "1283e752d42a30197392a8124f4fd61df85acc4616f699fbbe1a101f12969da3", checked := Try.checked }
namespace Rows
def none {H : Type} : Left H := { results := [], args := [] }

/-- 'forkwrightlaw.StealRuns': WHATEVER THE INPUT: true; the input reads as it did. -/
def stealRunsSpec : ChangeSpec := { name := "stealRuns", fn := fun _ => fun
  | [d1, d2, d3] => { results := [.lit (.bool true)], args := [d1, d2, d3] }
  | _ => none }
def stealRunsRow : OpenClaim := { program := "ytdelngmbpjgphaa", sum := "1283e752d42a30197392a8124f4fd61df85acc4616f699fbbe1a101f12969da3", func := "forkwright/forkwrightlaw.StealRuns", spec := "stealRuns", recurses := true, loops := true, apart := false }
def StealRunsSaid : Prop := stealRunsRow.holds Try.pinned (OpenSpec.ofChange stealRunsSpec)

/-- ITS FALSE NEIGHBOUR: 'it returns false'. Refute it at one input. -/
def stealRunsWrong : ChangeSpec := { name := "stealRuns", fn := fun _ => fun
  | [d1, d2, d3] => { results := [.lit (.bool false)], args := [d1, d2, d3] }
  | _ => none }
def StealRunsWrongFalsely : Prop := stealRunsRow.holds Try.pinned (OpenSpec.ofChange stealRunsWrong)

/-- 'forkwrightlaw.UnfoldTerms': WHATEVER THE INPUT: true; the input reads as it did. -/
def unfoldTermsSpec : ChangeSpec := { name := "unfoldTerms", fn := fun _ => fun
  | [d1, d2, d3] => { results := [.lit (.bool true)], args := [d1, d2, d3] }
  | _ => none }
def unfoldTermsRow : OpenClaim := { program := "ytdelngmbpjgphaa", sum := "1283e752d42a30197392a8124f4fd61df85acc4616f699fbbe1a101f12969da3", func := "forkwright/forkwrightlaw.UnfoldTerms", spec := "unfoldTerms", unfollowed := true, recurses := true, loops := true, apart := false }
def UnfoldTermsSaid : Prop := unfoldTermsRow.holds Try.pinned (OpenSpec.ofChange unfoldTermsSpec)

/-- ITS FALSE NEIGHBOUR: 'it returns false'. Refute it at one input. -/
def unfoldTermsWrong : ChangeSpec := { name := "unfoldTerms", fn := fun _ => fun
  | [d1, d2, d3] => { results := [.lit (.bool false)], args := [d1, d2, d3] }
  | _ => none }
def UnfoldTermsWrongFalsely : Prop := unfoldTermsRow.holds Try.pinned (OpenSpec.ofChange unfoldTermsWrong)

/-- 'forkwrightlaw.SerialRuns': WHATEVER THE INPUT: true; the input reads as it did. -/
def serialRunsSpec : ChangeSpec := { name := "serialRuns", fn := fun _ => fun
  | [d1, d2, d3] => { results := [.lit (.bool true)], args := [d1, d2, d3] }
  | _ => none }
def serialRunsRow : OpenClaim := { program := "ytdelngmbpjgphaa", sum := "1283e752d42a30197392a8124f4fd61df85acc4616f699fbbe1a101f12969da3", func := "forkwright/forkwrightlaw.SerialRuns", spec := "serialRuns", unfollowed := true, recurses := true, loops := true, apart := false }
def SerialRunsSaid : Prop := serialRunsRow.holds Try.pinned (OpenSpec.ofChange serialRunsSpec)

/-- ITS FALSE NEIGHBOUR: 'it returns false'. Refute it at one input. -/
def serialRunsWrong : ChangeSpec := { name := "serialRuns", fn := fun _ => fun
  | [d1, d2, d3] => { results := [.lit (.bool false)], args := [d1, d2, d3] }
  | _ => none }
def SerialRunsWrongFalsely : Prop := serialRunsRow.holds Try.pinned (OpenSpec.ofChange serialRunsWrong)

/- THE SECOND FORM. 'bulk': how many values and letters a reading holds, each counted each time it is reached (what is shared counts as often as it is met; a slice's spare places count too). A statement '..UptoSaid' is the law's where the arguments, and the package variables that the reading takes, are together of bulk at most 1048576: NARROWER than '..Said'. Prove '..Said' where nothing that the law and all that it calls make is longer than what came in: it says more and counts as full. Else prove '..UptoSaid'. A law counts once. -/
mutual
def uptoBulk {H : Type} : DataW H → Nat
  | .lit (.string bytes) => bytes.length + 1
  | .lit _ => 1
  | .nil => 1
  | .ptr d => uptoBulk d + 1
  | .slice elems spare => uptoBulkAll elems + uptoBulkAll spare + 1
  | .agg parts => uptoBulkAll parts + 1
  | .iface _ d => uptoBulk d + 1
  | .map entries => uptoBulkEntries entries + 1
  | .held _ => 1
def uptoBulkAll {H : Type} : List (DataW H) → Nat
  | [] => 0
  | d :: r => uptoBulk d + uptoBulkAll r
def uptoBulkEntries {H : Type} : List (Lit × DataW H) → Nat
  | [] => 0
  | x :: r => uptoBulkEntry x + uptoBulkEntries r
def uptoBulkEntry {H : Type} : Lit × DataW H → Nat
  | (.string bytes, d) => bytes.length + uptoBulk d + 1
  | (_, d) => uptoBulk d + 1
 end
def uptoSmall : (H : Type) → List (DataW H) → Bool := fun _ ds => decide (uptoBulkAll ds ≤ 1048576)
def OpenSpec.upto (s : _root_.Go.ChangeSpec) : _root_.Go.OpenSpec := { _root_.Go.OpenSpec.ofChange s with cond := some uptoSmall }

/-- 'forkwrightlaw.StealRuns', WHERE WHAT IT READS IS OF BULK AT MOST 1048576: true; the input reads as it did. -/
def stealRunsUptoRow : OpenClaim := { program := "ytdelngmbpjgphaa", sum := "1283e752d42a30197392a8124f4fd61df85acc4616f699fbbe1a101f12969da3", func := "forkwright/forkwrightlaw.StealRuns", spec := "stealRuns", recurses := true, loops := true, apart := false, narrowed := true }
def StealRunsUptoSaid : Prop := stealRunsUptoRow.holds Try.pinned (OpenSpec.upto stealRunsSpec)

/-- 'forkwrightlaw.UnfoldTerms', WHERE WHAT IT READS IS OF BULK AT MOST 1048576: true; the input reads as it did. -/
def unfoldTermsUptoRow : OpenClaim := { program := "ytdelngmbpjgphaa", sum := "1283e752d42a30197392a8124f4fd61df85acc4616f699fbbe1a101f12969da3", func := "forkwright/forkwrightlaw.UnfoldTerms", spec := "unfoldTerms", unfollowed := true, recurses := true, loops := true, apart := false, narrowed := true }
def UnfoldTermsUptoSaid : Prop := unfoldTermsUptoRow.holds Try.pinned (OpenSpec.upto unfoldTermsSpec)

/-- 'forkwrightlaw.SerialRuns', WHERE WHAT IT READS IS OF BULK AT MOST 1048576: true; the input reads as it did. -/
def serialRunsUptoRow : OpenClaim := { program := "ytdelngmbpjgphaa", sum := "1283e752d42a30197392a8124f4fd61df85acc4616f699fbbe1a101f12969da3", func := "forkwright/forkwrightlaw.SerialRuns", spec := "serialRuns", unfollowed := true, recurses := true, loops := true, apart := false, narrowed := true }
def SerialRunsUptoSaid : Prop := serialRunsUptoRow.holds Try.pinned (OpenSpec.upto serialRunsSpec)

end Rows
end Go.Proofs.Ytdelngmbpjgphaa
