/-
  NARROWER THAN 'FOR EVERY INPUT', by the rows' own cells (each row's printed sentence says how): StealRuns: loops · StepsRun: loops · EndsTell: loops.
  DERIVED. THE GIVEN ROWS OF THIS SEAT. 3 by the template 'for every input the law returns true; each argument reads behind the call as it read before'; 0 by the template 'total and deterministic' (their statements: YtbpooepbnnbipaaTotals.lean).
  GIVEN WITH THE SEED: the statements are not yours to turn. If you find one false, say at which input.
  Laid BY PROGRAM, IN A SANDBOX (cutbox-rows.mjs): the forced cells as the released guide's own fill.sh prints them over the translation c4afef36e29fe910… (all of the seat's roots in one cut). By AI agents, Wed Nov 11 2026. No macro, syntax, notation, axiom, sorry.
-/
import Derived.Test.YtbpooepbnnbipaaChecked
import GoSem.Claim
import GoSem.ClaimJoined
import GoSem.ClaimMapViews
import Derived.JoinedTies
import Derived.KernelRfl
namespace Go.Proofs.Ytbpooepbnnbipaa
/- THE CELL 'sum', in the pinned program and in every row, IS THE sha256 OF THE DUMP (.gsa) THAT YtbpooepbnnbipaaProg.lean LOADS. Nothing in Lean hashes anything: it is a label: what it is worth is what the hold of that sum in a sandbox is worth. -/
noncomputable def Try.pinned : Pinned := { name := "ytbpooepbnnbipaa", sum := "c4afef36e29fe910d9fa8c0243e168941765293605175046a8b9e354e2902a77", checked := Try.checked }
namespace Rows
def none {H : Type} : Left H := { results := [], args := [] }

/-- 'forkwrightlaw.StealRuns': WHATEVER THE INPUT: true; the input reads as it did. -/
def stealRunsSpec : ChangeSpec := { name := "stealRuns", fn := fun _ => fun
  | [d1, d2, d3] => { results := [.lit (.bool true)], args := [d1, d2, d3] }
  | _ => none }
def stealRunsRow : OpenClaim := { program := "ytbpooepbnnbipaa", sum := "c4afef36e29fe910d9fa8c0243e168941765293605175046a8b9e354e2902a77", func := "forkwright/forkwrightlaw.StealRuns", spec := "stealRuns", recurses := true, loops := true, apart := false }
def StealRunsSaid : Prop := stealRunsRow.holds Try.pinned (OpenSpec.ofChange stealRunsSpec)

/-- ITS FALSE NEIGHBOUR: 'it returns false'. Refute it at one input. -/
def stealRunsWrong : ChangeSpec := { name := "stealRuns", fn := fun _ => fun
  | [d1, d2, d3] => { results := [.lit (.bool false)], args := [d1, d2, d3] }
  | _ => none }
def StealRunsWrongFalsely : Prop := stealRunsRow.holds Try.pinned (OpenSpec.ofChange stealRunsWrong)

/-- 'forkwrightlaw.StepsRun': WHATEVER THE INPUT: true; the input reads as it did. -/
def stepsRunSpec : ChangeSpec := { name := "stepsRun", fn := fun _ => fun
  | [d1, d2, d3, d4] => { results := [.lit (.bool true)], args := [d1, d2, d3, d4] }
  | _ => none }
def stepsRunRow : OpenClaim := { program := "ytbpooepbnnbipaa", sum := "c4afef36e29fe910d9fa8c0243e168941765293605175046a8b9e354e2902a77", func := "forkwright/forkwrightlaw.StepsRun", spec := "stepsRun", unfollowed := true, recurses := true, loops := true, apart := false }
def StepsRunSaid : Prop := stepsRunRow.holds Try.pinned (OpenSpec.ofChange stepsRunSpec)

/-- ITS FALSE NEIGHBOUR: 'it returns false'. Refute it at one input. -/
def stepsRunWrong : ChangeSpec := { name := "stepsRun", fn := fun _ => fun
  | [d1, d2, d3, d4] => { results := [.lit (.bool false)], args := [d1, d2, d3, d4] }
  | _ => none }
def StepsRunWrongFalsely : Prop := stepsRunRow.holds Try.pinned (OpenSpec.ofChange stepsRunWrong)

/-- 'forkwrightlaw.EndsTell': WHATEVER THE INPUT: true; the input reads as it did. -/
def endsTellSpec : ChangeSpec := { name := "endsTell", fn := fun _ => fun
  | [d1, d2] => { results := [.lit (.bool true)], args := [d1, d2] }
  | _ => none }
def endsTellRow : OpenClaim := { program := "ytbpooepbnnbipaa", sum := "c4afef36e29fe910d9fa8c0243e168941765293605175046a8b9e354e2902a77", func := "forkwright/forkwrightlaw.EndsTell", spec := "endsTell", unfollowed := true, recurses := true, loops := true, apart := false }
def EndsTellSaid : Prop := endsTellRow.holds Try.pinned (OpenSpec.ofChange endsTellSpec)

/-- ITS FALSE NEIGHBOUR: 'it returns false'. Refute it at one input. -/
def endsTellWrong : ChangeSpec := { name := "endsTell", fn := fun _ => fun
  | [d1, d2] => { results := [.lit (.bool false)], args := [d1, d2] }
  | _ => none }
def EndsTellWrongFalsely : Prop := endsTellRow.holds Try.pinned (OpenSpec.ofChange endsTellWrong)

/- THE SECOND FORM. 'bulk': how many values and letters a reading holds, each counted each time it is reached (what is shared counts as often as it is met; a slice's spare places count too). A statement '..UptoSaid' is the law's where the arguments, and the package variables that the reading takes, are together of bulk at most 1048576: NARROWER than '..Said'. Prove '..Said' where nothing that the law and all that it calls make is longer than what came in: it says more and counts as full. Else prove '..UptoSaid'. A law counts once. -/
mutual
def uptoBulk {H : Type} : DataW H → Nat
  | .lit (.string bytes) => bytes.length + 1
  | .lit _ => 1
  | .nil => 1
  | .ptr d => uptoBulk d + 1
  | .slice elems spare => uptoBulkAll elems + uptoBulkAll spare + 1
  | .agg parts => uptoBulkAll parts + 1
  | .iface _ d => uptoBulk d + 1
  | .map entries => uptoBulkEntries entries + 1
  | .held _ => 1
def uptoBulkAll {H : Type} : List (DataW H) → Nat
  | [] => 0
  | d :: r => uptoBulk d + uptoBulkAll r
def uptoBulkEntries {H : Type} : List (Lit × DataW H) → Nat
  | [] => 0
  | x :: r => uptoBulkEntry x + uptoBulkEntries r
def uptoBulkEntry {H : Type} : Lit × DataW H → Nat
  | (.string bytes, d) => bytes.length + uptoBulk d + 1
  | (_, d) => uptoBulk d + 1
 end
def uptoSmall : (H : Type) → List (DataW H) → Bool := fun _ ds => decide (uptoBulkAll ds ≤ 1048576)
def OpenSpec.upto (s : _root_.Go.ChangeSpec) : _root_.Go.OpenSpec := { _root_.Go.OpenSpec.ofChange s with cond := some uptoSmall }

/-- 'forkwrightlaw.StealRuns', WHERE WHAT IT READS IS OF BULK AT MOST 1048576: true; the input reads as it did. -/
def stealRunsUptoRow : OpenClaim := { program := "ytbpooepbnnbipaa", sum := "c4afef36e29fe910d9fa8c0243e168941765293605175046a8b9e354e2902a77", func := "forkwright/forkwrightlaw.StealRuns", spec := "stealRuns", recurses := true, loops := true, apart := false, narrowed := true }
def StealRunsUptoSaid : Prop := stealRunsUptoRow.holds Try.pinned (OpenSpec.upto stealRunsSpec)

/-- 'forkwrightlaw.StepsRun', WHERE WHAT IT READS IS OF BULK AT MOST 1048576: true; the input reads as it did. -/
def stepsRunUptoRow : OpenClaim := { program := "ytbpooepbnnbipaa", sum := "c4afef36e29fe910d9fa8c0243e168941765293605175046a8b9e354e2902a77", func := "forkwright/forkwrightlaw.StepsRun", spec := "stepsRun", unfollowed := true, recurses := true, loops := true, apart := false, narrowed := true }
def StepsRunUptoSaid : Prop := stepsRunUptoRow.holds Try.pinned (OpenSpec.upto stepsRunSpec)

/-- 'forkwrightlaw.EndsTell', WHERE WHAT IT READS IS OF BULK AT MOST 1048576: true; the input reads as it did. -/
def endsTellUptoRow : OpenClaim := { program := "ytbpooepbnnbipaa", sum := "c4afef36e29fe910d9fa8c0243e168941765293605175046a8b9e354e2902a77", func := "forkwright/forkwrightlaw.EndsTell", spec := "endsTell", unfollowed := true, recurses := true, loops := true, apart := false, narrowed := true }
def EndsTellUptoSaid : Prop := endsTellUptoRow.holds Try.pinned (OpenSpec.upto endsTellSpec)

end Rows
end Go.Proofs.Ytbpooepbnnbipaa
