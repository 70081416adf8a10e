/-
  NARROWER THAN 'FOR EVERY INPUT', by the rows' own cells (each row's printed sentence says how): ScopeFree: loops · ExprTurns: loops · StealRuns: loops.
  DERIVED. THE GIVEN ROWS OF THIS SEAT. 4 by the template 'for every input the law returns true; each argument reads behind the call as it read before'; 0 by the template 'total and deterministic' (their statements: YthbbecmffndgdaaTotals.lean).
  GIVEN WITH THE SEED: the statements are not yours to turn. If you find one false, say at which input.
  Laid BY PROGRAM, IN A SANDBOX (cutbox-rows.mjs): the forced cells as the released guide's own fill.sh prints them over the translation dce9a2c35e3f5d7c… (all of the seat's roots in one cut). By AI agents, Wed Nov 11 2026. No macro, syntax, notation, axiom, sorry.
-/
import Derived.Test.YthbbecmffndgdaaChecked
import GoSem.Claim
import GoSem.ClaimJoined
import GoSem.ClaimMapViews
import Derived.JoinedTies
import Derived.KernelRfl
namespace Go.Proofs.Ythbbecmffndgdaa
/- THE CELL 'sum', in the pinned program and in every row, IS THE sha256 OF THE DUMP (.gsa) THAT YthbbecmffndgdaaProg.lean LOADS. Nothing in Lean hashes anything: it is a label: what it is worth is what the hold of that sum in a sandbox is worth. -/
noncomputable def Try.pinned : Pinned := { name := "ythbbecmffndgdaa", sum := "dce9a2c35e3f5d7cacecb39a3ae0faa197e07c94f6d670459dd957c06ad069df", checked := Try.checked }
namespace Rows
def none {H : Type} : Left H := { results := [], args := [] }

/-- 'forkwrightlaw.ScopeFree': WHATEVER THE INPUT: true; the input reads as it did. -/
def scopeFreeSpec : ChangeSpec := { name := "scopeFree", fn := fun _ => fun
  | [d] => { results := [.lit (.bool true)], args := [d] }
  | _ => none }
def scopeFreeRow : OpenClaim := { program := "ythbbecmffndgdaa", sum := "dce9a2c35e3f5d7cacecb39a3ae0faa197e07c94f6d670459dd957c06ad069df", func := "forkwright/forkwrightlaw.ScopeFree", spec := "scopeFree", unfollowed := true, recurses := true, loops := true, apart := false }
def ScopeFreeSaid : Prop := scopeFreeRow.holds Try.pinned (OpenSpec.ofChange scopeFreeSpec)

/-- ITS FALSE NEIGHBOUR: 'it returns false'. Refute it at one input. -/
def scopeFreeWrong : ChangeSpec := { name := "scopeFree", fn := fun _ => fun
  | [d] => { results := [.lit (.bool false)], args := [d] }
  | _ => none }
def ScopeFreeWrongFalsely : Prop := scopeFreeRow.holds Try.pinned (OpenSpec.ofChange scopeFreeWrong)

/-- 'forkwrightlaw.PhaserPlays': WHATEVER THE INPUT: true; the input reads as it did. -/
def phaserPlaysSpec : ChangeSpec := { name := "phaserPlays", fn := fun _ => fun
  | [d] => { results := [.lit (.bool true)], args := [d] }
  | _ => none }
def phaserPlaysRow : OpenClaim := { program := "ythbbecmffndgdaa", sum := "dce9a2c35e3f5d7cacecb39a3ae0faa197e07c94f6d670459dd957c06ad069df", func := "forkwright/forkwrightlaw.PhaserPlays", spec := "phaserPlays", unfollowed := true, recurses := true, apart := false }
def PhaserPlaysSaid : Prop := phaserPlaysRow.holds Try.pinned (OpenSpec.ofChange phaserPlaysSpec)

/-- ITS FALSE NEIGHBOUR: 'it returns false'. Refute it at one input. -/
def phaserPlaysWrong : ChangeSpec := { name := "phaserPlays", fn := fun _ => fun
  | [d] => { results := [.lit (.bool false)], args := [d] }
  | _ => none }
def PhaserPlaysWrongFalsely : Prop := phaserPlaysRow.holds Try.pinned (OpenSpec.ofChange phaserPlaysWrong)

/-- 'forkwrightlaw.ExprTurns': WHATEVER THE INPUT: true; the input reads as it did. -/
def exprTurnsSpec : ChangeSpec := { name := "exprTurns", fn := fun _ => fun
  | [d1, d2, d3] => { results := [.lit (.bool true)], args := [d1, d2, d3] }
  | _ => none }
def exprTurnsRow : OpenClaim := { program := "ythbbecmffndgdaa", sum := "dce9a2c35e3f5d7cacecb39a3ae0faa197e07c94f6d670459dd957c06ad069df", func := "forkwright/forkwrightlaw.ExprTurns", spec := "exprTurns", unfollowed := true, recurses := true, loops := true, apart := false }
def ExprTurnsSaid : Prop := exprTurnsRow.holds Try.pinned (OpenSpec.ofChange exprTurnsSpec)

/-- ITS FALSE NEIGHBOUR: 'it returns false'. Refute it at one input. -/
def exprTurnsWrong : ChangeSpec := { name := "exprTurns", fn := fun _ => fun
  | [d1, d2, d3] => { results := [.lit (.bool false)], args := [d1, d2, d3] }
  | _ => none }
def ExprTurnsWrongFalsely : Prop := exprTurnsRow.holds Try.pinned (OpenSpec.ofChange exprTurnsWrong)

/-- 'forkwrightlaw.StealRuns': WHATEVER THE INPUT: true; the input reads as it did. -/
def stealRunsSpec : ChangeSpec := { name := "stealRuns", fn := fun _ => fun
  | [d1, d2, d3] => { results := [.lit (.bool true)], args := [d1, d2, d3] }
  | _ => none }
def stealRunsRow : OpenClaim := { program := "ythbbecmffndgdaa", sum := "dce9a2c35e3f5d7cacecb39a3ae0faa197e07c94f6d670459dd957c06ad069df", func := "forkwright/forkwrightlaw.StealRuns", spec := "stealRuns", recurses := true, loops := true, apart := false }
def StealRunsSaid : Prop := stealRunsRow.holds Try.pinned (OpenSpec.ofChange stealRunsSpec)

/-- ITS FALSE NEIGHBOUR: 'it returns false'. Refute it at one input. -/
def stealRunsWrong : ChangeSpec := { name := "stealRuns", fn := fun _ => fun
  | [d1, d2, d3] => { results := [.lit (.bool false)], args := [d1, d2, d3] }
  | _ => none }
def StealRunsWrongFalsely : Prop := stealRunsRow.holds Try.pinned (OpenSpec.ofChange stealRunsWrong)

/- THE SECOND FORM. 'bulk': how many values and letters a reading holds, each counted each time it is reached (what is shared counts as often as it is met; a slice's spare places count too). A statement '..UptoSaid' is the law's where the arguments, and the package variables that the reading takes, are together of bulk at most 1048576: NARROWER than '..Said'. Prove '..Said' where nothing that the law and all that it calls make is longer than what came in: it says more and counts as full. Else prove '..UptoSaid'. A law counts once. -/
mutual
def uptoBulk {H : Type} : DataW H → Nat
  | .lit (.string bytes) => bytes.length + 1
  | .lit _ => 1
  | .nil => 1
  | .ptr d => uptoBulk d + 1
  | .slice elems spare => uptoBulkAll elems + uptoBulkAll spare + 1
  | .agg parts => uptoBulkAll parts + 1
  | .iface _ d => uptoBulk d + 1
  | .map entries => uptoBulkEntries entries + 1
  | .held _ => 1
def uptoBulkAll {H : Type} : List (DataW H) → Nat
  | [] => 0
  | d :: r => uptoBulk d + uptoBulkAll r
def uptoBulkEntries {H : Type} : List (Lit × DataW H) → Nat
  | [] => 0
  | x :: r => uptoBulkEntry x + uptoBulkEntries r
def uptoBulkEntry {H : Type} : Lit × DataW H → Nat
  | (.string bytes, d) => bytes.length + uptoBulk d + 1
  | (_, d) => uptoBulk d + 1
 end
def uptoSmall : (H : Type) → List (DataW H) → Bool := fun _ ds => decide (uptoBulkAll ds ≤ 1048576)
def OpenSpec.upto (s : _root_.Go.ChangeSpec) : _root_.Go.OpenSpec := { _root_.Go.OpenSpec.ofChange s with cond := some uptoSmall }

/-- 'forkwrightlaw.ScopeFree', WHERE WHAT IT READS IS OF BULK AT MOST 1048576: true; the input reads as it did. -/
def scopeFreeUptoRow : OpenClaim := { program := "ythbbecmffndgdaa", sum := "dce9a2c35e3f5d7cacecb39a3ae0faa197e07c94f6d670459dd957c06ad069df", func := "forkwright/forkwrightlaw.ScopeFree", spec := "scopeFree", unfollowed := true, recurses := true, loops := true, apart := false, narrowed := true }
def ScopeFreeUptoSaid : Prop := scopeFreeUptoRow.holds Try.pinned (OpenSpec.upto scopeFreeSpec)

/-- 'forkwrightlaw.PhaserPlays', WHERE WHAT IT READS IS OF BULK AT MOST 1048576: true; the input reads as it did. -/
def phaserPlaysUptoRow : OpenClaim := { program := "ythbbecmffndgdaa", sum := "dce9a2c35e3f5d7cacecb39a3ae0faa197e07c94f6d670459dd957c06ad069df", func := "forkwright/forkwrightlaw.PhaserPlays", spec := "phaserPlays", unfollowed := true, recurses := true, apart := false, narrowed := true }
def PhaserPlaysUptoSaid : Prop := phaserPlaysUptoRow.holds Try.pinned (OpenSpec.upto phaserPlaysSpec)

/-- 'forkwrightlaw.ExprTurns', WHERE WHAT IT READS IS OF BULK AT MOST 1048576: true; the input reads as it did. -/
def exprTurnsUptoRow : OpenClaim := { program := "ythbbecmffndgdaa", sum := "dce9a2c35e3f5d7cacecb39a3ae0faa197e07c94f6d670459dd957c06ad069df", func := "forkwright/forkwrightlaw.ExprTurns", spec := "exprTurns", unfollowed := true, recurses := true, loops := true, apart := false, narrowed := true }
def ExprTurnsUptoSaid : Prop := exprTurnsUptoRow.holds Try.pinned (OpenSpec.upto exprTurnsSpec)

/-- 'forkwrightlaw.StealRuns', WHERE WHAT IT READS IS OF BULK AT MOST 1048576: true; the input reads as it did. -/
def stealRunsUptoRow : OpenClaim := { program := "ythbbecmffndgdaa", sum := "dce9a2c35e3f5d7cacecb39a3ae0faa197e07c94f6d670459dd957c06ad069df", func := "forkwright/forkwrightlaw.StealRuns", spec := "stealRuns", recurses := true, loops := true, apart := false, narrowed := true }
def StealRunsUptoSaid : Prop := stealRunsUptoRow.holds Try.pinned (OpenSpec.upto stealRunsSpec)

end Rows
end Go.Proofs.Ythbbecmffndgdaa
