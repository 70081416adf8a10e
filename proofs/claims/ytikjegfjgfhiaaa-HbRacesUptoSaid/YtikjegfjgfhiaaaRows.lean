/-
  NARROWER THAN 'FOR EVERY INPUT', by the rows' own cells (each row's printed sentence says how): ExprWorth: loops.
  DERIVED. THE GIVEN ROWS OF THIS SEAT. 3 by the template 'for every input the law returns true; each argument reads behind the call as it read before'; 0 by the template 'total and deterministic' (their statements: YtikjegfjgfhiaaaTotals.lean).
  GIVEN WITH THE SEED: the statements are not yours to turn. If you find one false, say at which input.
  Laid BY PROGRAM, IN A SANDBOX (cutbox-rows.mjs): the forced cells as the released guide's own fill.sh prints them over the translation b163d0da3a474340… (all of the seat's roots in one cut). By AI agents, Wed Nov 11 2026. No macro, syntax, notation, axiom, sorry.
-/
import Derived.Test.YtikjegfjgfhiaaaChecked
import GoSem.Claim
import GoSem.ClaimJoined
import GoSem.ClaimMapViews
import Derived.JoinedTies
import Derived.KernelRfl
namespace Go.Proofs.Ytikjegfjgfhiaaa
/- THE CELL 'sum', in the pinned program and in every row, IS THE sha256 OF THE DUMP (.gsa) THAT YtikjegfjgfhiaaaProg.lean LOADS. Nothing in Lean hashes anything: it is a label: what it is worth is what the hold of that sum in a sandbox is worth. -/
noncomputable def Try.pinned : Pinned := { name := "ytikjegfjgfhiaaa", sum := "b163d0da3a4743404e915d2400ab8162706e8c8e1378bd1c1b79fd667480449b", checked := Try.checked }
namespace Rows
def none {H : Type} : Left H := { results := [], args := [] }

/-- 'forkwrightlaw.ExprWorth': WHATEVER THE INPUT: true; the input reads as it did. -/
def exprWorthSpec : ChangeSpec := { name := "exprWorth", fn := fun _ => fun
  | [d1, d2] => { results := [.lit (.bool true)], args := [d1, d2] }
  | _ => none }
def exprWorthRow : OpenClaim := { program := "ytikjegfjgfhiaaa", sum := "b163d0da3a4743404e915d2400ab8162706e8c8e1378bd1c1b79fd667480449b", func := "forkwright/forkwrightlaw.ExprWorth", spec := "exprWorth", unfollowed := true, recurses := true, loops := true, apart := false }
def ExprWorthSaid : Prop := exprWorthRow.holds Try.pinned (OpenSpec.ofChange exprWorthSpec)

/-- ITS FALSE NEIGHBOUR: 'it returns false'. Refute it at one input. -/
def exprWorthWrong : ChangeSpec := { name := "exprWorth", fn := fun _ => fun
  | [d1, d2] => { results := [.lit (.bool false)], args := [d1, d2] }
  | _ => none }
def ExprWorthWrongFalsely : Prop := exprWorthRow.holds Try.pinned (OpenSpec.ofChange exprWorthWrong)

/-- 'forkwrightlaw.SynWords': WHATEVER THE INPUT: true; the input reads as it did. -/
def synWordsSpec : ChangeSpec := { name := "synWords", fn := fun _ => fun
  | [d] => { results := [.lit (.bool true)], args := [d] }
  | _ => none }
def synWordsRow : OpenClaim := { program := "ytikjegfjgfhiaaa", sum := "b163d0da3a4743404e915d2400ab8162706e8c8e1378bd1c1b79fd667480449b", func := "forkwright/forkwrightlaw.SynWords", spec := "synWords", inPlace := ["internal/bytealg.IndexByteString"], unfollowed := true, recurses := true, apart := false }
def SynWordsSaid : Prop := synWordsRow.holds Try.pinned (OpenSpec.ofChange synWordsSpec)

/-- ITS FALSE NEIGHBOUR: 'it returns false'. Refute it at one input. -/
def synWordsWrong : ChangeSpec := { name := "synWords", fn := fun _ => fun
  | [d] => { results := [.lit (.bool false)], args := [d] }
  | _ => none }
def SynWordsWrongFalsely : Prop := synWordsRow.holds Try.pinned (OpenSpec.ofChange synWordsWrong)

/-- 'forkwrightlaw.HbRaces': WHATEVER THE INPUT: true; the input reads as it did. -/
def hbRacesSpec : ChangeSpec := { name := "hbRaces", fn := fun _ => fun
  | [d] => { results := [.lit (.bool true)], args := [d] }
  | _ => none }
def hbRacesRow : OpenClaim := { program := "ytikjegfjgfhiaaa", sum := "b163d0da3a4743404e915d2400ab8162706e8c8e1378bd1c1b79fd667480449b", func := "forkwright/forkwrightlaw.HbRaces", spec := "hbRaces", recurses := true, apart := false }
def HbRacesSaid : Prop := hbRacesRow.holds Try.pinned (OpenSpec.ofChange hbRacesSpec)

/-- ITS FALSE NEIGHBOUR: 'it returns false'. Refute it at one input. -/
def hbRacesWrong : ChangeSpec := { name := "hbRaces", fn := fun _ => fun
  | [d] => { results := [.lit (.bool false)], args := [d] }
  | _ => none }
def HbRacesWrongFalsely : Prop := hbRacesRow.holds Try.pinned (OpenSpec.ofChange hbRacesWrong)

/- THE SECOND FORM. 'bulk': how many values and letters a reading holds, each counted each time it is reached (what is shared counts as often as it is met; a slice's spare places count too). A statement '..UptoSaid' is the law's where the arguments, and the package variables that the reading takes, are together of bulk at most 1048576: NARROWER than '..Said'. Prove '..Said' where nothing that the law and all that it calls make is longer than what came in: it says more and counts as full. Else prove '..UptoSaid'. A law counts once. -/
mutual
def uptoBulk {H : Type} : DataW H → Nat
  | .lit (.string bytes) => bytes.length + 1
  | .lit _ => 1
  | .nil => 1
  | .ptr d => uptoBulk d + 1
  | .slice elems spare => uptoBulkAll elems + uptoBulkAll spare + 1
  | .agg parts => uptoBulkAll parts + 1
  | .iface _ d => uptoBulk d + 1
  | .map entries => uptoBulkEntries entries + 1
  | .held _ => 1
def uptoBulkAll {H : Type} : List (DataW H) → Nat
  | [] => 0
  | d :: r => uptoBulk d + uptoBulkAll r
def uptoBulkEntries {H : Type} : List (Lit × DataW H) → Nat
  | [] => 0
  | x :: r => uptoBulkEntry x + uptoBulkEntries r
def uptoBulkEntry {H : Type} : Lit × DataW H → Nat
  | (.string bytes, d) => bytes.length + uptoBulk d + 1
  | (_, d) => uptoBulk d + 1
 end
def uptoSmall : (H : Type) → List (DataW H) → Bool := fun _ ds => decide (uptoBulkAll ds ≤ 1048576)
def OpenSpec.upto (s : _root_.Go.ChangeSpec) : _root_.Go.OpenSpec := { _root_.Go.OpenSpec.ofChange s with cond := some uptoSmall }

/-- 'forkwrightlaw.ExprWorth', WHERE WHAT IT READS IS OF BULK AT MOST 1048576: true; the input reads as it did. -/
def exprWorthUptoRow : OpenClaim := { program := "ytikjegfjgfhiaaa", sum := "b163d0da3a4743404e915d2400ab8162706e8c8e1378bd1c1b79fd667480449b", func := "forkwright/forkwrightlaw.ExprWorth", spec := "exprWorth", unfollowed := true, recurses := true, loops := true, apart := false, narrowed := true }
def ExprWorthUptoSaid : Prop := exprWorthUptoRow.holds Try.pinned (OpenSpec.upto exprWorthSpec)

/-- 'forkwrightlaw.SynWords', WHERE WHAT IT READS IS OF BULK AT MOST 1048576: true; the input reads as it did. -/
def synWordsUptoRow : OpenClaim := { program := "ytikjegfjgfhiaaa", sum := "b163d0da3a4743404e915d2400ab8162706e8c8e1378bd1c1b79fd667480449b", func := "forkwright/forkwrightlaw.SynWords", spec := "synWords", inPlace := ["internal/bytealg.IndexByteString"], unfollowed := true, recurses := true, apart := false, narrowed := true }
def SynWordsUptoSaid : Prop := synWordsUptoRow.holds Try.pinned (OpenSpec.upto synWordsSpec)

/-- 'forkwrightlaw.HbRaces', WHERE WHAT IT READS IS OF BULK AT MOST 1048576: true; the input reads as it did. -/
def hbRacesUptoRow : OpenClaim := { program := "ytikjegfjgfhiaaa", sum := "b163d0da3a4743404e915d2400ab8162706e8c8e1378bd1c1b79fd667480449b", func := "forkwright/forkwrightlaw.HbRaces", spec := "hbRaces", recurses := true, apart := false, narrowed := true }
def HbRacesUptoSaid : Prop := hbRacesUptoRow.holds Try.pinned (OpenSpec.upto hbRacesSpec)

end Rows
end Go.Proofs.Ytikjegfjgfhiaaa
