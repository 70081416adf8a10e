/-
  NARROWER THAN 'FOR EVERY INPUT', by the rows' own cells (each row's printed sentence says how): BagsFirst: loops · BagsFind: loops · RaceSees: loops · RaceFinds: loops.
  DERIVED. THE GIVEN ROWS OF THIS SEAT. 4 by the template 'for every input the law returns true; each argument reads behind the call as it read before'; 0 by the template 'total and deterministic' (their statements: YtfldajplclahfaaTotals.lean).
  GIVEN WITH THE SEED: the statements are not yours to turn. If you find one false, say at which input.
  Laid BY PROGRAM, IN A SANDBOX (cutbox-rows.mjs): the forced cells as the released guide's own fill.sh prints them over the translation 83c2cd97bccf0745… (all of the seat's roots in one cut). By AI agents, Wed Nov 11 2026. No macro, syntax, notation, axiom, sorry.
-/
import Derived.Test.YtfldajplclahfaaChecked
import GoSem.Claim
import GoSem.ClaimJoined
import GoSem.ClaimMapViews
import Derived.JoinedTies
import Derived.KernelRfl
namespace Go.Proofs.Ytfldajplclahfaa
/- THE CELL 'sum', in the pinned program and in every row, IS THE sha256 OF THE DUMP (.gsa) THAT YtfldajplclahfaaProg.lean LOADS. Nothing in Lean hashes anything: it is a label: what it is worth is what the hold of that sum in a sandbox is worth. -/
noncomputable def Try.pinned : Pinned := { name := "ytfldajplclahfaa", sum := "83c2cd97bccf07458c23e243532a94f47cbc272f4e326c2feac974294249d859", checked := Try.checked }
namespace Rows
def none {H : Type} : Left H := { results := [], args := [] }

/-- 'forkwrightlaw.BagsFirst': WHATEVER THE INPUT: true; the input reads as it did. -/
def bagsFirstSpec : ChangeSpec := { name := "bagsFirst", fn := fun _ => fun
  | [d] => { results := [.lit (.bool true)], args := [d] }
  | _ => none }
def bagsFirstRow : OpenClaim := { program := "ytfldajplclahfaa", sum := "83c2cd97bccf07458c23e243532a94f47cbc272f4e326c2feac974294249d859", func := "forkwright/forkwrightlaw.BagsFirst", spec := "bagsFirst", unfollowed := true, recurses := true, loops := true, apart := false }
def BagsFirstSaid : Prop := bagsFirstRow.holds Try.pinned (OpenSpec.ofChange bagsFirstSpec)

/-- ITS FALSE NEIGHBOUR: 'it returns false'. Refute it at one input. -/
def bagsFirstWrong : ChangeSpec := { name := "bagsFirst", fn := fun _ => fun
  | [d] => { results := [.lit (.bool false)], args := [d] }
  | _ => none }
def BagsFirstWrongFalsely : Prop := bagsFirstRow.holds Try.pinned (OpenSpec.ofChange bagsFirstWrong)

/-- 'forkwrightlaw.BagsFind': WHATEVER THE INPUT: true; the input reads as it did. -/
def bagsFindSpec : ChangeSpec := { name := "bagsFind", fn := fun _ => fun
  | [d] => { results := [.lit (.bool true)], args := [d] }
  | _ => none }
def bagsFindRow : OpenClaim := { program := "ytfldajplclahfaa", sum := "83c2cd97bccf07458c23e243532a94f47cbc272f4e326c2feac974294249d859", func := "forkwright/forkwrightlaw.BagsFind", spec := "bagsFind", unfollowed := true, recurses := true, loops := true, apart := false }
def BagsFindSaid : Prop := bagsFindRow.holds Try.pinned (OpenSpec.ofChange bagsFindSpec)

/-- ITS FALSE NEIGHBOUR: 'it returns false'. Refute it at one input. -/
def bagsFindWrong : ChangeSpec := { name := "bagsFind", fn := fun _ => fun
  | [d] => { results := [.lit (.bool false)], args := [d] }
  | _ => none }
def BagsFindWrongFalsely : Prop := bagsFindRow.holds Try.pinned (OpenSpec.ofChange bagsFindWrong)

/-- 'forkwrightlaw.RaceSees': WHATEVER THE INPUT: true; the input reads as it did. -/
def raceSeesSpec : ChangeSpec := { name := "raceSees", fn := fun _ => fun
  | [d1, d2, d3, d4] => { results := [.lit (.bool true)], args := [d1, d2, d3, d4] }
  | _ => none }
def raceSeesRow : OpenClaim := { program := "ytfldajplclahfaa", sum := "83c2cd97bccf07458c23e243532a94f47cbc272f4e326c2feac974294249d859", func := "forkwright/forkwrightlaw.RaceSees", spec := "raceSees", unfollowed := true, recurses := true, loops := true, apart := false }
def RaceSeesSaid : Prop := raceSeesRow.holds Try.pinned (OpenSpec.ofChange raceSeesSpec)

/-- ITS FALSE NEIGHBOUR: 'it returns false'. Refute it at one input. -/
def raceSeesWrong : ChangeSpec := { name := "raceSees", fn := fun _ => fun
  | [d1, d2, d3, d4] => { results := [.lit (.bool false)], args := [d1, d2, d3, d4] }
  | _ => none }
def RaceSeesWrongFalsely : Prop := raceSeesRow.holds Try.pinned (OpenSpec.ofChange raceSeesWrong)

/-- 'forkwrightlaw.RaceFinds': WHATEVER THE INPUT: true; the input reads as it did. -/
def raceFindsSpec : ChangeSpec := { name := "raceFinds", fn := fun _ => fun
  | [d] => { results := [.lit (.bool true)], args := [d] }
  | _ => none }
def raceFindsRow : OpenClaim := { program := "ytfldajplclahfaa", sum := "83c2cd97bccf07458c23e243532a94f47cbc272f4e326c2feac974294249d859", func := "forkwright/forkwrightlaw.RaceFinds", spec := "raceFinds", unfollowed := true, recurses := true, loops := true, apart := false }
def RaceFindsSaid : Prop := raceFindsRow.holds Try.pinned (OpenSpec.ofChange raceFindsSpec)

/-- ITS FALSE NEIGHBOUR: 'it returns false'. Refute it at one input. -/
def raceFindsWrong : ChangeSpec := { name := "raceFinds", fn := fun _ => fun
  | [d] => { results := [.lit (.bool false)], args := [d] }
  | _ => none }
def RaceFindsWrongFalsely : Prop := raceFindsRow.holds Try.pinned (OpenSpec.ofChange raceFindsWrong)

/- THE SECOND FORM. 'bulk': how many values and letters a reading holds, each counted each time it is reached (what is shared counts as often as it is met; a slice's spare places count too). A statement '..UptoSaid' is the law's where the arguments, and the package variables that the reading takes, are together of bulk at most 1048576: NARROWER than '..Said'. Prove '..Said' where nothing that the law and all that it calls make is longer than what came in: it says more and counts as full. Else prove '..UptoSaid'. A law counts once. -/
mutual
def uptoBulk {H : Type} : DataW H → Nat
  | .lit (.string bytes) => bytes.length + 1
  | .lit _ => 1
  | .nil => 1
  | .ptr d => uptoBulk d + 1
  | .slice elems spare => uptoBulkAll elems + uptoBulkAll spare + 1
  | .agg parts => uptoBulkAll parts + 1
  | .iface _ d => uptoBulk d + 1
  | .map entries => uptoBulkEntries entries + 1
  | .held _ => 1
def uptoBulkAll {H : Type} : List (DataW H) → Nat
  | [] => 0
  | d :: r => uptoBulk d + uptoBulkAll r
def uptoBulkEntries {H : Type} : List (Lit × DataW H) → Nat
  | [] => 0
  | x :: r => uptoBulkEntry x + uptoBulkEntries r
def uptoBulkEntry {H : Type} : Lit × DataW H → Nat
  | (.string bytes, d) => bytes.length + uptoBulk d + 1
  | (_, d) => uptoBulk d + 1
 end
def uptoSmall : (H : Type) → List (DataW H) → Bool := fun _ ds => decide (uptoBulkAll ds ≤ 1048576)
def OpenSpec.upto (s : _root_.Go.ChangeSpec) : _root_.Go.OpenSpec := { _root_.Go.OpenSpec.ofChange s with cond := some uptoSmall }

/-- 'forkwrightlaw.BagsFirst', WHERE WHAT IT READS IS OF BULK AT MOST 1048576: true; the input reads as it did. -/
def bagsFirstUptoRow : OpenClaim := { program := "ytfldajplclahfaa", sum := "83c2cd97bccf07458c23e243532a94f47cbc272f4e326c2feac974294249d859", func := "forkwright/forkwrightlaw.BagsFirst", spec := "bagsFirst", unfollowed := true, recurses := true, loops := true, apart := false, narrowed := true }
def BagsFirstUptoSaid : Prop := bagsFirstUptoRow.holds Try.pinned (OpenSpec.upto bagsFirstSpec)

/-- 'forkwrightlaw.BagsFind', WHERE WHAT IT READS IS OF BULK AT MOST 1048576: true; the input reads as it did. -/
def bagsFindUptoRow : OpenClaim := { program := "ytfldajplclahfaa", sum := "83c2cd97bccf07458c23e243532a94f47cbc272f4e326c2feac974294249d859", func := "forkwright/forkwrightlaw.BagsFind", spec := "bagsFind", unfollowed := true, recurses := true, loops := true, apart := false, narrowed := true }
def BagsFindUptoSaid : Prop := bagsFindUptoRow.holds Try.pinned (OpenSpec.upto bagsFindSpec)

/-- 'forkwrightlaw.RaceSees', WHERE WHAT IT READS IS OF BULK AT MOST 1048576: true; the input reads as it did. -/
def raceSeesUptoRow : OpenClaim := { program := "ytfldajplclahfaa", sum := "83c2cd97bccf07458c23e243532a94f47cbc272f4e326c2feac974294249d859", func := "forkwright/forkwrightlaw.RaceSees", spec := "raceSees", unfollowed := true, recurses := true, loops := true, apart := false, narrowed := true }
def RaceSeesUptoSaid : Prop := raceSeesUptoRow.holds Try.pinned (OpenSpec.upto raceSeesSpec)

/-- 'forkwrightlaw.RaceFinds', WHERE WHAT IT READS IS OF BULK AT MOST 1048576: true; the input reads as it did. -/
def raceFindsUptoRow : OpenClaim := { program := "ytfldajplclahfaa", sum := "83c2cd97bccf07458c23e243532a94f47cbc272f4e326c2feac974294249d859", func := "forkwright/forkwrightlaw.RaceFinds", spec := "raceFinds", unfollowed := true, recurses := true, loops := true, apart := false, narrowed := true }
def RaceFindsUptoSaid : Prop := raceFindsUptoRow.holds Try.pinned (OpenSpec.upto raceFindsSpec)

end Rows
end Go.Proofs.Ytfldajplclahfaa
