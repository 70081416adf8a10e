/-
  NARROWER THAN 'FOR EVERY INPUT', by the rows' own cells (each row's printed sentence says how): SerialPlain: loops · ExprWorth: loops · SpPlaces: loops · SpanTells: loops · SpLeaves: loops.
  DERIVED. THE GIVEN ROWS OF THIS SEAT. 12 by the template 'for every input the law returns true; each argument reads behind the call as it read before'; 0 by the template 'total and deterministic' (their statements: YtmpononkbdfkmaaTotals.lean).
  GIVEN WITH THE SEED: the statements are not yours to turn. If you find one false, say at which input.
  Laid BY PROGRAM, IN A SANDBOX (cutbox-rows.mjs): the forced cells as the released guide's own fill.sh prints them over the translation c8fd87982d3f89b8… (all of the seat's roots in one cut). By AI agents, Wed Nov 11 2026. No macro, syntax, notation, axiom, sorry.
-/
import Derived.Test.YtmpononkbdfkmaaChecked
import GoSem.Claim
import GoSem.ClaimJoined
import GoSem.ClaimMapViews
import Derived.JoinedTies
import Derived.KernelRfl
namespace Go.Proofs.Ytmpononkbdfkmaa
/- THE CELL 'sum', in the pinned program and in every row, IS THE sha256 OF THE DUMP (.gsa) THAT YtmpononkbdfkmaaProg.lean LOADS. Nothing in Lean hashes anything: it is a label: what it is worth is what the hold of that sum in a sandbox is worth. -/
noncomputable def Try.pinned : Pinned := { name := "ytmpononkbdfkmaa", sum := "c8fd87982d3f89b88139a38d551536940ef8e5eec05ef9dfdc0459ede640edec", checked := Try.checked }
namespace Rows
def none {H : Type} : Left H := { results := [], args := [] }

/-- 'forkwrightlaw.SerialPlain': WHATEVER THE INPUT: true; the input reads as it did. -/
def serialPlainSpec : ChangeSpec := { name := "serialPlain", fn := fun _ => fun
  | [d1, d2] => { results := [.lit (.bool true)], args := [d1, d2] }
  | _ => none }
def serialPlainRow : OpenClaim := { program := "ytmpononkbdfkmaa", sum := "c8fd87982d3f89b88139a38d551536940ef8e5eec05ef9dfdc0459ede640edec", func := "forkwright/forkwrightlaw.SerialPlain", spec := "serialPlain", recurses := true, loops := true, apart := false }
def SerialPlainSaid : Prop := serialPlainRow.holds Try.pinned (OpenSpec.ofChange serialPlainSpec)

/-- ITS FALSE NEIGHBOUR: 'it returns false'. Refute it at one input. -/
def serialPlainWrong : ChangeSpec := { name := "serialPlain", fn := fun _ => fun
  | [d1, d2] => { results := [.lit (.bool false)], args := [d1, d2] }
  | _ => none }
def SerialPlainWrongFalsely : Prop := serialPlainRow.holds Try.pinned (OpenSpec.ofChange serialPlainWrong)

/-- 'forkwrightlaw.VectorTells': WHATEVER THE INPUT: true; the input reads as it did. -/
def vectorTellsSpec : ChangeSpec := { name := "vectorTells", fn := fun _ => fun
  | [d1, d2, d3] => { results := [.lit (.bool true)], args := [d1, d2, d3] }
  | _ => none }
def vectorTellsRow : OpenClaim := { program := "ytmpononkbdfkmaa", sum := "c8fd87982d3f89b88139a38d551536940ef8e5eec05ef9dfdc0459ede640edec", func := "forkwright/forkwrightlaw.VectorTells", spec := "vectorTells", unfollowed := true, recurses := true, apart := false }
def VectorTellsSaid : Prop := vectorTellsRow.holds Try.pinned (OpenSpec.ofChange vectorTellsSpec)

/-- ITS FALSE NEIGHBOUR: 'it returns false'. Refute it at one input. -/
def vectorTellsWrong : ChangeSpec := { name := "vectorTells", fn := fun _ => fun
  | [d1, d2, d3] => { results := [.lit (.bool false)], args := [d1, d2, d3] }
  | _ => none }
def VectorTellsWrongFalsely : Prop := vectorTellsRow.holds Try.pinned (OpenSpec.ofChange vectorTellsWrong)

/-- 'forkwrightlaw.SynWords': WHATEVER THE INPUT: true; the input reads as it did. -/
def synWordsSpec : ChangeSpec := { name := "synWords", fn := fun _ => fun
  | [d] => { results := [.lit (.bool true)], args := [d] }
  | _ => none }
def synWordsRow : OpenClaim := { program := "ytmpononkbdfkmaa", sum := "c8fd87982d3f89b88139a38d551536940ef8e5eec05ef9dfdc0459ede640edec", func := "forkwright/forkwrightlaw.SynWords", spec := "synWords", inPlace := ["internal/bytealg.IndexByteString"], unfollowed := true, recurses := true, apart := false }
def SynWordsSaid : Prop := synWordsRow.holds Try.pinned (OpenSpec.ofChange synWordsSpec)

/-- ITS FALSE NEIGHBOUR: 'it returns false'. Refute it at one input. -/
def synWordsWrong : ChangeSpec := { name := "synWords", fn := fun _ => fun
  | [d] => { results := [.lit (.bool false)], args := [d] }
  | _ => none }
def SynWordsWrongFalsely : Prop := synWordsRow.holds Try.pinned (OpenSpec.ofChange synWordsWrong)

/-- 'forkwrightlaw.DequePlays': WHATEVER THE INPUT: true; the input reads as it did. -/
def dequePlaysSpec : ChangeSpec := { name := "dequePlays", fn := fun _ => fun
  | [d] => { results := [.lit (.bool true)], args := [d] }
  | _ => none }
def dequePlaysRow : OpenClaim := { program := "ytmpononkbdfkmaa", sum := "c8fd87982d3f89b88139a38d551536940ef8e5eec05ef9dfdc0459ede640edec", func := "forkwright/forkwrightlaw.DequePlays", spec := "dequePlays", unfollowed := true, recurses := true, apart := false }
def DequePlaysSaid : Prop := dequePlaysRow.holds Try.pinned (OpenSpec.ofChange dequePlaysSpec)

/-- ITS FALSE NEIGHBOUR: 'it returns false'. Refute it at one input. -/
def dequePlaysWrong : ChangeSpec := { name := "dequePlays", fn := fun _ => fun
  | [d] => { results := [.lit (.bool false)], args := [d] }
  | _ => none }
def DequePlaysWrongFalsely : Prop := dequePlaysRow.holds Try.pinned (OpenSpec.ofChange dequePlaysWrong)

/-- 'forkwrightlaw.UfindPlays': WHATEVER THE INPUT: true; the input reads as it did. -/
def ufindPlaysSpec : ChangeSpec := { name := "ufindPlays", fn := fun _ => fun
  | [d1, d2] => { results := [.lit (.bool true)], args := [d1, d2] }
  | _ => none }
def ufindPlaysRow : OpenClaim := { program := "ytmpononkbdfkmaa", sum := "c8fd87982d3f89b88139a38d551536940ef8e5eec05ef9dfdc0459ede640edec", func := "forkwright/forkwrightlaw.UfindPlays", spec := "ufindPlays", apart := false }
def UfindPlaysSaid : Prop := ufindPlaysRow.holds Try.pinned (OpenSpec.ofChange ufindPlaysSpec)

/-- ITS FALSE NEIGHBOUR: 'it returns false'. Refute it at one input. -/
def ufindPlaysWrong : ChangeSpec := { name := "ufindPlays", fn := fun _ => fun
  | [d1, d2] => { results := [.lit (.bool false)], args := [d1, d2] }
  | _ => none }
def UfindPlaysWrongFalsely : Prop := ufindPlaysRow.holds Try.pinned (OpenSpec.ofChange ufindPlaysWrong)

/-- 'forkwrightlaw.BitsetSets': WHATEVER THE INPUT: true; the input reads as it did. -/
def bitsetSetsSpec : ChangeSpec := { name := "bitsetSets", fn := fun _ => fun
  | [d1, d2] => { results := [.lit (.bool true)], args := [d1, d2] }
  | _ => none }
def bitsetSetsRow : OpenClaim := { program := "ytmpononkbdfkmaa", sum := "c8fd87982d3f89b88139a38d551536940ef8e5eec05ef9dfdc0459ede640edec", func := "forkwright/forkwrightlaw.BitsetSets", spec := "bitsetSets", unfollowed := true, recurses := true, apart := false }
def BitsetSetsSaid : Prop := bitsetSetsRow.holds Try.pinned (OpenSpec.ofChange bitsetSetsSpec)

/-- ITS FALSE NEIGHBOUR: 'it returns false'. Refute it at one input. -/
def bitsetSetsWrong : ChangeSpec := { name := "bitsetSets", fn := fun _ => fun
  | [d1, d2] => { results := [.lit (.bool false)], args := [d1, d2] }
  | _ => none }
def BitsetSetsWrongFalsely : Prop := bitsetSetsRow.holds Try.pinned (OpenSpec.ofChange bitsetSetsWrong)

/-- 'forkwrightlaw.ExprWorth': WHATEVER THE INPUT: true; the input reads as it did. -/
def exprWorthSpec : ChangeSpec := { name := "exprWorth", fn := fun _ => fun
  | [d1, d2] => { results := [.lit (.bool true)], args := [d1, d2] }
  | _ => none }
def exprWorthRow : OpenClaim := { program := "ytmpononkbdfkmaa", sum := "c8fd87982d3f89b88139a38d551536940ef8e5eec05ef9dfdc0459ede640edec", func := "forkwright/forkwrightlaw.ExprWorth", spec := "exprWorth", unfollowed := true, recurses := true, loops := true, apart := false }
def ExprWorthSaid : Prop := exprWorthRow.holds Try.pinned (OpenSpec.ofChange exprWorthSpec)

/-- ITS FALSE NEIGHBOUR: 'it returns false'. Refute it at one input. -/
def exprWorthWrong : ChangeSpec := { name := "exprWorth", fn := fun _ => fun
  | [d1, d2] => { results := [.lit (.bool false)], args := [d1, d2] }
  | _ => none }
def ExprWorthWrongFalsely : Prop := exprWorthRow.holds Try.pinned (OpenSpec.ofChange exprWorthWrong)

/-- 'forkwrightlaw.SpPlaces': WHATEVER THE INPUT: true; the input reads as it did. -/
def spPlacesSpec : ChangeSpec := { name := "spPlaces", fn := fun _ => fun
  | [d] => { results := [.lit (.bool true)], args := [d] }
  | _ => none }
def spPlacesRow : OpenClaim := { program := "ytmpononkbdfkmaa", sum := "c8fd87982d3f89b88139a38d551536940ef8e5eec05ef9dfdc0459ede640edec", func := "forkwright/forkwrightlaw.SpPlaces", spec := "spPlaces", unfollowed := true, recurses := true, loops := true, apart := false }
def SpPlacesSaid : Prop := spPlacesRow.holds Try.pinned (OpenSpec.ofChange spPlacesSpec)

/-- ITS FALSE NEIGHBOUR: 'it returns false'. Refute it at one input. -/
def spPlacesWrong : ChangeSpec := { name := "spPlaces", fn := fun _ => fun
  | [d] => { results := [.lit (.bool false)], args := [d] }
  | _ => none }
def SpPlacesWrongFalsely : Prop := spPlacesRow.holds Try.pinned (OpenSpec.ofChange spPlacesWrong)

/-- 'forkwrightlaw.SpanTells': WHATEVER THE INPUT: true; the input reads as it did. -/
def spanTellsSpec : ChangeSpec := { name := "spanTells", fn := fun _ => fun
  | [d] => { results := [.lit (.bool true)], args := [d] }
  | _ => none }
def spanTellsRow : OpenClaim := { program := "ytmpononkbdfkmaa", sum := "c8fd87982d3f89b88139a38d551536940ef8e5eec05ef9dfdc0459ede640edec", func := "forkwright/forkwrightlaw.SpanTells", spec := "spanTells", unfollowed := true, recurses := true, loops := true, apart := false }
def SpanTellsSaid : Prop := spanTellsRow.holds Try.pinned (OpenSpec.ofChange spanTellsSpec)

/-- ITS FALSE NEIGHBOUR: 'it returns false'. Refute it at one input. -/
def spanTellsWrong : ChangeSpec := { name := "spanTells", fn := fun _ => fun
  | [d] => { results := [.lit (.bool false)], args := [d] }
  | _ => none }
def SpanTellsWrongFalsely : Prop := spanTellsRow.holds Try.pinned (OpenSpec.ofChange spanTellsWrong)

/-- 'forkwrightlaw.HbClocks': WHATEVER THE INPUT: true; the input reads as it did. -/
def hbClocksSpec : ChangeSpec := { name := "hbClocks", fn := fun _ => fun
  | [d1, d2, d3] => { results := [.lit (.bool true)], args := [d1, d2, d3] }
  | _ => none }
def hbClocksRow : OpenClaim := { program := "ytmpononkbdfkmaa", sum := "c8fd87982d3f89b88139a38d551536940ef8e5eec05ef9dfdc0459ede640edec", func := "forkwright/forkwrightlaw.HbClocks", spec := "hbClocks", unfollowed := true, recurses := true, apart := false }
def HbClocksSaid : Prop := hbClocksRow.holds Try.pinned (OpenSpec.ofChange hbClocksSpec)

/-- ITS FALSE NEIGHBOUR: 'it returns false'. Refute it at one input. -/
def hbClocksWrong : ChangeSpec := { name := "hbClocks", fn := fun _ => fun
  | [d1, d2, d3] => { results := [.lit (.bool false)], args := [d1, d2, d3] }
  | _ => none }
def HbClocksWrongFalsely : Prop := hbClocksRow.holds Try.pinned (OpenSpec.ofChange hbClocksWrong)

/-- 'forkwrightlaw.SpLeaves': WHATEVER THE INPUT: true; the input reads as it did. -/
def spLeavesSpec : ChangeSpec := { name := "spLeaves", fn := fun _ => fun
  | [d1, d2, d3] => { results := [.lit (.bool true)], args := [d1, d2, d3] }
  | _ => none }
def spLeavesRow : OpenClaim := { program := "ytmpononkbdfkmaa", sum := "c8fd87982d3f89b88139a38d551536940ef8e5eec05ef9dfdc0459ede640edec", func := "forkwright/forkwrightlaw.SpLeaves", spec := "spLeaves", unfollowed := true, recurses := true, loops := true, apart := false }
def SpLeavesSaid : Prop := spLeavesRow.holds Try.pinned (OpenSpec.ofChange spLeavesSpec)

/-- ITS FALSE NEIGHBOUR: 'it returns false'. Refute it at one input. -/
def spLeavesWrong : ChangeSpec := { name := "spLeaves", fn := fun _ => fun
  | [d1, d2, d3] => { results := [.lit (.bool false)], args := [d1, d2, d3] }
  | _ => none }
def SpLeavesWrongFalsely : Prop := spLeavesRow.holds Try.pinned (OpenSpec.ofChange spLeavesWrong)

/-- 'forkwrighttop.Names': WHATEVER THE INPUT: true; the input reads as it did. -/
def namesSpec : ChangeSpec := { name := "names", fn := fun _ => fun
  | [] => { results := [.lit (.bool true)], args := [] }
  | _ => none }
def namesRow : OpenClaim := { program := "ytmpononkbdfkmaa", sum := "c8fd87982d3f89b88139a38d551536940ef8e5eec05ef9dfdc0459ede640edec", func := "forkwright/forkwrighttop.Names", spec := "names", apart := false }
def NamesSaid : Prop := namesRow.holds Try.pinned (OpenSpec.ofChange namesSpec)

/-- ITS FALSE NEIGHBOUR: 'it returns false'. Refute it at one input. -/
def namesWrong : ChangeSpec := { name := "names", fn := fun _ => fun
  | [] => { results := [.lit (.bool false)], args := [] }
  | _ => none }
def NamesWrongFalsely : Prop := namesRow.holds Try.pinned (OpenSpec.ofChange namesWrong)

/- THE SECOND FORM. 'bulk': how many values and letters a reading holds, each counted each time it is reached (what is shared counts as often as it is met; a slice's spare places count too). A statement '..UptoSaid' is the law's where the arguments, and the package variables that the reading takes, are together of bulk at most 1048576: NARROWER than '..Said'. Prove '..Said' where nothing that the law and all that it calls make is longer than what came in: it says more and counts as full. Else prove '..UptoSaid'. A law counts once. -/
mutual
def uptoBulk {H : Type} : DataW H → Nat
  | .lit (.string bytes) => bytes.length + 1
  | .lit _ => 1
  | .nil => 1
  | .ptr d => uptoBulk d + 1
  | .slice elems spare => uptoBulkAll elems + uptoBulkAll spare + 1
  | .agg parts => uptoBulkAll parts + 1
  | .iface _ d => uptoBulk d + 1
  | .map entries => uptoBulkEntries entries + 1
  | .held _ => 1
def uptoBulkAll {H : Type} : List (DataW H) → Nat
  | [] => 0
  | d :: r => uptoBulk d + uptoBulkAll r
def uptoBulkEntries {H : Type} : List (Lit × DataW H) → Nat
  | [] => 0
  | x :: r => uptoBulkEntry x + uptoBulkEntries r
def uptoBulkEntry {H : Type} : Lit × DataW H → Nat
  | (.string bytes, d) => bytes.length + uptoBulk d + 1
  | (_, d) => uptoBulk d + 1
 end
def uptoSmall : (H : Type) → List (DataW H) → Bool := fun _ ds => decide (uptoBulkAll ds ≤ 1048576)
def OpenSpec.upto (s : _root_.Go.ChangeSpec) : _root_.Go.OpenSpec := { _root_.Go.OpenSpec.ofChange s with cond := some uptoSmall }

/-- 'forkwrightlaw.SerialPlain', WHERE WHAT IT READS IS OF BULK AT MOST 1048576: true; the input reads as it did. -/
def serialPlainUptoRow : OpenClaim := { program := "ytmpononkbdfkmaa", sum := "c8fd87982d3f89b88139a38d551536940ef8e5eec05ef9dfdc0459ede640edec", func := "forkwright/forkwrightlaw.SerialPlain", spec := "serialPlain", recurses := true, loops := true, apart := false, narrowed := true }
def SerialPlainUptoSaid : Prop := serialPlainUptoRow.holds Try.pinned (OpenSpec.upto serialPlainSpec)

/-- 'forkwrightlaw.VectorTells', WHERE WHAT IT READS IS OF BULK AT MOST 1048576: true; the input reads as it did. -/
def vectorTellsUptoRow : OpenClaim := { program := "ytmpononkbdfkmaa", sum := "c8fd87982d3f89b88139a38d551536940ef8e5eec05ef9dfdc0459ede640edec", func := "forkwright/forkwrightlaw.VectorTells", spec := "vectorTells", unfollowed := true, recurses := true, apart := false, narrowed := true }
def VectorTellsUptoSaid : Prop := vectorTellsUptoRow.holds Try.pinned (OpenSpec.upto vectorTellsSpec)

/-- 'forkwrightlaw.SynWords', WHERE WHAT IT READS IS OF BULK AT MOST 1048576: true; the input reads as it did. -/
def synWordsUptoRow : OpenClaim := { program := "ytmpononkbdfkmaa", sum := "c8fd87982d3f89b88139a38d551536940ef8e5eec05ef9dfdc0459ede640edec", func := "forkwright/forkwrightlaw.SynWords", spec := "synWords", inPlace := ["internal/bytealg.IndexByteString"], unfollowed := true, recurses := true, apart := false, narrowed := true }
def SynWordsUptoSaid : Prop := synWordsUptoRow.holds Try.pinned (OpenSpec.upto synWordsSpec)

/-- 'forkwrightlaw.DequePlays', WHERE WHAT IT READS IS OF BULK AT MOST 1048576: true; the input reads as it did. -/
def dequePlaysUptoRow : OpenClaim := { program := "ytmpononkbdfkmaa", sum := "c8fd87982d3f89b88139a38d551536940ef8e5eec05ef9dfdc0459ede640edec", func := "forkwright/forkwrightlaw.DequePlays", spec := "dequePlays", unfollowed := true, recurses := true, apart := false, narrowed := true }
def DequePlaysUptoSaid : Prop := dequePlaysUptoRow.holds Try.pinned (OpenSpec.upto dequePlaysSpec)

/-- 'forkwrightlaw.UfindPlays', WHERE WHAT IT READS IS OF BULK AT MOST 1048576: true; the input reads as it did. -/
def ufindPlaysUptoRow : OpenClaim := { program := "ytmpononkbdfkmaa", sum := "c8fd87982d3f89b88139a38d551536940ef8e5eec05ef9dfdc0459ede640edec", func := "forkwright/forkwrightlaw.UfindPlays", spec := "ufindPlays", apart := false, narrowed := true }
def UfindPlaysUptoSaid : Prop := ufindPlaysUptoRow.holds Try.pinned (OpenSpec.upto ufindPlaysSpec)

/-- 'forkwrightlaw.BitsetSets', WHERE WHAT IT READS IS OF BULK AT MOST 1048576: true; the input reads as it did. -/
def bitsetSetsUptoRow : OpenClaim := { program := "ytmpononkbdfkmaa", sum := "c8fd87982d3f89b88139a38d551536940ef8e5eec05ef9dfdc0459ede640edec", func := "forkwright/forkwrightlaw.BitsetSets", spec := "bitsetSets", unfollowed := true, recurses := true, apart := false, narrowed := true }
def BitsetSetsUptoSaid : Prop := bitsetSetsUptoRow.holds Try.pinned (OpenSpec.upto bitsetSetsSpec)

/-- 'forkwrightlaw.ExprWorth', WHERE WHAT IT READS IS OF BULK AT MOST 1048576: true; the input reads as it did. -/
def exprWorthUptoRow : OpenClaim := { program := "ytmpononkbdfkmaa", sum := "c8fd87982d3f89b88139a38d551536940ef8e5eec05ef9dfdc0459ede640edec", func := "forkwright/forkwrightlaw.ExprWorth", spec := "exprWorth", unfollowed := true, recurses := true, loops := true, apart := false, narrowed := true }
def ExprWorthUptoSaid : Prop := exprWorthUptoRow.holds Try.pinned (OpenSpec.upto exprWorthSpec)

/-- 'forkwrightlaw.SpPlaces', WHERE WHAT IT READS IS OF BULK AT MOST 1048576: true; the input reads as it did. -/
def spPlacesUptoRow : OpenClaim := { program := "ytmpononkbdfkmaa", sum := "c8fd87982d3f89b88139a38d551536940ef8e5eec05ef9dfdc0459ede640edec", func := "forkwright/forkwrightlaw.SpPlaces", spec := "spPlaces", unfollowed := true, recurses := true, loops := true, apart := false, narrowed := true }
def SpPlacesUptoSaid : Prop := spPlacesUptoRow.holds Try.pinned (OpenSpec.upto spPlacesSpec)

/-- 'forkwrightlaw.SpanTells', WHERE WHAT IT READS IS OF BULK AT MOST 1048576: true; the input reads as it did. -/
def spanTellsUptoRow : OpenClaim := { program := "ytmpononkbdfkmaa", sum := "c8fd87982d3f89b88139a38d551536940ef8e5eec05ef9dfdc0459ede640edec", func := "forkwright/forkwrightlaw.SpanTells", spec := "spanTells", unfollowed := true, recurses := true, loops := true, apart := false, narrowed := true }
def SpanTellsUptoSaid : Prop := spanTellsUptoRow.holds Try.pinned (OpenSpec.upto spanTellsSpec)

/-- 'forkwrightlaw.HbClocks', WHERE WHAT IT READS IS OF BULK AT MOST 1048576: true; the input reads as it did. -/
def hbClocksUptoRow : OpenClaim := { program := "ytmpononkbdfkmaa", sum := "c8fd87982d3f89b88139a38d551536940ef8e5eec05ef9dfdc0459ede640edec", func := "forkwright/forkwrightlaw.HbClocks", spec := "hbClocks", unfollowed := true, recurses := true, apart := false, narrowed := true }
def HbClocksUptoSaid : Prop := hbClocksUptoRow.holds Try.pinned (OpenSpec.upto hbClocksSpec)

/-- 'forkwrightlaw.SpLeaves', WHERE WHAT IT READS IS OF BULK AT MOST 1048576: true; the input reads as it did. -/
def spLeavesUptoRow : OpenClaim := { program := "ytmpononkbdfkmaa", sum := "c8fd87982d3f89b88139a38d551536940ef8e5eec05ef9dfdc0459ede640edec", func := "forkwright/forkwrightlaw.SpLeaves", spec := "spLeaves", unfollowed := true, recurses := true, loops := true, apart := false, narrowed := true }
def SpLeavesUptoSaid : Prop := spLeavesUptoRow.holds Try.pinned (OpenSpec.upto spLeavesSpec)

/-- 'forkwrighttop.Names', WHERE WHAT IT READS IS OF BULK AT MOST 1048576: true; the input reads as it did. -/
def namesUptoRow : OpenClaim := { program := "ytmpononkbdfkmaa", sum := "c8fd87982d3f89b88139a38d551536940ef8e5eec05ef9dfdc0459ede640edec", func := "forkwright/forkwrighttop.Names", spec := "names", apart := false, narrowed := true }
def NamesUptoSaid : Prop := namesUptoRow.holds Try.pinned (OpenSpec.upto namesSpec)

end Rows
end Go.Proofs.Ytmpononkbdfkmaa
