/-
  DERIVED. GIVEN WITH THE SEED: THE CARDS: each row of YthbbecmffndgdabDoorRows.lean that lists a variable, with what it lists TIED to the program's text (the seventh form; the later family's looks); each row that meets fmt, with fmt's text TOLD by the authors' own Lean function (tested against real Go, not proved from fmt's source: count such statements apart). THE CARD IS WHAT COUNTS. Prove the row's statement (the work); the ties are given (YthbbecmffndgdabDoorTie.lean); close each card by the builder's one call (the guide's Derived/Test/ToyasCard.lean, 'card_holds'). Laid BY PROGRAM, IN A SANDBOX (cutbox-door.mjs). By AI agents, Wed Nov 11 2026. No macro, syntax, notation, axiom, sorry.
-/
import Derived.Test.YthbbecmffndgdabDoorRows
import GoSem.ClaimSeven
namespace Go.Proofs.YthbbecmffndgdabDoor
namespace Rows

/-- THE TIED CARD OF 'forkwrightlaw.OrderCounts'. -/
def orderCountsCard : Claim7 := { stood := { row := orderCountsRow, standIns := [], harness := (true, "afd3bb4325440780dca67e7f578bf4655e547332f4918af492568a23c032896d"), looks := false }, kinds := [], alts := [], laidByText := true, laidKinds := [.data], laidTests := true, laidLooks := .later }
def OrderCountsCardSaid : Prop := Claim7.holds Tryd.pinned (.plain (OpenSpec.ofChange orderCountsSpec)) orderCountsCard

/-- THE TIED CARD OF 'forkwrightlaw.OrderApart'. -/
def orderApartCard : Claim7 := { stood := { row := orderApartRow, standIns := [], harness := (true, "afd3bb4325440780dca67e7f578bf4655e547332f4918af492568a23c032896d"), looks := false }, kinds := [], alts := [], laidByText := true, laidKinds := [.data], laidTests := true, laidLooks := .later }
def OrderApartCardSaid : Prop := Claim7.holds Tryd.pinned (.plain (OpenSpec.ofChange orderApartSpec)) orderApartCard

/-- THE TIED CARD OF 'forkwrightlaw.GraphCloses'. -/
def graphClosesCard : Claim7 := { stood := { row := graphClosesRow, standIns := [], harness := (true, "afd3bb4325440780dca67e7f578bf4655e547332f4918af492568a23c032896d"), looks := false }, kinds := [], alts := [], laidByText := true, laidKinds := [.data], laidTests := true, laidLooks := .later }
def GraphClosesCardSaid : Prop := Claim7.holds Tryd.pinned (.plain (OpenSpec.ofChange graphClosesSpec)) graphClosesCard

/-- THE TIED CARD OF 'forkwrightlaw.OrderLevels'. -/
def orderLevelsCard : Claim7 := { stood := { row := orderLevelsRow, standIns := [], harness := (true, "afd3bb4325440780dca67e7f578bf4655e547332f4918af492568a23c032896d"), looks := false }, kinds := [], alts := [], laidByText := true, laidKinds := [.data], laidTests := true, laidLooks := .later }
def OrderLevelsCardSaid : Prop := Claim7.holds Tryd.pinned (.plain (OpenSpec.ofChange orderLevelsSpec)) orderLevelsCard

/-- THE TIED CARD OF 'forkwrightlaw.GreedyRounds'. -/
def greedyRoundsCard : Claim7 := { stood := { row := greedyRoundsRow, standIns := [], harness := (true, "afd3bb4325440780dca67e7f578bf4655e547332f4918af492568a23c032896d"), looks := false }, kinds := [], alts := [], laidByText := true, laidKinds := [.data], laidTests := true, laidLooks := .later }
def GreedyRoundsCardSaid : Prop := Claim7.holds Tryd.pinned (.plain (OpenSpec.ofChange greedyRoundsSpec)) greedyRoundsCard

/-- THE SECOND FORM's CARD OF 'forkwrightlaw.OrderCounts'. -/
def orderCountsUptoCard : Claim7 := { stood := { row := orderCountsUptoRow, standIns := [], harness := (true, "afd3bb4325440780dca67e7f578bf4655e547332f4918af492568a23c032896d"), looks := false }, kinds := [], alts := [], laidByText := true, laidKinds := [.data], laidTests := true, laidLooks := .later }
def OrderCountsUptoCardSaid : Prop := Claim7.holds Tryd.pinned (.plain (OpenSpec.upto orderCountsSpec)) orderCountsUptoCard

/-- THE SECOND FORM's CARD OF 'forkwrightlaw.OrderApart'. -/
def orderApartUptoCard : Claim7 := { stood := { row := orderApartUptoRow, standIns := [], harness := (true, "afd3bb4325440780dca67e7f578bf4655e547332f4918af492568a23c032896d"), looks := false }, kinds := [], alts := [], laidByText := true, laidKinds := [.data], laidTests := true, laidLooks := .later }
def OrderApartUptoCardSaid : Prop := Claim7.holds Tryd.pinned (.plain (OpenSpec.upto orderApartSpec)) orderApartUptoCard

/-- THE SECOND FORM's CARD OF 'forkwrightlaw.GraphCloses'. -/
def graphClosesUptoCard : Claim7 := { stood := { row := graphClosesUptoRow, standIns := [], harness := (true, "afd3bb4325440780dca67e7f578bf4655e547332f4918af492568a23c032896d"), looks := false }, kinds := [], alts := [], laidByText := true, laidKinds := [.data], laidTests := true, laidLooks := .later }
def GraphClosesUptoCardSaid : Prop := Claim7.holds Tryd.pinned (.plain (OpenSpec.upto graphClosesSpec)) graphClosesUptoCard

/-- THE SECOND FORM's CARD OF 'forkwrightlaw.OrderLevels'. -/
def orderLevelsUptoCard : Claim7 := { stood := { row := orderLevelsUptoRow, standIns := [], harness := (true, "afd3bb4325440780dca67e7f578bf4655e547332f4918af492568a23c032896d"), looks := false }, kinds := [], alts := [], laidByText := true, laidKinds := [.data], laidTests := true, laidLooks := .later }
def OrderLevelsUptoCardSaid : Prop := Claim7.holds Tryd.pinned (.plain (OpenSpec.upto orderLevelsSpec)) orderLevelsUptoCard

/-- THE SECOND FORM's CARD OF 'forkwrightlaw.GreedyRounds'. -/
def greedyRoundsUptoCard : Claim7 := { stood := { row := greedyRoundsUptoRow, standIns := [], harness := (true, "afd3bb4325440780dca67e7f578bf4655e547332f4918af492568a23c032896d"), looks := false }, kinds := [], alts := [], laidByText := true, laidKinds := [.data], laidTests := true, laidLooks := .later }
def GreedyRoundsUptoCardSaid : Prop := Claim7.holds Tryd.pinned (.plain (OpenSpec.upto greedyRoundsSpec)) greedyRoundsUptoCard
end Rows
end Go.Proofs.YthbbecmffndgdabDoor
