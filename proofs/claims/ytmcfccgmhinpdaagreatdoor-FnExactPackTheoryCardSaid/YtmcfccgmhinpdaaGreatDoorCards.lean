/-
  DERIVED. GIVEN WITH THE SEED: THE CARDS: each row of YtmcfccgmhinpdaaGreatDoorRows.lean that lists a variable, with what it lists TIED to the program's text (the seventh form; the later family's looks); each row that meets fmt, with fmt's text TOLD by the authors' own Lean function (tested against real Go, not proved from fmt's source: count such statements apart). THE CARD IS WHAT COUNTS. Prove the row's statement (the work); the ties are given (YtmcfccgmhinpdaaGreatDoorTie.lean); close each card by the builder's one call (the guide's Derived/Test/ToyasCard.lean, 'card_holds'). Laid BY PROGRAM, IN A SANDBOX (cutbox-door.mjs). By AI agents, Wed Nov 11 2026. No macro, syntax, notation, axiom, sorry.
-/
import Derived.Test.YtmcfccgmhinpdaaGreatDoorRows
import GoSem.ClaimSeven
namespace Go.Proofs.YtmcfccgmhinpdaaGreatDoor
namespace Rows

/-- THE TIED CARD OF 'laws.FnExactEntriesHold'. -/
def fnExactEntriesHoldCard : Claim7 := { stood := { row := fnExactEntriesHoldRow, standIns := [], harness := (true, "2b3ba2ddeb6d794338739a52c3c7f30c06df3bc8090ee859df07f6db37ffc4a6"), looks := false }, kinds := [], alts := [], laidByText := true, laidKinds := [.data, .pinned], laidTests := true, laidLooks := .later }
def FnExactEntriesHoldCardSaid : Prop := Claim7.holds Tryz.pinned (.plain (OpenSpec.ofChange fnExactEntriesHoldSpec)) fnExactEntriesHoldCard

/-- THE TIED CARD OF 'laws.FnExactIsDecreasing'. -/
def fnExactIsDecreasingCard : Claim7 := { stood := { row := fnExactIsDecreasingRow, standIns := [], harness := (true, "2b3ba2ddeb6d794338739a52c3c7f30c06df3bc8090ee859df07f6db37ffc4a6"), looks := false }, kinds := [], alts := [], laidByText := true, laidKinds := [.data, .pinned], laidTests := true, laidLooks := .later }
def FnExactIsDecreasingCardSaid : Prop := Claim7.holds Tryz.pinned (.plain (OpenSpec.ofChange fnExactIsDecreasingSpec)) fnExactIsDecreasingCard

/-- THE TIED CARD OF 'laws.FnExactTheoryFault'. -/
def fnExactTheoryFaultCard : Claim7 := { stood := { row := fnExactTheoryFaultRow, standIns := [], harness := (true, "2b3ba2ddeb6d794338739a52c3c7f30c06df3bc8090ee859df07f6db37ffc4a6"), looks := false }, kinds := [], alts := [], laidByText := true, laidKinds := [.data, .pinned], laidTests := true, laidLooks := .later }
def FnExactTheoryFaultCardSaid : Prop := Claim7.holds Tryz.pinned (.plain (OpenSpec.ofChange fnExactTheoryFaultSpec)) fnExactTheoryFaultCard

/-- THE TIED CARD OF 'laws.FnExactWalkStep'. -/
def fnExactWalkStepCard : Claim7 := { stood := { row := fnExactWalkStepRow, standIns := [], harness := (true, "2b3ba2ddeb6d794338739a52c3c7f30c06df3bc8090ee859df07f6db37ffc4a6"), looks := false }, kinds := [], alts := [], laidByText := true, laidKinds := [.data, .pinned], laidTests := true, laidLooks := .later }
def FnExactWalkStepCardSaid : Prop := Claim7.holds Tryz.pinned (.plain (OpenSpec.ofChange fnExactWalkStepSpec)) fnExactWalkStepCard

/-- THE TIED CARD OF 'laws.FnExactIsNormal'. -/
def fnExactIsNormalCard : Claim7 := { stood := { row := fnExactIsNormalRow, standIns := [], harness := (true, "2b3ba2ddeb6d794338739a52c3c7f30c06df3bc8090ee859df07f6db37ffc4a6"), looks := false }, kinds := [], alts := [], laidByText := true, laidKinds := [.data, .pinned], laidTests := true, laidLooks := .later }
def FnExactIsNormalCardSaid : Prop := Claim7.holds Tryz.pinned (.plain (OpenSpec.ofChange fnExactIsNormalSpec)) fnExactIsNormalCard

/-- THE TIED CARD OF 'laws.FnExactFindRedex'. -/
def fnExactFindRedexCard : Claim7 := { stood := { row := fnExactFindRedexRow, standIns := [], harness := (true, "2b3ba2ddeb6d794338739a52c3c7f30c06df3bc8090ee859df07f6db37ffc4a6"), looks := false }, kinds := [], alts := [], laidByText := true, laidKinds := [.data, .pinned], laidTests := true, laidLooks := .later }
def FnExactFindRedexCardSaid : Prop := Claim7.holds Tryz.pinned (.plain (OpenSpec.ofChange fnExactFindRedexSpec)) fnExactFindRedexCard

/-- THE TIED CARD OF 'laws.FnExactRewriteAt'. -/
def fnExactRewriteAtCard : Claim7 := { stood := { row := fnExactRewriteAtRow, standIns := [], harness := (true, "2b3ba2ddeb6d794338739a52c3c7f30c06df3bc8090ee859df07f6db37ffc4a6"), looks := false }, kinds := [], alts := [], laidByText := true, laidKinds := [.data, .pinned], laidTests := true, laidLooks := .later }
def FnExactRewriteAtCardSaid : Prop := Claim7.holds Tryz.pinned (.plain (OpenSpec.ofChange fnExactRewriteAtSpec)) fnExactRewriteAtCard

/-- THE TIED CARD OF 'laws.FnBack'. -/
def fnBackCard : Claim7 := { stood := { row := fnBackRow, standIns := [], harness := (true, "2b3ba2ddeb6d794338739a52c3c7f30c06df3bc8090ee859df07f6db37ffc4a6"), looks := false }, kinds := [], alts := [], laidByText := true, laidKinds := [.data, .pinned], laidTests := true, laidLooks := .later }
def FnBackCardSaid : Prop := Claim7.holds Tryz.pinned (.plain (OpenSpec.ofChange fnBackSpec)) fnBackCard

/-- THE TIED CARD OF 'laws.FnExactPackTheory'. -/
def fnExactPackTheoryCard : Claim7 := { stood := { row := fnExactPackTheoryRow, standIns := [], harness := (true, "2b3ba2ddeb6d794338739a52c3c7f30c06df3bc8090ee859df07f6db37ffc4a6"), looks := false }, kinds := [], alts := [], laidByText := true, laidKinds := [.data, .pinned], laidTests := true, laidLooks := .later }
def FnExactPackTheoryCardSaid : Prop := Claim7.holds Tryz.pinned (.plain (OpenSpec.ofChange fnExactPackTheorySpec)) fnExactPackTheoryCard

/-- THE TIED CARD OF 'laws.FnExactAreJoined'. -/
def fnExactAreJoinedCard : Claim7 := { stood := { row := fnExactAreJoinedRow, standIns := [], harness := (true, "2b3ba2ddeb6d794338739a52c3c7f30c06df3bc8090ee859df07f6db37ffc4a6"), looks := false }, kinds := [], alts := [], laidByText := true, laidKinds := [.data, .pinned], laidTests := true, laidLooks := .later }
def FnExactAreJoinedCardSaid : Prop := Claim7.holds Tryz.pinned (.plain (OpenSpec.ofChange fnExactAreJoinedSpec)) fnExactAreJoinedCard

/-- THE TIED CARD OF 'laws.FnAlgebras'. -/
def fnAlgebrasCard : Claim7 := { stood := { row := fnAlgebrasRow, standIns := [], harness := (true, "2b3ba2ddeb6d794338739a52c3c7f30c06df3bc8090ee859df07f6db37ffc4a6"), looks := false }, kinds := [], alts := [], laidByText := true, laidKinds := [.data, .pinned], laidTests := true, laidLooks := .later }
def FnAlgebrasCardSaid : Prop := Claim7.holds Tryz.pinned (.plain (OpenSpec.ofChange fnAlgebrasSpec)) fnAlgebrasCard

/-- THE TIED CARD OF 'laws.FnExactNormalForm'. -/
def fnExactNormalFormCard : Claim7 := { stood := { row := fnExactNormalFormRow, standIns := [], harness := (true, "2b3ba2ddeb6d794338739a52c3c7f30c06df3bc8090ee859df07f6db37ffc4a6"), looks := false }, kinds := [], alts := [], laidByText := true, laidKinds := [.data, .pinned], laidTests := true, laidLooks := .later }
def FnExactNormalFormCardSaid : Prop := Claim7.holds Tryz.pinned (.plain (OpenSpec.ofChange fnExactNormalFormSpec)) fnExactNormalFormCard

/-- THE SECOND FORM's CARD OF 'laws.FnExactEntriesHold'. -/
def fnExactEntriesHoldUptoCard : Claim7 := { stood := { row := fnExactEntriesHoldUptoRow, standIns := [], harness := (true, "2b3ba2ddeb6d794338739a52c3c7f30c06df3bc8090ee859df07f6db37ffc4a6"), looks := false }, kinds := [], alts := [], laidByText := true, laidKinds := [.data, .pinned], laidTests := true, laidLooks := .later }
def FnExactEntriesHoldUptoCardSaid : Prop := Claim7.holds Tryz.pinned (.plain (OpenSpec.upto fnExactEntriesHoldSpec)) fnExactEntriesHoldUptoCard

/-- THE SECOND FORM's CARD OF 'laws.FnExactIsDecreasing'. -/
def fnExactIsDecreasingUptoCard : Claim7 := { stood := { row := fnExactIsDecreasingUptoRow, standIns := [], harness := (true, "2b3ba2ddeb6d794338739a52c3c7f30c06df3bc8090ee859df07f6db37ffc4a6"), looks := false }, kinds := [], alts := [], laidByText := true, laidKinds := [.data, .pinned], laidTests := true, laidLooks := .later }
def FnExactIsDecreasingUptoCardSaid : Prop := Claim7.holds Tryz.pinned (.plain (OpenSpec.upto fnExactIsDecreasingSpec)) fnExactIsDecreasingUptoCard

/-- THE SECOND FORM's CARD OF 'laws.FnExactTheoryFault'. -/
def fnExactTheoryFaultUptoCard : Claim7 := { stood := { row := fnExactTheoryFaultUptoRow, standIns := [], harness := (true, "2b3ba2ddeb6d794338739a52c3c7f30c06df3bc8090ee859df07f6db37ffc4a6"), looks := false }, kinds := [], alts := [], laidByText := true, laidKinds := [.data, .pinned], laidTests := true, laidLooks := .later }
def FnExactTheoryFaultUptoCardSaid : Prop := Claim7.holds Tryz.pinned (.plain (OpenSpec.upto fnExactTheoryFaultSpec)) fnExactTheoryFaultUptoCard

/-- THE SECOND FORM's CARD OF 'laws.FnExactWalkStep'. -/
def fnExactWalkStepUptoCard : Claim7 := { stood := { row := fnExactWalkStepUptoRow, standIns := [], harness := (true, "2b3ba2ddeb6d794338739a52c3c7f30c06df3bc8090ee859df07f6db37ffc4a6"), looks := false }, kinds := [], alts := [], laidByText := true, laidKinds := [.data, .pinned], laidTests := true, laidLooks := .later }
def FnExactWalkStepUptoCardSaid : Prop := Claim7.holds Tryz.pinned (.plain (OpenSpec.upto fnExactWalkStepSpec)) fnExactWalkStepUptoCard

/-- THE SECOND FORM's CARD OF 'laws.FnExactIsNormal'. -/
def fnExactIsNormalUptoCard : Claim7 := { stood := { row := fnExactIsNormalUptoRow, standIns := [], harness := (true, "2b3ba2ddeb6d794338739a52c3c7f30c06df3bc8090ee859df07f6db37ffc4a6"), looks := false }, kinds := [], alts := [], laidByText := true, laidKinds := [.data, .pinned], laidTests := true, laidLooks := .later }
def FnExactIsNormalUptoCardSaid : Prop := Claim7.holds Tryz.pinned (.plain (OpenSpec.upto fnExactIsNormalSpec)) fnExactIsNormalUptoCard

/-- THE SECOND FORM's CARD OF 'laws.FnExactFindRedex'. -/
def fnExactFindRedexUptoCard : Claim7 := { stood := { row := fnExactFindRedexUptoRow, standIns := [], harness := (true, "2b3ba2ddeb6d794338739a52c3c7f30c06df3bc8090ee859df07f6db37ffc4a6"), looks := false }, kinds := [], alts := [], laidByText := true, laidKinds := [.data, .pinned], laidTests := true, laidLooks := .later }
def FnExactFindRedexUptoCardSaid : Prop := Claim7.holds Tryz.pinned (.plain (OpenSpec.upto fnExactFindRedexSpec)) fnExactFindRedexUptoCard

/-- THE SECOND FORM's CARD OF 'laws.FnExactRewriteAt'. -/
def fnExactRewriteAtUptoCard : Claim7 := { stood := { row := fnExactRewriteAtUptoRow, standIns := [], harness := (true, "2b3ba2ddeb6d794338739a52c3c7f30c06df3bc8090ee859df07f6db37ffc4a6"), looks := false }, kinds := [], alts := [], laidByText := true, laidKinds := [.data, .pinned], laidTests := true, laidLooks := .later }
def FnExactRewriteAtUptoCardSaid : Prop := Claim7.holds Tryz.pinned (.plain (OpenSpec.upto fnExactRewriteAtSpec)) fnExactRewriteAtUptoCard

/-- THE SECOND FORM's CARD OF 'laws.FnBack'. -/
def fnBackUptoCard : Claim7 := { stood := { row := fnBackUptoRow, standIns := [], harness := (true, "2b3ba2ddeb6d794338739a52c3c7f30c06df3bc8090ee859df07f6db37ffc4a6"), looks := false }, kinds := [], alts := [], laidByText := true, laidKinds := [.data, .pinned], laidTests := true, laidLooks := .later }
def FnBackUptoCardSaid : Prop := Claim7.holds Tryz.pinned (.plain (OpenSpec.upto fnBackSpec)) fnBackUptoCard

/-- THE SECOND FORM's CARD OF 'laws.FnExactPackTheory'. -/
def fnExactPackTheoryUptoCard : Claim7 := { stood := { row := fnExactPackTheoryUptoRow, standIns := [], harness := (true, "2b3ba2ddeb6d794338739a52c3c7f30c06df3bc8090ee859df07f6db37ffc4a6"), looks := false }, kinds := [], alts := [], laidByText := true, laidKinds := [.data, .pinned], laidTests := true, laidLooks := .later }
def FnExactPackTheoryUptoCardSaid : Prop := Claim7.holds Tryz.pinned (.plain (OpenSpec.upto fnExactPackTheorySpec)) fnExactPackTheoryUptoCard

/-- THE SECOND FORM's CARD OF 'laws.FnExactAreJoined'. -/
def fnExactAreJoinedUptoCard : Claim7 := { stood := { row := fnExactAreJoinedUptoRow, standIns := [], harness := (true, "2b3ba2ddeb6d794338739a52c3c7f30c06df3bc8090ee859df07f6db37ffc4a6"), looks := false }, kinds := [], alts := [], laidByText := true, laidKinds := [.data, .pinned], laidTests := true, laidLooks := .later }
def FnExactAreJoinedUptoCardSaid : Prop := Claim7.holds Tryz.pinned (.plain (OpenSpec.upto fnExactAreJoinedSpec)) fnExactAreJoinedUptoCard

/-- THE SECOND FORM's CARD OF 'laws.FnAlgebras'. -/
def fnAlgebrasUptoCard : Claim7 := { stood := { row := fnAlgebrasUptoRow, standIns := [], harness := (true, "2b3ba2ddeb6d794338739a52c3c7f30c06df3bc8090ee859df07f6db37ffc4a6"), looks := false }, kinds := [], alts := [], laidByText := true, laidKinds := [.data, .pinned], laidTests := true, laidLooks := .later }
def FnAlgebrasUptoCardSaid : Prop := Claim7.holds Tryz.pinned (.plain (OpenSpec.upto fnAlgebrasSpec)) fnAlgebrasUptoCard

/-- THE SECOND FORM's CARD OF 'laws.FnExactNormalForm'. -/
def fnExactNormalFormUptoCard : Claim7 := { stood := { row := fnExactNormalFormUptoRow, standIns := [], harness := (true, "2b3ba2ddeb6d794338739a52c3c7f30c06df3bc8090ee859df07f6db37ffc4a6"), looks := false }, kinds := [], alts := [], laidByText := true, laidKinds := [.data, .pinned], laidTests := true, laidLooks := .later }
def FnExactNormalFormUptoCardSaid : Prop := Claim7.holds Tryz.pinned (.plain (OpenSpec.upto fnExactNormalFormSpec)) fnExactNormalFormUptoCard
end Rows
end Go.Proofs.YtmcfccgmhinpdaaGreatDoor
