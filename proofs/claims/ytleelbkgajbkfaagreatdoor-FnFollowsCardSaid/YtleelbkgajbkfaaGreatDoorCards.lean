/-
  DERIVED. GIVEN WITH THE SEED: THE CARDS: each row of YtleelbkgajbkfaaGreatDoorRows.lean that lists a variable, with what it lists TIED to the program's text (the seventh form; the later family's looks); each row that meets fmt, with fmt's text TOLD by the authors' own Lean function (tested against real Go, not proved from fmt's source: count such statements apart). THE CARD IS WHAT COUNTS. Prove the row's statement (the work); the ties are given (YtleelbkgajbkfaaGreatDoorTie.lean); close each card by the builder's one call (the guide's Derived/Test/ToyasCard.lean, 'card_holds'). Laid BY PROGRAM, IN A SANDBOX (cutbox-door.mjs). By AI agents, Wed Nov 11 2026. No macro, syntax, notation, axiom, sorry.
-/
import Derived.Test.YtleelbkgajbkfaaGreatDoorRows
import GoSem.ClaimSeven
namespace Go.Proofs.YtleelbkgajbkfaaGreatDoor
namespace Rows

/-- THE TIED CARD OF 'laws.FnAlgebras'. -/
def fnAlgebrasCard : Claim7 := { stood := { row := fnAlgebrasRow, standIns := [], harness := (true, "1b91b0b5c4f44a60f613bd34baa2d06278e6ff75d800e3d4b94928bc352c7e6f"), looks := false }, kinds := [], alts := [], laidByText := true, laidKinds := [.data, .pinned], laidTests := true, laidLooks := .later }
def FnAlgebrasCardSaid : Prop := Claim7.holds Tryz.pinned (.plain (OpenSpec.ofChange fnAlgebrasSpec)) fnAlgebrasCard

/-- THE TIED CARD OF 'laws.FnAllFollow'. -/
def fnAllFollowCard : Claim7 := { stood := { row := fnAllFollowRow, standIns := [], harness := (true, "1b91b0b5c4f44a60f613bd34baa2d06278e6ff75d800e3d4b94928bc352c7e6f"), looks := false }, kinds := [], alts := [], laidByText := true, laidKinds := [.data, .pinned], laidTests := true, laidLooks := .later }
def FnAllFollowCardSaid : Prop := Claim7.holds Tryz.pinned (.plain (OpenSpec.ofChange fnAllFollowSpec)) fnAllFollowCard

/-- THE TIED CARD OF 'laws.FnFollows'. -/
def fnFollowsCard : Claim7 := { stood := { row := fnFollowsRow, standIns := [], harness := (true, "1b91b0b5c4f44a60f613bd34baa2d06278e6ff75d800e3d4b94928bc352c7e6f"), looks := false }, kinds := [], alts := [], laidByText := true, laidKinds := [.data, .pinned], laidTests := true, laidLooks := .later }
def FnFollowsCardSaid : Prop := Claim7.holds Tryz.pinned (.plain (OpenSpec.ofChange fnFollowsSpec)) fnFollowsCard

/-- THE SECOND FORM's CARD OF 'laws.FnAlgebras'. -/
def fnAlgebrasUptoCard : Claim7 := { stood := { row := fnAlgebrasUptoRow, standIns := [], harness := (true, "1b91b0b5c4f44a60f613bd34baa2d06278e6ff75d800e3d4b94928bc352c7e6f"), looks := false }, kinds := [], alts := [], laidByText := true, laidKinds := [.data, .pinned], laidTests := true, laidLooks := .later }
def FnAlgebrasUptoCardSaid : Prop := Claim7.holds Tryz.pinned (.plain (OpenSpec.upto fnAlgebrasSpec)) fnAlgebrasUptoCard

/-- THE SECOND FORM's CARD OF 'laws.FnAllFollow'. -/
def fnAllFollowUptoCard : Claim7 := { stood := { row := fnAllFollowUptoRow, standIns := [], harness := (true, "1b91b0b5c4f44a60f613bd34baa2d06278e6ff75d800e3d4b94928bc352c7e6f"), looks := false }, kinds := [], alts := [], laidByText := true, laidKinds := [.data, .pinned], laidTests := true, laidLooks := .later }
def FnAllFollowUptoCardSaid : Prop := Claim7.holds Tryz.pinned (.plain (OpenSpec.upto fnAllFollowSpec)) fnAllFollowUptoCard

/-- THE SECOND FORM's CARD OF 'laws.FnFollows'. -/
def fnFollowsUptoCard : Claim7 := { stood := { row := fnFollowsUptoRow, standIns := [], harness := (true, "1b91b0b5c4f44a60f613bd34baa2d06278e6ff75d800e3d4b94928bc352c7e6f"), looks := false }, kinds := [], alts := [], laidByText := true, laidKinds := [.data, .pinned], laidTests := true, laidLooks := .later }
def FnFollowsUptoCardSaid : Prop := Claim7.holds Tryz.pinned (.plain (OpenSpec.upto fnFollowsSpec)) fnFollowsUptoCard
end Rows
end Go.Proofs.YtleelbkgajbkfaaGreatDoor
