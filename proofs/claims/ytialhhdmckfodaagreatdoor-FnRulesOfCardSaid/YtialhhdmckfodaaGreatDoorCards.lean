/-
  DERIVED. GIVEN WITH THE SEED: THE CARDS: each row of YtialhhdmckfodaaGreatDoorRows.lean that lists a variable, with what it lists TIED to the program's text (the seventh form; the later family's looks); each row that meets fmt, with fmt's text TOLD by the authors' own Lean function (tested against real Go, not proved from fmt's source: count such statements apart). THE CARD IS WHAT COUNTS. Prove the row's statement (the work); the ties are given (YtialhhdmckfodaaGreatDoorTie.lean); close each card by the builder's one call (the guide's Derived/Test/ToyasCard.lean, 'card_holds'). Laid BY PROGRAM, IN A SANDBOX (cutbox-door.mjs). By AI agents, Wed Nov 11 2026. No macro, syntax, notation, axiom, sorry.
-/
import Derived.Test.YtialhhdmckfodaaGreatDoorRows
import GoSem.ClaimSeven
namespace Go.Proofs.YtialhhdmckfodaaGreatDoor
namespace Rows

/-- THE TIED CARD OF 'laws.FnRulesOf'. -/
def fnRulesOfCard : Claim7 := { stood := { row := fnRulesOfRow, standIns := [], harness := (true, "a962fb1cef33f30b047a4e82520a20af394eab3f0eb8c6998da1a64006775476"), looks := false }, kinds := [], alts := [], laidByText := true, laidKinds := [.data, .pinned], laidTests := true, laidLooks := .later }
def FnRulesOfCardSaid : Prop := Claim7.holds Tryz.pinned (.plain (OpenSpec.ofChange fnRulesOfSpec)) fnRulesOfCard

/-- THE TIED CARD OF 'laws.FnWalks'. -/
def fnWalksCard : Claim7 := { stood := { row := fnWalksRow, standIns := [], harness := (true, "a962fb1cef33f30b047a4e82520a20af394eab3f0eb8c6998da1a64006775476"), looks := false }, kinds := [], alts := [], laidByText := true, laidKinds := [.data, .pinned], laidTests := true, laidLooks := .later }
def FnWalksCardSaid : Prop := Claim7.holds Tryz.pinned (.plain (OpenSpec.ofChange fnWalksSpec)) fnWalksCard

/-- THE SECOND FORM's CARD OF 'laws.FnRulesOf'. -/
def fnRulesOfUptoCard : Claim7 := { stood := { row := fnRulesOfUptoRow, standIns := [], harness := (true, "a962fb1cef33f30b047a4e82520a20af394eab3f0eb8c6998da1a64006775476"), looks := false }, kinds := [], alts := [], laidByText := true, laidKinds := [.data, .pinned], laidTests := true, laidLooks := .later }
def FnRulesOfUptoCardSaid : Prop := Claim7.holds Tryz.pinned (.plain (OpenSpec.upto fnRulesOfSpec)) fnRulesOfUptoCard

/-- THE SECOND FORM's CARD OF 'laws.FnWalks'. -/
def fnWalksUptoCard : Claim7 := { stood := { row := fnWalksUptoRow, standIns := [], harness := (true, "a962fb1cef33f30b047a4e82520a20af394eab3f0eb8c6998da1a64006775476"), looks := false }, kinds := [], alts := [], laidByText := true, laidKinds := [.data, .pinned], laidTests := true, laidLooks := .later }
def FnWalksUptoCardSaid : Prop := Claim7.holds Tryz.pinned (.plain (OpenSpec.upto fnWalksSpec)) fnWalksUptoCard
end Rows
end Go.Proofs.YtialhhdmckfodaaGreatDoor
