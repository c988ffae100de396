/-
  DERIVED. GIVEN WITH THE SEED: THE CARDS: each row of YtcnpimlmmmkcmaaGreatDoorRows.lean that lists a variable, with what it lists TIED to the program's text (the seventh form; the later family's looks); each row that meets fmt, with fmt's text TOLD by the authors' own Lean function (tested against real Go, not proved from fmt's source: count such statements apart). THE CARD IS WHAT COUNTS. Prove the row's statement (the work); the ties are given (YtcnpimlmmmkcmaaGreatDoorTie.lean); close each card by the builder's one call (the guide's Derived/Test/ToyasCard.lean, 'card_holds'). Laid BY PROGRAM, IN A SANDBOX (cutbox-door.mjs). By AI agents, Wed Nov 11 2026. No macro, syntax, notation, axiom, sorry.
-/
import Derived.Test.YtcnpimlmmmkcmaaGreatDoorRows
import GoSem.ClaimSeven
namespace Go.Proofs.YtcnpimlmmmkcmaaGreatDoor
namespace Rows

/-- THE TIED CARD OF 'laws.FnConfluent'. -/
def fnConfluentCard : Claim7 := { stood := { row := fnConfluentRow, standIns := [], harness := (true, "1f810d5d8799f495de137a13c70f7db209675a7c1ce4eb67a5e2faf08d867ff8"), looks := false }, kinds := [], alts := [], laidByText := true, laidKinds := [.data, .pinned], laidTests := true, laidLooks := .later }
def FnConfluentCardSaid : Prop := Claim7.holds Tryz.pinned (.plain (OpenSpec.ofChange fnConfluentSpec)) fnConfluentCard

/-- THE SECOND FORM's CARD OF 'laws.FnConfluent'. -/
def fnConfluentUptoCard : Claim7 := { stood := { row := fnConfluentUptoRow, standIns := [], harness := (true, "1f810d5d8799f495de137a13c70f7db209675a7c1ce4eb67a5e2faf08d867ff8"), looks := false }, kinds := [], alts := [], laidByText := true, laidKinds := [.data, .pinned], laidTests := true, laidLooks := .later }
def FnConfluentUptoCardSaid : Prop := Claim7.holds Tryz.pinned (.plain (OpenSpec.upto fnConfluentSpec)) fnConfluentUptoCard
end Rows
end Go.Proofs.YtcnpimlmmmkcmaaGreatDoor
