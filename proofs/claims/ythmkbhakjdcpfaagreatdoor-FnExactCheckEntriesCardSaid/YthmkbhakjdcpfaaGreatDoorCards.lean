/-
  DERIVED. GIVEN WITH THE SEED: THE CARDS: each row of YthmkbhakjdcpfaaGreatDoorRows.lean that lists a variable, with what it lists TIED to the program's text (the seventh form; the later family's looks); each row that meets fmt, with fmt's text TOLD by the authors' own Lean function (tested against real Go, not proved from fmt's source: count such statements apart). THE CARD IS WHAT COUNTS. Prove the row's statement (the work); the ties are given (YthmkbhakjdcpfaaGreatDoorTie.lean); close each card by the builder's one call (the guide's Derived/Test/ToyasCard.lean, 'card_holds'). Laid BY PROGRAM, IN A SANDBOX (cutbox-door.mjs). By AI agents, Wed Nov 11 2026. No macro, syntax, notation, axiom, sorry.
-/
import Derived.Test.YthmkbhakjdcpfaaGreatDoorRows
import GoSem.ClaimSeven
namespace Go.Proofs.YthmkbhakjdcpfaaGreatDoor
namespace Rows

/-- THE TIED CARD OF 'laws.FnExactCheckEntries'. -/
def fnExactCheckEntriesCard : Claim7 := { stood := { row := fnExactCheckEntriesRow, standIns := [], harness := (true, "040dc922c0e8ec55ccecf2b4cd00083677abb94c81e2d05c40668b220b5bd61e"), looks := false }, kinds := [], alts := [], laidByText := true, laidKinds := [.data, .pinned], laidTests := true, laidLooks := .later }
def FnExactCheckEntriesCardSaid : Prop := Claim7.holds Tryz.pinned (.plain (OpenSpec.ofChange fnExactCheckEntriesSpec)) fnExactCheckEntriesCard

/-- THE TIED CARD OF 'laws.FnExactUnjoinedOf'. -/
def fnExactUnjoinedOfCard : Claim7 := { stood := { row := fnExactUnjoinedOfRow, standIns := [], harness := (true, "040dc922c0e8ec55ccecf2b4cd00083677abb94c81e2d05c40668b220b5bd61e"), looks := false }, kinds := [], alts := [], laidByText := true, laidKinds := [.data, .pinned], laidTests := true, laidLooks := .later }
def FnExactUnjoinedOfCardSaid : Prop := Claim7.holds Tryz.pinned (.plain (OpenSpec.ofChange fnExactUnjoinedOfSpec)) fnExactUnjoinedOfCard

/-- THE TIED CARD OF 'laws.FnExactDeriveEntry'. -/
def fnExactDeriveEntryCard : Claim7 := { stood := { row := fnExactDeriveEntryRow, standIns := [], harness := (true, "040dc922c0e8ec55ccecf2b4cd00083677abb94c81e2d05c40668b220b5bd61e"), looks := false }, kinds := [], alts := [], laidByText := true, laidKinds := [.data, .pinned], laidTests := true, laidLooks := .later }
def FnExactDeriveEntryCardSaid : Prop := Claim7.holds Tryz.pinned (.plain (OpenSpec.ofChange fnExactDeriveEntrySpec)) fnExactDeriveEntryCard

/-- THE TIED CARD OF 'laws.FnExactIsConfluent'. -/
def fnExactIsConfluentCard : Claim7 := { stood := { row := fnExactIsConfluentRow, standIns := [], harness := (true, "040dc922c0e8ec55ccecf2b4cd00083677abb94c81e2d05c40668b220b5bd61e"), looks := false }, kinds := [], alts := [], laidByText := true, laidKinds := [.data, .pinned], laidTests := true, laidLooks := .later }
def FnExactIsConfluentCardSaid : Prop := Claim7.holds Tryz.pinned (.plain (OpenSpec.ofChange fnExactIsConfluentSpec)) fnExactIsConfluentCard

/-- THE SECOND FORM's CARD OF 'laws.FnExactCheckEntries'. -/
def fnExactCheckEntriesUptoCard : Claim7 := { stood := { row := fnExactCheckEntriesUptoRow, standIns := [], harness := (true, "040dc922c0e8ec55ccecf2b4cd00083677abb94c81e2d05c40668b220b5bd61e"), looks := false }, kinds := [], alts := [], laidByText := true, laidKinds := [.data, .pinned], laidTests := true, laidLooks := .later }
def FnExactCheckEntriesUptoCardSaid : Prop := Claim7.holds Tryz.pinned (.plain (OpenSpec.upto fnExactCheckEntriesSpec)) fnExactCheckEntriesUptoCard

/-- THE SECOND FORM's CARD OF 'laws.FnExactUnjoinedOf'. -/
def fnExactUnjoinedOfUptoCard : Claim7 := { stood := { row := fnExactUnjoinedOfUptoRow, standIns := [], harness := (true, "040dc922c0e8ec55ccecf2b4cd00083677abb94c81e2d05c40668b220b5bd61e"), looks := false }, kinds := [], alts := [], laidByText := true, laidKinds := [.data, .pinned], laidTests := true, laidLooks := .later }
def FnExactUnjoinedOfUptoCardSaid : Prop := Claim7.holds Tryz.pinned (.plain (OpenSpec.upto fnExactUnjoinedOfSpec)) fnExactUnjoinedOfUptoCard

/-- THE SECOND FORM's CARD OF 'laws.FnExactDeriveEntry'. -/
def fnExactDeriveEntryUptoCard : Claim7 := { stood := { row := fnExactDeriveEntryUptoRow, standIns := [], harness := (true, "040dc922c0e8ec55ccecf2b4cd00083677abb94c81e2d05c40668b220b5bd61e"), looks := false }, kinds := [], alts := [], laidByText := true, laidKinds := [.data, .pinned], laidTests := true, laidLooks := .later }
def FnExactDeriveEntryUptoCardSaid : Prop := Claim7.holds Tryz.pinned (.plain (OpenSpec.upto fnExactDeriveEntrySpec)) fnExactDeriveEntryUptoCard

/-- THE SECOND FORM's CARD OF 'laws.FnExactIsConfluent'. -/
def fnExactIsConfluentUptoCard : Claim7 := { stood := { row := fnExactIsConfluentUptoRow, standIns := [], harness := (true, "040dc922c0e8ec55ccecf2b4cd00083677abb94c81e2d05c40668b220b5bd61e"), looks := false }, kinds := [], alts := [], laidByText := true, laidKinds := [.data, .pinned], laidTests := true, laidLooks := .later }
def FnExactIsConfluentUptoCardSaid : Prop := Claim7.holds Tryz.pinned (.plain (OpenSpec.upto fnExactIsConfluentSpec)) fnExactIsConfluentUptoCard
end Rows
end Go.Proofs.YthmkbhakjdcpfaaGreatDoor
