/-
  DERIVED. GIVEN WITH THE SEED: THE CARDS: each row of YtggppocodooafaaGreatDoorRows.lean that lists a variable, with what it lists TIED to the program's text (the seventh form; the later family's looks); each row that meets fmt, with fmt's text TOLD by the authors' own Lean function (tested against real Go, not proved from fmt's source: count such statements apart). THE CARD IS WHAT COUNTS. Prove the row's statement (the work); the ties are given (YtggppocodooafaaGreatDoorTie.lean); close each card by the builder's one call (the guide's Derived/Test/ToyasCard.lean, 'card_holds'). Laid BY PROGRAM, IN A SANDBOX (cutbox-door.mjs). By AI agents, Wed Nov 11 2026. No macro, syntax, notation, axiom, sorry.
-/
import Derived.Test.YtggppocodooafaaGreatDoorRows
import GoSem.ClaimSeven
namespace Go.Proofs.YtggppocodooafaaGreatDoor
namespace Rows

/-- THE TIED CARD OF 'laws.FnParts'. -/
def fnPartsCard : Claim7 := { stood := { row := fnPartsRow, standIns := [], harness := (true, "cab3dd8023316e4e56d0c50bac8ab20c996093c29a4a5aac2ad13f5760349290"), looks := false }, kinds := [], alts := [], laidByText := true, laidKinds := [.data, .pinned], laidTests := true, laidLooks := .later }
def FnPartsCardSaid : Prop := Claim7.holds Tryz.pinned (.plain (OpenSpec.ofChange fnPartsSpec)) fnPartsCard

/-- THE TIED CARD OF 'laws.FnSorts'. -/
def fnSortsCard : Claim7 := { stood := { row := fnSortsRow, standIns := [], harness := (true, "cab3dd8023316e4e56d0c50bac8ab20c996093c29a4a5aac2ad13f5760349290"), looks := false }, kinds := [], alts := [], laidByText := true, laidKinds := [.data, .pinned], laidTests := true, laidLooks := .later }
def FnSortsCardSaid : Prop := Claim7.holds Tryz.pinned (.plain (OpenSpec.ofChange fnSortsSpec)) fnSortsCard

/-- THE TIED CARD OF 'laws.FnStable'. -/
def fnStableCard : Claim7 := { stood := { row := fnStableRow, standIns := [], harness := (true, "cab3dd8023316e4e56d0c50bac8ab20c996093c29a4a5aac2ad13f5760349290"), looks := false }, kinds := [], alts := [], laidByText := true, laidKinds := [.data, .pinned], laidTests := true, laidLooks := .later }
def FnStableCardSaid : Prop := Claim7.holds Tryz.pinned (.plain (OpenSpec.ofChange fnStableSpec)) fnStableCard

/-- THE TIED CARD OF 'laws.FnOriented'. -/
def fnOrientedCard : Claim7 := { stood := { row := fnOrientedRow, standIns := [], harness := (true, "cab3dd8023316e4e56d0c50bac8ab20c996093c29a4a5aac2ad13f5760349290"), looks := false }, kinds := [], alts := [], laidByText := true, laidKinds := [.data, .pinned], laidTests := true, laidLooks := .later }
def FnOrientedCardSaid : Prop := Claim7.holds Tryz.pinned (.plain (OpenSpec.ofChange fnOrientedSpec)) fnOrientedCard

/-- THE SECOND FORM's CARD OF 'laws.FnParts'. -/
def fnPartsUptoCard : Claim7 := { stood := { row := fnPartsUptoRow, standIns := [], harness := (true, "cab3dd8023316e4e56d0c50bac8ab20c996093c29a4a5aac2ad13f5760349290"), looks := false }, kinds := [], alts := [], laidByText := true, laidKinds := [.data, .pinned], laidTests := true, laidLooks := .later }
def FnPartsUptoCardSaid : Prop := Claim7.holds Tryz.pinned (.plain (OpenSpec.upto fnPartsSpec)) fnPartsUptoCard

/-- THE SECOND FORM's CARD OF 'laws.FnSorts'. -/
def fnSortsUptoCard : Claim7 := { stood := { row := fnSortsUptoRow, standIns := [], harness := (true, "cab3dd8023316e4e56d0c50bac8ab20c996093c29a4a5aac2ad13f5760349290"), looks := false }, kinds := [], alts := [], laidByText := true, laidKinds := [.data, .pinned], laidTests := true, laidLooks := .later }
def FnSortsUptoCardSaid : Prop := Claim7.holds Tryz.pinned (.plain (OpenSpec.upto fnSortsSpec)) fnSortsUptoCard

/-- THE SECOND FORM's CARD OF 'laws.FnStable'. -/
def fnStableUptoCard : Claim7 := { stood := { row := fnStableUptoRow, standIns := [], harness := (true, "cab3dd8023316e4e56d0c50bac8ab20c996093c29a4a5aac2ad13f5760349290"), looks := false }, kinds := [], alts := [], laidByText := true, laidKinds := [.data, .pinned], laidTests := true, laidLooks := .later }
def FnStableUptoCardSaid : Prop := Claim7.holds Tryz.pinned (.plain (OpenSpec.upto fnStableSpec)) fnStableUptoCard

/-- THE SECOND FORM's CARD OF 'laws.FnOriented'. -/
def fnOrientedUptoCard : Claim7 := { stood := { row := fnOrientedUptoRow, standIns := [], harness := (true, "cab3dd8023316e4e56d0c50bac8ab20c996093c29a4a5aac2ad13f5760349290"), looks := false }, kinds := [], alts := [], laidByText := true, laidKinds := [.data, .pinned], laidTests := true, laidLooks := .later }
def FnOrientedUptoCardSaid : Prop := Claim7.holds Tryz.pinned (.plain (OpenSpec.upto fnOrientedSpec)) fnOrientedUptoCard
end Rows
end Go.Proofs.YtggppocodooafaaGreatDoor
