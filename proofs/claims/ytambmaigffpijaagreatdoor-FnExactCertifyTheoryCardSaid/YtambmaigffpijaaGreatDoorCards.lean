/-
  DERIVED. GIVEN WITH THE SEED: THE CARDS: each row of YtambmaigffpijaaGreatDoorRows.lean that lists a variable, with what it lists TIED to the program's text (the seventh form; the later family's looks); each row that meets fmt, with fmt's text TOLD by the authors' own Lean function (tested against real Go, not proved from fmt's source: count such statements apart). THE CARD IS WHAT COUNTS. Prove the row's statement (the work); the ties are given (YtambmaigffpijaaGreatDoorTie.lean); close each card by the builder's one call (the guide's Derived/Test/ToyasCard.lean, 'card_holds'). Laid BY PROGRAM, IN A SANDBOX (cutbox-door.mjs). By AI agents, Wed Nov 11 2026. No macro, syntax, notation, axiom, sorry.
-/
import Derived.Test.YtambmaigffpijaaGreatDoorRows
import GoSem.ClaimSeven
namespace Go.Proofs.YtambmaigffpijaaGreatDoor
namespace Rows

/-- THE TIED CARD OF 'laws.FnExactUsesOf'. -/
def fnExactUsesOfCard : Claim7 := { stood := { row := fnExactUsesOfRow, standIns := [], harness := (true, "aba051dc3c085c64e65838185e1df1a380121bbffcfe4a713ce4d6ab3561a278"), looks := false }, kinds := [], alts := [], laidByText := true, laidKinds := [.data, .pinned], laidTests := true, laidLooks := .later }
def FnExactUsesOfCardSaid : Prop := Claim7.holds Tryz.pinned (.plain (OpenSpec.ofChange fnExactUsesOfSpec)) fnExactUsesOfCard

/-- THE TIED CARD OF 'laws.FnExactNewCompletion'. -/
def fnExactNewCompletionCard : Claim7 := { stood := { row := fnExactNewCompletionRow, standIns := [], harness := (true, "aba051dc3c085c64e65838185e1df1a380121bbffcfe4a713ce4d6ab3561a278"), looks := false }, kinds := [], alts := [], laidByText := true, laidKinds := [.data, .pinned], laidTests := true, laidLooks := .later }
def FnExactNewCompletionCardSaid : Prop := Claim7.holds Tryz.pinned (.plain (OpenSpec.ofChange fnExactNewCompletionSpec)) fnExactNewCompletionCard

/-- THE TIED CARD OF 'laws.FnExactCompletionFault'. -/
def fnExactCompletionFaultCard : Claim7 := { stood := { row := fnExactCompletionFaultRow, standIns := [], harness := (true, "aba051dc3c085c64e65838185e1df1a380121bbffcfe4a713ce4d6ab3561a278"), looks := false }, kinds := [], alts := [], laidByText := true, laidKinds := [.data, .pinned], laidTests := true, laidLooks := .later }
def FnExactCompletionFaultCardSaid : Prop := Claim7.holds Tryz.pinned (.plain (OpenSpec.ofChange fnExactCompletionFaultSpec)) fnExactCompletionFaultCard

/-- THE TIED CARD OF 'laws.FnExactIsComplete'. -/
def fnExactIsCompleteCard : Claim7 := { stood := { row := fnExactIsCompleteRow, standIns := [], harness := (true, "aba051dc3c085c64e65838185e1df1a380121bbffcfe4a713ce4d6ab3561a278"), looks := false }, kinds := [], alts := [], laidByText := true, laidKinds := [.data, .pinned], laidTests := true, laidLooks := .later }
def FnExactIsCompleteCardSaid : Prop := Claim7.holds Tryz.pinned (.plain (OpenSpec.ofChange fnExactIsCompleteSpec)) fnExactIsCompleteCard

/-- THE TIED CARD OF 'laws.FnExactCertifyTheory'. -/
def fnExactCertifyTheoryCard : Claim7 := { stood := { row := fnExactCertifyTheoryRow, standIns := [], harness := (true, "aba051dc3c085c64e65838185e1df1a380121bbffcfe4a713ce4d6ab3561a278"), looks := false }, kinds := [], alts := [], laidByText := true, laidKinds := [.data, .pinned], laidTests := true, laidLooks := .later }
def FnExactCertifyTheoryCardSaid : Prop := Claim7.holds Tryz.pinned (.plain (OpenSpec.ofChange fnExactCertifyTheorySpec)) fnExactCertifyTheoryCard

/-- THE SECOND FORM's CARD OF 'laws.FnExactUsesOf'. -/
def fnExactUsesOfUptoCard : Claim7 := { stood := { row := fnExactUsesOfUptoRow, standIns := [], harness := (true, "aba051dc3c085c64e65838185e1df1a380121bbffcfe4a713ce4d6ab3561a278"), looks := false }, kinds := [], alts := [], laidByText := true, laidKinds := [.data, .pinned], laidTests := true, laidLooks := .later }
def FnExactUsesOfUptoCardSaid : Prop := Claim7.holds Tryz.pinned (.plain (OpenSpec.upto fnExactUsesOfSpec)) fnExactUsesOfUptoCard

/-- THE SECOND FORM's CARD OF 'laws.FnExactNewCompletion'. -/
def fnExactNewCompletionUptoCard : Claim7 := { stood := { row := fnExactNewCompletionUptoRow, standIns := [], harness := (true, "aba051dc3c085c64e65838185e1df1a380121bbffcfe4a713ce4d6ab3561a278"), looks := false }, kinds := [], alts := [], laidByText := true, laidKinds := [.data, .pinned], laidTests := true, laidLooks := .later }
def FnExactNewCompletionUptoCardSaid : Prop := Claim7.holds Tryz.pinned (.plain (OpenSpec.upto fnExactNewCompletionSpec)) fnExactNewCompletionUptoCard

/-- THE SECOND FORM's CARD OF 'laws.FnExactCompletionFault'. -/
def fnExactCompletionFaultUptoCard : Claim7 := { stood := { row := fnExactCompletionFaultUptoRow, standIns := [], harness := (true, "aba051dc3c085c64e65838185e1df1a380121bbffcfe4a713ce4d6ab3561a278"), looks := false }, kinds := [], alts := [], laidByText := true, laidKinds := [.data, .pinned], laidTests := true, laidLooks := .later }
def FnExactCompletionFaultUptoCardSaid : Prop := Claim7.holds Tryz.pinned (.plain (OpenSpec.upto fnExactCompletionFaultSpec)) fnExactCompletionFaultUptoCard

/-- THE SECOND FORM's CARD OF 'laws.FnExactIsComplete'. -/
def fnExactIsCompleteUptoCard : Claim7 := { stood := { row := fnExactIsCompleteUptoRow, standIns := [], harness := (true, "aba051dc3c085c64e65838185e1df1a380121bbffcfe4a713ce4d6ab3561a278"), looks := false }, kinds := [], alts := [], laidByText := true, laidKinds := [.data, .pinned], laidTests := true, laidLooks := .later }
def FnExactIsCompleteUptoCardSaid : Prop := Claim7.holds Tryz.pinned (.plain (OpenSpec.upto fnExactIsCompleteSpec)) fnExactIsCompleteUptoCard

/-- THE SECOND FORM's CARD OF 'laws.FnExactCertifyTheory'. -/
def fnExactCertifyTheoryUptoCard : Claim7 := { stood := { row := fnExactCertifyTheoryUptoRow, standIns := [], harness := (true, "aba051dc3c085c64e65838185e1df1a380121bbffcfe4a713ce4d6ab3561a278"), looks := false }, kinds := [], alts := [], laidByText := true, laidKinds := [.data, .pinned], laidTests := true, laidLooks := .later }
def FnExactCertifyTheoryUptoCardSaid : Prop := Claim7.holds Tryz.pinned (.plain (OpenSpec.upto fnExactCertifyTheorySpec)) fnExactCertifyTheoryUptoCard
end Rows
end Go.Proofs.YtambmaigffpijaaGreatDoor
