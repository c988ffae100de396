/-
  DERIVED. GIVEN WITH THE SEED: THE CARDS: each row of YtljjgphapbhkaaaGreatDoorRows.lean that lists a variable, with what it lists TIED to the program's text (the seventh form; the later family's looks); each row that meets fmt, with fmt's text TOLD by the authors' own Lean function (tested against real Go, not proved from fmt's source: count such statements apart). THE CARD IS WHAT COUNTS. Prove the row's statement (the work); the ties are given (YtljjgphapbhkaaaGreatDoorTie.lean); close each card by the builder's one call (the guide's Derived/Test/ToyasCard.lean, 'card_holds'). Laid BY PROGRAM, IN A SANDBOX (cutbox-door.mjs). By AI agents, Wed Nov 11 2026. No macro, syntax, notation, axiom, sorry.
-/
import Derived.Test.YtljjgphapbhkaaaGreatDoorRows
import GoSem.ClaimSeven
namespace Go.Proofs.YtljjgphapbhkaaaGreatDoor
namespace Rows

/-- THE TIED CARD OF 'laws.FnOriented'. -/
def fnOrientedCard : Claim7 := { stood := { row := fnOrientedRow, standIns := [], harness := (true, "37f7bc7988cec52a4ef1d5bfb3fe996fd63a7e13cfb668486240431db14a94e4"), looks := false }, kinds := [], alts := [], laidByText := true, laidKinds := [.data, .pinned], laidTests := true, laidLooks := .later }
def FnOrientedCardSaid : Prop := Claim7.holds Tryz.pinned (.plain (OpenSpec.ofChange fnOrientedSpec)) fnOrientedCard

/-- THE TIED CARD OF 'laws.FnExactPeakOf'. -/
def fnExactPeakOfCard : Claim7 := { stood := { row := fnExactPeakOfRow, standIns := [], harness := (true, "37f7bc7988cec52a4ef1d5bfb3fe996fd63a7e13cfb668486240431db14a94e4"), looks := false }, kinds := [], alts := [], laidByText := true, laidKinds := [.data, .pinned], laidTests := true, laidLooks := .later }
def FnExactPeakOfCardSaid : Prop := Claim7.holds Tryz.pinned (.plain (OpenSpec.ofChange fnExactPeakOfSpec)) fnExactPeakOfCard

/-- THE TIED CARD OF 'laws.FnExactPeaksOf'. -/
def fnExactPeaksOfCard : Claim7 := { stood := { row := fnExactPeaksOfRow, standIns := [], harness := (true, "37f7bc7988cec52a4ef1d5bfb3fe996fd63a7e13cfb668486240431db14a94e4"), looks := false }, kinds := [], alts := [], laidByText := true, laidKinds := [.data, .pinned], laidTests := true, laidLooks := .later }
def FnExactPeaksOfCardSaid : Prop := Claim7.holds Tryz.pinned (.plain (OpenSpec.ofChange fnExactPeaksOfSpec)) fnExactPeaksOfCard

/-- THE TIED CARD OF 'laws.FnExactAllPeaks'. -/
def fnExactAllPeaksCard : Claim7 := { stood := { row := fnExactAllPeaksRow, standIns := [], harness := (true, "37f7bc7988cec52a4ef1d5bfb3fe996fd63a7e13cfb668486240431db14a94e4"), looks := false }, kinds := [], alts := [], laidByText := true, laidKinds := [.data, .pinned], laidTests := true, laidLooks := .later }
def FnExactAllPeaksCardSaid : Prop := Claim7.holds Tryz.pinned (.plain (OpenSpec.ofChange fnExactAllPeaksSpec)) fnExactAllPeaksCard

/-- THE TIED CARD OF 'laws.FnExactEqualIn'. -/
def fnExactEqualInCard : Claim7 := { stood := { row := fnExactEqualInRow, standIns := [], harness := (true, "37f7bc7988cec52a4ef1d5bfb3fe996fd63a7e13cfb668486240431db14a94e4"), looks := false }, kinds := [], alts := [], laidByText := true, laidKinds := [.data, .pinned], laidTests := true, laidLooks := .later }
def FnExactEqualInCardSaid : Prop := Claim7.holds Tryz.pinned (.plain (OpenSpec.ofChange fnExactEqualInSpec)) fnExactEqualInCard

/-- THE TIED CARD OF 'laws.FnRedexes'. -/
def fnRedexesCard : Claim7 := { stood := { row := fnRedexesRow, standIns := [], harness := (true, "37f7bc7988cec52a4ef1d5bfb3fe996fd63a7e13cfb668486240431db14a94e4"), looks := false }, kinds := [], alts := [], laidByText := true, laidKinds := [.data, .pinned], laidTests := true, laidLooks := .later }
def FnRedexesCardSaid : Prop := Claim7.holds Tryz.pinned (.plain (OpenSpec.ofChange fnRedexesSpec)) fnRedexesCard

/-- THE TIED CARD OF 'laws.FnNormals'. -/
def fnNormalsCard : Claim7 := { stood := { row := fnNormalsRow, standIns := [], harness := (true, "37f7bc7988cec52a4ef1d5bfb3fe996fd63a7e13cfb668486240431db14a94e4"), looks := false }, kinds := [], alts := [], laidByText := true, laidKinds := [.data, .pinned], laidTests := true, laidLooks := .later }
def FnNormalsCardSaid : Prop := Claim7.holds Tryz.pinned (.plain (OpenSpec.ofChange fnNormalsSpec)) fnNormalsCard

/-- THE TIED CARD OF 'laws.FnExactCheckEntries'. -/
def fnExactCheckEntriesCard : Claim7 := { stood := { row := fnExactCheckEntriesRow, standIns := [], harness := (true, "37f7bc7988cec52a4ef1d5bfb3fe996fd63a7e13cfb668486240431db14a94e4"), looks := false }, kinds := [], alts := [], laidByText := true, laidKinds := [.data, .pinned], laidTests := true, laidLooks := .later }
def FnExactCheckEntriesCardSaid : Prop := Claim7.holds Tryz.pinned (.plain (OpenSpec.ofChange fnExactCheckEntriesSpec)) fnExactCheckEntriesCard

/-- THE TIED CARD OF 'laws.FnExactUnjoinedOf'. -/
def fnExactUnjoinedOfCard : Claim7 := { stood := { row := fnExactUnjoinedOfRow, standIns := [], harness := (true, "37f7bc7988cec52a4ef1d5bfb3fe996fd63a7e13cfb668486240431db14a94e4"), looks := false }, kinds := [], alts := [], laidByText := true, laidKinds := [.data, .pinned], laidTests := true, laidLooks := .later }
def FnExactUnjoinedOfCardSaid : Prop := Claim7.holds Tryz.pinned (.plain (OpenSpec.ofChange fnExactUnjoinedOfSpec)) fnExactUnjoinedOfCard

/-- THE TIED CARD OF 'laws.FnSteps'. -/
def fnStepsCard : Claim7 := { stood := { row := fnStepsRow, standIns := [], harness := (true, "37f7bc7988cec52a4ef1d5bfb3fe996fd63a7e13cfb668486240431db14a94e4"), looks := false }, kinds := [], alts := [], laidByText := true, laidKinds := [.data, .pinned], laidTests := true, laidLooks := .later }
def FnStepsCardSaid : Prop := Claim7.holds Tryz.pinned (.plain (OpenSpec.ofChange fnStepsSpec)) fnStepsCard

/-- THE TIED CARD OF 'laws.FnExactDeriveEntry'. -/
def fnExactDeriveEntryCard : Claim7 := { stood := { row := fnExactDeriveEntryRow, standIns := [], harness := (true, "37f7bc7988cec52a4ef1d5bfb3fe996fd63a7e13cfb668486240431db14a94e4"), looks := false }, kinds := [], alts := [], laidByText := true, laidKinds := [.data, .pinned], laidTests := true, laidLooks := .later }
def FnExactDeriveEntryCardSaid : Prop := Claim7.holds Tryz.pinned (.plain (OpenSpec.ofChange fnExactDeriveEntrySpec)) fnExactDeriveEntryCard

/-- THE TIED CARD OF 'laws.FnExactIsConfluent'. -/
def fnExactIsConfluentCard : Claim7 := { stood := { row := fnExactIsConfluentRow, standIns := [], harness := (true, "37f7bc7988cec52a4ef1d5bfb3fe996fd63a7e13cfb668486240431db14a94e4"), looks := false }, kinds := [], alts := [], laidByText := true, laidKinds := [.data, .pinned], laidTests := true, laidLooks := .later }
def FnExactIsConfluentCardSaid : Prop := Claim7.holds Tryz.pinned (.plain (OpenSpec.ofChange fnExactIsConfluentSpec)) fnExactIsConfluentCard

/-- THE SECOND FORM's CARD OF 'laws.FnOriented'. -/
def fnOrientedUptoCard : Claim7 := { stood := { row := fnOrientedUptoRow, standIns := [], harness := (true, "37f7bc7988cec52a4ef1d5bfb3fe996fd63a7e13cfb668486240431db14a94e4"), looks := false }, kinds := [], alts := [], laidByText := true, laidKinds := [.data, .pinned], laidTests := true, laidLooks := .later }
def FnOrientedUptoCardSaid : Prop := Claim7.holds Tryz.pinned (.plain (OpenSpec.upto fnOrientedSpec)) fnOrientedUptoCard

/-- THE SECOND FORM's CARD OF 'laws.FnExactPeakOf'. -/
def fnExactPeakOfUptoCard : Claim7 := { stood := { row := fnExactPeakOfUptoRow, standIns := [], harness := (true, "37f7bc7988cec52a4ef1d5bfb3fe996fd63a7e13cfb668486240431db14a94e4"), looks := false }, kinds := [], alts := [], laidByText := true, laidKinds := [.data, .pinned], laidTests := true, laidLooks := .later }
def FnExactPeakOfUptoCardSaid : Prop := Claim7.holds Tryz.pinned (.plain (OpenSpec.upto fnExactPeakOfSpec)) fnExactPeakOfUptoCard

/-- THE SECOND FORM's CARD OF 'laws.FnExactPeaksOf'. -/
def fnExactPeaksOfUptoCard : Claim7 := { stood := { row := fnExactPeaksOfUptoRow, standIns := [], harness := (true, "37f7bc7988cec52a4ef1d5bfb3fe996fd63a7e13cfb668486240431db14a94e4"), looks := false }, kinds := [], alts := [], laidByText := true, laidKinds := [.data, .pinned], laidTests := true, laidLooks := .later }
def FnExactPeaksOfUptoCardSaid : Prop := Claim7.holds Tryz.pinned (.plain (OpenSpec.upto fnExactPeaksOfSpec)) fnExactPeaksOfUptoCard

/-- THE SECOND FORM's CARD OF 'laws.FnExactAllPeaks'. -/
def fnExactAllPeaksUptoCard : Claim7 := { stood := { row := fnExactAllPeaksUptoRow, standIns := [], harness := (true, "37f7bc7988cec52a4ef1d5bfb3fe996fd63a7e13cfb668486240431db14a94e4"), looks := false }, kinds := [], alts := [], laidByText := true, laidKinds := [.data, .pinned], laidTests := true, laidLooks := .later }
def FnExactAllPeaksUptoCardSaid : Prop := Claim7.holds Tryz.pinned (.plain (OpenSpec.upto fnExactAllPeaksSpec)) fnExactAllPeaksUptoCard

/-- THE SECOND FORM's CARD OF 'laws.FnExactEqualIn'. -/
def fnExactEqualInUptoCard : Claim7 := { stood := { row := fnExactEqualInUptoRow, standIns := [], harness := (true, "37f7bc7988cec52a4ef1d5bfb3fe996fd63a7e13cfb668486240431db14a94e4"), looks := false }, kinds := [], alts := [], laidByText := true, laidKinds := [.data, .pinned], laidTests := true, laidLooks := .later }
def FnExactEqualInUptoCardSaid : Prop := Claim7.holds Tryz.pinned (.plain (OpenSpec.upto fnExactEqualInSpec)) fnExactEqualInUptoCard

/-- THE SECOND FORM's CARD OF 'laws.FnRedexes'. -/
def fnRedexesUptoCard : Claim7 := { stood := { row := fnRedexesUptoRow, standIns := [], harness := (true, "37f7bc7988cec52a4ef1d5bfb3fe996fd63a7e13cfb668486240431db14a94e4"), looks := false }, kinds := [], alts := [], laidByText := true, laidKinds := [.data, .pinned], laidTests := true, laidLooks := .later }
def FnRedexesUptoCardSaid : Prop := Claim7.holds Tryz.pinned (.plain (OpenSpec.upto fnRedexesSpec)) fnRedexesUptoCard

/-- THE SECOND FORM's CARD OF 'laws.FnNormals'. -/
def fnNormalsUptoCard : Claim7 := { stood := { row := fnNormalsUptoRow, standIns := [], harness := (true, "37f7bc7988cec52a4ef1d5bfb3fe996fd63a7e13cfb668486240431db14a94e4"), looks := false }, kinds := [], alts := [], laidByText := true, laidKinds := [.data, .pinned], laidTests := true, laidLooks := .later }
def FnNormalsUptoCardSaid : Prop := Claim7.holds Tryz.pinned (.plain (OpenSpec.upto fnNormalsSpec)) fnNormalsUptoCard

/-- THE SECOND FORM's CARD OF 'laws.FnExactCheckEntries'. -/
def fnExactCheckEntriesUptoCard : Claim7 := { stood := { row := fnExactCheckEntriesUptoRow, standIns := [], harness := (true, "37f7bc7988cec52a4ef1d5bfb3fe996fd63a7e13cfb668486240431db14a94e4"), looks := false }, kinds := [], alts := [], laidByText := true, laidKinds := [.data, .pinned], laidTests := true, laidLooks := .later }
def FnExactCheckEntriesUptoCardSaid : Prop := Claim7.holds Tryz.pinned (.plain (OpenSpec.upto fnExactCheckEntriesSpec)) fnExactCheckEntriesUptoCard

/-- THE SECOND FORM's CARD OF 'laws.FnExactUnjoinedOf'. -/
def fnExactUnjoinedOfUptoCard : Claim7 := { stood := { row := fnExactUnjoinedOfUptoRow, standIns := [], harness := (true, "37f7bc7988cec52a4ef1d5bfb3fe996fd63a7e13cfb668486240431db14a94e4"), looks := false }, kinds := [], alts := [], laidByText := true, laidKinds := [.data, .pinned], laidTests := true, laidLooks := .later }
def FnExactUnjoinedOfUptoCardSaid : Prop := Claim7.holds Tryz.pinned (.plain (OpenSpec.upto fnExactUnjoinedOfSpec)) fnExactUnjoinedOfUptoCard

/-- THE SECOND FORM's CARD OF 'laws.FnSteps'. -/
def fnStepsUptoCard : Claim7 := { stood := { row := fnStepsUptoRow, standIns := [], harness := (true, "37f7bc7988cec52a4ef1d5bfb3fe996fd63a7e13cfb668486240431db14a94e4"), looks := false }, kinds := [], alts := [], laidByText := true, laidKinds := [.data, .pinned], laidTests := true, laidLooks := .later }
def FnStepsUptoCardSaid : Prop := Claim7.holds Tryz.pinned (.plain (OpenSpec.upto fnStepsSpec)) fnStepsUptoCard

/-- THE SECOND FORM's CARD OF 'laws.FnExactDeriveEntry'. -/
def fnExactDeriveEntryUptoCard : Claim7 := { stood := { row := fnExactDeriveEntryUptoRow, standIns := [], harness := (true, "37f7bc7988cec52a4ef1d5bfb3fe996fd63a7e13cfb668486240431db14a94e4"), looks := false }, kinds := [], alts := [], laidByText := true, laidKinds := [.data, .pinned], laidTests := true, laidLooks := .later }
def FnExactDeriveEntryUptoCardSaid : Prop := Claim7.holds Tryz.pinned (.plain (OpenSpec.upto fnExactDeriveEntrySpec)) fnExactDeriveEntryUptoCard

/-- THE SECOND FORM's CARD OF 'laws.FnExactIsConfluent'. -/
def fnExactIsConfluentUptoCard : Claim7 := { stood := { row := fnExactIsConfluentUptoRow, standIns := [], harness := (true, "37f7bc7988cec52a4ef1d5bfb3fe996fd63a7e13cfb668486240431db14a94e4"), looks := false }, kinds := [], alts := [], laidByText := true, laidKinds := [.data, .pinned], laidTests := true, laidLooks := .later }
def FnExactIsConfluentUptoCardSaid : Prop := Claim7.holds Tryz.pinned (.plain (OpenSpec.upto fnExactIsConfluentSpec)) fnExactIsConfluentUptoCard
end Rows
end Go.Proofs.YtljjgphapbhkaaaGreatDoor
