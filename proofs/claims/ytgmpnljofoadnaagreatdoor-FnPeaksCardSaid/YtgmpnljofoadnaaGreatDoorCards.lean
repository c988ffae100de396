/-
  DERIVED. GIVEN WITH THE SEED: THE CARDS: each row of YtgmpnljofoadnaaGreatDoorRows.lean that lists a variable, with what it lists TIED to the program's text (the seventh form; the later family's looks); each row that meets fmt, with fmt's text TOLD by the authors' own Lean function (tested against real Go, not proved from fmt's source: count such statements apart). THE CARD IS WHAT COUNTS. Prove the row's statement (the work); the ties are given (YtgmpnljofoadnaaGreatDoorTie.lean); close each card by the builder's one call (the guide's Derived/Test/ToyasCard.lean, 'card_holds'). Laid BY PROGRAM, IN A SANDBOX (cutbox-door.mjs). By AI agents, Wed Nov 11 2026. No macro, syntax, notation, axiom, sorry.
-/
import Derived.Test.YtgmpnljofoadnaaGreatDoorRows
import GoSem.ClaimSeven
namespace Go.Proofs.YtgmpnljofoadnaaGreatDoor
namespace Rows

/-- THE TIED CARD OF 'laws.FnSteps'. -/
def fnStepsCard : Claim7 := { stood := { row := fnStepsRow, standIns := [], harness := (true, "16118ac363ceab8c54c24db8a651d6e3c46fbdb4bc0cc2bd362cdb1347595687"), looks := false }, kinds := [], alts := [], laidByText := true, laidKinds := [.data, .pinned], laidTests := true, laidLooks := .later }
def FnStepsCardSaid : Prop := Claim7.holds Tryz.pinned (.plain (OpenSpec.ofChange fnStepsSpec)) fnStepsCard

/-- THE TIED CARD OF 'laws.FnDerives'. -/
def fnDerivesCard : Claim7 := { stood := { row := fnDerivesRow, standIns := [], harness := (true, "16118ac363ceab8c54c24db8a651d6e3c46fbdb4bc0cc2bd362cdb1347595687"), looks := false }, kinds := [], alts := [], laidByText := true, laidKinds := [.data, .pinned], laidTests := true, laidLooks := .later }
def FnDerivesCardSaid : Prop := Claim7.holds Tryz.pinned (.plain (OpenSpec.ofChange fnDerivesSpec)) fnDerivesCard

/-- THE TIED CARD OF 'laws.FnHolds'. -/
def fnHoldsCard : Claim7 := { stood := { row := fnHoldsRow, standIns := [], harness := (true, "16118ac363ceab8c54c24db8a651d6e3c46fbdb4bc0cc2bd362cdb1347595687"), looks := false }, kinds := [], alts := [], laidByText := true, laidKinds := [.data, .pinned], laidTests := true, laidLooks := .later }
def FnHoldsCardSaid : Prop := Claim7.holds Tryz.pinned (.plain (OpenSpec.ofChange fnHoldsSpec)) fnHoldsCard

/-- THE TIED CARD OF 'laws.FnPeaks'. -/
def fnPeaksCard : Claim7 := { stood := { row := fnPeaksRow, standIns := [], harness := (true, "16118ac363ceab8c54c24db8a651d6e3c46fbdb4bc0cc2bd362cdb1347595687"), looks := false }, kinds := [], alts := [], laidByText := true, laidKinds := [.data, .pinned], laidTests := true, laidLooks := .later }
def FnPeaksCardSaid : Prop := Claim7.holds Tryz.pinned (.plain (OpenSpec.ofChange fnPeaksSpec)) fnPeaksCard

/-- THE SECOND FORM's CARD OF 'laws.FnSteps'. -/
def fnStepsUptoCard : Claim7 := { stood := { row := fnStepsUptoRow, standIns := [], harness := (true, "16118ac363ceab8c54c24db8a651d6e3c46fbdb4bc0cc2bd362cdb1347595687"), looks := false }, kinds := [], alts := [], laidByText := true, laidKinds := [.data, .pinned], laidTests := true, laidLooks := .later }
def FnStepsUptoCardSaid : Prop := Claim7.holds Tryz.pinned (.plain (OpenSpec.upto fnStepsSpec)) fnStepsUptoCard

/-- THE SECOND FORM's CARD OF 'laws.FnDerives'. -/
def fnDerivesUptoCard : Claim7 := { stood := { row := fnDerivesUptoRow, standIns := [], harness := (true, "16118ac363ceab8c54c24db8a651d6e3c46fbdb4bc0cc2bd362cdb1347595687"), looks := false }, kinds := [], alts := [], laidByText := true, laidKinds := [.data, .pinned], laidTests := true, laidLooks := .later }
def FnDerivesUptoCardSaid : Prop := Claim7.holds Tryz.pinned (.plain (OpenSpec.upto fnDerivesSpec)) fnDerivesUptoCard

/-- THE SECOND FORM's CARD OF 'laws.FnHolds'. -/
def fnHoldsUptoCard : Claim7 := { stood := { row := fnHoldsUptoRow, standIns := [], harness := (true, "16118ac363ceab8c54c24db8a651d6e3c46fbdb4bc0cc2bd362cdb1347595687"), looks := false }, kinds := [], alts := [], laidByText := true, laidKinds := [.data, .pinned], laidTests := true, laidLooks := .later }
def FnHoldsUptoCardSaid : Prop := Claim7.holds Tryz.pinned (.plain (OpenSpec.upto fnHoldsSpec)) fnHoldsUptoCard

/-- THE SECOND FORM's CARD OF 'laws.FnPeaks'. -/
def fnPeaksUptoCard : Claim7 := { stood := { row := fnPeaksUptoRow, standIns := [], harness := (true, "16118ac363ceab8c54c24db8a651d6e3c46fbdb4bc0cc2bd362cdb1347595687"), looks := false }, kinds := [], alts := [], laidByText := true, laidKinds := [.data, .pinned], laidTests := true, laidLooks := .later }
def FnPeaksUptoCardSaid : Prop := Claim7.holds Tryz.pinned (.plain (OpenSpec.upto fnPeaksSpec)) fnPeaksUptoCard
end Rows
end Go.Proofs.YtgmpnljofoadnaaGreatDoor
