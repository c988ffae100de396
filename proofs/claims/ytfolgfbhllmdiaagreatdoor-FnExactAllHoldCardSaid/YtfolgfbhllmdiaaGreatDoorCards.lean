/-
  DERIVED. GIVEN WITH THE SEED: THE CARDS: each row of YtfolgfbhllmdiaaGreatDoorRows.lean that lists a variable, with what it lists TIED to the program's text (the seventh form; the later family's looks); each row that meets fmt, with fmt's text TOLD by the authors' own Lean function (tested against real Go, not proved from fmt's source: count such statements apart). THE CARD IS WHAT COUNTS. Prove the row's statement (the work); the ties are given (YtfolgfbhllmdiaaGreatDoorTie.lean); close each card by the builder's one call (the guide's Derived/Test/ToyasCard.lean, 'card_holds'). Laid BY PROGRAM, IN A SANDBOX (cutbox-door.mjs). By AI agents, Wed Nov 11 2026. No macro, syntax, notation, axiom, sorry.
-/
import Derived.Test.YtfolgfbhllmdiaaGreatDoorRows
import GoSem.ClaimSeven
namespace Go.Proofs.YtfolgfbhllmdiaaGreatDoor
namespace Rows

/-- THE TIED CARD OF 'laws.FnRulesOf'. -/
def fnRulesOfCard : Claim7 := { stood := { row := fnRulesOfRow, standIns := [], harness := (true, "408509c40c4027c40e80d2a9a401309753a037ea6c69decc21fce1c139927640"), looks := false }, kinds := [], alts := [], laidByText := true, laidKinds := [.data, .pinned], laidTests := true, laidLooks := .later }
def FnRulesOfCardSaid : Prop := Claim7.holds Tryz.pinned (.plain (OpenSpec.ofChange fnRulesOfSpec)) fnRulesOfCard

/-- THE TIED CARD OF 'laws.FnParts'. -/
def fnPartsCard : Claim7 := { stood := { row := fnPartsRow, standIns := [], harness := (true, "408509c40c4027c40e80d2a9a401309753a037ea6c69decc21fce1c139927640"), looks := false }, kinds := [], alts := [], laidByText := true, laidKinds := [.data, .pinned], laidTests := true, laidLooks := .later }
def FnPartsCardSaid : Prop := Claim7.holds Tryz.pinned (.plain (OpenSpec.ofChange fnPartsSpec)) fnPartsCard

/-- THE TIED CARD OF 'laws.FnExactRulesFault'. -/
def fnExactRulesFaultCard : Claim7 := { stood := { row := fnExactRulesFaultRow, standIns := [], harness := (true, "408509c40c4027c40e80d2a9a401309753a037ea6c69decc21fce1c139927640"), looks := false }, kinds := [], alts := [], laidByText := true, laidKinds := [.data, .pinned], laidTests := true, laidLooks := .later }
def FnExactRulesFaultCardSaid : Prop := Claim7.holds Tryz.pinned (.plain (OpenSpec.ofChange fnExactRulesFaultSpec)) fnExactRulesFaultCard

/-- THE TIED CARD OF 'laws.FnExactSortTerms'. -/
def fnExactSortTermsCard : Claim7 := { stood := { row := fnExactSortTermsRow, standIns := [], harness := (true, "408509c40c4027c40e80d2a9a401309753a037ea6c69decc21fce1c139927640"), looks := false }, kinds := [], alts := [], laidByText := true, laidKinds := [.data, .pinned], laidTests := true, laidLooks := .later }
def FnExactSortTermsCardSaid : Prop := Claim7.holds Tryz.pinned (.plain (OpenSpec.ofChange fnExactSortTermsSpec)) fnExactSortTermsCard

/-- THE TIED CARD OF 'laws.FnSorts'. -/
def fnSortsCard : Claim7 := { stood := { row := fnSortsRow, standIns := [], harness := (true, "408509c40c4027c40e80d2a9a401309753a037ea6c69decc21fce1c139927640"), looks := false }, kinds := [], alts := [], laidByText := true, laidKinds := [.data, .pinned], laidTests := true, laidLooks := .later }
def FnSortsCardSaid : Prop := Claim7.holds Tryz.pinned (.plain (OpenSpec.ofChange fnSortsSpec)) fnSortsCard

/-- THE TIED CARD OF 'laws.FnExactHolds'. -/
def fnExactHoldsCard : Claim7 := { stood := { row := fnExactHoldsRow, standIns := [], harness := (true, "408509c40c4027c40e80d2a9a401309753a037ea6c69decc21fce1c139927640"), looks := false }, kinds := [], alts := [], laidByText := true, laidKinds := [.data, .pinned], laidTests := true, laidLooks := .later }
def FnExactHoldsCardSaid : Prop := Claim7.holds Tryz.pinned (.plain (OpenSpec.ofChange fnExactHoldsSpec)) fnExactHoldsCard

/-- THE TIED CARD OF 'laws.FnWalks'. -/
def fnWalksCard : Claim7 := { stood := { row := fnWalksRow, standIns := [], harness := (true, "408509c40c4027c40e80d2a9a401309753a037ea6c69decc21fce1c139927640"), looks := false }, kinds := [], alts := [], laidByText := true, laidKinds := [.data, .pinned], laidTests := true, laidLooks := .later }
def FnWalksCardSaid : Prop := Claim7.holds Tryz.pinned (.plain (OpenSpec.ofChange fnWalksSpec)) fnWalksCard

/-- THE TIED CARD OF 'laws.FnStable'. -/
def fnStableCard : Claim7 := { stood := { row := fnStableRow, standIns := [], harness := (true, "408509c40c4027c40e80d2a9a401309753a037ea6c69decc21fce1c139927640"), looks := false }, kinds := [], alts := [], laidByText := true, laidKinds := [.data, .pinned], laidTests := true, laidLooks := .later }
def FnStableCardSaid : Prop := Claim7.holds Tryz.pinned (.plain (OpenSpec.ofChange fnStableSpec)) fnStableCard

/-- THE TIED CARD OF 'laws.FnExactAllHold'. -/
def fnExactAllHoldCard : Claim7 := { stood := { row := fnExactAllHoldRow, standIns := [], harness := (true, "408509c40c4027c40e80d2a9a401309753a037ea6c69decc21fce1c139927640"), looks := false }, kinds := [], alts := [], laidByText := true, laidKinds := [.data, .pinned], laidTests := true, laidLooks := .later }
def FnExactAllHoldCardSaid : Prop := Claim7.holds Tryz.pinned (.plain (OpenSpec.ofChange fnExactAllHoldSpec)) fnExactAllHoldCard

/-- THE SECOND FORM's CARD OF 'laws.FnRulesOf'. -/
def fnRulesOfUptoCard : Claim7 := { stood := { row := fnRulesOfUptoRow, standIns := [], harness := (true, "408509c40c4027c40e80d2a9a401309753a037ea6c69decc21fce1c139927640"), looks := false }, kinds := [], alts := [], laidByText := true, laidKinds := [.data, .pinned], laidTests := true, laidLooks := .later }
def FnRulesOfUptoCardSaid : Prop := Claim7.holds Tryz.pinned (.plain (OpenSpec.upto fnRulesOfSpec)) fnRulesOfUptoCard

/-- THE SECOND FORM's CARD OF 'laws.FnParts'. -/
def fnPartsUptoCard : Claim7 := { stood := { row := fnPartsUptoRow, standIns := [], harness := (true, "408509c40c4027c40e80d2a9a401309753a037ea6c69decc21fce1c139927640"), looks := false }, kinds := [], alts := [], laidByText := true, laidKinds := [.data, .pinned], laidTests := true, laidLooks := .later }
def FnPartsUptoCardSaid : Prop := Claim7.holds Tryz.pinned (.plain (OpenSpec.upto fnPartsSpec)) fnPartsUptoCard

/-- THE SECOND FORM's CARD OF 'laws.FnExactRulesFault'. -/
def fnExactRulesFaultUptoCard : Claim7 := { stood := { row := fnExactRulesFaultUptoRow, standIns := [], harness := (true, "408509c40c4027c40e80d2a9a401309753a037ea6c69decc21fce1c139927640"), looks := false }, kinds := [], alts := [], laidByText := true, laidKinds := [.data, .pinned], laidTests := true, laidLooks := .later }
def FnExactRulesFaultUptoCardSaid : Prop := Claim7.holds Tryz.pinned (.plain (OpenSpec.upto fnExactRulesFaultSpec)) fnExactRulesFaultUptoCard

/-- THE SECOND FORM's CARD OF 'laws.FnExactSortTerms'. -/
def fnExactSortTermsUptoCard : Claim7 := { stood := { row := fnExactSortTermsUptoRow, standIns := [], harness := (true, "408509c40c4027c40e80d2a9a401309753a037ea6c69decc21fce1c139927640"), looks := false }, kinds := [], alts := [], laidByText := true, laidKinds := [.data, .pinned], laidTests := true, laidLooks := .later }
def FnExactSortTermsUptoCardSaid : Prop := Claim7.holds Tryz.pinned (.plain (OpenSpec.upto fnExactSortTermsSpec)) fnExactSortTermsUptoCard

/-- THE SECOND FORM's CARD OF 'laws.FnSorts'. -/
def fnSortsUptoCard : Claim7 := { stood := { row := fnSortsUptoRow, standIns := [], harness := (true, "408509c40c4027c40e80d2a9a401309753a037ea6c69decc21fce1c139927640"), looks := false }, kinds := [], alts := [], laidByText := true, laidKinds := [.data, .pinned], laidTests := true, laidLooks := .later }
def FnSortsUptoCardSaid : Prop := Claim7.holds Tryz.pinned (.plain (OpenSpec.upto fnSortsSpec)) fnSortsUptoCard

/-- THE SECOND FORM's CARD OF 'laws.FnExactHolds'. -/
def fnExactHoldsUptoCard : Claim7 := { stood := { row := fnExactHoldsUptoRow, standIns := [], harness := (true, "408509c40c4027c40e80d2a9a401309753a037ea6c69decc21fce1c139927640"), looks := false }, kinds := [], alts := [], laidByText := true, laidKinds := [.data, .pinned], laidTests := true, laidLooks := .later }
def FnExactHoldsUptoCardSaid : Prop := Claim7.holds Tryz.pinned (.plain (OpenSpec.upto fnExactHoldsSpec)) fnExactHoldsUptoCard

/-- THE SECOND FORM's CARD OF 'laws.FnWalks'. -/
def fnWalksUptoCard : Claim7 := { stood := { row := fnWalksUptoRow, standIns := [], harness := (true, "408509c40c4027c40e80d2a9a401309753a037ea6c69decc21fce1c139927640"), looks := false }, kinds := [], alts := [], laidByText := true, laidKinds := [.data, .pinned], laidTests := true, laidLooks := .later }
def FnWalksUptoCardSaid : Prop := Claim7.holds Tryz.pinned (.plain (OpenSpec.upto fnWalksSpec)) fnWalksUptoCard

/-- THE SECOND FORM's CARD OF 'laws.FnStable'. -/
def fnStableUptoCard : Claim7 := { stood := { row := fnStableUptoRow, standIns := [], harness := (true, "408509c40c4027c40e80d2a9a401309753a037ea6c69decc21fce1c139927640"), looks := false }, kinds := [], alts := [], laidByText := true, laidKinds := [.data, .pinned], laidTests := true, laidLooks := .later }
def FnStableUptoCardSaid : Prop := Claim7.holds Tryz.pinned (.plain (OpenSpec.upto fnStableSpec)) fnStableUptoCard

/-- THE SECOND FORM's CARD OF 'laws.FnExactAllHold'. -/
def fnExactAllHoldUptoCard : Claim7 := { stood := { row := fnExactAllHoldUptoRow, standIns := [], harness := (true, "408509c40c4027c40e80d2a9a401309753a037ea6c69decc21fce1c139927640"), looks := false }, kinds := [], alts := [], laidByText := true, laidKinds := [.data, .pinned], laidTests := true, laidLooks := .later }
def FnExactAllHoldUptoCardSaid : Prop := Claim7.holds Tryz.pinned (.plain (OpenSpec.upto fnExactAllHoldSpec)) fnExactAllHoldUptoCard
end Rows
end Go.Proofs.YtfolgfbhllmdiaaGreatDoor
