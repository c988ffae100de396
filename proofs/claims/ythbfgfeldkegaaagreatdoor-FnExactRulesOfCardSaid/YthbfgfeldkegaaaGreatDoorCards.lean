/-
  DERIVED. GIVEN WITH THE SEED: THE CARDS: each row of YthbfgfeldkegaaaGreatDoorRows.lean that lists a variable, with what it lists TIED to the program's text (the seventh form; the later family's looks); each row that meets fmt, with fmt's text TOLD by the authors' own Lean function (tested against real Go, not proved from fmt's source: count such statements apart). THE CARD IS WHAT COUNTS. Prove the row's statement (the work); the ties are given (YthbfgfeldkegaaaGreatDoorTie.lean); close each card by the builder's one call (the guide's Derived/Test/ToyasCard.lean, 'card_holds'). Laid BY PROGRAM, IN A SANDBOX (cutbox-door.mjs). By AI agents, Wed Nov 11 2026. No macro, syntax, notation, axiom, sorry.
-/
import Derived.Test.YthbfgfeldkegaaaGreatDoorRows
import GoSem.ClaimSeven
namespace Go.Proofs.YthbfgfeldkegaaaGreatDoor
namespace Rows

/-- THE TIED CARD OF 'laws.FnExactRulesOf'. -/
def fnExactRulesOfCard : Claim7 := { stood := { row := fnExactRulesOfRow, standIns := [], harness := (true, "c6c6179137c6d6e59f39234275aeb4022484372ab7782361b1fe9757542098ae"), looks := false }, kinds := [], alts := [], laidByText := true, laidKinds := [.data, .pinned], laidTests := true, laidLooks := .later }
def FnExactRulesOfCardSaid : Prop := Claim7.holds Tryz.pinned (.plain (OpenSpec.ofChange fnExactRulesOfSpec)) fnExactRulesOfCard

/-- THE TIED CARD OF 'laws.FnExactSortTerms'. -/
def fnExactSortTermsCard : Claim7 := { stood := { row := fnExactSortTermsRow, standIns := [], harness := (true, "c6c6179137c6d6e59f39234275aeb4022484372ab7782361b1fe9757542098ae"), looks := false }, kinds := [], alts := [], laidByText := true, laidKinds := [.data, .pinned], laidTests := true, laidLooks := .later }
def FnExactSortTermsCardSaid : Prop := Claim7.holds Tryz.pinned (.plain (OpenSpec.ofChange fnExactSortTermsSpec)) fnExactSortTermsCard

/-- THE SECOND FORM's CARD OF 'laws.FnExactRulesOf'. -/
def fnExactRulesOfUptoCard : Claim7 := { stood := { row := fnExactRulesOfUptoRow, standIns := [], harness := (true, "c6c6179137c6d6e59f39234275aeb4022484372ab7782361b1fe9757542098ae"), looks := false }, kinds := [], alts := [], laidByText := true, laidKinds := [.data, .pinned], laidTests := true, laidLooks := .later }
def FnExactRulesOfUptoCardSaid : Prop := Claim7.holds Tryz.pinned (.plain (OpenSpec.upto fnExactRulesOfSpec)) fnExactRulesOfUptoCard

/-- THE SECOND FORM's CARD OF 'laws.FnExactSortTerms'. -/
def fnExactSortTermsUptoCard : Claim7 := { stood := { row := fnExactSortTermsUptoRow, standIns := [], harness := (true, "c6c6179137c6d6e59f39234275aeb4022484372ab7782361b1fe9757542098ae"), looks := false }, kinds := [], alts := [], laidByText := true, laidKinds := [.data, .pinned], laidTests := true, laidLooks := .later }
def FnExactSortTermsUptoCardSaid : Prop := Claim7.holds Tryz.pinned (.plain (OpenSpec.upto fnExactSortTermsSpec)) fnExactSortTermsUptoCard
end Rows
end Go.Proofs.YthbfgfeldkegaaaGreatDoor
