/-
  DERIVED. GIVEN WITH THE SEED: THE CARDS: each row of YtcggahcabnaelaaGreatDoorRows.lean that lists a variable, with what it lists TIED to the program's text (the seventh form; the later family's looks); each row that meets fmt, with fmt's text TOLD by the authors' own Lean function (tested against real Go, not proved from fmt's source: count such statements apart). THE CARD IS WHAT COUNTS. Prove the row's statement (the work); the ties are given (YtcggahcabnaelaaGreatDoorTie.lean); close each card by the builder's one call (the guide's Derived/Test/ToyasCard.lean, 'card_holds'). Laid BY PROGRAM, IN A SANDBOX (cutbox-door.mjs). By AI agents, Wed Nov 11 2026. No macro, syntax, notation, axiom, sorry.
-/
import Derived.Test.YtcggahcabnaelaaGreatDoorRows
import GoSem.ClaimSeven
namespace Go.Proofs.YtcggahcabnaelaaGreatDoor
namespace Rows

/-- THE TIED CARD OF 'laws.FnBack'. -/
def fnBackCard : Claim7 := { stood := { row := fnBackRow, standIns := [], harness := (true, "61194fa912da1b6924faff709809030a3556fa22a337e8e7bc18ec56cbf26eed"), looks := false }, kinds := [], alts := [], laidByText := true, laidKinds := [.data, .pinned], laidTests := true, laidLooks := .later }
def FnBackCardSaid : Prop := Claim7.holds Tryz.pinned (.plain (OpenSpec.ofChange fnBackSpec)) fnBackCard

/-- THE TIED CARD OF 'laws.FnAlgebras'. -/
def fnAlgebrasCard : Claim7 := { stood := { row := fnAlgebrasRow, standIns := [], harness := (true, "61194fa912da1b6924faff709809030a3556fa22a337e8e7bc18ec56cbf26eed"), looks := false }, kinds := [], alts := [], laidByText := true, laidKinds := [.data, .pinned], laidTests := true, laidLooks := .later }
def FnAlgebrasCardSaid : Prop := Claim7.holds Tryz.pinned (.plain (OpenSpec.ofChange fnAlgebrasSpec)) fnAlgebrasCard

/-- THE TIED CARD OF 'laws.FnRedexes'. -/
def fnRedexesCard : Claim7 := { stood := { row := fnRedexesRow, standIns := [], harness := (true, "61194fa912da1b6924faff709809030a3556fa22a337e8e7bc18ec56cbf26eed"), looks := false }, kinds := [], alts := [], laidByText := true, laidKinds := [.data, .pinned], laidTests := true, laidLooks := .later }
def FnRedexesCardSaid : Prop := Claim7.holds Tryz.pinned (.plain (OpenSpec.ofChange fnRedexesSpec)) fnRedexesCard

/-- THE TIED CARD OF 'laws.FnNormals'. -/
def fnNormalsCard : Claim7 := { stood := { row := fnNormalsRow, standIns := [], harness := (true, "61194fa912da1b6924faff709809030a3556fa22a337e8e7bc18ec56cbf26eed"), looks := false }, kinds := [], alts := [], laidByText := true, laidKinds := [.data, .pinned], laidTests := true, laidLooks := .later }
def FnNormalsCardSaid : Prop := Claim7.holds Tryz.pinned (.plain (OpenSpec.ofChange fnNormalsSpec)) fnNormalsCard

/-- THE SECOND FORM's CARD OF 'laws.FnBack'. -/
def fnBackUptoCard : Claim7 := { stood := { row := fnBackUptoRow, standIns := [], harness := (true, "61194fa912da1b6924faff709809030a3556fa22a337e8e7bc18ec56cbf26eed"), looks := false }, kinds := [], alts := [], laidByText := true, laidKinds := [.data, .pinned], laidTests := true, laidLooks := .later }
def FnBackUptoCardSaid : Prop := Claim7.holds Tryz.pinned (.plain (OpenSpec.upto fnBackSpec)) fnBackUptoCard

/-- THE SECOND FORM's CARD OF 'laws.FnAlgebras'. -/
def fnAlgebrasUptoCard : Claim7 := { stood := { row := fnAlgebrasUptoRow, standIns := [], harness := (true, "61194fa912da1b6924faff709809030a3556fa22a337e8e7bc18ec56cbf26eed"), looks := false }, kinds := [], alts := [], laidByText := true, laidKinds := [.data, .pinned], laidTests := true, laidLooks := .later }
def FnAlgebrasUptoCardSaid : Prop := Claim7.holds Tryz.pinned (.plain (OpenSpec.upto fnAlgebrasSpec)) fnAlgebrasUptoCard

/-- THE SECOND FORM's CARD OF 'laws.FnRedexes'. -/
def fnRedexesUptoCard : Claim7 := { stood := { row := fnRedexesUptoRow, standIns := [], harness := (true, "61194fa912da1b6924faff709809030a3556fa22a337e8e7bc18ec56cbf26eed"), looks := false }, kinds := [], alts := [], laidByText := true, laidKinds := [.data, .pinned], laidTests := true, laidLooks := .later }
def FnRedexesUptoCardSaid : Prop := Claim7.holds Tryz.pinned (.plain (OpenSpec.upto fnRedexesSpec)) fnRedexesUptoCard

/-- THE SECOND FORM's CARD OF 'laws.FnNormals'. -/
def fnNormalsUptoCard : Claim7 := { stood := { row := fnNormalsUptoRow, standIns := [], harness := (true, "61194fa912da1b6924faff709809030a3556fa22a337e8e7bc18ec56cbf26eed"), looks := false }, kinds := [], alts := [], laidByText := true, laidKinds := [.data, .pinned], laidTests := true, laidLooks := .later }
def FnNormalsUptoCardSaid : Prop := Claim7.holds Tryz.pinned (.plain (OpenSpec.upto fnNormalsSpec)) fnNormalsUptoCard
end Rows
end Go.Proofs.YtcggahcabnaelaaGreatDoor
