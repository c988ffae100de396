/-
  DERIVED. GIVEN WITH THE SEED: THE CARDS: each row of YtmiggelfhbllkaaDoorRows.lean that lists a variable, with what it lists TIED to the program's text (the seventh form; the later family's looks); each row that meets fmt, with fmt's text TOLD by the authors' own Lean function (tested against real Go, not proved from fmt's source: count such statements apart). THE CARD IS WHAT COUNTS. Prove the row's statement (the work); the ties are given (YtmiggelfhbllkaaDoorTie.lean); close each card by the builder's one call (the guide's Derived/Test/ToyasCard.lean, 'card_holds'). Laid BY PROGRAM, IN A SANDBOX (cutbox-door.mjs). By AI agents, Wed Nov 11 2026. No macro, syntax, notation, axiom, sorry.
-/
import Derived.Test.YtmiggelfhbllkaaDoorRows
import GoSem.ClaimSeven
namespace Go.Proofs.YtmiggelfhbllkaaDoor
namespace Rows

/-- THE TIED CARD OF 'laws.FnExactAlgebraFault'. -/
def fnExactAlgebraFaultCard : Claim7 := { stood := { row := fnExactAlgebraFaultRow, standIns := [], harness := (true, "dd208690e53dcce4860e6d3e2ef594be6f939a631361b3e31717d8800247e68c"), looks := false }, kinds := [], alts := [], laidByText := true, laidKinds := [.data, .pinned], laidTests := true, laidLooks := .later }
def FnExactAlgebraFaultCardSaid : Prop := Claim7.holds Tryd.pinned (.plain (OpenSpec.ofChange fnExactAlgebraFaultSpec)) fnExactAlgebraFaultCard

/-- THE SECOND FORM's CARD OF 'laws.FnExactAlgebraFault'. -/
def fnExactAlgebraFaultUptoCard : Claim7 := { stood := { row := fnExactAlgebraFaultUptoRow, standIns := [], harness := (true, "dd208690e53dcce4860e6d3e2ef594be6f939a631361b3e31717d8800247e68c"), looks := false }, kinds := [], alts := [], laidByText := true, laidKinds := [.data, .pinned], laidTests := true, laidLooks := .later }
def FnExactAlgebraFaultUptoCardSaid : Prop := Claim7.holds Tryd.pinned (.plain (OpenSpec.upto fnExactAlgebraFaultSpec)) fnExactAlgebraFaultUptoCard
end Rows
end Go.Proofs.YtmiggelfhbllkaaDoor
