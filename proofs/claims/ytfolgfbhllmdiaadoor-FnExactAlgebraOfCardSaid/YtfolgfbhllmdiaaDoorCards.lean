/-
  DERIVED. GIVEN WITH THE SEED: THE CARDS: each row of YtfolgfbhllmdiaaDoorRows.lean that lists a variable, with what it lists TIED to the program's text (the seventh form; the later family's looks); each row that meets fmt, with fmt's text TOLD by the authors' own Lean function (tested against real Go, not proved from fmt's source: count such statements apart). THE CARD IS WHAT COUNTS. Prove the row's statement (the work); the ties are given (YtfolgfbhllmdiaaDoorTie.lean); close each card by the builder's one call (the guide's Derived/Test/ToyasCard.lean, 'card_holds'). Laid BY PROGRAM, IN A SANDBOX (cutbox-door.mjs). By AI agents, Wed Nov 11 2026. No macro, syntax, notation, axiom, sorry.
-/
import Derived.Test.YtfolgfbhllmdiaaDoorRows
import GoSem.ClaimSeven
namespace Go.Proofs.YtfolgfbhllmdiaaDoor
namespace Rows

/-- THE TIED CARD OF 'laws.FnExactAlgebraOf'. -/
def fnExactAlgebraOfCard : Claim7 := { stood := { row := fnExactAlgebraOfRow, standIns := [], harness := (true, "2ab4cae3c9444d034f996e5320e767f4dffd59e9fddf2c9624dc99f3f340ce37"), looks := false }, kinds := [], alts := [], laidByText := true, laidKinds := [.data, .pinned], laidTests := true, laidLooks := .later }
def FnExactAlgebraOfCardSaid : Prop := Claim7.holds Tryd.pinned (.plain (OpenSpec.ofChange fnExactAlgebraOfSpec)) fnExactAlgebraOfCard

/-- THE TIED CARD OF 'laws.FnExactPlainTheory'. -/
def fnExactPlainTheoryCard : Claim7 := { stood := { row := fnExactPlainTheoryRow, standIns := [], harness := (true, "2ab4cae3c9444d034f996e5320e767f4dffd59e9fddf2c9624dc99f3f340ce37"), looks := false }, kinds := [], alts := [], laidByText := true, laidKinds := [.data, .pinned], laidTests := true, laidLooks := .later }
def FnExactPlainTheoryCardSaid : Prop := Claim7.holds Tryd.pinned (.plain (OpenSpec.ofChange fnExactPlainTheorySpec)) fnExactPlainTheoryCard

/-- THE TIED CARD OF 'laws.FnExactEvalTerm'. -/
def fnExactEvalTermCard : Claim7 := { stood := { row := fnExactEvalTermRow, standIns := [], harness := (true, "2ab4cae3c9444d034f996e5320e767f4dffd59e9fddf2c9624dc99f3f340ce37"), looks := false }, kinds := [], alts := [], laidByText := true, laidKinds := [.data, .pinned], laidTests := true, laidLooks := .later }
def FnExactEvalTermCardSaid : Prop := Claim7.holds Tryd.pinned (.plain (OpenSpec.ofChange fnExactEvalTermSpec)) fnExactEvalTermCard

/-- THE SECOND FORM's CARD OF 'laws.FnExactAlgebraOf'. -/
def fnExactAlgebraOfUptoCard : Claim7 := { stood := { row := fnExactAlgebraOfUptoRow, standIns := [], harness := (true, "2ab4cae3c9444d034f996e5320e767f4dffd59e9fddf2c9624dc99f3f340ce37"), looks := false }, kinds := [], alts := [], laidByText := true, laidKinds := [.data, .pinned], laidTests := true, laidLooks := .later }
def FnExactAlgebraOfUptoCardSaid : Prop := Claim7.holds Tryd.pinned (.plain (OpenSpec.upto fnExactAlgebraOfSpec)) fnExactAlgebraOfUptoCard

/-- THE SECOND FORM's CARD OF 'laws.FnExactPlainTheory'. -/
def fnExactPlainTheoryUptoCard : Claim7 := { stood := { row := fnExactPlainTheoryUptoRow, standIns := [], harness := (true, "2ab4cae3c9444d034f996e5320e767f4dffd59e9fddf2c9624dc99f3f340ce37"), looks := false }, kinds := [], alts := [], laidByText := true, laidKinds := [.data, .pinned], laidTests := true, laidLooks := .later }
def FnExactPlainTheoryUptoCardSaid : Prop := Claim7.holds Tryd.pinned (.plain (OpenSpec.upto fnExactPlainTheorySpec)) fnExactPlainTheoryUptoCard

/-- THE SECOND FORM's CARD OF 'laws.FnExactEvalTerm'. -/
def fnExactEvalTermUptoCard : Claim7 := { stood := { row := fnExactEvalTermUptoRow, standIns := [], harness := (true, "2ab4cae3c9444d034f996e5320e767f4dffd59e9fddf2c9624dc99f3f340ce37"), looks := false }, kinds := [], alts := [], laidByText := true, laidKinds := [.data, .pinned], laidTests := true, laidLooks := .later }
def FnExactEvalTermUptoCardSaid : Prop := Claim7.holds Tryd.pinned (.plain (OpenSpec.upto fnExactEvalTermSpec)) fnExactEvalTermUptoCard
end Rows
end Go.Proofs.YtfolgfbhllmdiaaDoor
