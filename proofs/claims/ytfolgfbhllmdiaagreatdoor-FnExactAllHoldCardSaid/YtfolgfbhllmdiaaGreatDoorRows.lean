/-
  NARROWER THAN 'FOR EVERY INPUT', by the rows' own cells (each row's printed sentence says how): FnRulesOf: laid · FnParts: laid · FnExactRulesFault: laid · FnExactSortTerms: laid · FnSorts: laid · FnExactHolds: laid · FnWalks: laid · FnStable: laid · FnExactAllHold: laid.
  DERIVED. THE GIVEN ROWS OF THIS SEAT. 9 by the template 'for every input the law returns true; each argument reads behind the call as it read before'; 0 by the template 'total and deterministic' (their statements: YtfolgfbhllmdiaaGreatDoorTotals.lean).
  GIVEN WITH THE SEED: the statements are not yours to turn. If you find one false, say at which input.
  Laid BY PROGRAM, IN A SANDBOX (cutbox-rows.mjs): the forced cells as the released guide's own fill.sh prints them over the translation 3733f48de88487ed… (all of the seat's roots in one cut). By AI agents, Wed Nov 11 2026. No macro, syntax, notation, axiom, sorry.
-/
import Derived.Test.YtfolgfbhllmdiaaGreatDoorChecked
import GoSem.PinnedTables
import GoSem.Claim
import GoSem.ClaimJoined
import GoSem.ClaimMapViews
import Derived.JoinedTies
import Derived.KernelRfl
namespace Go.Proofs.YtfolgfbhllmdiaaGreatDoor
/- THE CELL 'sum', in the pinned program and in every row, IS THE sha256 OF THE DUMP (.gsa) THAT YtfolgfbhllmdiaaGreatDoorProg.lean LOADS. Nothing in Lean hashes anything: it is a label: what it is worth is what the hold of that sum in a sandbox is worth. -/
noncomputable def Tryz.pinned : Pinned := { name := "ytfolgfbhllmdiaagreatdoor", sum := "3733f48de88487ed236d8ddcbe102c685358029d2ec006107077396034b44d03", checked := Tryz.checked }
namespace Rows
def none {H : Type} : Left H := { results := [], args := [] }

/- WHAT THE LISTED PACKAGE-LEVEL VARIABLES READ AS WHEN THE CALL BEGINS. Each datum BY PROGRAM (the guide's laid-datum.mjs) off the statement by which the dump's own 'gosem.cut.vars' lays the variable. In a bare row this is a premise. The card (YtfolgfbhllmdiaaGreatDoorCards.lean) ties it to the program's text. -/
def laid_unicode_utf8_acceptRanges {H : Type} : DataW H := .agg [.agg [.lit (.int .u8 128), .lit (.int .u8 191)], .agg [.lit (.int .u8 160), .lit (.int .u8 191)], .agg [.lit (.int .u8 128), .lit (.int .u8 159)], .agg [.lit (.int .u8 144), .lit (.int .u8 191)], .agg [.lit (.int .u8 128), .lit (.int .u8 143)], .agg [.lit (.int .u8 0), .lit (.int .u8 0)], .agg [.lit (.int .u8 0), .lit (.int .u8 0)], .agg [.lit (.int .u8 0), .lit (.int .u8 0)], .agg [.lit (.int .u8 0), .lit (.int .u8 0)], .agg [.lit (.int .u8 0), .lit (.int .u8 0)], .agg [.lit (.int .u8 0), .lit (.int .u8 0)], .agg [.lit (.int .u8 0), .lit (.int .u8 0)], .agg [.lit (.int .u8 0), .lit (.int .u8 0)], .agg [.lit (.int .u8 0), .lit (.int .u8 0)], .agg [.lit (.int .u8 0), .lit (.int .u8 0)], .agg [.lit (.int .u8 0), .lit (.int .u8 0)]]
/-- One of Go's own tables, pinned by name: the form's constant. -/
def laid_unicode_utf8_first : DataW Unit := Go.Pinned.utf8First

/-- 'laws.FnRulesOf': WHATEVER THE INPUT: true; the input reads as it did. -/
def fnRulesOfSpec : ChangeSpec := { name := "fnRulesOf", fn := fun _ => fun
  | [d] => { results := [.lit (.bool true)], args := [d] }
  | _ => none }
def fnRulesOfRow : OpenClaim := { program := "ytfolgfbhllmdiaagreatdoor", sum := "3733f48de88487ed236d8ddcbe102c685358029d2ec006107077396034b44d03", func := "loop.example/g00653/laws.FnRulesOf", spec := "fnRulesOf", inPlace := ["internal/bytealg.IndexByteString", "internal/bytealg.IndexString", "slices.overlaps[int64]", "slices.overlaps[[]int64]", "internal/bytealg.Compare"], unfollowed := true, recurses := true, named := ["unicode/utf8.first", "unicode/utf8.acceptRanges", "internal/bytealg.MaxLen"], plainKeys := false, apart := false, laid := [("unicode/utf8.acceptRanges", laid_unicode_utf8_acceptRanges), ("unicode/utf8.first", laid_unicode_utf8_first)] }
def FnRulesOfSaid : Prop := fnRulesOfRow.holds Tryz.pinned (OpenSpec.ofChange fnRulesOfSpec)

/-- ITS FALSE NEIGHBOUR: 'it returns false'. Refute it at one input. -/
def fnRulesOfWrong : ChangeSpec := { name := "fnRulesOf", fn := fun _ => fun
  | [d] => { results := [.lit (.bool false)], args := [d] }
  | _ => none }
def FnRulesOfWrongFalsely : Prop := fnRulesOfRow.holds Tryz.pinned (OpenSpec.ofChange fnRulesOfWrong)

/-- 'laws.FnParts': WHATEVER THE INPUT: true; the input reads as it did. -/
def fnPartsSpec : ChangeSpec := { name := "fnParts", fn := fun _ => fun
  | [d] => { results := [.lit (.bool true)], args := [d] }
  | _ => none }
def fnPartsRow : OpenClaim := { program := "ytfolgfbhllmdiaagreatdoor", sum := "3733f48de88487ed236d8ddcbe102c685358029d2ec006107077396034b44d03", func := "loop.example/g00653/laws.FnParts", spec := "fnParts", inPlace := ["internal/bytealg.IndexByteString", "internal/bytealg.IndexString"], unfollowed := true, recurses := true, named := ["unicode/utf8.first", "unicode/utf8.acceptRanges", "internal/bytealg.MaxLen"], plainKeys := false, apart := false, laid := [("unicode/utf8.acceptRanges", laid_unicode_utf8_acceptRanges), ("unicode/utf8.first", laid_unicode_utf8_first)] }
def FnPartsSaid : Prop := fnPartsRow.holds Tryz.pinned (OpenSpec.ofChange fnPartsSpec)

/-- ITS FALSE NEIGHBOUR: 'it returns false'. Refute it at one input. -/
def fnPartsWrong : ChangeSpec := { name := "fnParts", fn := fun _ => fun
  | [d] => { results := [.lit (.bool false)], args := [d] }
  | _ => none }
def FnPartsWrongFalsely : Prop := fnPartsRow.holds Tryz.pinned (OpenSpec.ofChange fnPartsWrong)

/-- 'laws.FnExactRulesFault': WHATEVER THE INPUT: true; the input reads as it did. -/
def fnExactRulesFaultSpec : ChangeSpec := { name := "fnExactRulesFault", fn := fun _ => fun
  | [d1, d2] => { results := [.lit (.bool true)], args := [d1, d2] }
  | _ => none }
def fnExactRulesFaultRow : OpenClaim := { program := "ytfolgfbhllmdiaagreatdoor", sum := "3733f48de88487ed236d8ddcbe102c685358029d2ec006107077396034b44d03", func := "loop.example/g00653/laws.FnExactRulesFault", spec := "fnExactRulesFault", inPlace := ["internal/bytealg.IndexByteString", "internal/bytealg.IndexString"], unfollowed := true, recurses := true, named := ["unicode/utf8.first", "unicode/utf8.acceptRanges", "internal/bytealg.MaxLen"], plainKeys := false, apart := false, laid := [("unicode/utf8.acceptRanges", laid_unicode_utf8_acceptRanges), ("unicode/utf8.first", laid_unicode_utf8_first)] }
def FnExactRulesFaultSaid : Prop := fnExactRulesFaultRow.holds Tryz.pinned (OpenSpec.ofChange fnExactRulesFaultSpec)

/-- ITS FALSE NEIGHBOUR: 'it returns false'. Refute it at one input. -/
def fnExactRulesFaultWrong : ChangeSpec := { name := "fnExactRulesFault", fn := fun _ => fun
  | [d1, d2] => { results := [.lit (.bool false)], args := [d1, d2] }
  | _ => none }
def FnExactRulesFaultWrongFalsely : Prop := fnExactRulesFaultRow.holds Tryz.pinned (OpenSpec.ofChange fnExactRulesFaultWrong)

/-- 'laws.FnExactSortTerms': WHATEVER THE INPUT: true; the input reads as it did. -/
def fnExactSortTermsSpec : ChangeSpec := { name := "fnExactSortTerms", fn := fun _ => fun
  | [d1, d2, d3] => { results := [.lit (.bool true)], args := [d1, d2, d3] }
  | _ => none }
def fnExactSortTermsRow : OpenClaim := { program := "ytfolgfbhllmdiaagreatdoor", sum := "3733f48de88487ed236d8ddcbe102c685358029d2ec006107077396034b44d03", func := "loop.example/g00653/laws.FnExactSortTerms", spec := "fnExactSortTerms", inPlace := ["internal/bytealg.IndexByteString", "internal/bytealg.IndexString"], unfollowed := true, recurses := true, named := ["unicode/utf8.first", "unicode/utf8.acceptRanges", "internal/bytealg.MaxLen"], plainKeys := false, apart := false, laid := [("unicode/utf8.acceptRanges", laid_unicode_utf8_acceptRanges), ("unicode/utf8.first", laid_unicode_utf8_first)] }
def FnExactSortTermsSaid : Prop := fnExactSortTermsRow.holds Tryz.pinned (OpenSpec.ofChange fnExactSortTermsSpec)

/-- ITS FALSE NEIGHBOUR: 'it returns false'. Refute it at one input. -/
def fnExactSortTermsWrong : ChangeSpec := { name := "fnExactSortTerms", fn := fun _ => fun
  | [d1, d2, d3] => { results := [.lit (.bool false)], args := [d1, d2, d3] }
  | _ => none }
def FnExactSortTermsWrongFalsely : Prop := fnExactSortTermsRow.holds Tryz.pinned (OpenSpec.ofChange fnExactSortTermsWrong)

/-- 'laws.FnSorts': WHATEVER THE INPUT: true; the input reads as it did. -/
def fnSortsSpec : ChangeSpec := { name := "fnSorts", fn := fun _ => fun
  | [d] => { results := [.lit (.bool true)], args := [d] }
  | _ => none }
def fnSortsRow : OpenClaim := { program := "ytfolgfbhllmdiaagreatdoor", sum := "3733f48de88487ed236d8ddcbe102c685358029d2ec006107077396034b44d03", func := "loop.example/g00653/laws.FnSorts", spec := "fnSorts", inPlace := ["internal/bytealg.IndexByteString", "internal/bytealg.IndexString"], unfollowed := true, recurses := true, named := ["unicode/utf8.first", "unicode/utf8.acceptRanges", "internal/bytealg.MaxLen"], plainKeys := false, apart := false, laid := [("unicode/utf8.acceptRanges", laid_unicode_utf8_acceptRanges), ("unicode/utf8.first", laid_unicode_utf8_first)] }
def FnSortsSaid : Prop := fnSortsRow.holds Tryz.pinned (OpenSpec.ofChange fnSortsSpec)

/-- ITS FALSE NEIGHBOUR: 'it returns false'. Refute it at one input. -/
def fnSortsWrong : ChangeSpec := { name := "fnSorts", fn := fun _ => fun
  | [d] => { results := [.lit (.bool false)], args := [d] }
  | _ => none }
def FnSortsWrongFalsely : Prop := fnSortsRow.holds Tryz.pinned (OpenSpec.ofChange fnSortsWrong)

/-- 'laws.FnExactHolds': WHATEVER THE INPUT: true; the input reads as it did. -/
def fnExactHoldsSpec : ChangeSpec := { name := "fnExactHolds", fn := fun _ => fun
  | [d1, d2, d3] => { results := [.lit (.bool true)], args := [d1, d2, d3] }
  | _ => none }
def fnExactHoldsRow : OpenClaim := { program := "ytfolgfbhllmdiaagreatdoor", sum := "3733f48de88487ed236d8ddcbe102c685358029d2ec006107077396034b44d03", func := "loop.example/g00653/laws.FnExactHolds", spec := "fnExactHolds", inPlace := ["internal/bytealg.IndexByteString", "internal/bytealg.IndexString"], unfollowed := true, recurses := true, named := ["unicode/utf8.first", "unicode/utf8.acceptRanges", "internal/bytealg.MaxLen"], plainKeys := false, apart := false, laid := [("unicode/utf8.acceptRanges", laid_unicode_utf8_acceptRanges), ("unicode/utf8.first", laid_unicode_utf8_first)] }
def FnExactHoldsSaid : Prop := fnExactHoldsRow.holds Tryz.pinned (OpenSpec.ofChange fnExactHoldsSpec)

/-- ITS FALSE NEIGHBOUR: 'it returns false'. Refute it at one input. -/
def fnExactHoldsWrong : ChangeSpec := { name := "fnExactHolds", fn := fun _ => fun
  | [d1, d2, d3] => { results := [.lit (.bool false)], args := [d1, d2, d3] }
  | _ => none }
def FnExactHoldsWrongFalsely : Prop := fnExactHoldsRow.holds Tryz.pinned (OpenSpec.ofChange fnExactHoldsWrong)

/-- 'laws.FnWalks': WHATEVER THE INPUT: true; the input reads as it did. -/
def fnWalksSpec : ChangeSpec := { name := "fnWalks", fn := fun _ => fun
  | [d] => { results := [.lit (.bool true)], args := [d] }
  | _ => none }
def fnWalksRow : OpenClaim := { program := "ytfolgfbhllmdiaagreatdoor", sum := "3733f48de88487ed236d8ddcbe102c685358029d2ec006107077396034b44d03", func := "loop.example/g00653/laws.FnWalks", spec := "fnWalks", inPlace := ["internal/bytealg.IndexByteString", "internal/bytealg.IndexString", "internal/bytealg.Compare", "slices.overlaps[int64]", "slices.overlaps[[]int64]"], unfollowed := true, recurses := true, named := ["unicode/utf8.first", "unicode/utf8.acceptRanges", "internal/bytealg.MaxLen"], plainKeys := false, apart := false, laid := [("unicode/utf8.acceptRanges", laid_unicode_utf8_acceptRanges), ("unicode/utf8.first", laid_unicode_utf8_first)] }
def FnWalksSaid : Prop := fnWalksRow.holds Tryz.pinned (OpenSpec.ofChange fnWalksSpec)

/-- ITS FALSE NEIGHBOUR: 'it returns false'. Refute it at one input. -/
def fnWalksWrong : ChangeSpec := { name := "fnWalks", fn := fun _ => fun
  | [d] => { results := [.lit (.bool false)], args := [d] }
  | _ => none }
def FnWalksWrongFalsely : Prop := fnWalksRow.holds Tryz.pinned (OpenSpec.ofChange fnWalksWrong)

/-- 'laws.FnStable': WHATEVER THE INPUT: true; the input reads as it did. -/
def fnStableSpec : ChangeSpec := { name := "fnStable", fn := fun _ => fun
  | [d] => { results := [.lit (.bool true)], args := [d] }
  | _ => none }
def fnStableRow : OpenClaim := { program := "ytfolgfbhllmdiaagreatdoor", sum := "3733f48de88487ed236d8ddcbe102c685358029d2ec006107077396034b44d03", func := "loop.example/g00653/laws.FnStable", spec := "fnStable", inPlace := ["internal/bytealg.IndexByteString", "internal/bytealg.IndexString"], unfollowed := true, recurses := true, named := ["unicode/utf8.first", "unicode/utf8.acceptRanges", "internal/bytealg.MaxLen"], plainKeys := false, apart := false, laid := [("unicode/utf8.acceptRanges", laid_unicode_utf8_acceptRanges), ("unicode/utf8.first", laid_unicode_utf8_first)] }
def FnStableSaid : Prop := fnStableRow.holds Tryz.pinned (OpenSpec.ofChange fnStableSpec)

/-- ITS FALSE NEIGHBOUR: 'it returns false'. Refute it at one input. -/
def fnStableWrong : ChangeSpec := { name := "fnStable", fn := fun _ => fun
  | [d] => { results := [.lit (.bool false)], args := [d] }
  | _ => none }
def FnStableWrongFalsely : Prop := fnStableRow.holds Tryz.pinned (OpenSpec.ofChange fnStableWrong)

/-- 'laws.FnExactAllHold': WHATEVER THE INPUT: true; the input reads as it did. -/
def fnExactAllHoldSpec : ChangeSpec := { name := "fnExactAllHold", fn := fun _ => fun
  | [d1, d2, d3] => { results := [.lit (.bool true)], args := [d1, d2, d3] }
  | _ => none }
def fnExactAllHoldRow : OpenClaim := { program := "ytfolgfbhllmdiaagreatdoor", sum := "3733f48de88487ed236d8ddcbe102c685358029d2ec006107077396034b44d03", func := "loop.example/g00653/laws.FnExactAllHold", spec := "fnExactAllHold", inPlace := ["internal/bytealg.IndexByteString", "internal/bytealg.IndexString"], unfollowed := true, recurses := true, named := ["unicode/utf8.first", "unicode/utf8.acceptRanges", "internal/bytealg.MaxLen"], plainKeys := false, apart := false, laid := [("unicode/utf8.acceptRanges", laid_unicode_utf8_acceptRanges), ("unicode/utf8.first", laid_unicode_utf8_first)] }
def FnExactAllHoldSaid : Prop := fnExactAllHoldRow.holds Tryz.pinned (OpenSpec.ofChange fnExactAllHoldSpec)

/-- ITS FALSE NEIGHBOUR: 'it returns false'. Refute it at one input. -/
def fnExactAllHoldWrong : ChangeSpec := { name := "fnExactAllHold", fn := fun _ => fun
  | [d1, d2, d3] => { results := [.lit (.bool false)], args := [d1, d2, d3] }
  | _ => none }
def FnExactAllHoldWrongFalsely : Prop := fnExactAllHoldRow.holds Tryz.pinned (OpenSpec.ofChange fnExactAllHoldWrong)

/- THE SECOND FORM. 'bulk': how many values and letters a reading holds, each counted each time it is reached (what is shared counts as often as it is met; a slice's spare places count too). A statement '..UptoSaid' is the law's where the arguments, and the package variables that the reading takes, are together of bulk at most 1048576: NARROWER than '..Said'. Prove '..Said' where nothing that the law and all that it calls make is longer than what came in: it says more and counts as full. Else prove '..UptoSaid'. A law counts once. -/
mutual
def uptoBulk {H : Type} : DataW H → Nat
  | .lit (.string bytes) => bytes.length + 1
  | .lit _ => 1
  | .nil => 1
  | .ptr d => uptoBulk d + 1
  | .slice elems spare => uptoBulkAll elems + uptoBulkAll spare + 1
  | .agg parts => uptoBulkAll parts + 1
  | .iface _ d => uptoBulk d + 1
  | .map entries => uptoBulkEntries entries + 1
  | .held _ => 1
def uptoBulkAll {H : Type} : List (DataW H) → Nat
  | [] => 0
  | d :: r => uptoBulk d + uptoBulkAll r
def uptoBulkEntries {H : Type} : List (Lit × DataW H) → Nat
  | [] => 0
  | x :: r => uptoBulkEntry x + uptoBulkEntries r
def uptoBulkEntry {H : Type} : Lit × DataW H → Nat
  | (.string bytes, d) => bytes.length + uptoBulk d + 1
  | (_, d) => uptoBulk d + 1
 end
def uptoSmall : (H : Type) → List (DataW H) → Bool := fun _ ds => decide (uptoBulkAll ds ≤ 1048576)
def OpenSpec.upto (s : _root_.Go.ChangeSpec) : _root_.Go.OpenSpec := { _root_.Go.OpenSpec.ofChange s with cond := some uptoSmall }

/-- 'laws.FnRulesOf', WHERE WHAT IT READS IS OF BULK AT MOST 1048576: true; the input reads as it did. -/
def fnRulesOfUptoRow : OpenClaim := { program := "ytfolgfbhllmdiaagreatdoor", sum := "3733f48de88487ed236d8ddcbe102c685358029d2ec006107077396034b44d03", func := "loop.example/g00653/laws.FnRulesOf", spec := "fnRulesOf", inPlace := ["internal/bytealg.IndexByteString", "internal/bytealg.IndexString", "slices.overlaps[int64]", "slices.overlaps[[]int64]", "internal/bytealg.Compare"], unfollowed := true, recurses := true, named := ["unicode/utf8.first", "unicode/utf8.acceptRanges", "internal/bytealg.MaxLen"], plainKeys := false, apart := false, laid := [("unicode/utf8.acceptRanges", laid_unicode_utf8_acceptRanges), ("unicode/utf8.first", laid_unicode_utf8_first)], narrowed := true }
def FnRulesOfUptoSaid : Prop := fnRulesOfUptoRow.holds Tryz.pinned (OpenSpec.upto fnRulesOfSpec)

/-- 'laws.FnParts', WHERE WHAT IT READS IS OF BULK AT MOST 1048576: true; the input reads as it did. -/
def fnPartsUptoRow : OpenClaim := { program := "ytfolgfbhllmdiaagreatdoor", sum := "3733f48de88487ed236d8ddcbe102c685358029d2ec006107077396034b44d03", func := "loop.example/g00653/laws.FnParts", spec := "fnParts", inPlace := ["internal/bytealg.IndexByteString", "internal/bytealg.IndexString"], unfollowed := true, recurses := true, named := ["unicode/utf8.first", "unicode/utf8.acceptRanges", "internal/bytealg.MaxLen"], plainKeys := false, apart := false, laid := [("unicode/utf8.acceptRanges", laid_unicode_utf8_acceptRanges), ("unicode/utf8.first", laid_unicode_utf8_first)], narrowed := true }
def FnPartsUptoSaid : Prop := fnPartsUptoRow.holds Tryz.pinned (OpenSpec.upto fnPartsSpec)

/-- 'laws.FnExactRulesFault', WHERE WHAT IT READS IS OF BULK AT MOST 1048576: true; the input reads as it did. -/
def fnExactRulesFaultUptoRow : OpenClaim := { program := "ytfolgfbhllmdiaagreatdoor", sum := "3733f48de88487ed236d8ddcbe102c685358029d2ec006107077396034b44d03", func := "loop.example/g00653/laws.FnExactRulesFault", spec := "fnExactRulesFault", inPlace := ["internal/bytealg.IndexByteString", "internal/bytealg.IndexString"], unfollowed := true, recurses := true, named := ["unicode/utf8.first", "unicode/utf8.acceptRanges", "internal/bytealg.MaxLen"], plainKeys := false, apart := false, laid := [("unicode/utf8.acceptRanges", laid_unicode_utf8_acceptRanges), ("unicode/utf8.first", laid_unicode_utf8_first)], narrowed := true }
def FnExactRulesFaultUptoSaid : Prop := fnExactRulesFaultUptoRow.holds Tryz.pinned (OpenSpec.upto fnExactRulesFaultSpec)

/-- 'laws.FnExactSortTerms', WHERE WHAT IT READS IS OF BULK AT MOST 1048576: true; the input reads as it did. -/
def fnExactSortTermsUptoRow : OpenClaim := { program := "ytfolgfbhllmdiaagreatdoor", sum := "3733f48de88487ed236d8ddcbe102c685358029d2ec006107077396034b44d03", func := "loop.example/g00653/laws.FnExactSortTerms", spec := "fnExactSortTerms", inPlace := ["internal/bytealg.IndexByteString", "internal/bytealg.IndexString"], unfollowed := true, recurses := true, named := ["unicode/utf8.first", "unicode/utf8.acceptRanges", "internal/bytealg.MaxLen"], plainKeys := false, apart := false, laid := [("unicode/utf8.acceptRanges", laid_unicode_utf8_acceptRanges), ("unicode/utf8.first", laid_unicode_utf8_first)], narrowed := true }
def FnExactSortTermsUptoSaid : Prop := fnExactSortTermsUptoRow.holds Tryz.pinned (OpenSpec.upto fnExactSortTermsSpec)

/-- 'laws.FnSorts', WHERE WHAT IT READS IS OF BULK AT MOST 1048576: true; the input reads as it did. -/
def fnSortsUptoRow : OpenClaim := { program := "ytfolgfbhllmdiaagreatdoor", sum := "3733f48de88487ed236d8ddcbe102c685358029d2ec006107077396034b44d03", func := "loop.example/g00653/laws.FnSorts", spec := "fnSorts", inPlace := ["internal/bytealg.IndexByteString", "internal/bytealg.IndexString"], unfollowed := true, recurses := true, named := ["unicode/utf8.first", "unicode/utf8.acceptRanges", "internal/bytealg.MaxLen"], plainKeys := false, apart := false, laid := [("unicode/utf8.acceptRanges", laid_unicode_utf8_acceptRanges), ("unicode/utf8.first", laid_unicode_utf8_first)], narrowed := true }
def FnSortsUptoSaid : Prop := fnSortsUptoRow.holds Tryz.pinned (OpenSpec.upto fnSortsSpec)

/-- 'laws.FnExactHolds', WHERE WHAT IT READS IS OF BULK AT MOST 1048576: true; the input reads as it did. -/
def fnExactHoldsUptoRow : OpenClaim := { program := "ytfolgfbhllmdiaagreatdoor", sum := "3733f48de88487ed236d8ddcbe102c685358029d2ec006107077396034b44d03", func := "loop.example/g00653/laws.FnExactHolds", spec := "fnExactHolds", inPlace := ["internal/bytealg.IndexByteString", "internal/bytealg.IndexString"], unfollowed := true, recurses := true, named := ["unicode/utf8.first", "unicode/utf8.acceptRanges", "internal/bytealg.MaxLen"], plainKeys := false, apart := false, laid := [("unicode/utf8.acceptRanges", laid_unicode_utf8_acceptRanges), ("unicode/utf8.first", laid_unicode_utf8_first)], narrowed := true }
def FnExactHoldsUptoSaid : Prop := fnExactHoldsUptoRow.holds Tryz.pinned (OpenSpec.upto fnExactHoldsSpec)

/-- 'laws.FnWalks', WHERE WHAT IT READS IS OF BULK AT MOST 1048576: true; the input reads as it did. -/
def fnWalksUptoRow : OpenClaim := { program := "ytfolgfbhllmdiaagreatdoor", sum := "3733f48de88487ed236d8ddcbe102c685358029d2ec006107077396034b44d03", func := "loop.example/g00653/laws.FnWalks", spec := "fnWalks", inPlace := ["internal/bytealg.IndexByteString", "internal/bytealg.IndexString", "internal/bytealg.Compare", "slices.overlaps[int64]", "slices.overlaps[[]int64]"], unfollowed := true, recurses := true, named := ["unicode/utf8.first", "unicode/utf8.acceptRanges", "internal/bytealg.MaxLen"], plainKeys := false, apart := false, laid := [("unicode/utf8.acceptRanges", laid_unicode_utf8_acceptRanges), ("unicode/utf8.first", laid_unicode_utf8_first)], narrowed := true }
def FnWalksUptoSaid : Prop := fnWalksUptoRow.holds Tryz.pinned (OpenSpec.upto fnWalksSpec)

/-- 'laws.FnStable', WHERE WHAT IT READS IS OF BULK AT MOST 1048576: true; the input reads as it did. -/
def fnStableUptoRow : OpenClaim := { program := "ytfolgfbhllmdiaagreatdoor", sum := "3733f48de88487ed236d8ddcbe102c685358029d2ec006107077396034b44d03", func := "loop.example/g00653/laws.FnStable", spec := "fnStable", inPlace := ["internal/bytealg.IndexByteString", "internal/bytealg.IndexString"], unfollowed := true, recurses := true, named := ["unicode/utf8.first", "unicode/utf8.acceptRanges", "internal/bytealg.MaxLen"], plainKeys := false, apart := false, laid := [("unicode/utf8.acceptRanges", laid_unicode_utf8_acceptRanges), ("unicode/utf8.first", laid_unicode_utf8_first)], narrowed := true }
def FnStableUptoSaid : Prop := fnStableUptoRow.holds Tryz.pinned (OpenSpec.upto fnStableSpec)

/-- 'laws.FnExactAllHold', WHERE WHAT IT READS IS OF BULK AT MOST 1048576: true; the input reads as it did. -/
def fnExactAllHoldUptoRow : OpenClaim := { program := "ytfolgfbhllmdiaagreatdoor", sum := "3733f48de88487ed236d8ddcbe102c685358029d2ec006107077396034b44d03", func := "loop.example/g00653/laws.FnExactAllHold", spec := "fnExactAllHold", inPlace := ["internal/bytealg.IndexByteString", "internal/bytealg.IndexString"], unfollowed := true, recurses := true, named := ["unicode/utf8.first", "unicode/utf8.acceptRanges", "internal/bytealg.MaxLen"], plainKeys := false, apart := false, laid := [("unicode/utf8.acceptRanges", laid_unicode_utf8_acceptRanges), ("unicode/utf8.first", laid_unicode_utf8_first)], narrowed := true }
def FnExactAllHoldUptoSaid : Prop := fnExactAllHoldUptoRow.holds Tryz.pinned (OpenSpec.upto fnExactAllHoldSpec)

end Rows
end Go.Proofs.YtfolgfbhllmdiaaGreatDoor
