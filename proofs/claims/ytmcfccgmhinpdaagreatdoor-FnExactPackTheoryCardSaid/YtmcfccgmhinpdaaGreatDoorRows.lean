/-
  NARROWER THAN 'FOR EVERY INPUT', by the rows' own cells (each row's printed sentence says how): FnExactEntriesHold: laid · FnExactIsDecreasing: laid · FnExactTheoryFault: laid · FnExactWalkStep: laid · FnExactIsNormal: laid · FnExactFindRedex: laid · FnExactRewriteAt: laid · FnBack: laid · FnExactPackTheory: laid · FnExactAreJoined: laid · FnAlgebras: laid · FnExactNormalForm: laid.
  DERIVED. THE GIVEN ROWS OF THIS SEAT. 12 by the template 'for every input the law returns true; each argument reads behind the call as it read before'; 0 by the template 'total and deterministic' (their statements: YtmcfccgmhinpdaaGreatDoorTotals.lean).
  GIVEN WITH THE SEED: the statements are not yours to turn. If you find one false, say at which input.
  Laid BY PROGRAM, IN A SANDBOX (cutbox-rows.mjs): the forced cells as the released guide's own fill.sh prints them over the translation e1b9df8cb741de13… (all of the seat's roots in one cut). By AI agents, Wed Nov 11 2026. No macro, syntax, notation, axiom, sorry.
-/
import Derived.Test.YtmcfccgmhinpdaaGreatDoorChecked
import GoSem.PinnedTables
import GoSem.Claim
import GoSem.ClaimJoined
import GoSem.ClaimMapViews
import Derived.JoinedTies
import Derived.KernelRfl
namespace Go.Proofs.YtmcfccgmhinpdaaGreatDoor
/- THE CELL 'sum', in the pinned program and in every row, IS THE sha256 OF THE DUMP (.gsa) THAT YtmcfccgmhinpdaaGreatDoorProg.lean LOADS. Nothing in Lean hashes anything: it is a label: what it is worth is what the hold of that sum in a sandbox is worth. -/
noncomputable def Tryz.pinned : Pinned := { name := "ytmcfccgmhinpdaagreatdoor", sum := "e1b9df8cb741de13b9767cad3df2ae70d0ddbc1d9a3f32861cb31de17c1a9fe3", checked := Tryz.checked }
namespace Rows
def none {H : Type} : Left H := { results := [], args := [] }

/- WHAT THE LISTED PACKAGE-LEVEL VARIABLES READ AS WHEN THE CALL BEGINS. Each datum BY PROGRAM (the guide's laid-datum.mjs) off the statement by which the dump's own 'gosem.cut.vars' lays the variable. In a bare row this is a premise. The card (YtmcfccgmhinpdaaGreatDoorCards.lean) ties it to the program's text. -/
def laid_unicode_utf8_acceptRanges {H : Type} : DataW H := .agg [.agg [.lit (.int .u8 128), .lit (.int .u8 191)], .agg [.lit (.int .u8 160), .lit (.int .u8 191)], .agg [.lit (.int .u8 128), .lit (.int .u8 159)], .agg [.lit (.int .u8 144), .lit (.int .u8 191)], .agg [.lit (.int .u8 128), .lit (.int .u8 143)], .agg [.lit (.int .u8 0), .lit (.int .u8 0)], .agg [.lit (.int .u8 0), .lit (.int .u8 0)], .agg [.lit (.int .u8 0), .lit (.int .u8 0)], .agg [.lit (.int .u8 0), .lit (.int .u8 0)], .agg [.lit (.int .u8 0), .lit (.int .u8 0)], .agg [.lit (.int .u8 0), .lit (.int .u8 0)], .agg [.lit (.int .u8 0), .lit (.int .u8 0)], .agg [.lit (.int .u8 0), .lit (.int .u8 0)], .agg [.lit (.int .u8 0), .lit (.int .u8 0)], .agg [.lit (.int .u8 0), .lit (.int .u8 0)], .agg [.lit (.int .u8 0), .lit (.int .u8 0)]]
/-- One of Go's own tables, pinned by name: the form's constant. -/
def laid_unicode_utf8_first : DataW Unit := Go.Pinned.utf8First

/-- 'laws.FnExactEntriesHold': WHATEVER THE INPUT: true; the input reads as it did. -/
def fnExactEntriesHoldSpec : ChangeSpec := { name := "fnExactEntriesHold", fn := fun _ => fun
  | [d1, d2, d3] => { results := [.lit (.bool true)], args := [d1, d2, d3] }
  | _ => none }
def fnExactEntriesHoldRow : OpenClaim := { program := "ytmcfccgmhinpdaagreatdoor", sum := "e1b9df8cb741de13b9767cad3df2ae70d0ddbc1d9a3f32861cb31de17c1a9fe3", func := "loop.example/g00653/laws.FnExactEntriesHold", spec := "fnExactEntriesHold", inPlace := ["internal/bytealg.IndexByteString", "internal/bytealg.IndexString"], unfollowed := true, recurses := true, named := ["unicode/utf8.first", "unicode/utf8.acceptRanges", "internal/bytealg.MaxLen"], plainKeys := false, apart := false, laid := [("unicode/utf8.acceptRanges", laid_unicode_utf8_acceptRanges), ("unicode/utf8.first", laid_unicode_utf8_first)] }
def FnExactEntriesHoldSaid : Prop := fnExactEntriesHoldRow.holds Tryz.pinned (OpenSpec.ofChange fnExactEntriesHoldSpec)

/-- ITS FALSE NEIGHBOUR: 'it returns false'. Refute it at one input. -/
def fnExactEntriesHoldWrong : ChangeSpec := { name := "fnExactEntriesHold", fn := fun _ => fun
  | [d1, d2, d3] => { results := [.lit (.bool false)], args := [d1, d2, d3] }
  | _ => none }
def FnExactEntriesHoldWrongFalsely : Prop := fnExactEntriesHoldRow.holds Tryz.pinned (OpenSpec.ofChange fnExactEntriesHoldWrong)

/-- 'laws.FnExactIsDecreasing': WHATEVER THE INPUT: true; the input reads as it did. -/
def fnExactIsDecreasingSpec : ChangeSpec := { name := "fnExactIsDecreasing", fn := fun _ => fun
  | [d1, d2, d3] => { results := [.lit (.bool true)], args := [d1, d2, d3] }
  | _ => none }
def fnExactIsDecreasingRow : OpenClaim := { program := "ytmcfccgmhinpdaagreatdoor", sum := "e1b9df8cb741de13b9767cad3df2ae70d0ddbc1d9a3f32861cb31de17c1a9fe3", func := "loop.example/g00653/laws.FnExactIsDecreasing", spec := "fnExactIsDecreasing", inPlace := ["internal/bytealg.IndexByteString", "internal/bytealg.IndexString"], unfollowed := true, recurses := true, named := ["unicode/utf8.first", "unicode/utf8.acceptRanges", "internal/bytealg.MaxLen"], plainKeys := false, apart := false, laid := [("unicode/utf8.acceptRanges", laid_unicode_utf8_acceptRanges), ("unicode/utf8.first", laid_unicode_utf8_first)] }
def FnExactIsDecreasingSaid : Prop := fnExactIsDecreasingRow.holds Tryz.pinned (OpenSpec.ofChange fnExactIsDecreasingSpec)

/-- ITS FALSE NEIGHBOUR: 'it returns false'. Refute it at one input. -/
def fnExactIsDecreasingWrong : ChangeSpec := { name := "fnExactIsDecreasing", fn := fun _ => fun
  | [d1, d2, d3] => { results := [.lit (.bool false)], args := [d1, d2, d3] }
  | _ => none }
def FnExactIsDecreasingWrongFalsely : Prop := fnExactIsDecreasingRow.holds Tryz.pinned (OpenSpec.ofChange fnExactIsDecreasingWrong)

/-- 'laws.FnExactTheoryFault': WHATEVER THE INPUT: true; the input reads as it did. -/
def fnExactTheoryFaultSpec : ChangeSpec := { name := "fnExactTheoryFault", fn := fun _ => fun
  | [d1, d2] => { results := [.lit (.bool true)], args := [d1, d2] }
  | _ => none }
def fnExactTheoryFaultRow : OpenClaim := { program := "ytmcfccgmhinpdaagreatdoor", sum := "e1b9df8cb741de13b9767cad3df2ae70d0ddbc1d9a3f32861cb31de17c1a9fe3", func := "loop.example/g00653/laws.FnExactTheoryFault", spec := "fnExactTheoryFault", inPlace := ["internal/bytealg.IndexByteString", "internal/bytealg.IndexString"], unfollowed := true, recurses := true, named := ["unicode/utf8.first", "unicode/utf8.acceptRanges", "internal/bytealg.MaxLen"], plainKeys := false, apart := false, laid := [("unicode/utf8.acceptRanges", laid_unicode_utf8_acceptRanges), ("unicode/utf8.first", laid_unicode_utf8_first)] }
def FnExactTheoryFaultSaid : Prop := fnExactTheoryFaultRow.holds Tryz.pinned (OpenSpec.ofChange fnExactTheoryFaultSpec)

/-- ITS FALSE NEIGHBOUR: 'it returns false'. Refute it at one input. -/
def fnExactTheoryFaultWrong : ChangeSpec := { name := "fnExactTheoryFault", fn := fun _ => fun
  | [d1, d2] => { results := [.lit (.bool false)], args := [d1, d2] }
  | _ => none }
def FnExactTheoryFaultWrongFalsely : Prop := fnExactTheoryFaultRow.holds Tryz.pinned (OpenSpec.ofChange fnExactTheoryFaultWrong)

/-- 'laws.FnExactWalkStep': WHATEVER THE INPUT: true; the input reads as it did. -/
def fnExactWalkStepSpec : ChangeSpec := { name := "fnExactWalkStep", fn := fun _ => fun
  | [d1, d2, d3, d4, d5, d6, d7] => { results := [.lit (.bool true)], args := [d1, d2, d3, d4, d5, d6, d7] }
  | _ => none }
def fnExactWalkStepRow : OpenClaim := { program := "ytmcfccgmhinpdaagreatdoor", sum := "e1b9df8cb741de13b9767cad3df2ae70d0ddbc1d9a3f32861cb31de17c1a9fe3", func := "loop.example/g00653/laws.FnExactWalkStep", spec := "fnExactWalkStep", inPlace := ["internal/bytealg.IndexByteString", "internal/bytealg.IndexString"], unfollowed := true, recurses := true, named := ["unicode/utf8.first", "unicode/utf8.acceptRanges", "internal/bytealg.MaxLen"], plainKeys := false, apart := false, laid := [("unicode/utf8.acceptRanges", laid_unicode_utf8_acceptRanges), ("unicode/utf8.first", laid_unicode_utf8_first)] }
def FnExactWalkStepSaid : Prop := fnExactWalkStepRow.holds Tryz.pinned (OpenSpec.ofChange fnExactWalkStepSpec)

/-- ITS FALSE NEIGHBOUR: 'it returns false'. Refute it at one input. -/
def fnExactWalkStepWrong : ChangeSpec := { name := "fnExactWalkStep", fn := fun _ => fun
  | [d1, d2, d3, d4, d5, d6, d7] => { results := [.lit (.bool false)], args := [d1, d2, d3, d4, d5, d6, d7] }
  | _ => none }
def FnExactWalkStepWrongFalsely : Prop := fnExactWalkStepRow.holds Tryz.pinned (OpenSpec.ofChange fnExactWalkStepWrong)

/-- 'laws.FnExactIsNormal': WHATEVER THE INPUT: true; the input reads as it did. -/
def fnExactIsNormalSpec : ChangeSpec := { name := "fnExactIsNormal", fn := fun _ => fun
  | [d1, d2, d3] => { results := [.lit (.bool true)], args := [d1, d2, d3] }
  | _ => none }
def fnExactIsNormalRow : OpenClaim := { program := "ytmcfccgmhinpdaagreatdoor", sum := "e1b9df8cb741de13b9767cad3df2ae70d0ddbc1d9a3f32861cb31de17c1a9fe3", func := "loop.example/g00653/laws.FnExactIsNormal", spec := "fnExactIsNormal", inPlace := ["internal/bytealg.IndexByteString", "internal/bytealg.IndexString", "slices.overlaps[int64]", "slices.overlaps[[]int64]"], unfollowed := true, recurses := true, named := ["unicode/utf8.first", "unicode/utf8.acceptRanges", "internal/bytealg.MaxLen"], plainKeys := false, apart := false, laid := [("unicode/utf8.acceptRanges", laid_unicode_utf8_acceptRanges), ("unicode/utf8.first", laid_unicode_utf8_first)] }
def FnExactIsNormalSaid : Prop := fnExactIsNormalRow.holds Tryz.pinned (OpenSpec.ofChange fnExactIsNormalSpec)

/-- ITS FALSE NEIGHBOUR: 'it returns false'. Refute it at one input. -/
def fnExactIsNormalWrong : ChangeSpec := { name := "fnExactIsNormal", fn := fun _ => fun
  | [d1, d2, d3] => { results := [.lit (.bool false)], args := [d1, d2, d3] }
  | _ => none }
def FnExactIsNormalWrongFalsely : Prop := fnExactIsNormalRow.holds Tryz.pinned (OpenSpec.ofChange fnExactIsNormalWrong)

/-- 'laws.FnExactFindRedex': WHATEVER THE INPUT: true; the input reads as it did. -/
def fnExactFindRedexSpec : ChangeSpec := { name := "fnExactFindRedex", fn := fun _ => fun
  | [d1, d2, d3] => { results := [.lit (.bool true)], args := [d1, d2, d3] }
  | _ => none }
def fnExactFindRedexRow : OpenClaim := { program := "ytmcfccgmhinpdaagreatdoor", sum := "e1b9df8cb741de13b9767cad3df2ae70d0ddbc1d9a3f32861cb31de17c1a9fe3", func := "loop.example/g00653/laws.FnExactFindRedex", spec := "fnExactFindRedex", inPlace := ["internal/bytealg.IndexByteString", "internal/bytealg.IndexString", "slices.overlaps[int64]", "slices.overlaps[[]int64]"], unfollowed := true, recurses := true, named := ["unicode/utf8.first", "unicode/utf8.acceptRanges", "internal/bytealg.MaxLen"], plainKeys := false, apart := false, laid := [("unicode/utf8.acceptRanges", laid_unicode_utf8_acceptRanges), ("unicode/utf8.first", laid_unicode_utf8_first)] }
def FnExactFindRedexSaid : Prop := fnExactFindRedexRow.holds Tryz.pinned (OpenSpec.ofChange fnExactFindRedexSpec)

/-- ITS FALSE NEIGHBOUR: 'it returns false'. Refute it at one input. -/
def fnExactFindRedexWrong : ChangeSpec := { name := "fnExactFindRedex", fn := fun _ => fun
  | [d1, d2, d3] => { results := [.lit (.bool false)], args := [d1, d2, d3] }
  | _ => none }
def FnExactFindRedexWrongFalsely : Prop := fnExactFindRedexRow.holds Tryz.pinned (OpenSpec.ofChange fnExactFindRedexWrong)

/-- 'laws.FnExactRewriteAt': WHATEVER THE INPUT: true; the input reads as it did. -/
def fnExactRewriteAtSpec : ChangeSpec := { name := "fnExactRewriteAt", fn := fun _ => fun
  | [d1, d2, d3, d4, d5] => { results := [.lit (.bool true)], args := [d1, d2, d3, d4, d5] }
  | _ => none }
def fnExactRewriteAtRow : OpenClaim := { program := "ytmcfccgmhinpdaagreatdoor", sum := "e1b9df8cb741de13b9767cad3df2ae70d0ddbc1d9a3f32861cb31de17c1a9fe3", func := "loop.example/g00653/laws.FnExactRewriteAt", spec := "fnExactRewriteAt", inPlace := ["internal/bytealg.IndexByteString", "internal/bytealg.IndexString", "slices.overlaps[int64]", "slices.overlaps[[]int64]"], unfollowed := true, recurses := true, named := ["unicode/utf8.first", "unicode/utf8.acceptRanges", "internal/bytealg.MaxLen"], plainKeys := false, apart := false, laid := [("unicode/utf8.acceptRanges", laid_unicode_utf8_acceptRanges), ("unicode/utf8.first", laid_unicode_utf8_first)] }
def FnExactRewriteAtSaid : Prop := fnExactRewriteAtRow.holds Tryz.pinned (OpenSpec.ofChange fnExactRewriteAtSpec)

/-- ITS FALSE NEIGHBOUR: 'it returns false'. Refute it at one input. -/
def fnExactRewriteAtWrong : ChangeSpec := { name := "fnExactRewriteAt", fn := fun _ => fun
  | [d1, d2, d3, d4, d5] => { results := [.lit (.bool false)], args := [d1, d2, d3, d4, d5] }
  | _ => none }
def FnExactRewriteAtWrongFalsely : Prop := fnExactRewriteAtRow.holds Tryz.pinned (OpenSpec.ofChange fnExactRewriteAtWrong)

/-- 'laws.FnBack': WHATEVER THE INPUT: true; the input reads as it did. -/
def fnBackSpec : ChangeSpec := { name := "fnBack", fn := fun _ => fun
  | [d] => { results := [.lit (.bool true)], args := [d] }
  | _ => none }
def fnBackRow : OpenClaim := { program := "ytmcfccgmhinpdaagreatdoor", sum := "e1b9df8cb741de13b9767cad3df2ae70d0ddbc1d9a3f32861cb31de17c1a9fe3", func := "loop.example/g00653/laws.FnBack", spec := "fnBack", inPlace := ["internal/bytealg.IndexByteString", "internal/bytealg.IndexString"], unfollowed := true, recurses := true, named := ["unicode/utf8.first", "unicode/utf8.acceptRanges", "internal/bytealg.MaxLen"], plainKeys := false, apart := false, laid := [("unicode/utf8.acceptRanges", laid_unicode_utf8_acceptRanges), ("unicode/utf8.first", laid_unicode_utf8_first)] }
def FnBackSaid : Prop := fnBackRow.holds Tryz.pinned (OpenSpec.ofChange fnBackSpec)

/-- ITS FALSE NEIGHBOUR: 'it returns false'. Refute it at one input. -/
def fnBackWrong : ChangeSpec := { name := "fnBack", fn := fun _ => fun
  | [d] => { results := [.lit (.bool false)], args := [d] }
  | _ => none }
def FnBackWrongFalsely : Prop := fnBackRow.holds Tryz.pinned (OpenSpec.ofChange fnBackWrong)

/-- 'laws.FnExactPackTheory': WHATEVER THE INPUT: true; the input reads as it did. -/
def fnExactPackTheorySpec : ChangeSpec := { name := "fnExactPackTheory", fn := fun _ => fun
  | [d1, d2] => { results := [.lit (.bool true)], args := [d1, d2] }
  | _ => none }
def fnExactPackTheoryRow : OpenClaim := { program := "ytmcfccgmhinpdaagreatdoor", sum := "e1b9df8cb741de13b9767cad3df2ae70d0ddbc1d9a3f32861cb31de17c1a9fe3", func := "loop.example/g00653/laws.FnExactPackTheory", spec := "fnExactPackTheory", inPlace := ["internal/bytealg.IndexByteString", "internal/bytealg.IndexString"], unfollowed := true, recurses := true, named := ["unicode/utf8.first", "unicode/utf8.acceptRanges", "internal/bytealg.MaxLen"], plainKeys := false, apart := false, laid := [("unicode/utf8.acceptRanges", laid_unicode_utf8_acceptRanges), ("unicode/utf8.first", laid_unicode_utf8_first)] }
def FnExactPackTheorySaid : Prop := fnExactPackTheoryRow.holds Tryz.pinned (OpenSpec.ofChange fnExactPackTheorySpec)

/-- ITS FALSE NEIGHBOUR: 'it returns false'. Refute it at one input. -/
def fnExactPackTheoryWrong : ChangeSpec := { name := "fnExactPackTheory", fn := fun _ => fun
  | [d1, d2] => { results := [.lit (.bool false)], args := [d1, d2] }
  | _ => none }
def FnExactPackTheoryWrongFalsely : Prop := fnExactPackTheoryRow.holds Tryz.pinned (OpenSpec.ofChange fnExactPackTheoryWrong)

/-- 'laws.FnExactAreJoined': WHATEVER THE INPUT: true; the input reads as it did. -/
def fnExactAreJoinedSpec : ChangeSpec := { name := "fnExactAreJoined", fn := fun _ => fun
  | [d1, d2, d3, d4, d5] => { results := [.lit (.bool true)], args := [d1, d2, d3, d4, d5] }
  | _ => none }
def fnExactAreJoinedRow : OpenClaim := { program := "ytmcfccgmhinpdaagreatdoor", sum := "e1b9df8cb741de13b9767cad3df2ae70d0ddbc1d9a3f32861cb31de17c1a9fe3", func := "loop.example/g00653/laws.FnExactAreJoined", spec := "fnExactAreJoined", inPlace := ["internal/bytealg.IndexByteString", "internal/bytealg.IndexString", "slices.overlaps[int64]", "slices.overlaps[[]int64]"], unfollowed := true, recurses := true, named := ["unicode/utf8.first", "unicode/utf8.acceptRanges", "internal/bytealg.MaxLen"], plainKeys := false, apart := false, laid := [("unicode/utf8.acceptRanges", laid_unicode_utf8_acceptRanges), ("unicode/utf8.first", laid_unicode_utf8_first)] }
def FnExactAreJoinedSaid : Prop := fnExactAreJoinedRow.holds Tryz.pinned (OpenSpec.ofChange fnExactAreJoinedSpec)

/-- ITS FALSE NEIGHBOUR: 'it returns false'. Refute it at one input. -/
def fnExactAreJoinedWrong : ChangeSpec := { name := "fnExactAreJoined", fn := fun _ => fun
  | [d1, d2, d3, d4, d5] => { results := [.lit (.bool false)], args := [d1, d2, d3, d4, d5] }
  | _ => none }
def FnExactAreJoinedWrongFalsely : Prop := fnExactAreJoinedRow.holds Tryz.pinned (OpenSpec.ofChange fnExactAreJoinedWrong)

/-- 'laws.FnAlgebras': WHATEVER THE INPUT: true; the input reads as it did. -/
def fnAlgebrasSpec : ChangeSpec := { name := "fnAlgebras", fn := fun _ => fun
  | [d] => { results := [.lit (.bool true)], args := [d] }
  | _ => none }
def fnAlgebrasRow : OpenClaim := { program := "ytmcfccgmhinpdaagreatdoor", sum := "e1b9df8cb741de13b9767cad3df2ae70d0ddbc1d9a3f32861cb31de17c1a9fe3", func := "loop.example/g00653/laws.FnAlgebras", spec := "fnAlgebras", inPlace := ["internal/bytealg.IndexByteString", "internal/bytealg.IndexString"], unfollowed := true, recurses := true, named := ["unicode/utf8.first", "unicode/utf8.acceptRanges", "internal/bytealg.MaxLen"], plainKeys := false, apart := false, laid := [("unicode/utf8.acceptRanges", laid_unicode_utf8_acceptRanges), ("unicode/utf8.first", laid_unicode_utf8_first)] }
def FnAlgebrasSaid : Prop := fnAlgebrasRow.holds Tryz.pinned (OpenSpec.ofChange fnAlgebrasSpec)

/-- ITS FALSE NEIGHBOUR: 'it returns false'. Refute it at one input. -/
def fnAlgebrasWrong : ChangeSpec := { name := "fnAlgebras", fn := fun _ => fun
  | [d] => { results := [.lit (.bool false)], args := [d] }
  | _ => none }
def FnAlgebrasWrongFalsely : Prop := fnAlgebrasRow.holds Tryz.pinned (OpenSpec.ofChange fnAlgebrasWrong)

/-- 'laws.FnExactNormalForm': WHATEVER THE INPUT: true; the input reads as it did. -/
def fnExactNormalFormSpec : ChangeSpec := { name := "fnExactNormalForm", fn := fun _ => fun
  | [d1, d2, d3, d4] => { results := [.lit (.bool true)], args := [d1, d2, d3, d4] }
  | _ => none }
def fnExactNormalFormRow : OpenClaim := { program := "ytmcfccgmhinpdaagreatdoor", sum := "e1b9df8cb741de13b9767cad3df2ae70d0ddbc1d9a3f32861cb31de17c1a9fe3", func := "loop.example/g00653/laws.FnExactNormalForm", spec := "fnExactNormalForm", inPlace := ["internal/bytealg.IndexByteString", "internal/bytealg.IndexString", "slices.overlaps[int64]", "slices.overlaps[[]int64]"], unfollowed := true, recurses := true, named := ["unicode/utf8.first", "unicode/utf8.acceptRanges", "internal/bytealg.MaxLen"], plainKeys := false, apart := false, laid := [("unicode/utf8.acceptRanges", laid_unicode_utf8_acceptRanges), ("unicode/utf8.first", laid_unicode_utf8_first)] }
def FnExactNormalFormSaid : Prop := fnExactNormalFormRow.holds Tryz.pinned (OpenSpec.ofChange fnExactNormalFormSpec)

/-- ITS FALSE NEIGHBOUR: 'it returns false'. Refute it at one input. -/
def fnExactNormalFormWrong : ChangeSpec := { name := "fnExactNormalForm", fn := fun _ => fun
  | [d1, d2, d3, d4] => { results := [.lit (.bool false)], args := [d1, d2, d3, d4] }
  | _ => none }
def FnExactNormalFormWrongFalsely : Prop := fnExactNormalFormRow.holds Tryz.pinned (OpenSpec.ofChange fnExactNormalFormWrong)

/- THE SECOND FORM. 'bulk': how many values and letters a reading holds, each counted each time it is reached (what is shared counts as often as it is met; a slice's spare places count too). A statement '..UptoSaid' is the law's where the arguments, and the package variables that the reading takes, are together of bulk at most 1048576: NARROWER than '..Said'. Prove '..Said' where nothing that the law and all that it calls make is longer than what came in: it says more and counts as full. Else prove '..UptoSaid'. A law counts once. -/
mutual
def uptoBulk {H : Type} : DataW H → Nat
  | .lit (.string bytes) => bytes.length + 1
  | .lit _ => 1
  | .nil => 1
  | .ptr d => uptoBulk d + 1
  | .slice elems spare => uptoBulkAll elems + uptoBulkAll spare + 1
  | .agg parts => uptoBulkAll parts + 1
  | .iface _ d => uptoBulk d + 1
  | .map entries => uptoBulkEntries entries + 1
  | .held _ => 1
def uptoBulkAll {H : Type} : List (DataW H) → Nat
  | [] => 0
  | d :: r => uptoBulk d + uptoBulkAll r
def uptoBulkEntries {H : Type} : List (Lit × DataW H) → Nat
  | [] => 0
  | x :: r => uptoBulkEntry x + uptoBulkEntries r
def uptoBulkEntry {H : Type} : Lit × DataW H → Nat
  | (.string bytes, d) => bytes.length + uptoBulk d + 1
  | (_, d) => uptoBulk d + 1
 end
def uptoSmall : (H : Type) → List (DataW H) → Bool := fun _ ds => decide (uptoBulkAll ds ≤ 1048576)
def OpenSpec.upto (s : _root_.Go.ChangeSpec) : _root_.Go.OpenSpec := { _root_.Go.OpenSpec.ofChange s with cond := some uptoSmall }

/-- 'laws.FnExactEntriesHold', WHERE WHAT IT READS IS OF BULK AT MOST 1048576: true; the input reads as it did. -/
def fnExactEntriesHoldUptoRow : OpenClaim := { program := "ytmcfccgmhinpdaagreatdoor", sum := "e1b9df8cb741de13b9767cad3df2ae70d0ddbc1d9a3f32861cb31de17c1a9fe3", func := "loop.example/g00653/laws.FnExactEntriesHold", spec := "fnExactEntriesHold", inPlace := ["internal/bytealg.IndexByteString", "internal/bytealg.IndexString"], unfollowed := true, recurses := true, named := ["unicode/utf8.first", "unicode/utf8.acceptRanges", "internal/bytealg.MaxLen"], plainKeys := false, apart := false, laid := [("unicode/utf8.acceptRanges", laid_unicode_utf8_acceptRanges), ("unicode/utf8.first", laid_unicode_utf8_first)], narrowed := true }
def FnExactEntriesHoldUptoSaid : Prop := fnExactEntriesHoldUptoRow.holds Tryz.pinned (OpenSpec.upto fnExactEntriesHoldSpec)

/-- 'laws.FnExactIsDecreasing', WHERE WHAT IT READS IS OF BULK AT MOST 1048576: true; the input reads as it did. -/
def fnExactIsDecreasingUptoRow : OpenClaim := { program := "ytmcfccgmhinpdaagreatdoor", sum := "e1b9df8cb741de13b9767cad3df2ae70d0ddbc1d9a3f32861cb31de17c1a9fe3", func := "loop.example/g00653/laws.FnExactIsDecreasing", spec := "fnExactIsDecreasing", inPlace := ["internal/bytealg.IndexByteString", "internal/bytealg.IndexString"], unfollowed := true, recurses := true, named := ["unicode/utf8.first", "unicode/utf8.acceptRanges", "internal/bytealg.MaxLen"], plainKeys := false, apart := false, laid := [("unicode/utf8.acceptRanges", laid_unicode_utf8_acceptRanges), ("unicode/utf8.first", laid_unicode_utf8_first)], narrowed := true }
def FnExactIsDecreasingUptoSaid : Prop := fnExactIsDecreasingUptoRow.holds Tryz.pinned (OpenSpec.upto fnExactIsDecreasingSpec)

/-- 'laws.FnExactTheoryFault', WHERE WHAT IT READS IS OF BULK AT MOST 1048576: true; the input reads as it did. -/
def fnExactTheoryFaultUptoRow : OpenClaim := { program := "ytmcfccgmhinpdaagreatdoor", sum := "e1b9df8cb741de13b9767cad3df2ae70d0ddbc1d9a3f32861cb31de17c1a9fe3", func := "loop.example/g00653/laws.FnExactTheoryFault", spec := "fnExactTheoryFault", inPlace := ["internal/bytealg.IndexByteString", "internal/bytealg.IndexString"], unfollowed := true, recurses := true, named := ["unicode/utf8.first", "unicode/utf8.acceptRanges", "internal/bytealg.MaxLen"], plainKeys := false, apart := false, laid := [("unicode/utf8.acceptRanges", laid_unicode_utf8_acceptRanges), ("unicode/utf8.first", laid_unicode_utf8_first)], narrowed := true }
def FnExactTheoryFaultUptoSaid : Prop := fnExactTheoryFaultUptoRow.holds Tryz.pinned (OpenSpec.upto fnExactTheoryFaultSpec)

/-- 'laws.FnExactWalkStep', WHERE WHAT IT READS IS OF BULK AT MOST 1048576: true; the input reads as it did. -/
def fnExactWalkStepUptoRow : OpenClaim := { program := "ytmcfccgmhinpdaagreatdoor", sum := "e1b9df8cb741de13b9767cad3df2ae70d0ddbc1d9a3f32861cb31de17c1a9fe3", func := "loop.example/g00653/laws.FnExactWalkStep", spec := "fnExactWalkStep", inPlace := ["internal/bytealg.IndexByteString", "internal/bytealg.IndexString"], unfollowed := true, recurses := true, named := ["unicode/utf8.first", "unicode/utf8.acceptRanges", "internal/bytealg.MaxLen"], plainKeys := false, apart := false, laid := [("unicode/utf8.acceptRanges", laid_unicode_utf8_acceptRanges), ("unicode/utf8.first", laid_unicode_utf8_first)], narrowed := true }
def FnExactWalkStepUptoSaid : Prop := fnExactWalkStepUptoRow.holds Tryz.pinned (OpenSpec.upto fnExactWalkStepSpec)

/-- 'laws.FnExactIsNormal', WHERE WHAT IT READS IS OF BULK AT MOST 1048576: true; the input reads as it did. -/
def fnExactIsNormalUptoRow : OpenClaim := { program := "ytmcfccgmhinpdaagreatdoor", sum := "e1b9df8cb741de13b9767cad3df2ae70d0ddbc1d9a3f32861cb31de17c1a9fe3", func := "loop.example/g00653/laws.FnExactIsNormal", spec := "fnExactIsNormal", inPlace := ["internal/bytealg.IndexByteString", "internal/bytealg.IndexString", "slices.overlaps[int64]", "slices.overlaps[[]int64]"], unfollowed := true, recurses := true, named := ["unicode/utf8.first", "unicode/utf8.acceptRanges", "internal/bytealg.MaxLen"], plainKeys := false, apart := false, laid := [("unicode/utf8.acceptRanges", laid_unicode_utf8_acceptRanges), ("unicode/utf8.first", laid_unicode_utf8_first)], narrowed := true }
def FnExactIsNormalUptoSaid : Prop := fnExactIsNormalUptoRow.holds Tryz.pinned (OpenSpec.upto fnExactIsNormalSpec)

/-- 'laws.FnExactFindRedex', WHERE WHAT IT READS IS OF BULK AT MOST 1048576: true; the input reads as it did. -/
def fnExactFindRedexUptoRow : OpenClaim := { program := "ytmcfccgmhinpdaagreatdoor", sum := "e1b9df8cb741de13b9767cad3df2ae70d0ddbc1d9a3f32861cb31de17c1a9fe3", func := "loop.example/g00653/laws.FnExactFindRedex", spec := "fnExactFindRedex", inPlace := ["internal/bytealg.IndexByteString", "internal/bytealg.IndexString", "slices.overlaps[int64]", "slices.overlaps[[]int64]"], unfollowed := true, recurses := true, named := ["unicode/utf8.first", "unicode/utf8.acceptRanges", "internal/bytealg.MaxLen"], plainKeys := false, apart := false, laid := [("unicode/utf8.acceptRanges", laid_unicode_utf8_acceptRanges), ("unicode/utf8.first", laid_unicode_utf8_first)], narrowed := true }
def FnExactFindRedexUptoSaid : Prop := fnExactFindRedexUptoRow.holds Tryz.pinned (OpenSpec.upto fnExactFindRedexSpec)

/-- 'laws.FnExactRewriteAt', WHERE WHAT IT READS IS OF BULK AT MOST 1048576: true; the input reads as it did. -/
def fnExactRewriteAtUptoRow : OpenClaim := { program := "ytmcfccgmhinpdaagreatdoor", sum := "e1b9df8cb741de13b9767cad3df2ae70d0ddbc1d9a3f32861cb31de17c1a9fe3", func := "loop.example/g00653/laws.FnExactRewriteAt", spec := "fnExactRewriteAt", inPlace := ["internal/bytealg.IndexByteString", "internal/bytealg.IndexString", "slices.overlaps[int64]", "slices.overlaps[[]int64]"], unfollowed := true, recurses := true, named := ["unicode/utf8.first", "unicode/utf8.acceptRanges", "internal/bytealg.MaxLen"], plainKeys := false, apart := false, laid := [("unicode/utf8.acceptRanges", laid_unicode_utf8_acceptRanges), ("unicode/utf8.first", laid_unicode_utf8_first)], narrowed := true }
def FnExactRewriteAtUptoSaid : Prop := fnExactRewriteAtUptoRow.holds Tryz.pinned (OpenSpec.upto fnExactRewriteAtSpec)

/-- 'laws.FnBack', WHERE WHAT IT READS IS OF BULK AT MOST 1048576: true; the input reads as it did. -/
def fnBackUptoRow : OpenClaim := { program := "ytmcfccgmhinpdaagreatdoor", sum := "e1b9df8cb741de13b9767cad3df2ae70d0ddbc1d9a3f32861cb31de17c1a9fe3", func := "loop.example/g00653/laws.FnBack", spec := "fnBack", inPlace := ["internal/bytealg.IndexByteString", "internal/bytealg.IndexString"], unfollowed := true, recurses := true, named := ["unicode/utf8.first", "unicode/utf8.acceptRanges", "internal/bytealg.MaxLen"], plainKeys := false, apart := false, laid := [("unicode/utf8.acceptRanges", laid_unicode_utf8_acceptRanges), ("unicode/utf8.first", laid_unicode_utf8_first)], narrowed := true }
def FnBackUptoSaid : Prop := fnBackUptoRow.holds Tryz.pinned (OpenSpec.upto fnBackSpec)

/-- 'laws.FnExactPackTheory', WHERE WHAT IT READS IS OF BULK AT MOST 1048576: true; the input reads as it did. -/
def fnExactPackTheoryUptoRow : OpenClaim := { program := "ytmcfccgmhinpdaagreatdoor", sum := "e1b9df8cb741de13b9767cad3df2ae70d0ddbc1d9a3f32861cb31de17c1a9fe3", func := "loop.example/g00653/laws.FnExactPackTheory", spec := "fnExactPackTheory", inPlace := ["internal/bytealg.IndexByteString", "internal/bytealg.IndexString"], unfollowed := true, recurses := true, named := ["unicode/utf8.first", "unicode/utf8.acceptRanges", "internal/bytealg.MaxLen"], plainKeys := false, apart := false, laid := [("unicode/utf8.acceptRanges", laid_unicode_utf8_acceptRanges), ("unicode/utf8.first", laid_unicode_utf8_first)], narrowed := true }
def FnExactPackTheoryUptoSaid : Prop := fnExactPackTheoryUptoRow.holds Tryz.pinned (OpenSpec.upto fnExactPackTheorySpec)

/-- 'laws.FnExactAreJoined', WHERE WHAT IT READS IS OF BULK AT MOST 1048576: true; the input reads as it did. -/
def fnExactAreJoinedUptoRow : OpenClaim := { program := "ytmcfccgmhinpdaagreatdoor", sum := "e1b9df8cb741de13b9767cad3df2ae70d0ddbc1d9a3f32861cb31de17c1a9fe3", func := "loop.example/g00653/laws.FnExactAreJoined", spec := "fnExactAreJoined", inPlace := ["internal/bytealg.IndexByteString", "internal/bytealg.IndexString", "slices.overlaps[int64]", "slices.overlaps[[]int64]"], unfollowed := true, recurses := true, named := ["unicode/utf8.first", "unicode/utf8.acceptRanges", "internal/bytealg.MaxLen"], plainKeys := false, apart := false, laid := [("unicode/utf8.acceptRanges", laid_unicode_utf8_acceptRanges), ("unicode/utf8.first", laid_unicode_utf8_first)], narrowed := true }
def FnExactAreJoinedUptoSaid : Prop := fnExactAreJoinedUptoRow.holds Tryz.pinned (OpenSpec.upto fnExactAreJoinedSpec)

/-- 'laws.FnAlgebras', WHERE WHAT IT READS IS OF BULK AT MOST 1048576: true; the input reads as it did. -/
def fnAlgebrasUptoRow : OpenClaim := { program := "ytmcfccgmhinpdaagreatdoor", sum := "e1b9df8cb741de13b9767cad3df2ae70d0ddbc1d9a3f32861cb31de17c1a9fe3", func := "loop.example/g00653/laws.FnAlgebras", spec := "fnAlgebras", inPlace := ["internal/bytealg.IndexByteString", "internal/bytealg.IndexString"], unfollowed := true, recurses := true, named := ["unicode/utf8.first", "unicode/utf8.acceptRanges", "internal/bytealg.MaxLen"], plainKeys := false, apart := false, laid := [("unicode/utf8.acceptRanges", laid_unicode_utf8_acceptRanges), ("unicode/utf8.first", laid_unicode_utf8_first)], narrowed := true }
def FnAlgebrasUptoSaid : Prop := fnAlgebrasUptoRow.holds Tryz.pinned (OpenSpec.upto fnAlgebrasSpec)

/-- 'laws.FnExactNormalForm', WHERE WHAT IT READS IS OF BULK AT MOST 1048576: true; the input reads as it did. -/
def fnExactNormalFormUptoRow : OpenClaim := { program := "ytmcfccgmhinpdaagreatdoor", sum := "e1b9df8cb741de13b9767cad3df2ae70d0ddbc1d9a3f32861cb31de17c1a9fe3", func := "loop.example/g00653/laws.FnExactNormalForm", spec := "fnExactNormalForm", inPlace := ["internal/bytealg.IndexByteString", "internal/bytealg.IndexString", "slices.overlaps[int64]", "slices.overlaps[[]int64]"], unfollowed := true, recurses := true, named := ["unicode/utf8.first", "unicode/utf8.acceptRanges", "internal/bytealg.MaxLen"], plainKeys := false, apart := false, laid := [("unicode/utf8.acceptRanges", laid_unicode_utf8_acceptRanges), ("unicode/utf8.first", laid_unicode_utf8_first)], narrowed := true }
def FnExactNormalFormUptoSaid : Prop := fnExactNormalFormUptoRow.holds Tryz.pinned (OpenSpec.upto fnExactNormalFormSpec)

end Rows
end Go.Proofs.YtmcfccgmhinpdaaGreatDoor
