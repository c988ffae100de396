/-
  NARROWER THAN 'FOR EVERY INPUT', by the rows' own cells (each row's printed sentence says how): FnExactCheckEntries: laid · FnExactUnjoinedOf: laid · FnExactDeriveEntry: laid · FnExactIsConfluent: laid.
  DERIVED. THE GIVEN ROWS OF THIS SEAT. 4 by the template 'for every input the law returns true; each argument reads behind the call as it read before'; 0 by the template 'total and deterministic' (their statements: YthmkbhakjdcpfaaGreatDoorTotals.lean).
  GIVEN WITH THE SEED: the statements are not yours to turn. If you find one false, say at which input.
  Laid BY PROGRAM, IN A SANDBOX (cutbox-rows.mjs): the forced cells as the released guide's own fill.sh prints them over the translation 519be4f7524cf21a… (all of the seat's roots in one cut). By AI agents, Wed Nov 11 2026. No macro, syntax, notation, axiom, sorry.
-/
import Derived.Test.YthmkbhakjdcpfaaGreatDoorChecked
import GoSem.PinnedTables
import GoSem.Claim
import GoSem.ClaimJoined
import GoSem.ClaimMapViews
import Derived.JoinedTies
import Derived.KernelRfl
namespace Go.Proofs.YthmkbhakjdcpfaaGreatDoor
/- THE CELL 'sum', in the pinned program and in every row, IS THE sha256 OF THE DUMP (.gsa) THAT YthmkbhakjdcpfaaGreatDoorProg.lean LOADS. Nothing in Lean hashes anything: it is a label: what it is worth is what the hold of that sum in a sandbox is worth. -/
noncomputable def Tryz.pinned : Pinned := { name := "ythmkbhakjdcpfaagreatdoor", sum := "519be4f7524cf21ab8b5a775c99002f7a12ef6473578bcee226c2fb8cf9d5b20", checked := Tryz.checked }
namespace Rows
def none {H : Type} : Left H := { results := [], args := [] }

/- WHAT THE LISTED PACKAGE-LEVEL VARIABLES READ AS WHEN THE CALL BEGINS. Each datum BY PROGRAM (the guide's laid-datum.mjs) off the statement by which the dump's own 'gosem.cut.vars' lays the variable. In a bare row this is a premise. The card (YthmkbhakjdcpfaaGreatDoorCards.lean) ties it to the program's text. -/
def laid_unicode_utf8_acceptRanges {H : Type} : DataW H := .agg [.agg [.lit (.int .u8 128), .lit (.int .u8 191)], .agg [.lit (.int .u8 160), .lit (.int .u8 191)], .agg [.lit (.int .u8 128), .lit (.int .u8 159)], .agg [.lit (.int .u8 144), .lit (.int .u8 191)], .agg [.lit (.int .u8 128), .lit (.int .u8 143)], .agg [.lit (.int .u8 0), .lit (.int .u8 0)], .agg [.lit (.int .u8 0), .lit (.int .u8 0)], .agg [.lit (.int .u8 0), .lit (.int .u8 0)], .agg [.lit (.int .u8 0), .lit (.int .u8 0)], .agg [.lit (.int .u8 0), .lit (.int .u8 0)], .agg [.lit (.int .u8 0), .lit (.int .u8 0)], .agg [.lit (.int .u8 0), .lit (.int .u8 0)], .agg [.lit (.int .u8 0), .lit (.int .u8 0)], .agg [.lit (.int .u8 0), .lit (.int .u8 0)], .agg [.lit (.int .u8 0), .lit (.int .u8 0)], .agg [.lit (.int .u8 0), .lit (.int .u8 0)]]
/-- One of Go's own tables, pinned by name: the form's constant. -/
def laid_unicode_utf8_first : DataW Unit := Go.Pinned.utf8First

/-- 'laws.FnExactCheckEntries': WHATEVER THE INPUT: true; the input reads as it did. -/
def fnExactCheckEntriesSpec : ChangeSpec := { name := "fnExactCheckEntries", fn := fun _ => fun
  | [d1, d2, d3] => { results := [.lit (.bool true)], args := [d1, d2, d3] }
  | _ => none }
def fnExactCheckEntriesRow : OpenClaim := { program := "ythmkbhakjdcpfaagreatdoor", sum := "519be4f7524cf21ab8b5a775c99002f7a12ef6473578bcee226c2fb8cf9d5b20", func := "loop.example/g00653/laws.FnExactCheckEntries", spec := "fnExactCheckEntries", inPlace := ["internal/bytealg.IndexByteString", "internal/bytealg.IndexString", "slices.overlaps[int64]", "slices.overlaps[[]int64]"], unfollowed := true, recurses := true, named := ["unicode/utf8.first", "unicode/utf8.acceptRanges", "internal/bytealg.MaxLen"], plainKeys := false, apart := false, laid := [("unicode/utf8.acceptRanges", laid_unicode_utf8_acceptRanges), ("unicode/utf8.first", laid_unicode_utf8_first)] }
def FnExactCheckEntriesSaid : Prop := fnExactCheckEntriesRow.holds Tryz.pinned (OpenSpec.ofChange fnExactCheckEntriesSpec)

/-- ITS FALSE NEIGHBOUR: 'it returns false'. Refute it at one input. -/
def fnExactCheckEntriesWrong : ChangeSpec := { name := "fnExactCheckEntries", fn := fun _ => fun
  | [d1, d2, d3] => { results := [.lit (.bool false)], args := [d1, d2, d3] }
  | _ => none }
def FnExactCheckEntriesWrongFalsely : Prop := fnExactCheckEntriesRow.holds Tryz.pinned (OpenSpec.ofChange fnExactCheckEntriesWrong)

/-- 'laws.FnExactUnjoinedOf': WHATEVER THE INPUT: true; the input reads as it did. -/
def fnExactUnjoinedOfSpec : ChangeSpec := { name := "fnExactUnjoinedOf", fn := fun _ => fun
  | [d1, d2, d3] => { results := [.lit (.bool true)], args := [d1, d2, d3] }
  | _ => none }
def fnExactUnjoinedOfRow : OpenClaim := { program := "ythmkbhakjdcpfaagreatdoor", sum := "519be4f7524cf21ab8b5a775c99002f7a12ef6473578bcee226c2fb8cf9d5b20", func := "loop.example/g00653/laws.FnExactUnjoinedOf", spec := "fnExactUnjoinedOf", inPlace := ["internal/bytealg.IndexByteString", "internal/bytealg.IndexString", "slices.overlaps[int64]", "slices.overlaps[[]int64]"], unfollowed := true, recurses := true, named := ["unicode/utf8.first", "unicode/utf8.acceptRanges", "internal/bytealg.MaxLen"], plainKeys := false, apart := false, laid := [("unicode/utf8.acceptRanges", laid_unicode_utf8_acceptRanges), ("unicode/utf8.first", laid_unicode_utf8_first)] }
def FnExactUnjoinedOfSaid : Prop := fnExactUnjoinedOfRow.holds Tryz.pinned (OpenSpec.ofChange fnExactUnjoinedOfSpec)

/-- ITS FALSE NEIGHBOUR: 'it returns false'. Refute it at one input. -/
def fnExactUnjoinedOfWrong : ChangeSpec := { name := "fnExactUnjoinedOf", fn := fun _ => fun
  | [d1, d2, d3] => { results := [.lit (.bool false)], args := [d1, d2, d3] }
  | _ => none }
def FnExactUnjoinedOfWrongFalsely : Prop := fnExactUnjoinedOfRow.holds Tryz.pinned (OpenSpec.ofChange fnExactUnjoinedOfWrong)

/-- 'laws.FnExactDeriveEntry': WHATEVER THE INPUT: true; the input reads as it did. -/
def fnExactDeriveEntrySpec : ChangeSpec := { name := "fnExactDeriveEntry", fn := fun _ => fun
  | [d1, d2, d3, d4, d5, d6, d7, d8] => { results := [.lit (.bool true)], args := [d1, d2, d3, d4, d5, d6, d7, d8] }
  | _ => none }
def fnExactDeriveEntryRow : OpenClaim := { program := "ythmkbhakjdcpfaagreatdoor", sum := "519be4f7524cf21ab8b5a775c99002f7a12ef6473578bcee226c2fb8cf9d5b20", func := "loop.example/g00653/laws.FnExactDeriveEntry", spec := "fnExactDeriveEntry", inPlace := ["internal/bytealg.IndexByteString", "internal/bytealg.IndexString", "slices.overlaps[int64]", "slices.overlaps[[]int64]"], unfollowed := true, recurses := true, named := ["unicode/utf8.first", "unicode/utf8.acceptRanges", "internal/bytealg.MaxLen"], plainKeys := false, apart := false, laid := [("unicode/utf8.acceptRanges", laid_unicode_utf8_acceptRanges), ("unicode/utf8.first", laid_unicode_utf8_first)] }
def FnExactDeriveEntrySaid : Prop := fnExactDeriveEntryRow.holds Tryz.pinned (OpenSpec.ofChange fnExactDeriveEntrySpec)

/-- ITS FALSE NEIGHBOUR: 'it returns false'. Refute it at one input. -/
def fnExactDeriveEntryWrong : ChangeSpec := { name := "fnExactDeriveEntry", fn := fun _ => fun
  | [d1, d2, d3, d4, d5, d6, d7, d8] => { results := [.lit (.bool false)], args := [d1, d2, d3, d4, d5, d6, d7, d8] }
  | _ => none }
def FnExactDeriveEntryWrongFalsely : Prop := fnExactDeriveEntryRow.holds Tryz.pinned (OpenSpec.ofChange fnExactDeriveEntryWrong)

/-- 'laws.FnExactIsConfluent': WHATEVER THE INPUT: true; the input reads as it did. -/
def fnExactIsConfluentSpec : ChangeSpec := { name := "fnExactIsConfluent", fn := fun _ => fun
  | [d1, d2, d3] => { results := [.lit (.bool true)], args := [d1, d2, d3] }
  | _ => none }
def fnExactIsConfluentRow : OpenClaim := { program := "ythmkbhakjdcpfaagreatdoor", sum := "519be4f7524cf21ab8b5a775c99002f7a12ef6473578bcee226c2fb8cf9d5b20", func := "loop.example/g00653/laws.FnExactIsConfluent", spec := "fnExactIsConfluent", inPlace := ["internal/bytealg.IndexByteString", "internal/bytealg.IndexString", "slices.overlaps[int64]", "slices.overlaps[[]int64]"], unfollowed := true, recurses := true, named := ["unicode/utf8.first", "unicode/utf8.acceptRanges", "internal/bytealg.MaxLen"], plainKeys := false, apart := false, laid := [("unicode/utf8.acceptRanges", laid_unicode_utf8_acceptRanges), ("unicode/utf8.first", laid_unicode_utf8_first)] }
def FnExactIsConfluentSaid : Prop := fnExactIsConfluentRow.holds Tryz.pinned (OpenSpec.ofChange fnExactIsConfluentSpec)

/-- ITS FALSE NEIGHBOUR: 'it returns false'. Refute it at one input. -/
def fnExactIsConfluentWrong : ChangeSpec := { name := "fnExactIsConfluent", fn := fun _ => fun
  | [d1, d2, d3] => { results := [.lit (.bool false)], args := [d1, d2, d3] }
  | _ => none }
def FnExactIsConfluentWrongFalsely : Prop := fnExactIsConfluentRow.holds Tryz.pinned (OpenSpec.ofChange fnExactIsConfluentWrong)

/- THE SECOND FORM. 'bulk': how many values and letters a reading holds, each counted each time it is reached (what is shared counts as often as it is met; a slice's spare places count too). A statement '..UptoSaid' is the law's where the arguments, and the package variables that the reading takes, are together of bulk at most 1048576: NARROWER than '..Said'. Prove '..Said' where nothing that the law and all that it calls make is longer than what came in: it says more and counts as full. Else prove '..UptoSaid'. A law counts once. -/
mutual
def uptoBulk {H : Type} : DataW H → Nat
  | .lit (.string bytes) => bytes.length + 1
  | .lit _ => 1
  | .nil => 1
  | .ptr d => uptoBulk d + 1
  | .slice elems spare => uptoBulkAll elems + uptoBulkAll spare + 1
  | .agg parts => uptoBulkAll parts + 1
  | .iface _ d => uptoBulk d + 1
  | .map entries => uptoBulkEntries entries + 1
  | .held _ => 1
def uptoBulkAll {H : Type} : List (DataW H) → Nat
  | [] => 0
  | d :: r => uptoBulk d + uptoBulkAll r
def uptoBulkEntries {H : Type} : List (Lit × DataW H) → Nat
  | [] => 0
  | x :: r => uptoBulkEntry x + uptoBulkEntries r
def uptoBulkEntry {H : Type} : Lit × DataW H → Nat
  | (.string bytes, d) => bytes.length + uptoBulk d + 1
  | (_, d) => uptoBulk d + 1
 end
def uptoSmall : (H : Type) → List (DataW H) → Bool := fun _ ds => decide (uptoBulkAll ds ≤ 1048576)
def OpenSpec.upto (s : _root_.Go.ChangeSpec) : _root_.Go.OpenSpec := { _root_.Go.OpenSpec.ofChange s with cond := some uptoSmall }

/-- 'laws.FnExactCheckEntries', WHERE WHAT IT READS IS OF BULK AT MOST 1048576: true; the input reads as it did. -/
def fnExactCheckEntriesUptoRow : OpenClaim := { program := "ythmkbhakjdcpfaagreatdoor", sum := "519be4f7524cf21ab8b5a775c99002f7a12ef6473578bcee226c2fb8cf9d5b20", func := "loop.example/g00653/laws.FnExactCheckEntries", spec := "fnExactCheckEntries", inPlace := ["internal/bytealg.IndexByteString", "internal/bytealg.IndexString", "slices.overlaps[int64]", "slices.overlaps[[]int64]"], unfollowed := true, recurses := true, named := ["unicode/utf8.first", "unicode/utf8.acceptRanges", "internal/bytealg.MaxLen"], plainKeys := false, apart := false, laid := [("unicode/utf8.acceptRanges", laid_unicode_utf8_acceptRanges), ("unicode/utf8.first", laid_unicode_utf8_first)], narrowed := true }
def FnExactCheckEntriesUptoSaid : Prop := fnExactCheckEntriesUptoRow.holds Tryz.pinned (OpenSpec.upto fnExactCheckEntriesSpec)

/-- 'laws.FnExactUnjoinedOf', WHERE WHAT IT READS IS OF BULK AT MOST 1048576: true; the input reads as it did. -/
def fnExactUnjoinedOfUptoRow : OpenClaim := { program := "ythmkbhakjdcpfaagreatdoor", sum := "519be4f7524cf21ab8b5a775c99002f7a12ef6473578bcee226c2fb8cf9d5b20", func := "loop.example/g00653/laws.FnExactUnjoinedOf", spec := "fnExactUnjoinedOf", inPlace := ["internal/bytealg.IndexByteString", "internal/bytealg.IndexString", "slices.overlaps[int64]", "slices.overlaps[[]int64]"], unfollowed := true, recurses := true, named := ["unicode/utf8.first", "unicode/utf8.acceptRanges", "internal/bytealg.MaxLen"], plainKeys := false, apart := false, laid := [("unicode/utf8.acceptRanges", laid_unicode_utf8_acceptRanges), ("unicode/utf8.first", laid_unicode_utf8_first)], narrowed := true }
def FnExactUnjoinedOfUptoSaid : Prop := fnExactUnjoinedOfUptoRow.holds Tryz.pinned (OpenSpec.upto fnExactUnjoinedOfSpec)

/-- 'laws.FnExactDeriveEntry', WHERE WHAT IT READS IS OF BULK AT MOST 1048576: true; the input reads as it did. -/
def fnExactDeriveEntryUptoRow : OpenClaim := { program := "ythmkbhakjdcpfaagreatdoor", sum := "519be4f7524cf21ab8b5a775c99002f7a12ef6473578bcee226c2fb8cf9d5b20", func := "loop.example/g00653/laws.FnExactDeriveEntry", spec := "fnExactDeriveEntry", inPlace := ["internal/bytealg.IndexByteString", "internal/bytealg.IndexString", "slices.overlaps[int64]", "slices.overlaps[[]int64]"], unfollowed := true, recurses := true, named := ["unicode/utf8.first", "unicode/utf8.acceptRanges", "internal/bytealg.MaxLen"], plainKeys := false, apart := false, laid := [("unicode/utf8.acceptRanges", laid_unicode_utf8_acceptRanges), ("unicode/utf8.first", laid_unicode_utf8_first)], narrowed := true }
def FnExactDeriveEntryUptoSaid : Prop := fnExactDeriveEntryUptoRow.holds Tryz.pinned (OpenSpec.upto fnExactDeriveEntrySpec)

/-- 'laws.FnExactIsConfluent', WHERE WHAT IT READS IS OF BULK AT MOST 1048576: true; the input reads as it did. -/
def fnExactIsConfluentUptoRow : OpenClaim := { program := "ythmkbhakjdcpfaagreatdoor", sum := "519be4f7524cf21ab8b5a775c99002f7a12ef6473578bcee226c2fb8cf9d5b20", func := "loop.example/g00653/laws.FnExactIsConfluent", spec := "fnExactIsConfluent", inPlace := ["internal/bytealg.IndexByteString", "internal/bytealg.IndexString", "slices.overlaps[int64]", "slices.overlaps[[]int64]"], unfollowed := true, recurses := true, named := ["unicode/utf8.first", "unicode/utf8.acceptRanges", "internal/bytealg.MaxLen"], plainKeys := false, apart := false, laid := [("unicode/utf8.acceptRanges", laid_unicode_utf8_acceptRanges), ("unicode/utf8.first", laid_unicode_utf8_first)], narrowed := true }
def FnExactIsConfluentUptoSaid : Prop := fnExactIsConfluentUptoRow.holds Tryz.pinned (OpenSpec.upto fnExactIsConfluentSpec)

end Rows
end Go.Proofs.YthmkbhakjdcpfaaGreatDoor
