/-
  NARROWER THAN 'FOR EVERY INPUT', by the rows' own cells (each row's printed sentence says how): FnExactAlgebraOf: laid · FnExactPlainTheory: laid · FnExactEvalTerm: laid.
  DERIVED. THE GIVEN ROWS OF THIS SEAT. 3 by the template 'for every input the law returns true; each argument reads behind the call as it read before'; 0 by the template 'total and deterministic' (their statements: YtfolgfbhllmdiaaDoorTotals.lean).
  GIVEN WITH THE SEED: the statements are not yours to turn. If you find one false, say at which input.
  Laid BY PROGRAM, IN A SANDBOX (cutbox-rows.mjs): the forced cells as the released guide's own fill.sh prints them over the translation 6031c24bc7a4f3ed… (all of the seat's roots in one cut). By AI agents, Wed Nov 11 2026. No macro, syntax, notation, axiom, sorry.
-/
import Derived.Test.YtfolgfbhllmdiaaDoorChecked
import GoSem.PinnedTables
import GoSem.Claim
import GoSem.ClaimJoined
import GoSem.ClaimMapViews
import Derived.JoinedTies
import Derived.KernelRfl
namespace Go.Proofs.YtfolgfbhllmdiaaDoor
/- THE CELL 'sum', in the pinned program and in every row, IS THE sha256 OF THE DUMP (.gsa) THAT YtfolgfbhllmdiaaDoorProg.lean LOADS. Nothing in Lean hashes anything: it is a label: what it is worth is what the hold of that sum in a sandbox is worth. -/
noncomputable def Tryd.pinned : Pinned := { name := "ytfolgfbhllmdiaadoor", sum := "6031c24bc7a4f3edd82d9abe7149ac96d5f87ea77c0bc37b30e3141c9b9c2eba", checked := Tryd.checked }
namespace Rows
def none {H : Type} : Left H := { results := [], args := [] }

/- WHAT THE LISTED PACKAGE-LEVEL VARIABLES READ AS WHEN THE CALL BEGINS. Each datum BY PROGRAM (the guide's laid-datum.mjs) off the statement by which the dump's own 'gosem.cut.vars' lays the variable. In a bare row this is a premise. The card (YtfolgfbhllmdiaaDoorCards.lean) ties it to the program's text. -/
def laid_unicode_utf8_acceptRanges {H : Type} : DataW H := .agg [.agg [.lit (.int .u8 128), .lit (.int .u8 191)], .agg [.lit (.int .u8 160), .lit (.int .u8 191)], .agg [.lit (.int .u8 128), .lit (.int .u8 159)], .agg [.lit (.int .u8 144), .lit (.int .u8 191)], .agg [.lit (.int .u8 128), .lit (.int .u8 143)], .agg [.lit (.int .u8 0), .lit (.int .u8 0)], .agg [.lit (.int .u8 0), .lit (.int .u8 0)], .agg [.lit (.int .u8 0), .lit (.int .u8 0)], .agg [.lit (.int .u8 0), .lit (.int .u8 0)], .agg [.lit (.int .u8 0), .lit (.int .u8 0)], .agg [.lit (.int .u8 0), .lit (.int .u8 0)], .agg [.lit (.int .u8 0), .lit (.int .u8 0)], .agg [.lit (.int .u8 0), .lit (.int .u8 0)], .agg [.lit (.int .u8 0), .lit (.int .u8 0)], .agg [.lit (.int .u8 0), .lit (.int .u8 0)], .agg [.lit (.int .u8 0), .lit (.int .u8 0)]]
/-- One of Go's own tables, pinned by name: the form's constant. -/
def laid_unicode_utf8_first : DataW Unit := Go.Pinned.utf8First

/-- 'laws.FnExactAlgebraOf': WHATEVER THE INPUT: true; the input reads as it did. -/
def fnExactAlgebraOfSpec : ChangeSpec := { name := "fnExactAlgebraOf", fn := fun _ => fun
  | [d1, d2, d3] => { results := [.lit (.bool true)], args := [d1, d2, d3] }
  | _ => none }
def fnExactAlgebraOfRow : OpenClaim := { program := "ytfolgfbhllmdiaadoor", sum := "6031c24bc7a4f3edd82d9abe7149ac96d5f87ea77c0bc37b30e3141c9b9c2eba", func := "loop.example/g00653/laws.FnExactAlgebraOf", spec := "fnExactAlgebraOf", inPlace := ["internal/bytealg.IndexByteString", "internal/bytealg.IndexString"], unfollowed := true, recurses := true, named := ["unicode/utf8.first", "unicode/utf8.acceptRanges", "internal/bytealg.MaxLen"], apart := false, laid := [("unicode/utf8.acceptRanges", laid_unicode_utf8_acceptRanges), ("unicode/utf8.first", laid_unicode_utf8_first)] }
def FnExactAlgebraOfSaid : Prop := fnExactAlgebraOfRow.holds Tryd.pinned (OpenSpec.ofChange fnExactAlgebraOfSpec)

/-- ITS FALSE NEIGHBOUR: 'it returns false'. Refute it at one input. -/
def fnExactAlgebraOfWrong : ChangeSpec := { name := "fnExactAlgebraOf", fn := fun _ => fun
  | [d1, d2, d3] => { results := [.lit (.bool false)], args := [d1, d2, d3] }
  | _ => none }
def FnExactAlgebraOfWrongFalsely : Prop := fnExactAlgebraOfRow.holds Tryd.pinned (OpenSpec.ofChange fnExactAlgebraOfWrong)

/-- 'laws.FnExactPlainTheory': WHATEVER THE INPUT: true; the input reads as it did. -/
def fnExactPlainTheorySpec : ChangeSpec := { name := "fnExactPlainTheory", fn := fun _ => fun
  | [d] => { results := [.lit (.bool true)], args := [d] }
  | _ => none }
def fnExactPlainTheoryRow : OpenClaim := { program := "ytfolgfbhllmdiaadoor", sum := "6031c24bc7a4f3edd82d9abe7149ac96d5f87ea77c0bc37b30e3141c9b9c2eba", func := "loop.example/g00653/laws.FnExactPlainTheory", spec := "fnExactPlainTheory", inPlace := ["internal/bytealg.IndexByteString", "internal/bytealg.IndexString"], unfollowed := true, recurses := true, named := ["unicode/utf8.first", "unicode/utf8.acceptRanges", "internal/bytealg.MaxLen"], apart := false, laid := [("unicode/utf8.acceptRanges", laid_unicode_utf8_acceptRanges), ("unicode/utf8.first", laid_unicode_utf8_first)] }
def FnExactPlainTheorySaid : Prop := fnExactPlainTheoryRow.holds Tryd.pinned (OpenSpec.ofChange fnExactPlainTheorySpec)

/-- ITS FALSE NEIGHBOUR: 'it returns false'. Refute it at one input. -/
def fnExactPlainTheoryWrong : ChangeSpec := { name := "fnExactPlainTheory", fn := fun _ => fun
  | [d] => { results := [.lit (.bool false)], args := [d] }
  | _ => none }
def FnExactPlainTheoryWrongFalsely : Prop := fnExactPlainTheoryRow.holds Tryd.pinned (OpenSpec.ofChange fnExactPlainTheoryWrong)

/-- 'laws.FnExactEvalTerm': WHATEVER THE INPUT: true; the input reads as it did. -/
def fnExactEvalTermSpec : ChangeSpec := { name := "fnExactEvalTerm", fn := fun _ => fun
  | [d1, d2, d3, d4] => { results := [.lit (.bool true)], args := [d1, d2, d3, d4] }
  | _ => none }
def fnExactEvalTermRow : OpenClaim := { program := "ytfolgfbhllmdiaadoor", sum := "6031c24bc7a4f3edd82d9abe7149ac96d5f87ea77c0bc37b30e3141c9b9c2eba", func := "loop.example/g00653/laws.FnExactEvalTerm", spec := "fnExactEvalTerm", inPlace := ["internal/bytealg.IndexByteString", "internal/bytealg.IndexString"], unfollowed := true, recurses := true, named := ["unicode/utf8.first", "unicode/utf8.acceptRanges", "internal/bytealg.MaxLen"], apart := false, laid := [("unicode/utf8.acceptRanges", laid_unicode_utf8_acceptRanges), ("unicode/utf8.first", laid_unicode_utf8_first)] }
def FnExactEvalTermSaid : Prop := fnExactEvalTermRow.holds Tryd.pinned (OpenSpec.ofChange fnExactEvalTermSpec)

/-- ITS FALSE NEIGHBOUR: 'it returns false'. Refute it at one input. -/
def fnExactEvalTermWrong : ChangeSpec := { name := "fnExactEvalTerm", fn := fun _ => fun
  | [d1, d2, d3, d4] => { results := [.lit (.bool false)], args := [d1, d2, d3, d4] }
  | _ => none }
def FnExactEvalTermWrongFalsely : Prop := fnExactEvalTermRow.holds Tryd.pinned (OpenSpec.ofChange fnExactEvalTermWrong)

/- THE SECOND FORM. 'bulk': how many values and letters a reading holds, each counted each time it is reached (what is shared counts as often as it is met; a slice's spare places count too). A statement '..UptoSaid' is the law's where the arguments, and the package variables that the reading takes, are together of bulk at most 1048576: NARROWER than '..Said'. Prove '..Said' where nothing that the law and all that it calls make is longer than what came in: it says more and counts as full. Else prove '..UptoSaid'. A law counts once. -/
mutual
def uptoBulk {H : Type} : DataW H → Nat
  | .lit (.string bytes) => bytes.length + 1
  | .lit _ => 1
  | .nil => 1
  | .ptr d => uptoBulk d + 1
  | .slice elems spare => uptoBulkAll elems + uptoBulkAll spare + 1
  | .agg parts => uptoBulkAll parts + 1
  | .iface _ d => uptoBulk d + 1
  | .map entries => uptoBulkEntries entries + 1
  | .held _ => 1
def uptoBulkAll {H : Type} : List (DataW H) → Nat
  | [] => 0
  | d :: r => uptoBulk d + uptoBulkAll r
def uptoBulkEntries {H : Type} : List (Lit × DataW H) → Nat
  | [] => 0
  | x :: r => uptoBulkEntry x + uptoBulkEntries r
def uptoBulkEntry {H : Type} : Lit × DataW H → Nat
  | (.string bytes, d) => bytes.length + uptoBulk d + 1
  | (_, d) => uptoBulk d + 1
 end
def uptoSmall : (H : Type) → List (DataW H) → Bool := fun _ ds => decide (uptoBulkAll ds ≤ 1048576)
def OpenSpec.upto (s : _root_.Go.ChangeSpec) : _root_.Go.OpenSpec := { _root_.Go.OpenSpec.ofChange s with cond := some uptoSmall }

/-- 'laws.FnExactAlgebraOf', WHERE WHAT IT READS IS OF BULK AT MOST 1048576: true; the input reads as it did. -/
def fnExactAlgebraOfUptoRow : OpenClaim := { program := "ytfolgfbhllmdiaadoor", sum := "6031c24bc7a4f3edd82d9abe7149ac96d5f87ea77c0bc37b30e3141c9b9c2eba", func := "loop.example/g00653/laws.FnExactAlgebraOf", spec := "fnExactAlgebraOf", inPlace := ["internal/bytealg.IndexByteString", "internal/bytealg.IndexString"], unfollowed := true, recurses := true, named := ["unicode/utf8.first", "unicode/utf8.acceptRanges", "internal/bytealg.MaxLen"], apart := false, laid := [("unicode/utf8.acceptRanges", laid_unicode_utf8_acceptRanges), ("unicode/utf8.first", laid_unicode_utf8_first)], narrowed := true }
def FnExactAlgebraOfUptoSaid : Prop := fnExactAlgebraOfUptoRow.holds Tryd.pinned (OpenSpec.upto fnExactAlgebraOfSpec)

/-- 'laws.FnExactPlainTheory', WHERE WHAT IT READS IS OF BULK AT MOST 1048576: true; the input reads as it did. -/
def fnExactPlainTheoryUptoRow : OpenClaim := { program := "ytfolgfbhllmdiaadoor", sum := "6031c24bc7a4f3edd82d9abe7149ac96d5f87ea77c0bc37b30e3141c9b9c2eba", func := "loop.example/g00653/laws.FnExactPlainTheory", spec := "fnExactPlainTheory", inPlace := ["internal/bytealg.IndexByteString", "internal/bytealg.IndexString"], unfollowed := true, recurses := true, named := ["unicode/utf8.first", "unicode/utf8.acceptRanges", "internal/bytealg.MaxLen"], apart := false, laid := [("unicode/utf8.acceptRanges", laid_unicode_utf8_acceptRanges), ("unicode/utf8.first", laid_unicode_utf8_first)], narrowed := true }
def FnExactPlainTheoryUptoSaid : Prop := fnExactPlainTheoryUptoRow.holds Tryd.pinned (OpenSpec.upto fnExactPlainTheorySpec)

/-- 'laws.FnExactEvalTerm', WHERE WHAT IT READS IS OF BULK AT MOST 1048576: true; the input reads as it did. -/
def fnExactEvalTermUptoRow : OpenClaim := { program := "ytfolgfbhllmdiaadoor", sum := "6031c24bc7a4f3edd82d9abe7149ac96d5f87ea77c0bc37b30e3141c9b9c2eba", func := "loop.example/g00653/laws.FnExactEvalTerm", spec := "fnExactEvalTerm", inPlace := ["internal/bytealg.IndexByteString", "internal/bytealg.IndexString"], unfollowed := true, recurses := true, named := ["unicode/utf8.first", "unicode/utf8.acceptRanges", "internal/bytealg.MaxLen"], apart := false, laid := [("unicode/utf8.acceptRanges", laid_unicode_utf8_acceptRanges), ("unicode/utf8.first", laid_unicode_utf8_first)], narrowed := true }
def FnExactEvalTermUptoSaid : Prop := fnExactEvalTermUptoRow.holds Tryd.pinned (OpenSpec.upto fnExactEvalTermSpec)

end Rows
end Go.Proofs.YtfolgfbhllmdiaaDoor
