/-
  No cell of these rows narrows 'for every input' (looked for: loops, veiled, ifaces, maps, wideKeys, modest, calm, conditions, laid).
  DERIVED. THE GIVEN ROWS OF THIS SEAT. 10 by the template 'for every input the law returns true; each argument reads behind the call as it read before'; 0 by the template 'total and deterministic' (their statements: YtmiggelfhbllkaaTotals.lean).
  GIVEN WITH THE SEED: the statements are not yours to turn. If you find one false, say at which input.
  Laid BY PROGRAM, IN A SANDBOX (cutbox-rows.mjs): the forced cells as the released guide's own fill.sh prints them over the translation e8f7850b0b662845… (all of the seat's roots in one cut). By AI agents, Wed Nov 11 2026. No macro, syntax, notation, axiom, sorry.
-/
import Derived.Test.YtmiggelfhbllkaaChecked
import GoSem.Claim
import GoSem.ClaimJoined
import GoSem.ClaimMapViews
import Derived.JoinedTies
import Derived.KernelRfl
namespace Go.Proofs.Ytmiggelfhbllkaa
/- THE CELL 'sum', in the pinned program and in every row, IS THE sha256 OF THE DUMP (.gsa) THAT YtmiggelfhbllkaaProg.lean LOADS. Nothing in Lean hashes anything: it is a label: what it is worth is what the hold of that sum in a sandbox is worth. -/
noncomputable def Try.pinned : Pinned := { name := "ytmiggelfhbllkaa", sum := "e8f7850b0b662845a878a795173841a8eaa54ba2b2a90193cc46176cd3c8a2e2", checked := Try.checked }
namespace Rows
def none {H : Type} : Left H := { results := [], args := [] }

/-- 'laws.FnExactSameEntries': WHATEVER THE INPUT: true; the input reads as it did. -/
def fnExactSameEntriesSpec : ChangeSpec := { name := "fnExactSameEntries", fn := fun _ => fun
  | [d1, d2] => { results := [.lit (.bool true)], args := [d1, d2] }
  | _ => none }
def fnExactSameEntriesRow : OpenClaim := { program := "ytmiggelfhbllkaa", sum := "e8f7850b0b662845a878a795173841a8eaa54ba2b2a90193cc46176cd3c8a2e2", func := "loop.example/g00653/laws.FnExactSameEntries", spec := "fnExactSameEntries", unfollowed := true, recurses := true, apart := false }
def FnExactSameEntriesSaid : Prop := fnExactSameEntriesRow.holds Try.pinned (OpenSpec.ofChange fnExactSameEntriesSpec)

/-- ITS FALSE NEIGHBOUR: 'it returns false'. Refute it at one input. -/
def fnExactSameEntriesWrong : ChangeSpec := { name := "fnExactSameEntries", fn := fun _ => fun
  | [d1, d2] => { results := [.lit (.bool false)], args := [d1, d2] }
  | _ => none }
def FnExactSameEntriesWrongFalsely : Prop := fnExactSameEntriesRow.holds Try.pinned (OpenSpec.ofChange fnExactSameEntriesWrong)

/-- 'laws.FnExactNewDisk': WHATEVER THE INPUT: true; the input reads as it did. -/
def fnExactNewDiskSpec : ChangeSpec := { name := "fnExactNewDisk", fn := fun _ => fun
  | [d] => { results := [.lit (.bool true)], args := [d] }
  | _ => none }
def fnExactNewDiskRow : OpenClaim := { program := "ytmiggelfhbllkaa", sum := "e8f7850b0b662845a878a795173841a8eaa54ba2b2a90193cc46176cd3c8a2e2", func := "loop.example/g00653/laws.FnExactNewDisk", spec := "fnExactNewDisk", apart := false }
def FnExactNewDiskSaid : Prop := fnExactNewDiskRow.holds Try.pinned (OpenSpec.ofChange fnExactNewDiskSpec)

/-- ITS FALSE NEIGHBOUR: 'it returns false'. Refute it at one input. -/
def fnExactNewDiskWrong : ChangeSpec := { name := "fnExactNewDisk", fn := fun _ => fun
  | [d] => { results := [.lit (.bool false)], args := [d] }
  | _ => none }
def FnExactNewDiskWrongFalsely : Prop := fnExactNewDiskRow.holds Try.pinned (OpenSpec.ofChange fnExactNewDiskWrong)

/-- 'laws.FnExactSameDisks': WHATEVER THE INPUT: true; the input reads as it did. -/
def fnExactSameDisksSpec : ChangeSpec := { name := "fnExactSameDisks", fn := fun _ => fun
  | [d1, d2] => { results := [.lit (.bool true)], args := [d1, d2] }
  | _ => none }
def fnExactSameDisksRow : OpenClaim := { program := "ytmiggelfhbllkaa", sum := "e8f7850b0b662845a878a795173841a8eaa54ba2b2a90193cc46176cd3c8a2e2", func := "loop.example/g00653/laws.FnExactSameDisks", spec := "fnExactSameDisks", unfollowed := true, recurses := true, apart := false }
def FnExactSameDisksSaid : Prop := fnExactSameDisksRow.holds Try.pinned (OpenSpec.ofChange fnExactSameDisksSpec)

/-- ITS FALSE NEIGHBOUR: 'it returns false'. Refute it at one input. -/
def fnExactSameDisksWrong : ChangeSpec := { name := "fnExactSameDisks", fn := fun _ => fun
  | [d1, d2] => { results := [.lit (.bool false)], args := [d1, d2] }
  | _ => none }
def FnExactSameDisksWrongFalsely : Prop := fnExactSameDisksRow.holds Try.pinned (OpenSpec.ofChange fnExactSameDisksWrong)

/-- 'laws.FnExactSameTheories': WHATEVER THE INPUT: true; the input reads as it did. -/
def fnExactSameTheoriesSpec : ChangeSpec := { name := "fnExactSameTheories", fn := fun _ => fun
  | [d1, d2] => { results := [.lit (.bool true)], args := [d1, d2] }
  | _ => none }
def fnExactSameTheoriesRow : OpenClaim := { program := "ytmiggelfhbllkaa", sum := "e8f7850b0b662845a878a795173841a8eaa54ba2b2a90193cc46176cd3c8a2e2", func := "loop.example/g00653/laws.FnExactSameTheories", spec := "fnExactSameTheories", unfollowed := true, recurses := true, apart := false }
def FnExactSameTheoriesSaid : Prop := fnExactSameTheoriesRow.holds Try.pinned (OpenSpec.ofChange fnExactSameTheoriesSpec)

/-- ITS FALSE NEIGHBOUR: 'it returns false'. Refute it at one input. -/
def fnExactSameTheoriesWrong : ChangeSpec := { name := "fnExactSameTheories", fn := fun _ => fun
  | [d1, d2] => { results := [.lit (.bool false)], args := [d1, d2] }
  | _ => none }
def FnExactSameTheoriesWrongFalsely : Prop := fnExactSameTheoriesRow.holds Try.pinned (OpenSpec.ofChange fnExactSameTheoriesWrong)

/-- 'laws.FnExactDiskFault': WHATEVER THE INPUT: true; the input reads as it did. -/
def fnExactDiskFaultSpec : ChangeSpec := { name := "fnExactDiskFault", fn := fun _ => fun
  | [d] => { results := [.lit (.bool true)], args := [d] }
  | _ => none }
def fnExactDiskFaultRow : OpenClaim := { program := "ytmiggelfhbllkaa", sum := "e8f7850b0b662845a878a795173841a8eaa54ba2b2a90193cc46176cd3c8a2e2", func := "loop.example/g00653/laws.FnExactDiskFault", spec := "fnExactDiskFault", unfollowed := true, recurses := true, apart := false }
def FnExactDiskFaultSaid : Prop := fnExactDiskFaultRow.holds Try.pinned (OpenSpec.ofChange fnExactDiskFaultSpec)

/-- ITS FALSE NEIGHBOUR: 'it returns false'. Refute it at one input. -/
def fnExactDiskFaultWrong : ChangeSpec := { name := "fnExactDiskFault", fn := fun _ => fun
  | [d] => { results := [.lit (.bool false)], args := [d] }
  | _ => none }
def FnExactDiskFaultWrongFalsely : Prop := fnExactDiskFaultRow.holds Try.pinned (OpenSpec.ofChange fnExactDiskFaultWrong)

/-- 'laws.FnExactSameCompletions': WHATEVER THE INPUT: true; the input reads as it did. -/
def fnExactSameCompletionsSpec : ChangeSpec := { name := "fnExactSameCompletions", fn := fun _ => fun
  | [d1, d2] => { results := [.lit (.bool true)], args := [d1, d2] }
  | _ => none }
def fnExactSameCompletionsRow : OpenClaim := { program := "ytmiggelfhbllkaa", sum := "e8f7850b0b662845a878a795173841a8eaa54ba2b2a90193cc46176cd3c8a2e2", func := "loop.example/g00653/laws.FnExactSameCompletions", spec := "fnExactSameCompletions", unfollowed := true, recurses := true, apart := false }
def FnExactSameCompletionsSaid : Prop := fnExactSameCompletionsRow.holds Try.pinned (OpenSpec.ofChange fnExactSameCompletionsSpec)

/-- ITS FALSE NEIGHBOUR: 'it returns false'. Refute it at one input. -/
def fnExactSameCompletionsWrong : ChangeSpec := { name := "fnExactSameCompletions", fn := fun _ => fun
  | [d1, d2] => { results := [.lit (.bool false)], args := [d1, d2] }
  | _ => none }
def FnExactSameCompletionsWrongFalsely : Prop := fnExactSameCompletionsRow.holds Try.pinned (OpenSpec.ofChange fnExactSameCompletionsWrong)

/-- 'laws.FnExactReadSector': WHATEVER THE INPUT: true; the input reads as it did. -/
def fnExactReadSectorSpec : ChangeSpec := { name := "fnExactReadSector", fn := fun _ => fun
  | [d1, d2] => { results := [.lit (.bool true)], args := [d1, d2] }
  | _ => none }
def fnExactReadSectorRow : OpenClaim := { program := "ytmiggelfhbllkaa", sum := "e8f7850b0b662845a878a795173841a8eaa54ba2b2a90193cc46176cd3c8a2e2", func := "loop.example/g00653/laws.FnExactReadSector", spec := "fnExactReadSector", unfollowed := true, recurses := true, apart := false }
def FnExactReadSectorSaid : Prop := fnExactReadSectorRow.holds Try.pinned (OpenSpec.ofChange fnExactReadSectorSpec)

/-- ITS FALSE NEIGHBOUR: 'it returns false'. Refute it at one input. -/
def fnExactReadSectorWrong : ChangeSpec := { name := "fnExactReadSector", fn := fun _ => fun
  | [d1, d2] => { results := [.lit (.bool false)], args := [d1, d2] }
  | _ => none }
def FnExactReadSectorWrongFalsely : Prop := fnExactReadSectorRow.holds Try.pinned (OpenSpec.ofChange fnExactReadSectorWrong)

/-- 'laws.FnExactSpoilByte': WHATEVER THE INPUT: true; the input reads as it did. -/
def fnExactSpoilByteSpec : ChangeSpec := { name := "fnExactSpoilByte", fn := fun _ => fun
  | [d1, d2, d3, d4] => { results := [.lit (.bool true)], args := [d1, d2, d3, d4] }
  | _ => none }
def fnExactSpoilByteRow : OpenClaim := { program := "ytmiggelfhbllkaa", sum := "e8f7850b0b662845a878a795173841a8eaa54ba2b2a90193cc46176cd3c8a2e2", func := "loop.example/g00653/laws.FnExactSpoilByte", spec := "fnExactSpoilByte", unfollowed := true, recurses := true, apart := false }
def FnExactSpoilByteSaid : Prop := fnExactSpoilByteRow.holds Try.pinned (OpenSpec.ofChange fnExactSpoilByteSpec)

/-- ITS FALSE NEIGHBOUR: 'it returns false'. Refute it at one input. -/
def fnExactSpoilByteWrong : ChangeSpec := { name := "fnExactSpoilByte", fn := fun _ => fun
  | [d1, d2, d3, d4] => { results := [.lit (.bool false)], args := [d1, d2, d3, d4] }
  | _ => none }
def FnExactSpoilByteWrongFalsely : Prop := fnExactSpoilByteRow.holds Try.pinned (OpenSpec.ofChange fnExactSpoilByteWrong)

/-- 'laws.FnDisks': WHATEVER THE INPUT: true; the input reads as it did. -/
def fnDisksSpec : ChangeSpec := { name := "fnDisks", fn := fun _ => fun
  | [d] => { results := [.lit (.bool true)], args := [d] }
  | _ => none }
def fnDisksRow : OpenClaim := { program := "ytmiggelfhbllkaa", sum := "e8f7850b0b662845a878a795173841a8eaa54ba2b2a90193cc46176cd3c8a2e2", func := "loop.example/g00653/laws.FnDisks", spec := "fnDisks", unfollowed := true, recurses := true, apart := false }
def FnDisksSaid : Prop := fnDisksRow.holds Try.pinned (OpenSpec.ofChange fnDisksSpec)

/-- ITS FALSE NEIGHBOUR: 'it returns false'. Refute it at one input. -/
def fnDisksWrong : ChangeSpec := { name := "fnDisks", fn := fun _ => fun
  | [d] => { results := [.lit (.bool false)], args := [d] }
  | _ => none }
def FnDisksWrongFalsely : Prop := fnDisksRow.holds Try.pinned (OpenSpec.ofChange fnDisksWrong)

/-- 'laws.FnExactFlushDisk': WHATEVER THE INPUT: true; the input reads as it did. -/
def fnExactFlushDiskSpec : ChangeSpec := { name := "fnExactFlushDisk", fn := fun _ => fun
  | [d] => { results := [.lit (.bool true)], args := [d] }
  | _ => none }
def fnExactFlushDiskRow : OpenClaim := { program := "ytmiggelfhbllkaa", sum := "e8f7850b0b662845a878a795173841a8eaa54ba2b2a90193cc46176cd3c8a2e2", func := "loop.example/g00653/laws.FnExactFlushDisk", spec := "fnExactFlushDisk", unfollowed := true, recurses := true, apart := false }
def FnExactFlushDiskSaid : Prop := fnExactFlushDiskRow.holds Try.pinned (OpenSpec.ofChange fnExactFlushDiskSpec)

/-- ITS FALSE NEIGHBOUR: 'it returns false'. Refute it at one input. -/
def fnExactFlushDiskWrong : ChangeSpec := { name := "fnExactFlushDisk", fn := fun _ => fun
  | [d] => { results := [.lit (.bool false)], args := [d] }
  | _ => none }
def FnExactFlushDiskWrongFalsely : Prop := fnExactFlushDiskRow.holds Try.pinned (OpenSpec.ofChange fnExactFlushDiskWrong)

/- THE SECOND FORM. 'bulk': how many values and letters a reading holds, each counted each time it is reached (what is shared counts as often as it is met; a slice's spare places count too). A statement '..UptoSaid' is the law's where the arguments, and the package variables that the reading takes, are together of bulk at most 1048576: NARROWER than '..Said'. Prove '..Said' where nothing that the law and all that it calls make is longer than what came in: it says more and counts as full. Else prove '..UptoSaid'. A law counts once. -/
mutual
def uptoBulk {H : Type} : DataW H → Nat
  | .lit (.string bytes) => bytes.length + 1
  | .lit _ => 1
  | .nil => 1
  | .ptr d => uptoBulk d + 1
  | .slice elems spare => uptoBulkAll elems + uptoBulkAll spare + 1
  | .agg parts => uptoBulkAll parts + 1
  | .iface _ d => uptoBulk d + 1
  | .map entries => uptoBulkEntries entries + 1
  | .held _ => 1
def uptoBulkAll {H : Type} : List (DataW H) → Nat
  | [] => 0
  | d :: r => uptoBulk d + uptoBulkAll r
def uptoBulkEntries {H : Type} : List (Lit × DataW H) → Nat
  | [] => 0
  | x :: r => uptoBulkEntry x + uptoBulkEntries r
def uptoBulkEntry {H : Type} : Lit × DataW H → Nat
  | (.string bytes, d) => bytes.length + uptoBulk d + 1
  | (_, d) => uptoBulk d + 1
 end
def uptoSmall : (H : Type) → List (DataW H) → Bool := fun _ ds => decide (uptoBulkAll ds ≤ 1048576)
def OpenSpec.upto (s : _root_.Go.ChangeSpec) : _root_.Go.OpenSpec := { _root_.Go.OpenSpec.ofChange s with cond := some uptoSmall }

/-- 'laws.FnExactSameEntries', WHERE WHAT IT READS IS OF BULK AT MOST 1048576: true; the input reads as it did. -/
def fnExactSameEntriesUptoRow : OpenClaim := { program := "ytmiggelfhbllkaa", sum := "e8f7850b0b662845a878a795173841a8eaa54ba2b2a90193cc46176cd3c8a2e2", func := "loop.example/g00653/laws.FnExactSameEntries", spec := "fnExactSameEntries", unfollowed := true, recurses := true, apart := false, narrowed := true }
def FnExactSameEntriesUptoSaid : Prop := fnExactSameEntriesUptoRow.holds Try.pinned (OpenSpec.upto fnExactSameEntriesSpec)

/-- 'laws.FnExactNewDisk', WHERE WHAT IT READS IS OF BULK AT MOST 1048576: true; the input reads as it did. -/
def fnExactNewDiskUptoRow : OpenClaim := { program := "ytmiggelfhbllkaa", sum := "e8f7850b0b662845a878a795173841a8eaa54ba2b2a90193cc46176cd3c8a2e2", func := "loop.example/g00653/laws.FnExactNewDisk", spec := "fnExactNewDisk", apart := false, narrowed := true }
def FnExactNewDiskUptoSaid : Prop := fnExactNewDiskUptoRow.holds Try.pinned (OpenSpec.upto fnExactNewDiskSpec)

/-- 'laws.FnExactSameDisks', WHERE WHAT IT READS IS OF BULK AT MOST 1048576: true; the input reads as it did. -/
def fnExactSameDisksUptoRow : OpenClaim := { program := "ytmiggelfhbllkaa", sum := "e8f7850b0b662845a878a795173841a8eaa54ba2b2a90193cc46176cd3c8a2e2", func := "loop.example/g00653/laws.FnExactSameDisks", spec := "fnExactSameDisks", unfollowed := true, recurses := true, apart := false, narrowed := true }
def FnExactSameDisksUptoSaid : Prop := fnExactSameDisksUptoRow.holds Try.pinned (OpenSpec.upto fnExactSameDisksSpec)

/-- 'laws.FnExactSameTheories', WHERE WHAT IT READS IS OF BULK AT MOST 1048576: true; the input reads as it did. -/
def fnExactSameTheoriesUptoRow : OpenClaim := { program := "ytmiggelfhbllkaa", sum := "e8f7850b0b662845a878a795173841a8eaa54ba2b2a90193cc46176cd3c8a2e2", func := "loop.example/g00653/laws.FnExactSameTheories", spec := "fnExactSameTheories", unfollowed := true, recurses := true, apart := false, narrowed := true }
def FnExactSameTheoriesUptoSaid : Prop := fnExactSameTheoriesUptoRow.holds Try.pinned (OpenSpec.upto fnExactSameTheoriesSpec)

/-- 'laws.FnExactDiskFault', WHERE WHAT IT READS IS OF BULK AT MOST 1048576: true; the input reads as it did. -/
def fnExactDiskFaultUptoRow : OpenClaim := { program := "ytmiggelfhbllkaa", sum := "e8f7850b0b662845a878a795173841a8eaa54ba2b2a90193cc46176cd3c8a2e2", func := "loop.example/g00653/laws.FnExactDiskFault", spec := "fnExactDiskFault", unfollowed := true, recurses := true, apart := false, narrowed := true }
def FnExactDiskFaultUptoSaid : Prop := fnExactDiskFaultUptoRow.holds Try.pinned (OpenSpec.upto fnExactDiskFaultSpec)

/-- 'laws.FnExactSameCompletions', WHERE WHAT IT READS IS OF BULK AT MOST 1048576: true; the input reads as it did. -/
def fnExactSameCompletionsUptoRow : OpenClaim := { program := "ytmiggelfhbllkaa", sum := "e8f7850b0b662845a878a795173841a8eaa54ba2b2a90193cc46176cd3c8a2e2", func := "loop.example/g00653/laws.FnExactSameCompletions", spec := "fnExactSameCompletions", unfollowed := true, recurses := true, apart := false, narrowed := true }
def FnExactSameCompletionsUptoSaid : Prop := fnExactSameCompletionsUptoRow.holds Try.pinned (OpenSpec.upto fnExactSameCompletionsSpec)

/-- 'laws.FnExactReadSector', WHERE WHAT IT READS IS OF BULK AT MOST 1048576: true; the input reads as it did. -/
def fnExactReadSectorUptoRow : OpenClaim := { program := "ytmiggelfhbllkaa", sum := "e8f7850b0b662845a878a795173841a8eaa54ba2b2a90193cc46176cd3c8a2e2", func := "loop.example/g00653/laws.FnExactReadSector", spec := "fnExactReadSector", unfollowed := true, recurses := true, apart := false, narrowed := true }
def FnExactReadSectorUptoSaid : Prop := fnExactReadSectorUptoRow.holds Try.pinned (OpenSpec.upto fnExactReadSectorSpec)

/-- 'laws.FnExactSpoilByte', WHERE WHAT IT READS IS OF BULK AT MOST 1048576: true; the input reads as it did. -/
def fnExactSpoilByteUptoRow : OpenClaim := { program := "ytmiggelfhbllkaa", sum := "e8f7850b0b662845a878a795173841a8eaa54ba2b2a90193cc46176cd3c8a2e2", func := "loop.example/g00653/laws.FnExactSpoilByte", spec := "fnExactSpoilByte", unfollowed := true, recurses := true, apart := false, narrowed := true }
def FnExactSpoilByteUptoSaid : Prop := fnExactSpoilByteUptoRow.holds Try.pinned (OpenSpec.upto fnExactSpoilByteSpec)

/-- 'laws.FnDisks', WHERE WHAT IT READS IS OF BULK AT MOST 1048576: true; the input reads as it did. -/
def fnDisksUptoRow : OpenClaim := { program := "ytmiggelfhbllkaa", sum := "e8f7850b0b662845a878a795173841a8eaa54ba2b2a90193cc46176cd3c8a2e2", func := "loop.example/g00653/laws.FnDisks", spec := "fnDisks", unfollowed := true, recurses := true, apart := false, narrowed := true }
def FnDisksUptoSaid : Prop := fnDisksUptoRow.holds Try.pinned (OpenSpec.upto fnDisksSpec)

/-- 'laws.FnExactFlushDisk', WHERE WHAT IT READS IS OF BULK AT MOST 1048576: true; the input reads as it did. -/
def fnExactFlushDiskUptoRow : OpenClaim := { program := "ytmiggelfhbllkaa", sum := "e8f7850b0b662845a878a795173841a8eaa54ba2b2a90193cc46176cd3c8a2e2", func := "loop.example/g00653/laws.FnExactFlushDisk", spec := "fnExactFlushDisk", unfollowed := true, recurses := true, apart := false, narrowed := true }
def FnExactFlushDiskUptoSaid : Prop := fnExactFlushDiskUptoRow.holds Try.pinned (OpenSpec.upto fnExactFlushDiskSpec)

end Rows
end Go.Proofs.Ytmiggelfhbllkaa
