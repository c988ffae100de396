import Derived.Test.YtmiggelfhbllkaaProg
import Derived.Test.YtmiggelfhbllkaaEvLoop
import Derived.KernelRfl
open Go Go.Proofs
namespace Ev
abbrev F.laws_FnExactSameEntries : FuncId := 3
abbrev F.laws_FnExactSameTheories : FuncId := 6
abbrev F.laws_FnExactDiskFault : FuncId := 7
abbrev F.laws_FnExactSameCompletions : FuncId := 8
abbrev F.laws_szEntryS : FuncId := 13
abbrev F.spec_SameEntries : FuncId := 14
abbrev F.laws_toEntryS : FuncId := 15
abbrev F.impl_SameEntries : FuncId := 16
abbrev F.laws_eqEntryS : FuncId := 17
abbrev F.laws_szDisk : FuncId := 23
abbrev F.laws_toDisk : FuncId := 25
abbrev F.laws_eqDisk : FuncId := 27
abbrev F.laws_szTheory : FuncId := 28
abbrev F.spec_SameTheories : FuncId := 29
abbrev F.laws_toTheory : FuncId := 30
abbrev F.impl_SameTheories : FuncId := 31
abbrev F.laws_eqTheory : FuncId := 32
abbrev F.spec_DiskFault : FuncId := 33
abbrev F.impl_DiskFault : FuncId := 34
abbrev F.laws_szCompletion : FuncId := 35
abbrev F.spec_SameCompletions : FuncId := 36
abbrev F.laws_toCompletion : FuncId := 37
abbrev F.impl_SameCompletions : FuncId := 38
abbrev F.laws_eqCompletion : FuncId := 39
abbrev F.laws_szEntry : FuncId := 57
abbrev F.spec_l11Same : FuncId := 58
abbrev F.laws_toEntry : FuncId := 59
abbrev F.slices_EqualFunc_SEntry : FuncId := 60
abbrev F.impl_sameEntry : FuncId := 61
abbrev F.laws_eqEntry : FuncId := 62
abbrev F.spec_l1In : FuncId := 63
abbrev F.impl_within : FuncId := 65
abbrev F.laws_szByteSS : FuncId := 68
abbrev F.laws_szPutS : FuncId := 69
abbrev F.laws_toByteSS : FuncId := 70
abbrev F.laws_toPutS : FuncId := 71
abbrev F.laws_eqByteSS : FuncId := 76
abbrev F.laws_eqPutS : FuncId := 77
abbrev F.laws_szInt64S : FuncId := 78
abbrev F.laws_szEquationS : FuncId := 79
abbrev F.spec_l1Same : FuncId := 80
abbrev F.spec_SameEquations : FuncId := 81
abbrev F.laws_toInt64S : FuncId := 82
abbrev F.laws_toEquationS : FuncId := 83
abbrev F.slices_Equal_Sint64 : FuncId := 84
abbrev F.impl_SameEquations : FuncId := 85
abbrev F.laws_eqInt64S : FuncId := 86
abbrev F.laws_eqEquationS : FuncId := 87
abbrev F.slices_ContainsFunc_SSbyte : FuncId := 88
abbrev F.impl_DiskFault_1 : FuncId := 89
abbrev F.impl_Disk_has : FuncId := 90
abbrev F.impl_Disk_putFor : FuncId := 91
abbrev F.laws_eqByteS : FuncId := 97
abbrev F.impl_sameEquation : FuncId := 120
abbrev F.impl_Entry_equation : FuncId := 121
abbrev F.laws_szByteS : FuncId := 124
abbrev F.laws_szPut : FuncId := 125
abbrev F.laws_toByteS : FuncId := 126
abbrev F.laws_toPut : FuncId := 127
abbrev F.laws_eqPut : FuncId := 128
abbrev F.laws_szEquation : FuncId := 129
abbrev F.spec_l4Same : FuncId := 130
abbrev F.laws_toEquation : FuncId := 131
abbrev F.slices_EqualFunc_SEquation : FuncId := 132
abbrev F.laws_eqEquation : FuncId := 133
abbrev F.slices_IndexFunc_SSbyte : FuncId := 134
abbrev F.slices_IndexFunc_SPut : FuncId := 135
abbrev F.impl_Disk_putFor_1 : FuncId := 136
noncomputable abbrev prog : Program := Try.prog
def A : Attrs := fun f => match f with
  | 94 => ⟨none, false, false⟩
  | 96 => ⟨none, false, false⟩
  | 106 => ⟨(some 0), false, true⟩
  | 107 => ⟨(some 0), false, true⟩
  | 108 => ⟨(some 0), false, true⟩
  | 109 => ⟨(some 0), false, true⟩
  | 121 => ⟨none, false, false⟩
  | 139 => ⟨(some 0), false, true⟩
  | 140 => ⟨(some 0), false, true⟩
  | 144 => ⟨(some 0), false, true⟩
  | 160 => ⟨none, false, false⟩
  | _ => ⟨none, false, true⟩
def H : FuncId → Hints := fun f => match f with
  | 13 => ⟨fun b => look [] [(0, [.keepT [0, 1, 5], .keepO []])] b, fun _ => []⟩
  | 14 => ⟨fun b => look [] [(0, [.keepT [0, 1, 5], .keepO []])] b, fun _ => []⟩
  | 15 => ⟨fun b => look [] [(0, [.keepT [0, 3, 4], .keepO [448]])] b, fun _ => []⟩
  | 17 => ⟨fun b => look [] [(0, [.keepT [0, 1, 5], .keepO []])] b, fun _ => []⟩
  | 33 => ⟨fun b => look [] [(0, [.keepT [1, 3, 4], .keepO [64]]), (2, [.keepT [1, 3, 5], .keepO [64]]), (4, [.keepT [1, 6], .keepO [64]]), (6, [.keepT [1, 6, 7], .keepO [64]])] b, fun _ => []⟩
  | 34 => ⟨fun b => look [] [(0, [.keepT [1, 23, 24, 25], .keepO [64]]), (2, [.keepT [1, 40, 41, 42], .keepO [64]])] b, fun _ => []⟩
  | 60 => ⟨fun b => look [] [(0, [.keepT [1, 2, 15, 16, 17], .keepO []])] b, fun _ => []⟩
  | 68 => ⟨fun b => look [] [(0, [.keepT [0, 1, 5], .keepO []])] b, fun _ => []⟩
  | 69 => ⟨fun b => look [] [(0, [.keepT [0, 1, 5], .keepO []])] b, fun _ => []⟩
  | 70 => ⟨fun b => look [] [(0, [.keepT [0, 3, 4], .keepO [448]])] b, fun _ => []⟩
  | 71 => ⟨fun b => look [] [(0, [.keepT [0, 3, 4], .keepO [448]])] b, fun _ => []⟩
  | 76 => ⟨fun b => look [] [(0, [.keepT [0, 1, 5], .keepO []])] b, fun _ => []⟩
  | 77 => ⟨fun b => look [] [(0, [.keepT [0, 1, 5], .keepO []])] b, fun _ => []⟩
  | 79 => ⟨fun b => look [] [(0, [.keepT [0, 1, 5], .keepO []])] b, fun _ => []⟩
  | 80 => ⟨fun b => look [] [(0, [.keepT [0, 1, 5], .keepO []])] b, fun _ => []⟩
  | 81 => ⟨fun b => look [] [(0, [.keepT [0, 1, 5], .keepO []])] b, fun _ => []⟩
  | 82 => ⟨fun b => look [] [(0, [.keepT [0, 3, 4], .keepO [448]])] b, fun _ => []⟩
  | 83 => ⟨fun b => look [] [(0, [.keepT [0, 3, 4], .keepO [448]])] b, fun _ => []⟩
  | 84 => ⟨fun b => look [] [(0, [.keepT [0, 1, 12, 13], .keepO []])] b, fun _ => []⟩
  | 86 => ⟨fun b => look [] [(0, [.keepT [0, 1, 5], .keepO []])] b, fun _ => []⟩
  | 87 => ⟨fun b => look [] [(0, [.keepT [0, 1, 5], .keepO []])] b, fun _ => []⟩
  | 97 => ⟨fun b => look [] [(0, [.keepT [0, 1, 5], .keepO []])] b, fun _ => []⟩
  | 126 => ⟨fun b => look [] [(0, [.keepT [0, 3, 4], .keepO [448]])] b, fun _ => []⟩
  | 132 => ⟨fun b => look [] [(0, [.keepT [1, 2, 15, 16, 17], .keepO []])] b, fun _ => []⟩
  | 134 => ⟨fun b => look [] [(0, [.keepT [0, 1, 7, 8], .keepO []])] b, fun _ => []⟩
  | 135 => ⟨fun b => look [] [(0, [.keepT [0, 1, 7, 8], .keepO []])] b, fun _ => []⟩
  | _ => ⟨fun _ => [], fun _ => []⟩
def X : Ext := fun _ => none
theorem X_sound : ∀ f e, X f = some e → ∀ E, (∀ g args r, E g args = some r → Meets prog (A g) g args r) → ∀ args r, e E args = some r → Meets prog (A f) f args r := fun _ _ h => by cases h
noncomputable def LIM : Env := lim prog A H X
end Ev
