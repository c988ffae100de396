import Derived.Test.YtmiggelfhbllkaaProg
import Derived.Test.YtmiggelfhbllkaaEvRow
import Derived.Test.YtmiggelfhbllkaaLay
import Derived.KernelRfl
open Go Go.Proofs
set_option maxRecDepth 100000
namespace Ev
abbrev F.laws_FnExactNewDisk : FuncId := 4
abbrev F.laws_FnExactSameDisks : FuncId := 5
abbrev F.laws_FnExactDiskFault : FuncId := 7
abbrev F.laws_FnExactReadSector : FuncId := 9
abbrev F.laws_FnExactFlushDisk : FuncId := 12
abbrev F.spec_NewDisk : FuncId := 18
abbrev F.impl_NewDisk : FuncId := 19
abbrev F.laws_eqDiskResult : FuncId := 20
abbrev F.laws_markDiskResult : FuncId := 21
abbrev F.laws_heldDiskResult : FuncId := 22
abbrev F.laws_szDisk : FuncId := 23
abbrev F.spec_SameDisks : FuncId := 24
abbrev F.laws_toDisk : FuncId := 25
abbrev F.impl_SameDisks : FuncId := 26
abbrev F.laws_eqDisk : FuncId := 27
abbrev F.spec_DiskFault : FuncId := 33
abbrev F.impl_DiskFault : FuncId := 34
abbrev F.spec_ReadSector : FuncId := 40
abbrev F.impl_ReadSector : FuncId := 41
abbrev F.laws_eqBytesResult : FuncId := 42
abbrev F.laws_markDisk : FuncId := 43
abbrev F.laws_markBytesResult : FuncId := 44
abbrev F.laws_heldBytesResult : FuncId := 45
abbrev F.impl_FlushDisk : FuncId := 54
abbrev F.spec_FlushDisk : FuncId := 56
abbrev F.spec_l1In : FuncId := 63
abbrev F.spec_l14New : FuncId := 64
abbrev F.impl_within : FuncId := 65
abbrev F.impl_newDisk : FuncId := 66
abbrev F.laws_heldDisk : FuncId := 67
abbrev F.laws_szByteSS : FuncId := 68
abbrev F.laws_szPutS : FuncId := 69
abbrev F.laws_toByteSS : FuncId := 70
abbrev F.laws_toPutS : FuncId := 71
abbrev F.slices_EqualFunc_SSbyte : FuncId := 72
abbrev F.bytes_Equal : FuncId := 73
abbrev F.slices_EqualFunc_SPut : FuncId := 74
abbrev F.impl_SameDisks_1 : FuncId := 75
abbrev F.laws_eqByteSS : FuncId := 76
abbrev F.laws_eqPutS : FuncId := 77
abbrev F.slices_ContainsFunc_SSbyte : FuncId := 88
abbrev F.impl_DiskFault_1 : FuncId := 89
abbrev F.impl_Disk_has : FuncId := 90
abbrev F.impl_Disk_putFor : FuncId := 91
abbrev F.spec_l14Sector : FuncId := 92
abbrev F.spec_l1Copy : FuncId := 93
abbrev F.spec_l14Read : FuncId := 94
abbrev F.slices_Clone_Sbyte : FuncId := 95
abbrev F.impl_Disk_read : FuncId := 96
abbrev F.laws_eqByteS : FuncId := 97
abbrev F.laws_markByteSS : FuncId := 98
abbrev F.laws_markPutS : FuncId := 99
abbrev F.laws_markByteS : FuncId := 100
abbrev F.laws_heldByteS : FuncId := 101
abbrev F.spec_l14Copy : FuncId := 102
abbrev F.impl_ownDisk : FuncId := 103
abbrev F.impl_Disk_flush : FuncId := 114
abbrev F.impl_whole : FuncId := 115
abbrev F.spec_l14Flush : FuncId := 119
abbrev F.laws_heldByteSS : FuncId := 122
abbrev F.laws_heldPutS : FuncId := 123
abbrev F.laws_szByteS : FuncId := 124
abbrev F.laws_szPut : FuncId := 125
abbrev F.laws_toByteS : FuncId := 126
abbrev F.laws_toPut : FuncId := 127
abbrev F.laws_eqPut : FuncId := 128
abbrev F.slices_IndexFunc_SSbyte : FuncId := 134
abbrev F.slices_IndexFunc_SPut : FuncId := 135
abbrev F.impl_Disk_putFor_1 : FuncId := 136
abbrev F.spec_l14Waits : FuncId := 137
abbrev F.impl_ownPuts : FuncId := 138
abbrev F.spec_l14Crash : FuncId := 143
noncomputable abbrev prog : Program := Try.prog
def A : Attrs := fun f => match f with
  | 21 => ⟨(some 0), .val, true, false, false⟩
  | 43 => ⟨(some 0), .val, true, false, false⟩
  | 44 => ⟨(some 0), .val, true, false, false⟩
  | 94 => ⟨none, .sl, false, false, false⟩
  | 96 => ⟨none, .sl, false, false, false⟩
  | 98 => ⟨(some 0), .sl, true, false, false⟩
  | 99 => ⟨(some 0), .sl, true, false, false⟩
  | 100 => ⟨(some 0), .sl, true, false, false⟩
  | 106 => ⟨(some 0), .ptr [false, false], true, false, false⟩
  | 107 => ⟨(some 0), .ptr [false, false], true, false, false⟩
  | 108 => ⟨(some 0), .ptr [false, false], true, false, false⟩
  | 109 => ⟨(some 0), .ptr [false, false], true, false, false⟩
  | 112 => ⟨(some 0), .ptr [true, true], true, false, false⟩
  | 113 => ⟨(some 0), .ptr [true, true], true, false, false⟩
  | 114 => ⟨(some 0), .ptr [true, true], true, false, false⟩
  | 119 => ⟨(some 0), .ptr [true, true], true, false, false⟩
  | 121 => ⟨none, .sl, false, false, false⟩
  | 139 => ⟨(some 0), .ptr [false, false], true, false, false⟩
  | 140 => ⟨(some 0), .ptr [false, false], true, false, false⟩
  | 143 => ⟨(some 0), .ptr [true, true], true, false, false⟩
  | 144 => ⟨(some 0), .ptr [false, false], true, false, false⟩
  | 160 => ⟨none, .sl, false, false, false⟩
  | _ => ⟨none, .sl, true, false, false⟩
def H : FuncId → Hints := fun f => match f with
  | 24 => ⟨fun b => look [] [(0, [.keepT [2, 3, 5], .keepO [128, 192]]), (2, [.keepT [2, 3, 6], .keepO [128, 192]])] b, fun r => look [] [] r⟩
  | 33 => ⟨fun b => look [] [(0, [.keepT [1, 3, 4], .keepO [64]]), (2, [.keepT [1, 3, 5], .keepO [64]]), (4, [.keepT [1, 6], .keepO [64]]), (6, [.keepT [1, 6, 7], .keepO [64]])] b, fun r => look [] [] r⟩
  | 34 => ⟨fun b => look [] [(0, [.keepT [1, 23, 24, 25], .keepO [64]]), (2, [.keepT [1, 40, 41, 42], .keepO [64]])] b, fun r => look [] [] r⟩
  | 40 => ⟨fun b => look [] [] b, fun r => look [] [(6, [.meltP 2])] r⟩
  | 64 => ⟨fun b => look [] [(0, [.keepT [0, 2, 3, 4], .adoptO 192 0 513072 1, .keepO [128, 192, 513072]])] b, fun r => look [] [] r⟩
  | 66 => ⟨fun b => look [] [(0, [.keepT [2, 3, 5, 6], .adoptO 192 0 513072 1, .keepO [128, 192, 513072]])] b, fun r => look [] [] r⟩
  | 68 => ⟨fun b => look [] [(0, [.keepT [0, 1, 5], .keepO []])] b, fun r => look [] [] r⟩
  | 69 => ⟨fun b => look [] [(0, [.keepT [0, 1, 5], .keepO []])] b, fun r => look [] [] r⟩
  | 70 => ⟨fun b => look [] [(0, [.keepT [0, 3, 4], .keepO [448]])] b, fun r => look [] [] r⟩
  | 71 => ⟨fun b => look [] [(0, [.keepT [0, 3, 4], .keepO [448]])] b, fun r => look [] [] r⟩
  | 72 => ⟨fun b => look [] [(0, [.keepT [1, 2, 15, 16, 17], .keepO []])] b, fun r => look [] [] r⟩
  | 74 => ⟨fun b => look [] [(0, [.keepT [1, 2, 15, 16, 17], .keepO []])] b, fun r => look [] [] r⟩
  | 76 => ⟨fun b => look [] [(0, [.keepT [0, 1, 5], .keepO []])] b, fun r => look [] [] r⟩
  | 77 => ⟨fun b => look [] [(0, [.keepT [0, 1, 5], .keepO []])] b, fun r => look [] [] r⟩
  | 97 => ⟨fun b => look [] [(0, [.keepT [0, 1, 5], .keepO []])] b, fun r => look [] [] r⟩
  | 98 => ⟨fun b => look [] [(0, [.keepT [0, 1, 5], .keepO [1000000]])] b, fun r => look [] [(3, [.pack 1000000])] r⟩
  | 99 => ⟨fun b => look [] [(0, [.keepT [0, 1, 5], .keepO [1000000]])] b, fun r => look [] [(3, [.pack 1000000])] r⟩
  | 100 => ⟨fun b => look [] [(0, [.keepT [0, 1, 5], .keepO [1000000]])] b, fun r => look [] [] r⟩
  | 101 => ⟨fun b => look [] [(0, [.keepT [0, 1, 5], .keepO []])] b, fun r => look [] [] r⟩
  | 102 => ⟨fun b => look [] [(0, [.keepT [0, 2, 3, 4], .adoptO 192 0 513072 1, .keepO [128, 192, 513072]]), (2, [.keepT [0, 2, 3, 5], .adoptO 192 1 513073 2, .keepO [128, 192, 513072, 513073]])] b, fun r => look [] [] r⟩
  | 103 => ⟨fun b => look [] [(0, [.keepT [2, 3, 11, 12, 13], .adoptO 192 0 513072 1, .keepO [128, 192, 512, 513072]])] b, fun r => look [] [] r⟩
  | 114 => ⟨fun b => look [] [(0, [.keepT [0, 1, 9, 10, 11], .keepO [1000000, 1000001, 1000002]])] b, fun r => look [] [(3, [.lend 961]), (4, [.reclaim, .pack 1000001, .pack 1000002])] r⟩
  | 119 => ⟨fun b => look [] [(0, [.keepT [0, 2, 3], .keepO [256, 1000000, 1000001, 1000002]])] b, fun r => look [] [] r⟩
  | 122 => ⟨fun b => look [] [(0, [.keepT [0, 1, 5], .keepO []])] b, fun r => look [] [] r⟩
  | 123 => ⟨fun b => look [] [(0, [.keepT [0, 1, 5], .keepO []])] b, fun r => look [] [] r⟩
  | 126 => ⟨fun b => look [] [(0, [.keepT [0, 3, 4], .keepO [448]])] b, fun r => look [] [] r⟩
  | 134 => ⟨fun b => look [] [(0, [.keepT [0, 1, 7, 8], .keepO []])] b, fun r => look [] [] r⟩
  | 135 => ⟨fun b => look [] [(0, [.keepT [0, 1, 7, 8], .keepO []])] b, fun r => look [] [] r⟩
  | 137 => ⟨fun b => look [] [(0, [.keepT [0, 1, 5], .keepO []])] b, fun r => look [] [] r⟩
  | 138 => ⟨fun b => look [] [(0, [.keepT [3, 7, 8, 9], .keepO [384]])] b, fun r => look [] [] r⟩
  | 143 => ⟨fun b => look [] [(0, [.keepT [0, 1, 4], .keepO [1000000, 1000001, 1000002]]), (2, [.keepT [0, 1, 4, 5, 6], .keepO [320, 1409, 1000000, 1000001, 1000002]])] b, fun r => look [] [(6, [.pack 1000001]), (2, [.pack 1000002])] r⟩
  | _ => ⟨fun _ => [], fun _ => []⟩
def X : Ext := fun f => match f with
  | 95 => some (cloneFE 1 1)
  | _ => none
theorem X_sound : ∀ f e, X f = some e → ∀ E, (∀ g args r, E g args = some r → Meets prog (A g) g args r) → ∀ args r, e E args = some r → Meets prog (A f) f args r := by
  intro f e h E hE args r hr
  unfold X at h
  split at h
  · cases h; exact cloneb_sound_here args r hr
  · cases h
noncomputable def LIM : Env := lim prog A H X
end Ev
