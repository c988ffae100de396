import Derived.Test.YtmcfccgmhinpdaaGreatDoorProg
import Derived.Test.YtmcfccgmhinpdaaGreatDoorEvRow
import Derived.Test.YtmcfccgmhinpdaaGreatDoorLay
import Derived.KernelRfl
open Go Go.Proofs
set_option maxRecDepth 100000
namespace Ev
abbrev F.laws_FnExactWalkStep : FuncId := 6
abbrev F.laws_szSignature : FuncId := 15
abbrev F.laws_toSignature : FuncId := 19
abbrev F.laws_eqSignature : FuncId := 24
abbrev F.laws_szEquationS : FuncId := 27
abbrev F.laws_toInt64S : FuncId := 29
abbrev F.laws_toEquationS : FuncId := 30
abbrev F.laws_eqInt64S : FuncId := 32
abbrev F.laws_eqEquationS : FuncId := 33
abbrev F.laws_szBinding : FuncId := 39
abbrev F.spec_WalkStep : FuncId := 40
abbrev F.laws_toBinding : FuncId := 41
abbrev F.impl_WalkStep : FuncId := 42
abbrev F.laws_eqTermResult : FuncId := 43
abbrev F.laws_eqBinding : FuncId := 44
abbrev F.laws_markSignature : FuncId := 45
abbrev F.laws_markEquationS : FuncId := 46
abbrev F.laws_markInt64S : FuncId := 47
abbrev F.laws_markBinding : FuncId := 48
abbrev F.laws_markTermResult : FuncId := 49
abbrev F.laws_heldTermResult : FuncId := 50
abbrev F.impl_TermFault : FuncId := 61
abbrev F.laws_szSymbolS : FuncId := 88
abbrev F.laws_szInt64SS : FuncId := 89
abbrev F.laws_toSymbolS : FuncId := 94
abbrev F.laws_toInt64SS : FuncId := 95
abbrev F.impl_firstCode : FuncId := 97
abbrev F.laws_eqSymbolS : FuncId := 104
abbrev F.laws_eqInt64SS : FuncId := 105
abbrev F.laws_szEquation : FuncId := 107
abbrev F.spec_l5Fault : FuncId := 109
abbrev F.laws_toEquation : FuncId := 111
abbrev F.impl_EquationsFault : FuncId := 113
abbrev F.laws_eqEquation : FuncId := 117
abbrev F.laws_szInt64S : FuncId := 118
abbrev F.spec_SignatureFault : FuncId := 119
abbrev F.spec_EquationsFault : FuncId := 122
abbrev F.spec_l3Fault : FuncId := 123
abbrev F.spec_l1In : FuncId := 124
abbrev F.spec_l6Fault : FuncId := 125
abbrev F.spec_l3Place : FuncId := 126
abbrev F.spec_l1Same : FuncId := 127
abbrev F.spec_l6Apply : FuncId := 128
abbrev F.spec_l3Sub : FuncId := 129
abbrev F.spec_l3Replace : FuncId := 130
abbrev F.impl_within : FuncId := 131
abbrev F.impl_BindingFault : FuncId := 132
abbrev F.slices_Equal_Sint64 : FuncId := 133
abbrev F.impl_Binding_applied : FuncId := 134
abbrev F.impl_subterm : FuncId := 135
abbrev F.impl_fitting : FuncId := 136
abbrev F.impl_replaced : FuncId := 137
abbrev F.laws_markSymbolS : FuncId := 138
abbrev F.laws_markInt64SS : FuncId := 139
abbrev F.laws_heldInt64S : FuncId := 140
abbrev F.impl_SignatureFault : FuncId := 155
abbrev F.slices_ContainsFunc_Sint64 : FuncId := 156
abbrev F.impl_TermFault_1 : FuncId := 157
abbrev F.impl_isNode : FuncId := 158
abbrev F.impl_endOf : FuncId := 159
abbrev F.spec_l4Low : FuncId := 171
abbrev F.impl_EquationFault : FuncId := 178
abbrev F.spec_l4Fault : FuncId := 179
abbrev F.laws_szSymbol : FuncId := 185
abbrev F.spec_l1Ints : FuncId := 186
abbrev F.laws_toSymbol : FuncId := 187
abbrev F.cmp_Or_int64 : FuncId := 188
abbrev F.laws_eqSymbol : FuncId := 190
abbrev F.impl_isSymbol : FuncId := 194
abbrev F.spec_l2Name : FuncId := 198
abbrev F.spec_l3Node : FuncId := 202
abbrev F.spec_l3End : FuncId := 203
abbrev F.spec_l1Rise : FuncId := 204
abbrev F.spec_l6Term : FuncId := 205
abbrev F.impl_Binding_of : FuncId := 206
abbrev F.slices_Clone_Sint64 : FuncId := 207
abbrev F.laws_markText : FuncId := 208
abbrev F.impl_isName : FuncId := 220
abbrev F.impl_symbolIndex : FuncId := 221
abbrev F.slices_ContainsFunc_SSymbol : FuncId := 222
abbrev F.impl_SignatureFault_1 : FuncId := 223
abbrev F.slices_IndexFunc_Sint64 : FuncId := 224
abbrev F.impl_arityOf : FuncId := 225
abbrev F.impl_varsOf : FuncId := 230
abbrev F.impl_EquationFault_1 : FuncId := 231
abbrev F.spec_l2Symbol : FuncId := 232
abbrev F.slices_Index_Sint64 : FuncId := 234
abbrev F.strings_Trim : FuncId := 243
abbrev F.slices_IndexFunc_SSymbol : FuncId := 244
abbrev F.impl_symbolIndex_1 : FuncId := 245
abbrev F.slices_Sort_Sint64 : FuncId := 250
abbrev F.slices_Compact_Sint64 : FuncId := 251
noncomputable abbrev prog : Program := Tryz.prog
def A : Attrs := fun f => match f with
  | 45 => ⟨(some 0), .val, true, false, false⟩
  | 46 => ⟨(some 0), .sl, true, false, false⟩
  | 47 => ⟨(some 0), .sl, true, false, false⟩
  | 48 => ⟨(some 0), .val, true, false, false⟩
  | 49 => ⟨(some 0), .val, true, false, false⟩
  | 65 => ⟨(some 0), .val, true, false, false⟩
  | 66 => ⟨(some 0), .val, true, false, false⟩
  | 86 => ⟨(some 0), .val, true, false, false⟩
  | 103 => ⟨none, .sl, false, false, false⟩
  | 135 => ⟨none, .sl, false, false, false⟩
  | 136 => ⟨(some 0), .sl, true, true, false⟩
  | 138 => ⟨(some 0), .sl, true, false, false⟩
  | 139 => ⟨(some 0), .sl, true, false, false⟩
  | 148 => ⟨(some 0), .ptr [false, false], true, false, false⟩
  | 149 => ⟨(some 0), .ptr [false, false], true, false, false⟩
  | 150 => ⟨(some 0), .ptr [false, false], true, false, false⟩
  | 151 => ⟨(some 0), .ptr [false, false], true, false, false⟩
  | 152 => ⟨(some 0), .ptr [false, false], true, false, false⟩
  | 153 => ⟨(some 0), .ptr [false, false], true, false, false⟩
  | 154 => ⟨(some 0), .ptr [false, false], true, false, false⟩
  | 163 => ⟨(some 0), .sl, true, false, false⟩
  | 166 => ⟨(some 0), .ptr [false, false], true, false, false⟩
  | 167 => ⟨(some 0), .ptr [false, false], true, false, false⟩
  | 176 => ⟨(some 0), .ptr [false, false], true, false, false⟩
  | 205 => ⟨none, .sl, false, false, true⟩
  | 206 => ⟨none, .sl, false, false, true⟩
  | 214 => ⟨(some 0), .ptr [false, false], true, false, false⟩
  | 215 => ⟨(some 0), .ptr [false, false], true, false, false⟩
  | 216 => ⟨(some 0), .ptr [false, false], true, false, false⟩
  | 217 => ⟨(some 0), .ptr [false, false], true, false, false⟩
  | 218 => ⟨(some 0), .ptr [false, false], true, false, false⟩
  | 219 => ⟨(some 0), .ptr [false, false], true, false, false⟩
  | 228 => ⟨(some 0), .ptr [false, false], true, false, false⟩
  | 240 => ⟨(some 0), .ptr [true, true], true, false, false⟩
  | 241 => ⟨(some 0), .ptr [false, false], true, false, false⟩
  | 250 => ⟨(some 0), .sl, false, false, false⟩
  | 251 => ⟨(some 0), .sl, true, true, false⟩
  | _ => ⟨none, .sl, true, false, false⟩
def H : FuncId → Hints := fun f => match f with
  | 27 => ⟨fun b => look [] [(0, [.keepT [0, 1, 5], .keepO []])] b, fun r => look [] [] r⟩
  | 29 => ⟨fun b => look [] [(0, [.keepT [0, 3, 4], .keepO [448]])] b, fun r => look [] [] r⟩
  | 30 => ⟨fun b => look [] [(0, [.keepT [0, 3, 4], .keepO [448]])] b, fun r => look [] [] r⟩
  | 32 => ⟨fun b => look [] [(0, [.keepT [0, 1, 5], .keepO []])] b, fun r => look [] [] r⟩
  | 33 => ⟨fun b => look [] [(0, [.keepT [0, 1, 5], .keepO []])] b, fun r => look [] [] r⟩
  | 46 => ⟨fun b => look [] [(0, [.keepT [0, 1, 5], .keepO [1000000]])] b, fun r => look [] [(5, [.pack 1000000]), (3, [.pack 1000000])] r⟩
  | 47 => ⟨fun b => look [] [(0, [.keepT [0, 1, 5], .keepO [1000000]])] b, fun r => look [] [] r⟩
  | 88 => ⟨fun b => look [] [(0, [.keepT [0, 1, 5], .keepO []])] b, fun r => look [] [] r⟩
  | 89 => ⟨fun b => look [] [(0, [.keepT [0, 1, 5], .keepO []])] b, fun r => look [] [] r⟩
  | 94 => ⟨fun b => look [] [(0, [.keepT [0, 3, 4], .keepO [448]])] b, fun r => look [] [] r⟩
  | 95 => ⟨fun b => look [] [(0, [.keepT [0, 3, 4], .keepO [448]])] b, fun r => look [] [] r⟩
  | 104 => ⟨fun b => look [] [(0, [.keepT [0, 1, 5], .keepO []])] b, fun r => look [] [] r⟩
  | 105 => ⟨fun b => look [] [(0, [.keepT [0, 1, 5], .keepO []])] b, fun r => look [] [] r⟩
  | 109 => ⟨fun b => look [] [(0, [.keepT [0, 1, 5], .keepO []])] b, fun r => look [] [] r⟩
  | 113 => ⟨fun b => look [] [(0, [.keepT [2, 17, 18, 19], .keepO [128]])] b, fun r => look [] [] r⟩
  | 119 => ⟨fun b => look [] [(0, [.keepT [1, 3, 4], .keepO [64]]), (2, [.keepT [1, 3, 5], .keepO [64]]), (4, [.keepT [1, 3, 5, 6], .keepO [64]]), (6, [.keepT [1, 3, 7], .keepO [64]])] b, fun r => look [] [] r⟩
  | 123 => ⟨fun b => look [] [(0, [.keepT [0, 1, 5], .keepO []])] b, fun r => look [] [] r⟩
  | 125 => ⟨fun b => look [] [(0, [.keepT [0, 1, 5], .keepO []])] b, fun r => look [] [] r⟩
  | 127 => ⟨fun b => look [] [(0, [.keepT [0, 1, 5], .keepO []])] b, fun r => look [] [] r⟩
  | 128 => ⟨fun b => look [] [(0, [.keepT [0, 1, 5, 6], .keepO [512]])] b, fun r => look [] [] r⟩
  | 132 => ⟨fun b => look [] [(0, [.keepT [2, 3, 29, 30, 31], .keepO [128, 192]]), (2, [.keepT [3, 9], .keepO [192]])] b, fun r => look [] [] r⟩
  | 133 => ⟨fun b => look [] [(0, [.keepT [0, 1, 12, 13], .keepO []])] b, fun r => look [] [] r⟩
  | 134 => ⟨fun b => look [] [(0, [.keepT [2, 5, 11, 12, 13], .keepO [128, 640]])] b, fun r => look [] [] r⟩
  | 138 => ⟨fun b => look [] [(0, [.keepT [0, 1, 5], .keepO [1000000]])] b, fun r => look [] [] r⟩
  | 139 => ⟨fun b => look [] [(0, [.keepT [0, 1, 5], .keepO [1000000]])] b, fun r => look [] [(3, [.pack 1000000])] r⟩
  | 140 => ⟨fun b => look [] [(0, [.keepT [0, 1, 5], .keepO []])] b, fun r => look [] [] r⟩
  | 155 => ⟨fun b => look [] [(0, [.keepT [1, 18, 19, 20], .keepO [64]]), (2, [.keepT [1, 34, 35, 36], .keepO [64]])] b, fun r => look [] [] r⟩
  | 159 => ⟨fun b => look [] [(0, [.keepT [1, 2, 3, 7], .keepO [192]])] b, fun r => look [] [] r⟩
  | 171 => ⟨fun b => look [] [(0, [.keepT [0, 3], .keepO []])] b, fun r => look [] [] r⟩
  | 188 => ⟨fun b => look [] [(0, [.keepT [3, 6, 7, 8], .keepO []])] b, fun r => look [] [] r⟩
  | 198 => ⟨fun b => look [] [(0, [.keepT [0, 3], .keepO []])] b, fun r => look [] [] r⟩
  | 203 => ⟨fun b => look [] [(0, [.keepT [0, 1, 2, 7, 8], .keepO []])] b, fun r => look [] [] r⟩
  | 204 => ⟨fun b => look [] [(0, [.keepT [0, 3], .keepO []])] b, fun r => look [] [] r⟩
  | 205 => ⟨fun b => look [] [(0, [.keepT [0, 1, 5], .keepO []])] b, fun r => look [] [] r⟩
  | 208 => ⟨fun b => look [] [(0, [.keepT [0, 3], .keepO []])] b, fun r => look [] [] r⟩
  | 224 => ⟨fun b => look [] [(0, [.keepT [0, 1, 7, 8], .keepO []])] b, fun r => look [] [] r⟩
  | 230 => ⟨fun b => look [] [(0, [.keepT [3, 9, 10, 11], .keepO [512]]), (2, [.keepT [3, 9, 10, 11, 15, 16, 17], .keepO [512]])] b, fun r => look [] [] r⟩
  | 234 => ⟨fun b => look [] [(0, [.keepT [0, 1, 7, 8], .keepO []])] b, fun r => look [] [] r⟩
  | 244 => ⟨fun b => look [] [(0, [.keepT [0, 1, 7, 8], .keepO []])] b, fun r => look [] [] r⟩
  | _ => ⟨fun _ => [], fun _ => []⟩
def X : Ext := fun f => match f with
  | 207 => some cloneE
  | 243 => some trimE
  | 250 => some sortE
  | 251 => some compactE
  | _ => none
theorem X_sound : ∀ f e, X f = some e → ∀ E, (∀ g args r, E g args = some r → Meets prog (A g) g args r) → ∀ args r, e E args = some r → Meets prog (A f) f args r := by
  intro f e h E hE args r hr
  unfold X at h
  split at h
  · cases h; exact clone_sound_here args r hr
  · cases h; exact trim_sound_here args r hr
  · cases h; exact sort_sound_here args r hr
  · cases h; exact compact_sound_here args r hr
  · cases h
noncomputable def LIM : Env := lim prog A H X
end Ev
