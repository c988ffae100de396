import Derived.Test.YtfolgfbhllmdiaaGreatDoorProg
import Derived.Test.YtfolgfbhllmdiaaGreatDoorEvRow
import Derived.Test.YtfolgfbhllmdiaaGreatDoorLay
import Derived.KernelRfl
open Go Go.Proofs
set_option maxRecDepth 100000
namespace Ev
abbrev F.laws_FnExactRulesFault : FuncId := 5
abbrev F.laws_FnExactHolds : FuncId := 8
abbrev F.laws_FnExactAllHold : FuncId := 11
abbrev F.laws_szSignature : FuncId := 27
abbrev F.laws_szEquationS : FuncId := 28
abbrev F.spec_RulesFault : FuncId := 29
abbrev F.laws_toSignature : FuncId := 30
abbrev F.laws_toEquationS : FuncId := 31
abbrev F.impl_RulesFault : FuncId := 32
abbrev F.laws_eqSignature : FuncId := 33
abbrev F.laws_eqEquationS : FuncId := 34
abbrev F.laws_szInt64SS : FuncId := 35
abbrev F.laws_toInt64S : FuncId := 37
abbrev F.laws_toInt64SS : FuncId := 38
abbrev F.laws_eqInt64S : FuncId := 41
abbrev F.laws_eqInt64SS : FuncId := 42
abbrev F.laws_szAlgebra : FuncId := 51
abbrev F.laws_szEquation : FuncId := 52
abbrev F.spec_Holds : FuncId := 53
abbrev F.laws_toAlgebra : FuncId := 54
abbrev F.laws_toEquation : FuncId := 55
abbrev F.impl_Holds : FuncId := 56
abbrev F.laws_eqIntResult : FuncId := 57
abbrev F.laws_eqAlgebra : FuncId := 58
abbrev F.laws_eqEquation : FuncId := 59
abbrev F.spec_AllHold : FuncId := 77
abbrev F.impl_AllHold : FuncId := 78
abbrev F.spec_l1In : FuncId := 83
abbrev F.impl_TermFault : FuncId := 87
abbrev F.impl_firstCode : FuncId := 89
abbrev F.impl_EquationsFault : FuncId := 91
abbrev F.spec_SignatureFault : FuncId := 104
abbrev F.spec_l3Fault : FuncId := 106
abbrev F.laws_szSymbolS : FuncId := 111
abbrev F.spec_l8Fault : FuncId := 112
abbrev F.laws_toSymbolS : FuncId := 113
abbrev F.slices_ContainsFunc_SEquation : FuncId := 114
abbrev F.impl_RulesFault_1 : FuncId := 115
abbrev F.impl_isRule : FuncId := 116
abbrev F.laws_eqSymbolS : FuncId := 117
abbrev F.laws_szInt64S : FuncId := 118
abbrev F.spec_AlgebraFault : FuncId := 129
abbrev F.spec_l4Fault : FuncId := 130
abbrev F.spec_l10Bit : FuncId := 131
abbrev F.spec_l10Holds : FuncId := 132
abbrev F.impl_AlgebraFault : FuncId := 133
abbrev F.impl_EquationFault : FuncId := 134
abbrev F.impl_truth : FuncId := 135
abbrev F.impl_Algebra_holds : FuncId := 136
abbrev F.impl_within : FuncId := 151
abbrev F.spec_l5Fault : FuncId := 165
abbrev F.spec_l10All : FuncId := 166
abbrev F.impl_AllHold_1 : FuncId := 167
abbrev F.impl_SignatureFault : FuncId := 178
abbrev F.slices_ContainsFunc_Sint64 : FuncId := 179
abbrev F.impl_TermFault_1 : FuncId := 180
abbrev F.impl_isNode : FuncId := 181
abbrev F.impl_endOf : FuncId := 182
abbrev F.cmp_Or_int64 : FuncId := 183
abbrev F.impl_isSymbol : FuncId := 185
abbrev F.slices_Contains_Sint64 : FuncId := 186
abbrev F.spec_l2Name : FuncId := 193
abbrev F.spec_l2Symbol : FuncId := 194
abbrev F.spec_l3Node : FuncId := 195
abbrev F.spec_l3End : FuncId := 196
abbrev F.laws_szSymbol : FuncId := 197
abbrev F.spec_l3Count : FuncId := 198
abbrev F.laws_toSymbol : FuncId := 199
abbrev F.slices_IndexFunc_SEquation : FuncId := 200
abbrev F.impl_varsOf : FuncId := 201
abbrev F.impl_isRule_1 : FuncId := 202
abbrev F.laws_eqSymbol : FuncId := 203
abbrev F.spec_l10Pow : FuncId := 209
abbrev F.spec_l4Low : FuncId := 210
abbrev F.spec_l10Eval : FuncId := 211
abbrev F.impl_power : FuncId := 212
abbrev F.impl_AlgebraFault_1 : FuncId := 213
abbrev F.impl_EquationFault_1 : FuncId := 214
abbrev F.impl_Algebra_eval : FuncId := 215
abbrev F.impl_isName : FuncId := 247
abbrev F.impl_symbolIndex : FuncId := 248
abbrev F.slices_ContainsFunc_SSymbol : FuncId := 249
abbrev F.impl_SignatureFault_1 : FuncId := 250
abbrev F.slices_IndexFunc_Sint64 : FuncId := 251
abbrev F.impl_arityOf : FuncId := 252
abbrev F.slices_Index_Sint64 : FuncId := 253
abbrev F.slices_Sort_Sint64 : FuncId := 259
abbrev F.slices_Compact_Sint64 : FuncId := 260
abbrev F.impl_Algebra_evalAt : FuncId := 265
abbrev F.strings_Trim : FuncId := 298
abbrev F.slices_IndexFunc_SSymbol : FuncId := 299
abbrev F.impl_symbolIndex_1 : FuncId := 300
noncomputable abbrev prog : Program := Tryz.prog
def A : Attrs := fun f => match f with
  | 43 => ⟨(some 0), .val, true, false, false⟩
  | 44 => ⟨(some 0), .sl, true, false, false⟩
  | 45 => ⟨(some 0), .sl, true, false, false⟩
  | 46 => ⟨(some 0), .val, true, false, false⟩
  | 97 => ⟨(some 0), .ptr [false, false], true, false, false⟩
  | 98 => ⟨(some 0), .ptr [false, false], true, false, false⟩
  | 99 => ⟨(some 0), .ptr [false, false], true, false, false⟩
  | 100 => ⟨(some 0), .ptr [false, false], true, false, false⟩
  | 101 => ⟨(some 0), .ptr [false, false], true, false, false⟩
  | 102 => ⟨(some 0), .ptr [false, false], true, false, false⟩
  | 103 => ⟨(some 0), .ptr [false, false], true, false, false⟩
  | 110 => ⟨none, .sl, false, false, false⟩
  | 125 => ⟨(some 0), .sl, true, false, false⟩
  | 127 => ⟨(some 0), .ptr [false, false], true, false, false⟩
  | 146 => ⟨(some 0), .ptr [false, false], true, false, false⟩
  | 150 => ⟨(some 0), .ptr [false, false], true, false, false⟩
  | 155 => ⟨(some 0), .sl, true, true, false⟩
  | 164 => ⟨(some 0), .ptr [false, false], true, false, false⟩
  | 171 => ⟨none, .sl, false, false, false⟩
  | 190 => ⟨(some 0), .ptr [false, false], true, false, false⟩
  | 191 => ⟨(some 0), .ptr [false, false], true, false, false⟩
  | 192 => ⟨(some 0), .ptr [false, false], true, false, false⟩
  | 225 => ⟨(some 0), .ptr [false, false], true, false, false⟩
  | 230 => ⟨none, .sl, false, false, false⟩
  | 231 => ⟨(some 0), .ptr [false, false], true, false, false⟩
  | 232 => ⟨none, .sl, false, false, false⟩
  | 234 => ⟨none, .sl, false, false, false⟩
  | 235 => ⟨(some 0), .ptr [false, false], true, false, false⟩
  | 236 => ⟨(some 0), .ptr [false, false], true, false, false⟩
  | 237 => ⟨(some 0), .ptr [false, false], true, false, false⟩
  | 238 => ⟨(some 0), .ptr [false, false], true, false, false⟩
  | 240 => ⟨none, .sl, false, false, false⟩
  | 258 => ⟨(some 0), .ptr [false, false], true, false, false⟩
  | 259 => ⟨(some 0), .sl, false, false, false⟩
  | 260 => ⟨(some 0), .sl, true, true, false⟩
  | 276 => ⟨(some 0), .ptr [false, false], true, false, false⟩
  | 277 => ⟨(some 0), .ptr [false, false], true, false, false⟩
  | 336 => ⟨none, .sl, false, false, false⟩
  | 338 => ⟨none, .sl, false, false, false⟩
  | 353 => ⟨none, .sl, false, false, false⟩
  | 364 => ⟨(some 0), .ptr [true, true], true, false, false⟩
  | _ => ⟨none, .sl, true, false, false⟩
def H : FuncId → Hints := fun f => match f with
  | 28 => ⟨fun b => look [] [(0, [.keepT [0, 1, 5], .keepO []])] b, fun r => look [] [] r⟩
  | 31 => ⟨fun b => look [] [(0, [.keepT [0, 3, 4], .keepO [448]])] b, fun r => look [] [] r⟩
  | 34 => ⟨fun b => look [] [(0, [.keepT [0, 1, 5], .keepO []])] b, fun r => look [] [] r⟩
  | 35 => ⟨fun b => look [] [(0, [.keepT [0, 1, 5], .keepO []])] b, fun r => look [] [] r⟩
  | 37 => ⟨fun b => look [] [(0, [.keepT [0, 3, 4], .keepO [448]])] b, fun r => look [] [] r⟩
  | 38 => ⟨fun b => look [] [(0, [.keepT [0, 3, 4], .keepO [448]])] b, fun r => look [] [] r⟩
  | 41 => ⟨fun b => look [] [(0, [.keepT [0, 1, 5], .keepO []])] b, fun r => look [] [] r⟩
  | 42 => ⟨fun b => look [] [(0, [.keepT [0, 1, 5], .keepO []])] b, fun r => look [] [] r⟩
  | 91 => ⟨fun b => look [] [(0, [.keepT [2, 17, 18, 19], .keepO [128]])] b, fun r => look [] [] r⟩
  | 104 => ⟨fun b => look [] [(0, [.keepT [1, 3, 4], .keepO [64]]), (2, [.keepT [1, 3, 5], .keepO [64]]), (4, [.keepT [1, 3, 5, 6], .keepO [64]]), (6, [.keepT [1, 3, 7], .keepO [64]])] b, fun r => look [] [] r⟩
  | 106 => ⟨fun b => look [] [(0, [.keepT [0, 1, 5], .keepO []])] b, fun r => look [] [] r⟩
  | 111 => ⟨fun b => look [] [(0, [.keepT [0, 1, 5], .keepO []])] b, fun r => look [] [] r⟩
  | 112 => ⟨fun b => look [] [(0, [.keepT [1, 6], .keepO []]), (2, [.keepT [1, 6, 7], .keepO []])] b, fun r => look [] [] r⟩
  | 113 => ⟨fun b => look [] [(0, [.keepT [0, 3, 4], .keepO [448]])] b, fun r => look [] [] r⟩
  | 117 => ⟨fun b => look [] [(0, [.keepT [0, 1, 5], .keepO []])] b, fun r => look [] [] r⟩
  | 129 => ⟨fun b => look [] [(0, [.keepT [2, 3, 6], .keepO [128, 192]]), (2, [.keepT [2, 3, 6, 7], .keepO [128, 192]])] b, fun r => look [] [] r⟩
  | 132 => ⟨fun b => look [] [(0, [.keepT [0, 1, 2, 7], .keepO []]), (2, [.keepT [0, 1, 2, 7, 8, 9, 10], .keepO [1280]])] b, fun r => look [] [] r⟩
  | 133 => ⟨fun b => look [] [(0, [.keepT [2, 3, 25, 26, 27], .keepO [128, 192]])] b, fun r => look [] [] r⟩
  | 136 => ⟨fun b => look [] [(0, [.keepT [3, 4, 5, 7, 12, 13], .keepO [192, 256, 320, 576]]), (2, [.keepT [3, 4, 5, 7, 12, 13, 29, 30], .keepO [192, 256, 320, 576]])] b, fun r => look [] [] r⟩
  | 165 => ⟨fun b => look [] [(0, [.keepT [0, 1, 5], .keepO []])] b, fun r => look [] [] r⟩
  | 166 => ⟨fun b => look [] [(0, [.keepT [0, 1, 2, 7], .keepO []])] b, fun r => look [] [] r⟩
  | 178 => ⟨fun b => look [] [(0, [.keepT [1, 18, 19, 20], .keepO [64]]), (2, [.keepT [1, 34, 35, 36], .keepO [64]])] b, fun r => look [] [] r⟩
  | 182 => ⟨fun b => look [] [(0, [.keepT [1, 2, 3, 7], .keepO [192]])] b, fun r => look [] [] r⟩
  | 183 => ⟨fun b => look [] [(0, [.keepT [3, 6, 7, 8], .keepO []])] b, fun r => look [] [] r⟩
  | 193 => ⟨fun b => look [] [(0, [.keepT [0, 3], .keepO []])] b, fun r => look [] [] r⟩
  | 196 => ⟨fun b => look [] [(0, [.keepT [0, 1, 2, 7, 8], .keepO []])] b, fun r => look [] [] r⟩
  | 198 => ⟨fun b => look [] [(0, [.keepT [0, 1, 5, 6], .keepO []])] b, fun r => look [] [] r⟩
  | 200 => ⟨fun b => look [] [(0, [.keepT [0, 1, 7, 8], .keepO []])] b, fun r => look [] [] r⟩
  | 201 => ⟨fun b => look [] [(0, [.keepT [3, 9, 10, 11], .keepO [512]]), (2, [.keepT [3, 9, 10, 11, 15, 16, 17], .keepO [512]])] b, fun r => look [] [] r⟩
  | 210 => ⟨fun b => look [] [(0, [.keepT [0, 3], .keepO []])] b, fun r => look [] [] r⟩
  | 211 => ⟨fun b => look [] [(0, [.keepT [0, 1, 2, 3, 4, 11, 12, 13], .keepO []])] b, fun r => look [] [] r⟩
  | 212 => ⟨fun b => look [] [(0, [.keepT [0, 5, 6, 7], .keepO []])] b, fun r => look [] [] r⟩
  | 251 => ⟨fun b => look [] [(0, [.keepT [0, 1, 7, 8], .keepO []])] b, fun r => look [] [] r⟩
  | 253 => ⟨fun b => look [] [(0, [.keepT [0, 1, 7, 8], .keepO []])] b, fun r => look [] [] r⟩
  | 265 => ⟨fun b => look [] [(0, [.keepT [2, 3, 4, 5, 6, 12, 13, 35, 36], .keepO [320, 384]])] b, fun r => look [] [] r⟩
  | 299 => ⟨fun b => look [] [(0, [.keepT [0, 1, 7, 8], .keepO []])] b, fun r => look [] [] r⟩
  | _ => ⟨fun _ => [], fun _ => []⟩
def X : Ext := fun f => match f with
  | 259 => some sortE
  | 260 => some compactE
  | 298 => some trimE
  | _ => none
theorem X_sound : ∀ f e, X f = some e → ∀ E, (∀ g args r, E g args = some r → Meets prog (A g) g args r) → ∀ args r, e E args = some r → Meets prog (A f) f args r := by
  intro f e h E hE args r hr
  unfold X at h
  split at h
  · cases h; exact sort_sound_here args r hr
  · cases h; exact compact_sound_here args r hr
  · cases h; exact trim_sound_here args r hr
  · cases h
noncomputable def LIM : Env := lim prog A H X
end Ev
