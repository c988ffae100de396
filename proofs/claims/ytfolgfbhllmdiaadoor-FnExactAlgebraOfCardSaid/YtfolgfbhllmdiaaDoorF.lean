import Derived.Test.YtfolgfbhllmdiaaDoorProg
import Derived.Test.YtfolgfbhllmdiaaDoorEvRow
import Derived.Test.YtfolgfbhllmdiaaDoorLay
import Derived.KernelRfl
open Go Go.Proofs
set_option maxRecDepth 100000
namespace Ev
abbrev F.laws_FnExactAlgebraOf : FuncId := 3
abbrev F.laws_FnExactPlainTheory : FuncId := 4
abbrev F.laws_FnExactEvalTerm : FuncId := 5
abbrev F.laws_szSignature : FuncId := 6
abbrev F.spec_AlgebraOf : FuncId := 7
abbrev F.laws_toSignature : FuncId := 8
abbrev F.impl_AlgebraOf : FuncId := 9
abbrev F.laws_eqAlgebraResult : FuncId := 10
abbrev F.laws_eqSignature : FuncId := 11
abbrev F.laws_markSignature : FuncId := 12
abbrev F.laws_markAlgebraResult : FuncId := 13
abbrev F.laws_heldAlgebraResult : FuncId := 14
abbrev F.spec_PlainTheory : FuncId := 15
abbrev F.impl_PlainTheory : FuncId := 16
abbrev F.laws_eqTheoryResult : FuncId := 17
abbrev F.laws_markTheoryResult : FuncId := 18
abbrev F.laws_heldTheoryResult : FuncId := 19
abbrev F.laws_szAlgebra : FuncId := 20
abbrev F.spec_EvalTerm : FuncId := 21
abbrev F.laws_toAlgebra : FuncId := 22
abbrev F.laws_toInt64S : FuncId := 23
abbrev F.impl_EvalTerm : FuncId := 24
abbrev F.laws_eqIntResult : FuncId := 25
abbrev F.laws_eqAlgebra : FuncId := 26
abbrev F.laws_eqInt64S : FuncId := 27
abbrev F.laws_szSymbolS : FuncId := 28
abbrev F.spec_SignatureFault : FuncId := 29
abbrev F.spec_l1In : FuncId := 30
abbrev F.spec_l10Make : FuncId := 31
abbrev F.laws_toSymbolS : FuncId := 32
abbrev F.impl_SignatureFault : FuncId := 33
abbrev F.impl_within : FuncId := 34
abbrev F.impl_power : FuncId := 35
abbrev F.laws_eqSymbolS : FuncId := 36
abbrev F.laws_markSymbolS : FuncId := 37
abbrev F.laws_markAlgebra : FuncId := 38
abbrev F.laws_heldAlgebra : FuncId := 39
abbrev F.spec_l13Plain : FuncId := 40
abbrev F.impl_plainTheory : FuncId := 41
abbrev F.laws_eqTheory : FuncId := 42
abbrev F.laws_markTheory : FuncId := 43
abbrev F.laws_heldTheory : FuncId := 44
abbrev F.laws_szInt64SS : FuncId := 45
abbrev F.spec_AlgebraFault : FuncId := 46
abbrev F.spec_l3Fault : FuncId := 47
abbrev F.spec_l4Low : FuncId := 48
abbrev F.spec_l10Eval : FuncId := 49
abbrev F.laws_toInt64SS : FuncId := 50
abbrev F.impl_firstCode : FuncId := 51
abbrev F.impl_AlgebraFault : FuncId := 52
abbrev F.impl_TermFault : FuncId := 53
abbrev F.slices_ContainsFunc_Sint64 : FuncId := 54
abbrev F.impl_EvalTerm_1 : FuncId := 55
abbrev F.slices_Min_Sint64 : FuncId := 56
abbrev F.impl_Algebra_eval : FuncId := 57
abbrev F.laws_eqInt64SS : FuncId := 58
abbrev F.laws_szSymbol : FuncId := 59
abbrev F.spec_l2Name : FuncId := 60
abbrev F.spec_l10Pow : FuncId := 61
abbrev F.laws_toSymbol : FuncId := 62
abbrev F.impl_isName : FuncId := 63
abbrev F.impl_symbolIndex : FuncId := 64
abbrev F.slices_ContainsFunc_SSymbol : FuncId := 65
abbrev F.impl_SignatureFault_1 : FuncId := 66
abbrev F.laws_eqSymbol : FuncId := 67
abbrev F.laws_markText : FuncId := 68
abbrev F.laws_markInt64SS : FuncId := 69
abbrev F.laws_heldInt64SS : FuncId := 70
abbrev F.spec_l2Rise : FuncId := 71
abbrev F.laws_eqEquationS : FuncId := 72
abbrev F.laws_markInt64S : FuncId := 73
abbrev F.laws_markEquationS : FuncId := 74
abbrev F.laws_heldInt64S : FuncId := 75
abbrev F.laws_heldEquationS : FuncId := 76
abbrev F.laws_szInt64S : FuncId := 77
abbrev F.spec_l3Node : FuncId := 78
abbrev F.spec_l3End : FuncId := 79
abbrev F.cmp_Or_int64 : FuncId := 80
abbrev F.impl_AlgebraFault_1 : FuncId := 81
abbrev F.impl_TermFault_1 : FuncId := 82
abbrev F.impl_isNode : FuncId := 83
abbrev F.impl_endOf : FuncId := 84
abbrev F.slices_IndexFunc_Sint64 : FuncId := 85
abbrev F.impl_Algebra_evalAt : FuncId := 86
abbrev F.strings_Trim : FuncId := 87
abbrev F.slices_IndexFunc_SSymbol : FuncId := 88
abbrev F.impl_symbolIndex_1 : FuncId := 89
abbrev F.laws_eqEquation : FuncId := 90
abbrev F.spec_l2Symbol : FuncId := 91
abbrev F.impl_isSymbol : FuncId := 92
abbrev F.impl_arityOf : FuncId := 93
noncomputable abbrev prog : Program := Tryd.prog
def A : Attrs := fun f => match f with
  | 12 => ⟨(some 0), .val, true, false, false⟩
  | 13 => ⟨(some 0), .val, true, false, false⟩
  | 18 => ⟨(some 0), .val, true, false, false⟩
  | 37 => ⟨(some 0), .sl, true, false, false⟩
  | 38 => ⟨(some 0), .val, true, false, false⟩
  | 43 => ⟨(some 0), .val, true, false, false⟩
  | 69 => ⟨(some 0), .sl, true, false, false⟩
  | 73 => ⟨(some 0), .sl, true, false, false⟩
  | 74 => ⟨(some 0), .sl, true, false, false⟩
  | _ => ⟨none, .sl, true, false, false⟩
def H : FuncId → Hints := fun f => match f with
  | 9 => ⟨fun b => look [] [(0, [.keepT [1, 2, 6, 8, 30, 31, 32], .adoptO 512 1 518193 1, .keepO [384, 512, 518193]]), (2, [.keepT [1, 2, 6, 8, 11, 30, 31, 32, 40, 41], .keepO [384, 512, 2304, 518193]])] b, fun r => look [] [] r⟩
  | 21 => ⟨fun b => look [] [(0, [.keepT [2, 3, 4, 5, 8, 11], .keepO [256, 320, 512]])] b, fun r => look [] [] r⟩
  | 23 => ⟨fun b => look [] [(0, [.keepT [0, 3, 4], .keepO [448]])] b, fun r => look [] [] r⟩
  | 27 => ⟨fun b => look [] [(0, [.keepT [0, 1, 5], .keepO []])] b, fun r => look [] [] r⟩
  | 28 => ⟨fun b => look [] [(0, [.keepT [0, 1, 5], .keepO []])] b, fun r => look [] [] r⟩
  | 29 => ⟨fun b => look [] [(0, [.keepT [1, 3, 4], .keepO [64]]), (2, [.keepT [1, 3, 5], .keepO [64]]), (4, [.keepT [1, 3, 5, 6], .keepO [64]]), (6, [.keepT [1, 3, 7], .keepO [64]])] b, fun r => look [] [] r⟩
  | 31 => ⟨fun b => look [] [(0, [.keepT [0, 1, 2, 6, 7, 8], .adoptO 448 1 517169 1, .keepO [384, 448, 517169]]), (2, [.keepT [0, 1, 2, 6, 7, 8, 9, 10], .keepO [384, 448, 1408, 517169]])] b, fun r => look [] [] r⟩
  | 32 => ⟨fun b => look [] [(0, [.keepT [0, 3, 4], .keepO [448]])] b, fun r => look [] [] r⟩
  | 33 => ⟨fun b => look [] [(0, [.keepT [1, 18, 19, 20], .keepO [64]]), (2, [.keepT [1, 34, 35, 36], .keepO [64]])] b, fun r => look [] [] r⟩
  | 35 => ⟨fun b => look [] [(0, [.keepT [0, 5, 6, 7], .keepO []])] b, fun r => look [] [] r⟩
  | 36 => ⟨fun b => look [] [(0, [.keepT [0, 1, 5], .keepO []])] b, fun r => look [] [] r⟩
  | 37 => ⟨fun b => look [] [(0, [.keepT [0, 1, 5], .keepO [1000000]])] b, fun r => look [] [] r⟩
  | 41 => ⟨fun b => look [] [(0, [.keepT [2, 3, 8, 9], .adoptO 192 0 513072 1, .keepO [128, 192, 513072]])] b, fun r => look [] [] r⟩
  | 45 => ⟨fun b => look [] [(0, [.keepT [0, 1, 5], .keepO []])] b, fun r => look [] [] r⟩
  | 46 => ⟨fun b => look [] [(0, [.keepT [2, 3, 6], .keepO [128, 192]]), (2, [.keepT [2, 3, 6, 7], .keepO [128, 192]])] b, fun r => look [] [] r⟩
  | 47 => ⟨fun b => look [] [(0, [.keepT [0, 1, 5], .keepO []])] b, fun r => look [] [] r⟩
  | 48 => ⟨fun b => look [] [(0, [.keepT [0, 3], .keepO []])] b, fun r => look [] [] r⟩
  | 49 => ⟨fun b => look [] [(0, [.keepT [0, 1, 2, 3, 4, 11, 12, 13], .keepO []])] b, fun r => look [] [] r⟩
  | 50 => ⟨fun b => look [] [(0, [.keepT [0, 3, 4], .keepO [448]])] b, fun r => look [] [] r⟩
  | 52 => ⟨fun b => look [] [(0, [.keepT [2, 3, 25, 26, 27], .keepO [128, 192]])] b, fun r => look [] [] r⟩
  | 56 => ⟨fun b => look [] [(0, [.keepT [0, 3, 4], .keepO []])] b, fun r => look [] [] r⟩
  | 58 => ⟨fun b => look [] [(0, [.keepT [0, 1, 5], .keepO []])] b, fun r => look [] [] r⟩
  | 60 => ⟨fun b => look [] [(0, [.keepT [0, 3], .keepO []])] b, fun r => look [] [] r⟩
  | 68 => ⟨fun b => look [] [(0, [.keepT [0, 3], .keepO []])] b, fun r => look [] [] r⟩
  | 69 => ⟨fun b => look [] [(0, [.keepT [0, 1, 5], .keepO [1000000]])] b, fun r => look [] [(3, [.pack 1000000])] r⟩
  | 70 => ⟨fun b => look [] [(0, [.keepT [0, 1, 5], .keepO []])] b, fun r => look [] [] r⟩
  | 71 => ⟨fun b => look [] [(0, [.keepT [0, 3, 4], .keepO [320]])] b, fun r => look [] [] r⟩
  | 72 => ⟨fun b => look [] [(0, [.keepT [0, 1, 5], .keepO []])] b, fun r => look [] [] r⟩
  | 73 => ⟨fun b => look [] [(0, [.keepT [0, 1, 5], .keepO [1000000]])] b, fun r => look [] [] r⟩
  | 74 => ⟨fun b => look [] [(0, [.keepT [0, 1, 5], .keepO [1000000]])] b, fun r => look [] [(5, [.pack 1000000]), (3, [.pack 1000000])] r⟩
  | 75 => ⟨fun b => look [] [(0, [.keepT [0, 1, 5], .keepO []])] b, fun r => look [] [] r⟩
  | 76 => ⟨fun b => look [] [(0, [.keepT [0, 1, 5], .keepO []])] b, fun r => look [] [] r⟩
  | 79 => ⟨fun b => look [] [(0, [.keepT [0, 1, 2, 7, 8], .keepO []])] b, fun r => look [] [] r⟩
  | 80 => ⟨fun b => look [] [(0, [.keepT [3, 6, 7, 8], .keepO []])] b, fun r => look [] [] r⟩
  | 84 => ⟨fun b => look [] [(0, [.keepT [1, 2, 3, 7], .keepO [192]])] b, fun r => look [] [] r⟩
  | 85 => ⟨fun b => look [] [(0, [.keepT [0, 1, 7, 8], .keepO []])] b, fun r => look [] [] r⟩
  | 86 => ⟨fun b => look [] [(0, [.keepT [2, 3, 4, 5, 6, 12, 13, 35, 36], .keepO [320, 384]])] b, fun r => look [] [] r⟩
  | 88 => ⟨fun b => look [] [(0, [.keepT [0, 1, 7, 8], .keepO []])] b, fun r => look [] [] r⟩
  | _ => ⟨fun _ => [], fun _ => []⟩
def X : Ext := fun f => match f with
  | 87 => some trimE
  | _ => none
theorem X_sound : ∀ f e, X f = some e → ∀ E, (∀ g args r, E g args = some r → Meets prog (A g) g args r) → ∀ args r, e E args = some r → Meets prog (A f) f args r := by
  intro f e h E hE args r hr
  unfold X at h
  split at h
  · cases h; exact trim_sound_here args r hr
  · cases h
noncomputable def LIM : Env := lim prog A H X
end Ev
