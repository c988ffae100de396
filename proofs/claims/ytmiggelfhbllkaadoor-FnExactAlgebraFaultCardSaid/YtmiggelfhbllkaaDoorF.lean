import Derived.Test.YtmiggelfhbllkaaDoorProg
import Derived.Test.YtmiggelfhbllkaaDoorEvLoop
import Derived.Test.YtmiggelfhbllkaaDoorLay
import Derived.KernelRfl
open Go Go.Proofs
namespace Ev
abbrev F.laws_FnExactAlgebraFault : FuncId := 3
abbrev F.laws_szSignature : FuncId := 4
abbrev F.laws_szAlgebra : FuncId := 5
abbrev F.spec_AlgebraFault : FuncId := 6
abbrev F.laws_toSignature : FuncId := 7
abbrev F.laws_toAlgebra : FuncId := 8
abbrev F.impl_AlgebraFault : FuncId := 9
abbrev F.laws_eqSignature : FuncId := 10
abbrev F.laws_eqAlgebra : FuncId := 11
abbrev F.laws_szSymbolS : FuncId := 12
abbrev F.laws_szInt64SS : FuncId := 13
abbrev F.spec_SignatureFault : FuncId := 14
abbrev F.spec_l1In : FuncId := 15
abbrev F.spec_l10Pow : FuncId := 16
abbrev F.laws_toSymbolS : FuncId := 17
abbrev F.laws_toInt64SS : FuncId := 18
abbrev F.impl_SignatureFault : FuncId := 19
abbrev F.impl_within : FuncId := 20
abbrev F.impl_power : FuncId := 21
abbrev F.slices_ContainsFunc_Sint64 : FuncId := 22
abbrev F.impl_AlgebraFault_1 : FuncId := 23
abbrev F.laws_eqSymbolS : FuncId := 24
abbrev F.laws_eqInt64SS : FuncId := 25
abbrev F.laws_szSymbol : FuncId := 26
abbrev F.laws_szInt64S : FuncId := 27
abbrev F.spec_l2Name : FuncId := 28
abbrev F.laws_toSymbol : FuncId := 29
abbrev F.laws_toInt64S : FuncId := 30
abbrev F.impl_isName : FuncId := 31
abbrev F.impl_symbolIndex : FuncId := 32
abbrev F.slices_ContainsFunc_SSymbol : FuncId := 33
abbrev F.impl_SignatureFault_1 : FuncId := 34
abbrev F.slices_IndexFunc_Sint64 : FuncId := 35
abbrev F.laws_eqSymbol : FuncId := 36
abbrev F.laws_eqInt64S : FuncId := 37
abbrev F.strings_Trim : FuncId := 38
abbrev F.slices_IndexFunc_SSymbol : FuncId := 39
abbrev F.impl_symbolIndex_1 : FuncId := 40
noncomputable abbrev prog : Program := Tryd.prog
def A : Attrs := fun _ => ⟨none, false, true⟩
def H : FuncId → Hints := fun f => match f with
  | 6 => ⟨fun b => look [] [(0, [.keepT [2, 3, 6], .keepO [128, 192]]), (2, [.keepT [2, 3, 6, 7], .keepO [128, 192]])] b, fun _ => []⟩
  | 9 => ⟨fun b => look [] [(0, [.keepT [2, 3, 25, 26, 27], .keepO [128, 192]])] b, fun _ => []⟩
  | 12 => ⟨fun b => look [] [(0, [.keepT [0, 1, 5], .keepO []])] b, fun _ => []⟩
  | 13 => ⟨fun b => look [] [(0, [.keepT [0, 1, 5], .keepO []])] b, fun _ => []⟩
  | 14 => ⟨fun b => look [] [(0, [.keepT [1, 3, 4], .keepO [64]]), (2, [.keepT [1, 3, 5], .keepO [64]]), (4, [.keepT [1, 3, 5, 6], .keepO [64]]), (6, [.keepT [1, 3, 7], .keepO [64]])] b, fun _ => []⟩
  | 17 => ⟨fun b => look [] [(0, [.keepT [0, 3, 4], .keepO [448]])] b, fun _ => []⟩
  | 18 => ⟨fun b => look [] [(0, [.keepT [0, 3, 4], .keepO [448]])] b, fun _ => []⟩
  | 19 => ⟨fun b => look [] [(0, [.keepT [1, 18, 19, 20], .keepO [64]]), (2, [.keepT [1, 34, 35, 36], .keepO [64]])] b, fun _ => []⟩
  | 21 => ⟨fun b => look [] [(0, [.keepT [0, 5, 6, 7], .keepO []])] b, fun _ => []⟩
  | 24 => ⟨fun b => look [] [(0, [.keepT [0, 1, 5], .keepO []])] b, fun _ => []⟩
  | 25 => ⟨fun b => look [] [(0, [.keepT [0, 1, 5], .keepO []])] b, fun _ => []⟩
  | 28 => ⟨fun b => look [] [(0, [.keepT [0, 3], .keepO []])] b, fun _ => []⟩
  | 30 => ⟨fun b => look [] [(0, [.keepT [0, 3, 4], .keepO [448]])] b, fun _ => []⟩
  | 35 => ⟨fun b => look [] [(0, [.keepT [0, 1, 7, 8], .keepO []])] b, fun _ => []⟩
  | 37 => ⟨fun b => look [] [(0, [.keepT [0, 1, 5], .keepO []])] b, fun _ => []⟩
  | 39 => ⟨fun b => look [] [(0, [.keepT [0, 1, 7, 8], .keepO []])] b, fun _ => []⟩
  | _ => ⟨fun _ => [], fun _ => []⟩
def X : Ext := fun f => match f with
  | 38 => some trimE
  | _ => none
theorem X_sound : ∀ f e, X f = some e → ∀ E, (∀ g args r, E g args = some r → Meets prog (A g) g args r) → ∀ args r, e E args = some r → Meets prog (A f) f args r := by
  intro f e h E hE args r hr
  unfold X at h
  split at h
  · cases h; exact trim_sound_here args r hr
  · cases h
noncomputable def LIM : Env := lim prog A H X
end Ev
