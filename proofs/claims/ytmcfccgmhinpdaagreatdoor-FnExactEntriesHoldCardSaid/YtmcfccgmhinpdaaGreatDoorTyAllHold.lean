/- Holds, AllHold: the laws. -/
import Derived.Test.YtmcfccgmhinpdaaGreatDoorTyHolds
namespace Ev.Ty
open Go Ev
open Enc (enc)
open Sm (sm)
set_option linter.unusedSimpArgs false
set_option linter.unusedVariables false

theorem impl_truth (b : Bool) : Call F.impl_truth [.bool b] (.agg [.int .i64 0, .int .i64 (if b = true then 1 else 0)]) := by
  refine call_of rfl 0 ((impl_truth.ev _ _).trans ?_)
  cases b <;> rfl
noncomputable def holdsR (s : Signature) (a : Algebra) (e : Equation) : IntResult :=
  if algFault s a ≠ 0 then ⟨algFault s a, 0⟩ else if eqFault s.symbols e ≠ 0 then ⟨eqFault s.symbols e, 0⟩ else ⟨0, if holdsB s.symbols a.size.toNat a.tables e = true then 1 else 0⟩
noncomputable def allHoldR (s : Signature) (a : Algebra) (es : List Equation) : IntResult :=
  if algFault s a ≠ 0 then ⟨algFault s a, 0⟩ else if eqsFault s.symbols es ≠ 0 then ⟨eqsFault s.symbols es, 0⟩ else ⟨0, if (!es.any fun e => !holdsB s.symbols a.size.toNat a.tables e) = true then 1 else 0⟩
section
variable (l : List Symbol) (z : Int) (tb : List (List Int)) (hs : l.length ≤ 4294967296) (ht : sm 4294967296 tb)
include hs ht
end
end Ev.Ty
