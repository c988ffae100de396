/- Values of terms: the functions that compute them. -/
import Derived.Test.YtmcfccgmhinpdaaGreatDoorTyEval
namespace Ev.Ty
open Go Ev
open Enc (enc)
open Sm (sm)
set_option linter.unusedSimpArgs false
set_option linter.unusedVariables false

theorem getD_of {α : Type} {v : List α} {i : Nat} {d : α} (h : i < v.length) : v.getD i d = v[i] := by simp [h]
section
variable {l : List Symbol} {z : Int} {tb : List (List Int)} (al : AlgOk l z tb) {vs : List Int} (hv : vs.length = 6) (hr : ∀ n ∈ vs, 0 ≤ n ∧ n ≤ z - 1)
include al hv hr
end
end Ev.Ty
