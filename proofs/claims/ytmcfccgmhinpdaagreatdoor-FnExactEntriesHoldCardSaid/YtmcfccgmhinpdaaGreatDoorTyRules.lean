/- Rules: whether they are right. -/
import Derived.Test.YtmcfccgmhinpdaaGreatDoorTyEqs
namespace Ev.Ty
open Go Ev
open Enc (enc)
open Sm (sm)
set_option linter.unusedSimpArgs false
set_option linter.unusedVariables false

theorem varsOf_term {l : List Symbol} {t : List Int} (h : TermOk l t) : Call F.impl_varsOf [.sl 1 [slc t]] (slc (varsOf [t])) ∧ (varsOf [t]).length ≤ 24 := by
  have hle := h.le
  have hvl := varsOf_length [t]
  refine ⟨impl_varsOf [t] (by simp) (fun x hx => ?_) (by simp; omega), by simp at hvl; omega⟩
  simp only [List.mem_cons, List.not_mem_nil, or_false] at hx
  subst hx
  exact ⟨by omega, h.ge⟩
theorem head0 {l : List Symbol} {t : List Int} (h : TermOk l t) : t[0]? = some (t.headD 0) := by
  have := h.pos
  cases t with
  | nil => simp at this
  | cons x r => rfl
end Ev.Ty
