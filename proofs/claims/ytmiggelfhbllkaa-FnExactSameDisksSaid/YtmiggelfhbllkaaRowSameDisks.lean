/- The row of the law FnExactSameDisks: for every input the call returns true and leaves its arguments as they were. Conditions: none. -/
import Derived.Test.YtmiggelfhbllkaaRows
import Derived.Test.YtmiggelfhbllkaaTyOf
import Derived.Test.YtmiggelfhbllkaaTyLSameDisks
import Derived.WalkKit
import Derived.ProofKit
import Derived.OpenShut
import Derived.ShutString
import Derived.ChangeOld
import Derived.Below
import Derived.SizedLaws
import Derived.Carry
namespace Go.Proofs.Ytmiggelfhbllkaa.fnExactSameDisks
open Go.ChangeShapes Go.WideShapes Go.ChangeAt Go.RowKit
set_option linter.unusedVariables false
theorem own : ownKnob Try.prog.godebug = none := by kernel_rfl
theorem laidOut : laidOutB Try.prog = true := by kernel_rfl
theorem mixed : Try.prog.follows .mixedOrders = true := by kernel_rfl
set_option maxRecDepth 100000 in
theorem lifted (os : Os) (started : os.Started) (H : Type) (enc : TypeId × Value → H) :
    ReturnsInHanded {} Try.checked os 5 .any (Rows.fnExactSameDisksSpec.pre6 enc Try.prog Try.f5 Rows.fnExactSameDisksRow.domain false) (Rows.fnExactSameDisksSpec.post enc Try.prog Try.f5 false true false false) := by
  refine returnsInHanded_of_change_sized (C := Try.checked) own started (by kernel_rfl) Try.func5
    (ChangeSpec.witness6 (enc := enc) (C := Try.checked) false ⟨#[], #[.agg #[.slice none 0 0, .slice none 0 0], .agg #[.slice none 0 0, .slice none 0 0]], []⟩ 8 (by kernel_rfl) (by kernel_rfl) (by kernel_rfl) (by kernel_rfl)) ?_
  intro W base args ds gs before hval0 hW hcnd hsz0 _
  have hval : ∀ (j : Nat) t v, Try.f5.params[j]? = some t → args[j]? = some v → Value.okWide Try.prog W .any base t v := hval0
  have hW' := hW
  obtain ⟨p, q, hA0, hV, rfl, hfz, hnd⟩ := hW
  have hA : DataW.TrodAll enc Try.prog W 0 (fun _ => true) true Try.f5.params.toList args.toList ds p := hA0
  rw [Try.params5] at hA hval
  obtain ⟨v0, vs0, d0, ds0, p0, q0, hargs, rfl, rfl, h0, r0⟩ := trodAll_cons hA
  obtain ⟨v1, vs1, d1, ds1, p1, q1, rfl, rfl, rfl, h1, r1⟩ := trodAll_cons r0
  obtain ⟨rfl, rfl, rfl⟩ := trodAll_nil r1
  obtain rfl : args = #[v0, v1] := by cases args; simp_all
  obtain ⟨rfl, rfl⟩ := trodVars_none hV
  have lt0 : ∀ x ∈ p0, x.block < W.heap.size := by obtain ⟨m, hm⟩ := h0; exact DataW.trod_lt m _ _ _ hm
  obtain ⟨x0, w0, y0⟩ := Ev.open_arg (s := Ev.Ty.sh_Disk) (by kernel_rfl) (hval 0 40 v0 rfl rfl) h0
  have lt1 : ∀ x ∈ p1, x.block < W.heap.size := by obtain ⟨m, hm⟩ := h1; exact DataW.trod_lt m _ _ _ hm
  obtain ⟨x1, w1, y1⟩ := Ev.open_arg (s := Ev.Ty.sh_Disk) (by kernel_rfl) (hval 1 40 v1 rfl rfl) h1
  have hc : Ev.Ty.Call Ev.F.laws_FnExactSameDisks [Ev.argOf Ev.Ty.sh_Disk x0, Ev.argOf Ev.Ty.sh_Disk x1] (.bool true) := by
    rw [Ev.Ty.arg_agg (α := Ev.Ty.Disk) x0 w0, Ev.Ty.arg_agg (α := Ev.Ty.Disk) x1 w1]
    exact Ev.Ty.laws_FnExactSameDisks (Ev.Ty.OfSh.of (s := Ev.Ty.sh_Disk) (α := Ev.Ty.Disk) x0) (Ev.Ty.OfSh.of (s := Ev.Ty.sh_Disk) (α := Ev.Ty.Disk) x1) (Ev.Ty.OfSh.sm (α := Ev.Ty.Disk) x0 w0) (Ev.Ty.OfSh.sm (α := Ev.Ty.Disk) x1 w1)
  refine (Ev.law_calls (at_ := Ev.A 5) rfl Try.func5 (by kernel_rfl) (by kernel_rfl) (Ev.lim_sound mixed Ev.X_sound hc) rfl (fun i x v hx hv => ?_)).mono fun e W' ⟨he, bel⟩ => ?_
  · match i, hx, hv with
    | 0, hx, hv => cases hx; cases hv; exact y0
    | 1, hx, hv => cases hx; cases hv; exact y1
  subst he
  exact ⟨_, rfl, _, _, _, [], _, [], hW', trodAll_mk1 (shut_bool Try.underlying4 _), (trodAll_cons_mk (Below.trod laidOut (by kernel_rfl) (of_decide_eq_true (by kernel_rfl)) h0 bel lt0) (trodAll_cons_mk (Below.trod laidOut (by kernel_rfl) (of_decide_eq_true (by kernel_rfl)) h1 bel lt1) trodAll_mk0)), rfl, bel.frame _, fun h => by cases h⟩
theorem over : Rows.fnExactSameDisksRow.holds Try.pinned (OpenSpec.ofChange Rows.fnExactSameDisksSpec) :=
  OpenClaim.holds_of_wide 5 Try.f5 rfl rfl rfl rfl rfl rfl rfl ⟨rfl, rfl, rfl, rfl, rfl⟩ rfl rfl rfl rfl rfl (by kernel_rfl) Try.func5 (by kernel_rfl)
    (of_decide_eq_true (by kernel_rfl)) (by unfold Func.isWrapper; first | (rw [if_pos (by decide +kernel)]; kernel_rfl) | (rw [if_neg (by decide +kernel)]; exact ⟨rfl, rfl⟩))
    (fun os started H enc _ => lifted os started H enc)
theorem proved : Rows.FnExactSameDisksSaid := over
#print axioms proved
end Go.Proofs.Ytmiggelfhbllkaa.fnExactSameDisks
namespace Go.Proofs.Ytmiggelfhbllkaa
theorem fnExactSameDisks_holds : Rows.FnExactSameDisksSaid := fnExactSameDisks.proved
end Go.Proofs.Ytmiggelfhbllkaa
