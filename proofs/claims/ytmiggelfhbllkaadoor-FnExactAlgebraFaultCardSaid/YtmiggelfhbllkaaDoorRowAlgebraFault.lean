/- The law FnExactAlgebraFault: for every input the call returns true and leaves its arguments as they were. Condition: the two listed tables of the library hold what its text lays (tied by the card). -/
import Derived.Test.YtmiggelfhbllkaaDoorCards
import Derived.Test.YtmiggelfhbllkaaDoorTie
import Derived.Test.YtmiggelfhbllkaaDoorTyOf
import Derived.Test.YtmiggelfhbllkaaDoorTyAlg
import Derived.WalkKit
import Derived.ProofKit
import Derived.OpenShut
import Derived.ShutString
import Derived.ChangeOld
import Derived.Below
import Derived.SizedLaws
import Derived.Carry
import Derived.Deep.DeepHandedRow
import Derived.Lib.LaidTab
namespace Go.Proofs.YtmiggelfhbllkaaDoor.fnExactAlgebraFault
open Go.ChangeShapes Go.WideShapes Go.ChangeAt Go.RowKit
set_option linter.unusedVariables false
theorem own : ownKnob Tryd.prog.godebug = none := by kernel_rfl
theorem laidOut : laidOutB Tryd.prog = true := by kernel_rfl
theorem mixed : Tryd.prog.follows .mixedOrders = true := by kernel_rfl
set_option maxRecDepth 100000 in
theorem contract (H : Type) (enc : TypeId × Value → H) (W : World) (base : Nat) (args : Array Value) (ds gs : List (DataW H)) (before : List MemPlace)
    (hval : ∀ (j : Nat) t v, Tryd.f3.params[j]? = some t → args[j]? = some v → Value.okWide Tryd.prog W .any base t v)
    (hW : DataW.Whole enc Tryd.prog Tryd.f3.params.toList Rows.fnExactAlgebraFaultSpec.vars false W args.toList ds gs before) :
    Calls Tryd.prog 3 args W fun e W' => ∃ v, e = .returned v ∧ Rows.fnExactAlgebraFaultSpec.post enc Tryd.prog Tryd.f3 false true false false W args v W' := by
  have hW' := hW
  obtain ⟨p, q, hA0, hV, rfl, hfz, hnd⟩ := hW
  have hA : DataW.TrodAll enc Tryd.prog W 0 (fun _ => true) true Tryd.f3.params.toList args.toList ds p := hA0
  rw [Tryd.params3] at hA hval
  obtain ⟨v0, vs0, d0, ds0, p0, q0, hargs, rfl, rfl, h0, r0⟩ := trodAll_cons hA
  obtain ⟨v1, vs1, d1, ds1, p1, q1, rfl, rfl, rfl, h1, r1⟩ := trodAll_cons r0
  obtain ⟨rfl, rfl, rfl⟩ := trodAll_nil r1
  obtain rfl : args = #[v0, v1] := by cases args; simp_all
  obtain ⟨rfl, rfl⟩ := trodVars_none hV
  have lt0 : ∀ x ∈ p0, x.block < W.heap.size := by obtain ⟨m, hm⟩ := h0; exact DataW.trod_lt m _ _ _ hm
  obtain ⟨x0, w0, y0⟩ := Ev.open_arg (s := Ev.Ty.sh_Signature) (by kernel_rfl) (hval 0 24 v0 rfl rfl) h0
  have lt1 : ∀ x ∈ p1, x.block < W.heap.size := by obtain ⟨m, hm⟩ := h1; exact DataW.trod_lt m _ _ _ hm
  obtain ⟨x1, w1, y1⟩ := Ev.open_arg (s := Ev.Ty.sh_Algebra) (by kernel_rfl) (hval 1 27 v1 rfl rfl) h1
  have hc : Ev.Ty.Call Ev.F.laws_FnExactAlgebraFault [Ev.argOf Ev.Ty.sh_Signature x0, Ev.argOf Ev.Ty.sh_Algebra x1] (.bool true) := by
    rw [Ev.Ty.arg_agg (α := Ev.Ty.Signature) x0 w0, Ev.Ty.arg_agg (α := Ev.Ty.Algebra) x1 w1]
    exact Ev.Ty.laws_FnExactAlgebraFault (Ev.Ty.OfSh.of (s := Ev.Ty.sh_Signature) (α := Ev.Ty.Signature) x0) (Ev.Ty.OfSh.of (s := Ev.Ty.sh_Algebra) (α := Ev.Ty.Algebra) x1) (Ev.Ty.OfSh.sm (α := Ev.Ty.Signature) x0 w0) (Ev.Ty.OfSh.sm (α := Ev.Ty.Algebra) x1 w1)
  refine (Ev.law_calls (at_ := Ev.A 3) rfl Tryd.func3 (by kernel_rfl) (by kernel_rfl) (Ev.lim_sound mixed Ev.X_sound hc) rfl (fun i x v hx hv => ?_)).mono fun e W' ⟨he, bel⟩ => ?_
  · match i, hx, hv with
    | 0, hx, hv => cases hx; cases hv; exact y0
    | 1, hx, hv => cases hx; cases hv; exact y1
  subst he
  exact ⟨_, rfl, _, _, _, [], _, [], hW', trodAll_mk1 (shut_bool Tryd.underlying4 _), (trodAll_cons_mk (Below.trod laidOut (by kernel_rfl) (of_decide_eq_true (by kernel_rfl)) h0 bel lt0) (trodAll_cons_mk (Below.trod laidOut (by kernel_rfl) (of_decide_eq_true (by kernel_rfl)) h1 bel lt1) trodAll_mk0)), rfl, bel.frame _, fun h => by cases h⟩
def cellD : DataW Unit → Value
  | .lit (.int k n) => .int k n
  | _ => .bool false
def rowD : DataW Unit → List Value
  | .agg l => l.map cellD
  | _ => []
def rowsD : DataW Unit → List Value
  | .agg l => l.flatMap rowD
  | _ => []
/-- A world in which the listed tables hold what they should. -/
noncomputable def laidWorld (os : Os) : World :=
  { World.holding Tryd.prog os ⟨#[], #[], []⟩ with heap := (((World.holding Tryd.prog os ⟨#[], #[], []⟩).heap).setIfInBounds 1 (.cells (rowsD Rows.laid_unicode_utf8_acceptRanges).toArray 84 (0, 0))).setIfInBounds 0 (.cells (rowD Rows.laid_unicode_utf8_first).toArray 80 (0, 0)) }
theorem laid_met (os : Os) : laidMet Tryd.prog Rows.fnExactAlgebraFaultRow.laid ((laidWorld os).forCall (fun _ _ => 0) ⟨#[], #[.agg #[.slice none 0 0], .agg #[.int .i64 0, .slice none 0 0]], []⟩).memory :=
  laidMet_of_run' 8 (by kernel_rfl) (by kernel_rfl)
theorem reads (os : Os) {H : Type} (enc : TypeId × Value → H) : ∃ places, DataW.whole enc Tryd.prog ((laidWorld os).forCall (fun _ _ => 0) ⟨#[], #[.agg #[.slice none 0 0], .agg #[.int .i64 0, .slice none 0 0]], []⟩).memory Tryd.f3.params.toList Rows.fnExactAlgebraFaultSpec.vars false (#[.agg #[.slice none 0 0], .agg #[.int .i64 0, .slice none 0 0]] : Array Value).toList 8 = some ([.agg [.nil], .agg [.lit (.int .i64 0), .nil]], [], places) :=
  ⟨[], by kernel_rfl⟩
set_option maxRecDepth 100000 in
theorem lifted (os : Os) (started : os.Started) (H : Type) (enc : TypeId × Value → H) (F : Stop.Interp) :
    ReturnsInHanded {} Tryd.checked os 3 .any ((OpenSpec.ofChange Rows.fnExactAlgebraFaultSpec).preRow enc Tryd.prog Tryd.f3 Rows.fnExactAlgebraFaultRow.domain false Rows.fnExactAlgebraFaultRow.laid) (((OpenSpec.ofChange Rows.fnExactAlgebraFaultSpec).at F).post enc Tryd.prog Tryd.f3 false true false false) := by
  obtain ⟨places, hx⟩ := reads os enc
  refine returnsInHanded_of_row (C := Tryd.checked) (s := OpenSpec.ofChange Rows.fnExactAlgebraFaultSpec) own started (by kernel_rfl) Tryd.func3
    (witness_row_at (enc := enc) (C := Tryd.checked) false (laidWorld os) #[.agg #[.slice none 0 0], .agg #[.int .i64 0, .slice none 0 0]] rfl (by kernel_rfl) (by kernel_rfl) (by kernel_rfl)
      (OpenSpec.preRow_of_cond 8 hx (by kernel_rfl) (fun k hk => by cases hk) (by kernel_rfl) (laid_met os))) ?_
  intro W base args ds gs before hval hW _ _ _ hL _ _
  exact contract H enc W base args ds gs before hval hW
set_option maxRecDepth 100000 in
theorem said : Rows.FnExactAlgebraFaultSaid :=
  OpenClaim.holds_of_cond 3 Tryd.f3 rfl rfl rfl rfl rfl rfl rfl ⟨rfl, rfl, rfl, rfl, rfl⟩ rfl rfl rfl rfl rfl (by kernel_rfl) Tryd.func3 (by kernel_rfl)
    (of_decide_eq_true (by kernel_rfl)) (by unfold Func.isWrapper; first | (rw [if_pos (by decide +kernel)]; kernel_rfl) | (rw [if_neg (by decide +kernel)]; exact ⟨rfl, rfl⟩))
    (fun os started H enc _ F => by rw [OpenClaim.pre_eq_preRow]; exact lifted os started H enc F)
theorem plain (f : FuncId) (fn : Func) (hf : Tryd.pinned.checked.prog.funcNamed "loop.example/g00653/laws.FnExactAlgebraFault" = some f) (hfn : Tryd.pinned.checked.prog.funcs[f]? = some fn) :
    false = Tryd.pinned.checked.prog.looks [] ∧ ∀ (j : Nat) t, fn.params[j]? = some t → Tryd.pinned.checked.prog.wantsStandIn t = false := by
  obtain rfl : f = 3 := Option.some.inj ((show Tryd.prog.funcNamed "loop.example/g00653/laws.FnExactAlgebraFault" = some 3 by kernel_rfl).symm.trans hf) |>.symm
  obtain rfl : fn = Tryd.f3 := (Option.some.inj (Tryd.func3.symm.trans hfn)).symm
  refine ⟨by kernel_rfl, fun j t ht => ?_⟩
  rw [Tryd.params3] at ht
  have hm : t ∈ [24, 27] := by simpa using Array.mem_of_getElem? ht
  have hall : [24, 27].all (fun t => !Tryd.prog.wantsStandIn t) = true := by kernel_rfl
  have := List.all_eq_true.1 hall t hm
  show Tryd.prog.wantsStandIn t = false
  simpa using this
theorem card : Rows.FnExactAlgebraFaultCardSaid :=
  Claim7.holds_tied_plain_at .later [] _ _ _ _ said (fun _ h => by cases h) (by kernel_rfl) (fun _ h => by cases h) fnExactAlgebraFault_row_tie rfl ⟨rfl, rfl⟩ (by kernel_rfl) rfl plain (by kernel_rfl)
#print axioms card
end Go.Proofs.YtmiggelfhbllkaaDoor.fnExactAlgebraFault
namespace Go.Proofs.YtmiggelfhbllkaaDoor
theorem fnExactAlgebraFault_holds : Rows.FnExactAlgebraFaultCardSaid := fnExactAlgebraFault.card
end Go.Proofs.YtmiggelfhbllkaaDoor
