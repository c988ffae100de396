/- The law FnAllFollow: for every input the call returns true and leaves its arguments as they were. Condition: the two listed tables of the library hold what its text lays (tied by the card). -/
import Derived.Test.YtleelbkgajbkfaaGreatDoorCards
import Derived.Test.YtleelbkgajbkfaaGreatDoorTie
import Derived.WalkKit
import Derived.ProofKit
import Derived.OpenShut
import Derived.ShutString
import Derived.ChangeOld
import Derived.Below
import Derived.SizedLaws
import Derived.Carry
import Derived.Deep.DeepHandedRow
import Derived.Lib.LaidTab
import Derived.Test.YtleelbkgajbkfaaGreatDoorM7
namespace Go.Proofs.YtleelbkgajbkfaaGreatDoor.fnAllFollow
open Go.ChangeShapes Go.WideShapes Go.ChangeAt Go.RowKit
set_option linter.unusedVariables false
theorem own : ownKnob Tryz.prog.godebug = none := by kernel_rfl
theorem qwc : laidOutB Tryz.prog = true := by kernel_rfl
theorem mixed : Tryz.prog.follows .mixedOrders = true := by kernel_rfl
set_option maxRecDepth 100000 in
theorem qtw (H : Type) (enc : TypeId × Value → H) (W : World) (base : Nat) (args : Array Value) (ds gs : List (DataW H)) (before : List MemPlace)
    (hval : ∀ (j : Nat) t v, Tryz.f4.params[j]? = some t → args[j]? = some v → Value.okWide Tryz.prog W .any base t v)
    (hW : DataW.Whole enc Tryz.prog Tryz.f4.params.toList Rows.fnAllFollowSpec.vars false W args.toList ds gs before) :
    Calls Tryz.prog 4 args W fun e W' => ∃ v, e = .returned v ∧ Rows.fnAllFollowSpec.post enc Tryz.prog Tryz.f4 false true false false W args v W' := by
  have hW' := hW
  obtain ⟨p, q, hA0, hV, rfl, hfz, hnd⟩ := hW
  have hA : DataW.TrodAll enc Tryz.prog W 0 (fun _ => true) true Tryz.f4.params.toList args.toList ds p := hA0
  rw [Tryz.params4] at hA hval
  obtain ⟨v0, vs0, d0, ds0, p0, q0, hargs, rfl, rfl, h0, r0⟩ := trodAll_cons hA
  obtain ⟨rfl, rfl, rfl⟩ := trodAll_nil r0
  obtain rfl : args = #[v0] := by cases args; simp_all
  obtain ⟨rfl, rfl⟩ := trodVars_none hV
  have lt0 : ∀ x ∈ p0, x.block < W.heap.size := by obtain ⟨m, hm⟩ := h0; exact DataW.trod_lt m _ _ _ hm
  obtain ⟨x0, w0, y0⟩ := Ev.open_arg (s := (.sl (.int .u8))) (by kernel_rfl) (hval 0 22 v0 rfl rfl) h0
  have hc : Ev.Ty.Call Ev.F.q0z [Ev.argOf (.sl (.int .u8)) x0] (.bool true) := by
    rw [Ev.Ty.arg_list (α := UInt8) x0 w0]
    exact Ev.Ty.q0z (Ev.Ty.OfSh.of (s := (.sl (.int .u8))) (α := (List UInt8)) x0) (Ev.Ty.OfSh.sm (α := (List UInt8)) x0 w0)
  refine (Ev.law_calls (at_ := Ev.A 4) rfl Tryz.func4 (by kernel_rfl) (by kernel_rfl) (Ev.lim_sound mixed Ev.X_sound hc) rfl (fun i x v hx hv => ?_)).mono fun e W' ⟨he, bel⟩ => ?_
  · match i, hx, hv with
    | 0, hx, hv => cases hx; cases hv; exact y0
  subst he
  exact ⟨_, rfl, _, _, _, [], _, [], hW', trodAll_mk1 (shut_bool Tryz.underlying4 _), (trodAll_cons_mk (Below.trod qwc (by kernel_rfl) (of_decide_eq_true (by kernel_rfl)) h0 bel lt0) trodAll_mk0), rfl, bel.frame _, fun h => by cases h⟩
def qxk : DataW Unit → Value
  | .lit (.int k n) => .int k n
  | _ => .bool false
def rowD : DataW Unit → List Value
  | .agg l => l.map qxk
  | _ => []
def qxl : DataW Unit → List Value
  | .agg l => l.flatMap rowD
  | _ => []
/-- A world in which the listed tables hold what they should. -/
noncomputable def qg3 (os : Os) : World :=
  { World.holding Tryz.prog os ⟨#[], #[], []⟩ with heap := (((World.holding Tryz.prog os ⟨#[], #[], []⟩).heap).setIfInBounds 1 (.cells (qxl Rows.laid_unicode_utf8_acceptRanges).toArray 250 (0, 0))).setIfInBounds 0 (.cells (rowD Rows.laid_unicode_utf8_first).toArray 247 (0, 0)) }
theorem qu7 (os : Os) : laidMet Tryz.prog Rows.fnAllFollowRow.laid ((qg3 os).forCall (fun _ _ => 0) ⟨#[], #[.slice none 0 0], []⟩).memory :=
  laidMet_of_run' 8 (by kernel_rfl) (by kernel_rfl)
theorem qxd (os : Os) {H : Type} (enc : TypeId × Value → H) : ∃ places, DataW.whole enc Tryz.prog ((qg3 os).forCall (fun _ _ => 0) ⟨#[], #[.slice none 0 0], []⟩).memory Tryz.f4.params.toList Rows.fnAllFollowSpec.vars false (#[.slice none 0 0] : Array Value).toList 8 = some ([.nil], [], places) :=
  ⟨[], by kernel_rfl⟩
set_option maxRecDepth 100000 in
theorem qx3 (os : Os) (started : os.Started) (H : Type) (enc : TypeId × Value → H) (F : Stop.Interp) :
    ReturnsInHanded {} Tryz.checked os 4 .any ((OpenSpec.ofChange Rows.fnAllFollowSpec).preRow enc Tryz.prog Tryz.f4 Rows.fnAllFollowRow.domain false Rows.fnAllFollowRow.laid) (((OpenSpec.ofChange Rows.fnAllFollowSpec).at F).post enc Tryz.prog Tryz.f4 false true false false) := by
  obtain ⟨places, hx⟩ := qxd os enc
  refine returnsInHanded_of_row (C := Tryz.checked) (s := OpenSpec.ofChange Rows.fnAllFollowSpec) own started (by kernel_rfl) Tryz.func4
    (witness_row_at (enc := enc) (C := Tryz.checked) false (qg3 os) #[.slice none 0 0] rfl (by kernel_rfl) (by kernel_rfl) (by kernel_rfl)
      (OpenSpec.preRow_of_cond 8 hx (by kernel_rfl) (fun k hk => by cases hk) (by kernel_rfl) (qu7 os))) ?_
  intro W base args ds gs before hval hW _ _ _ hL _ _
  exact qtw H enc W base args ds gs before hval hW
theorem qri : (Rows.fnAllFollowRow.inPlace == Tryz.prog.inPlace 4) = true := by kernel_rfl
theorem qlp : (Rows.fnAllFollowRow.unfollowed == Tryz.prog.unfollowed 4) = true := by kernel_rfl
theorem qpw : (Rows.fnAllFollowRow.recurses == Tryz.prog.recurses 4) = true := by kernel_rfl
theorem qvr : (Rows.fnAllFollowRow.named == Tryz.prog.varsNamed 4) = true := by kernel_rfl
theorem qwr : Tryz.prog.funcNamed "loop.example/g00653/laws.FnAllFollow" = some 4 := by kernel_rfl
theorem qx8 : joinedFacts Tryz.prog 4 Tryz.f4 Rows.fnAllFollowSpec Rows.fnAllFollowRow = true := by
  unfold joinedFacts
  rw [qri, qlp, qpw, qvr]
  kernel_rfl
set_option maxRecDepth 100000 in
theorem said : Rows.FnAllFollowSaid :=
  OpenClaim.holds_of_cond 4 Tryz.f4 rfl rfl rfl rfl rfl rfl rfl ⟨rfl, rfl, rfl, rfl, rfl⟩ rfl rfl rfl rfl rfl qwr Tryz.func4 qx8
    (of_decide_eq_true (by kernel_rfl)) (by unfold Func.isWrapper; first | (rw [if_pos (by decide +kernel)]; kernel_rfl) | (rw [if_neg (by decide +kernel)]; exact ⟨rfl, rfl⟩))
    (fun os started H enc _ F => by rw [OpenClaim.pre_eq_preRow]; exact qx3 os started H enc F)
theorem plain (f : FuncId) (fn : Func) (hf : Tryz.pinned.checked.prog.funcNamed "loop.example/g00653/laws.FnAllFollow" = some f) (hfn : Tryz.pinned.checked.prog.funcs[f]? = some fn) :
    false = Tryz.pinned.checked.prog.looks [] ∧ ∀ (j : Nat) t, fn.params[j]? = some t → Tryz.pinned.checked.prog.wantsStandIn t = false := by
  obtain rfl : f = 4 := Option.some.inj ((show Tryz.prog.funcNamed "loop.example/g00653/laws.FnAllFollow" = some 4 by kernel_rfl).symm.trans hf) |>.symm
  obtain rfl : fn = Tryz.f4 := (Option.some.inj (Tryz.func4.symm.trans hfn)).symm
  refine ⟨by kernel_rfl, fun j t ht => ?_⟩
  rw [Tryz.params4] at ht
  have hm : t ∈ [22] := by simpa using Array.mem_of_getElem? ht
  have hall : [22].all (fun t => !Tryz.prog.wantsStandIn t) = true := by kernel_rfl
  have := List.all_eq_true.1 hall t hm
  show Tryz.prog.wantsStandIn t = false
  simpa using this
theorem wf : Rows.fnAllFollowRow.wfByText (OpenSpec.ofChange Rows.fnAllFollowSpec) = true := by kernel_rfl
theorem goes : false = Rows.fnAllFollowRow.goesBy Tryz.pinned.checked.prog := by kernel_rfl
theorem card : Rows.FnAllFollowCardSaid :=
  Claim7.holds_tied_plain_at .later [] _ _ _ _ said (fun _ h => by cases h) wf (fun _ h => by cases h) fnAllFollow_row_tie rfl ⟨rfl, rfl⟩ (by kernel_rfl) rfl plain goes
#print axioms card
end Go.Proofs.YtleelbkgajbkfaaGreatDoor.fnAllFollow
namespace Go.Proofs.YtleelbkgajbkfaaGreatDoor
theorem fnAllFollow_holds : Rows.FnAllFollowCardSaid := fnAllFollow.card
end Go.Proofs.YtleelbkgajbkfaaGreatDoor
