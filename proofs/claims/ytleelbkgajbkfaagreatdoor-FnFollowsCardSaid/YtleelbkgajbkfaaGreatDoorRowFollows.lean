/- The law FnFollows: for every input the call returns true and leaves its arguments as they were. Condition: the two listed tables of the library hold what its text lays (tied by the card). -/
import Derived.Test.YtleelbkgajbkfaaGreatDoorCards
import Derived.Test.YtleelbkgajbkfaaGreatDoorTie
import Derived.WalkKit
import Derived.ProofKit
import Derived.OpenShut
import Derived.ShutString
import Derived.ChangeOld
import Derived.Below
import Derived.SizedLaws
import Derived.Carry
import Derived.Deep.DeepHandedRow
import Derived.Lib.LaidTab
import Derived.Test.YtleelbkgajbkfaaGreatDoorM7
namespace Go.Proofs.YtleelbkgajbkfaaGreatDoor.fnFollows
open Go.ChangeShapes Go.WideShapes Go.ChangeAt Go.RowKit
set_option linter.unusedVariables false
theorem own : ownKnob Tryz.prog.godebug = none := by kernel_rfl
theorem qwo : laidOutB Tryz.prog = true := by kernel_rfl
theorem mixed : Tryz.prog.follows .mixedOrders = true := by kernel_rfl
set_option maxRecDepth 100000 in
theorem qu0 (H : Type) (enc : TypeId × Value → H) (W : World) (base : Nat) (args : Array Value) (ds gs : List (DataW H)) (before : List MemPlace)
    (hval : ∀ (j : Nat) t v, Tryz.f5.params[j]? = some t → args[j]? = some v → Value.okWide Tryz.prog W .any base t v)
    (hW : DataW.Whole enc Tryz.prog Tryz.f5.params.toList Rows.fnFollowsSpec.vars false W args.toList ds gs before) :
    Calls Tryz.prog 5 args W fun e W' => ∃ v, e = .returned v ∧ Rows.fnFollowsSpec.post enc Tryz.prog Tryz.f5 false true false false W args v W' := by
  have hW' := hW
  obtain ⟨p, q, hA0, hV, rfl, hfz, hnd⟩ := hW
  have hA : DataW.TrodAll enc Tryz.prog W 0 (fun _ => true) true Tryz.f5.params.toList args.toList ds p := hA0
  rw [Tryz.params5] at hA hval
  obtain ⟨v0, vs0, d0, ds0, p0, q0, hargs, rfl, rfl, h0, r0⟩ := trodAll_cons hA
  obtain ⟨rfl, rfl, rfl⟩ := trodAll_nil r0
  obtain rfl : args = #[v0] := by cases args; simp_all
  obtain ⟨rfl, rfl⟩ := trodVars_none hV
  have lt0 : ∀ x ∈ p0, x.block < W.heap.size := by obtain ⟨m, hm⟩ := h0; exact DataW.trod_lt m _ _ _ hm
  obtain ⟨x0, w0, y0⟩ := Ev.open_arg (s := (.sl (.int .u8))) (by kernel_rfl) (hval 0 22 v0 rfl rfl) h0
  have hc : Ev.Ty.Call Ev.F.q0i [Ev.argOf (.sl (.int .u8)) x0] (.bool true) := by
    rw [Ev.Ty.arg_list (α := UInt8) x0 w0]
    exact Ev.Ty.q0i (Ev.Ty.OfSh.of (s := (.sl (.int .u8))) (α := (List UInt8)) x0) (Ev.Ty.OfSh.sm (α := (List UInt8)) x0 w0)
  refine (Ev.law_calls (at_ := Ev.A 5) rfl Tryz.func5 (by kernel_rfl) (by kernel_rfl) (Ev.lim_sound mixed Ev.X_sound hc) rfl (fun i x v hx hv => ?_)).mono fun e W' ⟨he, bel⟩ => ?_
  · match i, hx, hv with
    | 0, hx, hv => cases hx; cases hv; exact y0
  subst he
  exact ⟨_, rfl, _, _, _, [], _, [], hW', trodAll_mk1 (shut_bool Tryz.underlying4 _), (trodAll_cons_mk (Below.trod qwo (by kernel_rfl) (of_decide_eq_true (by kernel_rfl)) h0 bel lt0) trodAll_mk0), rfl, bel.frame _, fun h => by cases h⟩
def qxu : DataW Unit → Value
  | .lit (.int k n) => .int k n
  | _ => .bool false
def rowD : DataW Unit → List Value
  | .agg l => l.map qxu
  | _ => []
def qxs : DataW Unit → List Value
  | .agg l => l.flatMap rowD
  | _ => []
/-- A world in which the listed tables hold what they should. -/
noncomputable def qgn (os : Os) : World :=
  { World.holding Tryz.prog os ⟨#[], #[], []⟩ with heap := (((World.holding Tryz.prog os ⟨#[], #[], []⟩).heap).setIfInBounds 1 (.cells (qxs Rows.laid_unicode_utf8_acceptRanges).toArray 250 (0, 0))).setIfInBounds 0 (.cells (rowD Rows.laid_unicode_utf8_first).toArray 247 (0, 0)) }
theorem quk (os : Os) : laidMet Tryz.prog Rows.fnFollowsRow.laid ((qgn os).forCall (fun _ _ => 0) ⟨#[], #[.slice none 0 0], []⟩).memory :=
  laidMet_of_run' 8 (by kernel_rfl) (by kernel_rfl)
theorem qxx (os : Os) {H : Type} (enc : TypeId × Value → H) : ∃ places, DataW.whole enc Tryz.prog ((qgn os).forCall (fun _ _ => 0) ⟨#[], #[.slice none 0 0], []⟩).memory Tryz.f5.params.toList Rows.fnFollowsSpec.vars false (#[.slice none 0 0] : Array Value).toList 8 = some ([.nil], [], places) :=
  ⟨[], by kernel_rfl⟩
set_option maxRecDepth 100000 in
theorem qxp (os : Os) (started : os.Started) (H : Type) (enc : TypeId × Value → H) (F : Stop.Interp) :
    ReturnsInHanded {} Tryz.checked os 5 .any ((OpenSpec.ofChange Rows.fnFollowsSpec).preRow enc Tryz.prog Tryz.f5 Rows.fnFollowsRow.domain false Rows.fnFollowsRow.laid) (((OpenSpec.ofChange Rows.fnFollowsSpec).at F).post enc Tryz.prog Tryz.f5 false true false false) := by
  obtain ⟨places, hx⟩ := qxx os enc
  refine returnsInHanded_of_row (C := Tryz.checked) (s := OpenSpec.ofChange Rows.fnFollowsSpec) own started (by kernel_rfl) Tryz.func5
    (witness_row_at (enc := enc) (C := Tryz.checked) false (qgn os) #[.slice none 0 0] rfl (by kernel_rfl) (by kernel_rfl) (by kernel_rfl)
      (OpenSpec.preRow_of_cond 8 hx (by kernel_rfl) (fun k hk => by cases hk) (by kernel_rfl) (quk os))) ?_
  intro W base args ds gs before hval hW _ _ _ hL _ _
  exact qu0 H enc W base args ds gs before hval hW
theorem qrj : (Rows.fnFollowsRow.inPlace == Tryz.prog.inPlace 5) = true := by kernel_rfl
theorem qlu : (Rows.fnFollowsRow.unfollowed == Tryz.prog.unfollowed 5) = true := by kernel_rfl
theorem qqo : (Rows.fnFollowsRow.recurses == Tryz.prog.recurses 5) = true := by kernel_rfl
theorem qvz : (Rows.fnFollowsRow.named == Tryz.prog.varsNamed 5) = true := by kernel_rfl
theorem qxb : Tryz.prog.funcNamed "loop.example/g00653/laws.FnFollows" = some 5 := by kernel_rfl
theorem qxl : joinedFacts Tryz.prog 5 Tryz.f5 Rows.fnFollowsSpec Rows.fnFollowsRow = true := by
  unfold joinedFacts
  rw [qrj, qlu, qqo, qvz]
  kernel_rfl
set_option maxRecDepth 100000 in
theorem said : Rows.FnFollowsSaid :=
  OpenClaim.holds_of_cond 5 Tryz.f5 rfl rfl rfl rfl rfl rfl rfl ⟨rfl, rfl, rfl, rfl, rfl⟩ rfl rfl rfl rfl rfl qxb Tryz.func5 qxl
    (of_decide_eq_true (by kernel_rfl)) (by unfold Func.isWrapper; first | (rw [if_pos (by decide +kernel)]; kernel_rfl) | (rw [if_neg (by decide +kernel)]; exact ⟨rfl, rfl⟩))
    (fun os started H enc _ F => by rw [OpenClaim.pre_eq_preRow]; exact qxp os started H enc F)
theorem plain (f : FuncId) (fn : Func) (hf : Tryz.pinned.checked.prog.funcNamed "loop.example/g00653/laws.FnFollows" = some f) (hfn : Tryz.pinned.checked.prog.funcs[f]? = some fn) :
    false = Tryz.pinned.checked.prog.looks [] ∧ ∀ (j : Nat) t, fn.params[j]? = some t → Tryz.pinned.checked.prog.wantsStandIn t = false := by
  obtain rfl : f = 5 := Option.some.inj ((show Tryz.prog.funcNamed "loop.example/g00653/laws.FnFollows" = some 5 by kernel_rfl).symm.trans hf) |>.symm
  obtain rfl : fn = Tryz.f5 := (Option.some.inj (Tryz.func5.symm.trans hfn)).symm
  refine ⟨by kernel_rfl, fun j t ht => ?_⟩
  rw [Tryz.params5] at ht
  have hm : t ∈ [22] := by simpa using Array.mem_of_getElem? ht
  have hall : [22].all (fun t => !Tryz.prog.wantsStandIn t) = true := by kernel_rfl
  have := List.all_eq_true.1 hall t hm
  show Tryz.prog.wantsStandIn t = false
  simpa using this
theorem wf : Rows.fnFollowsRow.wfByText (OpenSpec.ofChange Rows.fnFollowsSpec) = true := by kernel_rfl
theorem goes : false = Rows.fnFollowsRow.goesBy Tryz.pinned.checked.prog := by kernel_rfl
theorem card : Rows.FnFollowsCardSaid :=
  Claim7.holds_tied_plain_at .later [] _ _ _ _ said (fun _ h => by cases h) wf (fun _ h => by cases h) fnFollows_row_tie rfl ⟨rfl, rfl⟩ (by kernel_rfl) rfl plain goes
#print axioms card
end Go.Proofs.YtleelbkgajbkfaaGreatDoor.fnFollows
namespace Go.Proofs.YtleelbkgajbkfaaGreatDoor
theorem fnFollows_holds : Rows.FnFollowsCardSaid := fnFollows.card
end Go.Proofs.YtleelbkgajbkfaaGreatDoor
