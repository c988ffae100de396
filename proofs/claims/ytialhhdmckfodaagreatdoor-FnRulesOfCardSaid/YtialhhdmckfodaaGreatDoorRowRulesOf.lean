/- The law FnRulesOf: for every input the call returns true and leaves its arguments as they were. Condition: the two listed tables of the library hold what its text lays (tied by the card). -/
import Derived.Test.YtialhhdmckfodaaGreatDoorCards
import Derived.Test.YtialhhdmckfodaaGreatDoorTie
import Derived.WalkKit
import Derived.ProofKit
import Derived.OpenShut
import Derived.ShutString
import Derived.ChangeOld
import Derived.Below
import Derived.SizedLaws
import Derived.Carry
import Derived.Deep.DeepHandedRow
import Derived.Lib.LaidTab
import Derived.Test.YtialhhdmckfodaaGreatDoorM6
namespace Go.Proofs.YtialhhdmckfodaaGreatDoor.fnRulesOf
open Go.ChangeShapes Go.WideShapes Go.ChangeAt Go.RowKit
set_option linter.unusedVariables false
theorem own : ownKnob Tryz.prog.godebug = none := by kernel_rfl
theorem qxp : laidOutB Tryz.prog = true := by kernel_rfl
theorem mixed : Tryz.prog.follows .mixedOrders = true := by kernel_rfl
set_option maxRecDepth 100000 in
theorem qv6 (H : Type) (enc : TypeId × Value → H) (W : World) (base : Nat) (args : Array Value) (ds gs : List (DataW H)) (before : List MemPlace)
    (hval : ∀ (j : Nat) t v, Tryz.f3.params[j]? = some t → args[j]? = some v → Value.okWide Tryz.prog W .any base t v)
    (hW : DataW.Whole enc Tryz.prog Tryz.f3.params.toList Rows.fnRulesOfSpec.vars false W args.toList ds gs before) :
    Calls Tryz.prog 3 args W fun e W' => ∃ v, e = .returned v ∧ Rows.fnRulesOfSpec.post enc Tryz.prog Tryz.f3 false true false false W args v W' := by
  have hW' := hW
  obtain ⟨p, q, hA0, hV, rfl, hfz, hnd⟩ := hW
  have hA : DataW.TrodAll enc Tryz.prog W 0 (fun _ => true) true Tryz.f3.params.toList args.toList ds p := hA0
  rw [Tryz.params3] at hA hval
  obtain ⟨v0, vs0, d0, ds0, p0, q0, hargs, rfl, rfl, h0, r0⟩ := trodAll_cons hA
  obtain ⟨rfl, rfl, rfl⟩ := trodAll_nil r0
  obtain rfl : args = #[v0] := by cases args; simp_all
  obtain ⟨rfl, rfl⟩ := trodVars_none hV
  have lt0 : ∀ x ∈ p0, x.block < W.heap.size := by obtain ⟨m, hm⟩ := h0; exact DataW.trod_lt m _ _ _ hm
  obtain ⟨x0, w0, y0⟩ := Ev.open_arg (s := (.sl (.int .u8))) (by kernel_rfl) (hval 0 22 v0 rfl rfl) h0
  have hc : Ev.Ty.Call Ev.F.q0j [Ev.argOf (.sl (.int .u8)) x0] (.bool true) := by
    rw [Ev.Ty.arg_list (α := UInt8) x0 w0]
    exact Ev.Ty.q0j (Ev.Ty.OfSh.of (s := (.sl (.int .u8))) (α := (List UInt8)) x0) (Ev.Ty.OfSh.sm (α := (List UInt8)) x0 w0)
  refine (Ev.law_calls (at_ := Ev.A 3) rfl Tryz.func3 (by kernel_rfl) (by kernel_rfl) (Ev.lim_sound mixed Ev.X_sound hc) rfl (fun i x v hx hv => ?_)).mono fun e W' ⟨he, bel⟩ => ?_
  · match i, hx, hv with
    | 0, hx, hv => cases hx; cases hv; exact y0
  subst he
  exact ⟨_, rfl, _, _, _, [], _, [], hW', trodAll_mk1 (shut_bool Tryz.underlying4 _), (trodAll_cons_mk (Below.trod qxp (by kernel_rfl) (of_decide_eq_true (by kernel_rfl)) h0 bel lt0) trodAll_mk0), rfl, bel.frame _, fun h => by cases h⟩
def qz6 : DataW Unit → Value
  | .lit (.int k n) => .int k n
  | _ => .bool false
def rowD : DataW Unit → List Value
  | .agg l => l.map qz6
  | _ => []
def qz4 : DataW Unit → List Value
  | .agg l => l.flatMap rowD
  | _ => []
/-- A world in which the listed tables hold what they should. -/
noncomputable def qj6 (os : Os) : World :=
  { World.holding Tryz.prog os ⟨#[], #[], []⟩ with heap := (((World.holding Tryz.prog os ⟨#[], #[], []⟩).heap).setIfInBounds 2 (.cells (qz4 Rows.laid_unicode_utf8_acceptRanges).toArray 323 (0, 0))).setIfInBounds 1 (.cells (rowD Rows.laid_unicode_utf8_first).toArray 320 (0, 0)) }
theorem qva (os : Os) : laidMet Tryz.prog Rows.fnRulesOfRow.laid ((qj6 os).forCall (fun _ _ => 0) ⟨#[], #[.slice none 0 0], []⟩).memory :=
  laidMet_of_run' 8 (by kernel_rfl) (by kernel_rfl)
theorem qyz (os : Os) {H : Type} (enc : TypeId × Value → H) : ∃ places, DataW.whole enc Tryz.prog ((qj6 os).forCall (fun _ _ => 0) ⟨#[], #[.slice none 0 0], []⟩).memory Tryz.f3.params.toList Rows.fnRulesOfSpec.vars false (#[.slice none 0 0] : Array Value).toList 8 = some ([.nil], [], places) :=
  ⟨[], by kernel_rfl⟩
set_option maxRecDepth 100000 in
theorem qy6 (os : Os) (started : os.Started) (H : Type) (enc : TypeId × Value → H) (F : Stop.Interp) :
    ReturnsInHanded {} Tryz.checked os 3 .any ((OpenSpec.ofChange Rows.fnRulesOfSpec).preRow enc Tryz.prog Tryz.f3 Rows.fnRulesOfRow.domain false Rows.fnRulesOfRow.laid) (((OpenSpec.ofChange Rows.fnRulesOfSpec).at F).post enc Tryz.prog Tryz.f3 false true false false) := by
  obtain ⟨places, hx⟩ := qyz os enc
  refine returnsInHanded_of_row (C := Tryz.checked) (s := OpenSpec.ofChange Rows.fnRulesOfSpec) own started (by kernel_rfl) Tryz.func3
    (witness_row_at (enc := enc) (C := Tryz.checked) false (qj6 os) #[.slice none 0 0] rfl (by kernel_rfl) (by kernel_rfl) (by kernel_rfl)
      (OpenSpec.preRow_of_cond 8 hx (by kernel_rfl) (fun k hk => by cases hk) (by kernel_rfl) (qva os))) ?_
  intro W base args ds gs before hval hW _ _ _ hL _ _
  exact qv6 H enc W base args ds gs before hval hW
theorem qum : (Rows.fnRulesOfRow.inPlace == Tryz.prog.inPlace 3) = true := by kernel_rfl
theorem qmg : (Rows.fnRulesOfRow.unfollowed == Tryz.prog.unfollowed 3) = true := by kernel_rfl
theorem qrc : (Rows.fnRulesOfRow.recurses == Tryz.prog.recurses 3) = true := by kernel_rfl
theorem qwp : (Rows.fnRulesOfRow.named == Tryz.prog.varsNamed 3) = true := by kernel_rfl
theorem qyt : Tryz.prog.funcNamed "loop.example/g00653/laws.FnRulesOf" = some 3 := by kernel_rfl
theorem qy9 : joinedFacts Tryz.prog 3 Tryz.f3 Rows.fnRulesOfSpec Rows.fnRulesOfRow = true := by
  unfold joinedFacts
  rw [qum, qmg, qrc, qwp]
  kernel_rfl
set_option maxRecDepth 100000 in
theorem said : Rows.FnRulesOfSaid :=
  OpenClaim.holds_of_cond 3 Tryz.f3 rfl rfl rfl rfl rfl rfl rfl ⟨rfl, rfl, rfl, rfl, rfl⟩ rfl rfl rfl rfl rfl qyt Tryz.func3 qy9
    (of_decide_eq_true (by kernel_rfl)) (by unfold Func.isWrapper; first | (rw [if_pos (by decide +kernel)]; kernel_rfl) | (rw [if_neg (by decide +kernel)]; exact ⟨rfl, rfl⟩))
    (fun os started H enc _ F => by rw [OpenClaim.pre_eq_preRow]; exact qy6 os started H enc F)
theorem plain (f : FuncId) (fn : Func) (hf : Tryz.pinned.checked.prog.funcNamed "loop.example/g00653/laws.FnRulesOf" = some f) (hfn : Tryz.pinned.checked.prog.funcs[f]? = some fn) :
    false = Tryz.pinned.checked.prog.looks [] ∧ ∀ (j : Nat) t, fn.params[j]? = some t → Tryz.pinned.checked.prog.wantsStandIn t = false := by
  obtain rfl : f = 3 := Option.some.inj ((show Tryz.prog.funcNamed "loop.example/g00653/laws.FnRulesOf" = some 3 by kernel_rfl).symm.trans hf) |>.symm
  obtain rfl : fn = Tryz.f3 := (Option.some.inj (Tryz.func3.symm.trans hfn)).symm
  refine ⟨by kernel_rfl, fun j t ht => ?_⟩
  rw [Tryz.params3] at ht
  have hm : t ∈ [22] := by simpa using Array.mem_of_getElem? ht
  have hall : [22].all (fun t => !Tryz.prog.wantsStandIn t) = true := by kernel_rfl
  have := List.all_eq_true.1 hall t hm
  show Tryz.prog.wantsStandIn t = false
  simpa using this
theorem wf : Rows.fnRulesOfRow.wfByText (OpenSpec.ofChange Rows.fnRulesOfSpec) = true := by kernel_rfl
theorem goes : false = Rows.fnRulesOfRow.goesBy Tryz.pinned.checked.prog := by kernel_rfl
theorem card : Rows.FnRulesOfCardSaid :=
  Claim7.holds_tied_plain_at .later [] _ _ _ _ said (fun _ h => by cases h) wf (fun _ h => by cases h) fnRulesOf_row_tie rfl ⟨rfl, rfl⟩ (by kernel_rfl) rfl plain goes
#print axioms card
end Go.Proofs.YtialhhdmckfodaaGreatDoor.fnRulesOf
namespace Go.Proofs.YtialhhdmckfodaaGreatDoor
theorem fnRulesOf_holds : Rows.FnRulesOfCardSaid := fnRulesOf.card
end Go.Proofs.YtialhhdmckfodaaGreatDoor
