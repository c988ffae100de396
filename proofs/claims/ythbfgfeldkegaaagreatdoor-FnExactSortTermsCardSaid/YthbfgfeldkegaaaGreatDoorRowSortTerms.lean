/- The law FnExactSortTerms: for every input the call returns true and leaves its arguments as they were. Condition: the two listed tables of the library hold what its text lays (tied by the card). -/
import Derived.Test.YthbfgfeldkegaaaGreatDoorCards
import Derived.Test.YthbfgfeldkegaaaGreatDoorTie
import Derived.WalkKit
import Derived.ProofKit
import Derived.OpenShut
import Derived.ShutString
import Derived.ChangeOld
import Derived.Below
import Derived.SizedLaws
import Derived.Carry
import Derived.Deep.DeepHandedRow
import Derived.Lib.LaidTab
import Derived.Test.YthbfgfeldkegaaaGreatDoorM4
namespace Go.Proofs.YthbfgfeldkegaaaGreatDoor.fnExactSortTerms
open Go.ChangeShapes Go.WideShapes Go.ChangeAt Go.RowKit
set_option linter.unusedVariables false
theorem own : ownKnob Tryz.prog.godebug = none := by kernel_rfl
theorem laidOut : laidOutB Tryz.prog = true := by kernel_rfl
theorem mixed : Tryz.prog.follows .mixedOrders = true := by kernel_rfl
set_option maxRecDepth 100000 in
theorem contract (H : Type) (enc : TypeId × Value → H) (W : World) (base : Nat) (args : Array Value) (ds gs : List (DataW H)) (before : List MemPlace)
    (hval : ∀ (j : Nat) t v, Tryz.f4.params[j]? = some t → args[j]? = some v → Value.okWide Tryz.prog W .any base t v)
    (hW : DataW.Whole enc Tryz.prog Tryz.f4.params.toList Rows.fnExactSortTermsSpec.vars false W args.toList ds gs before) :
    Calls Tryz.prog 4 args W fun e W' => ∃ v, e = .returned v ∧ Rows.fnExactSortTermsSpec.post enc Tryz.prog Tryz.f4 false true false false W args v W' := by
  have hW' := hW
  obtain ⟨p, q, hA0, hV, rfl, hfz, hnd⟩ := hW
  have hA : DataW.TrodAll enc Tryz.prog W 0 (fun _ => true) true Tryz.f4.params.toList args.toList ds p := hA0
  rw [Tryz.params4] at hA hval
  obtain ⟨v0, vs0, d0, ds0, p0, q0, hargs, rfl, rfl, h0, r0⟩ := trodAll_cons hA
  obtain ⟨v1, vs1, d1, ds1, p1, q1, rfl, rfl, rfl, h1, r1⟩ := trodAll_cons r0
  obtain ⟨v2, vs2, d2, ds2, p2, q2, rfl, rfl, rfl, h2, r2⟩ := trodAll_cons r1
  obtain ⟨rfl, rfl, rfl⟩ := trodAll_nil r2
  obtain rfl : args = #[v0, v1, v2] := by cases args; simp_all
  obtain ⟨rfl, rfl⟩ := trodVars_none hV
  have lt0 : ∀ x ∈ p0, x.block < W.heap.size := by obtain ⟨m, hm⟩ := h0; exact DataW.trod_lt m _ _ _ hm
  obtain ⟨x0, w0, y0⟩ := Ev.open_arg (s := Ev.Ty.sh_Signature) (by kernel_rfl) (hval 0 24 v0 rfl rfl) h0
  have lt1 : ∀ x ∈ p1, x.block < W.heap.size := by obtain ⟨m, hm⟩ := h1; exact DataW.trod_lt m _ _ _ hm
  obtain ⟨x1, w1, y1⟩ := Ev.open_arg (s := (.sl (.int .i64))) (by kernel_rfl) (hval 1 25 v1 rfl rfl) h1
  have lt2 : ∀ x ∈ p2, x.block < W.heap.size := by obtain ⟨m, hm⟩ := h2; exact DataW.trod_lt m _ _ _ hm
  obtain ⟨x2, w2, y2⟩ := Ev.open_arg (s := (.sl (.sl (.int .i64)))) (by kernel_rfl) (hval 2 51 v2 rfl rfl) h2
  have hc : Ev.Ty.Call Ev.F.laws_FnExactSortTerms [Ev.argOf Ev.Ty.sh_Signature x0, Ev.argOf (.sl (.int .i64)) x1, Ev.argOf (.sl (.sl (.int .i64))) x2] (.bool true) := by
    rw [Ev.Ty.arg_agg (α := Ev.Ty.Signature) x0 w0, Ev.Ty.arg_list (α := Int) x1 w1, Ev.Ty.arg_list (α := (List Int)) x2 w2]
    exact Ev.Ty.laws_FnExactSortTerms (Ev.Ty.OfSh.of (s := Ev.Ty.sh_Signature) (α := Ev.Ty.Signature) x0) (Ev.Ty.OfSh.of (s := (.sl (.int .i64))) (α := (List Int)) x1) (Ev.Ty.OfSh.of (s := (.sl (.sl (.int .i64)))) (α := (List (List Int))) x2) (Ev.Ty.OfSh.sm (α := Ev.Ty.Signature) x0 w0) (Ev.Ty.OfSh.sm (α := (List Int)) x1 w1) (Ev.Ty.OfSh.sm (α := (List (List Int))) x2 w2)
  refine (Ev.law_calls (at_ := Ev.A 4) rfl Tryz.func4 (by kernel_rfl) (by kernel_rfl) (Ev.lim_sound mixed Ev.X_sound hc) rfl (fun i x v hx hv => ?_)).mono fun e W' ⟨he, bel⟩ => ?_
  · match i, hx, hv with
    | 0, hx, hv => cases hx; cases hv; exact y0
    | 1, hx, hv => cases hx; cases hv; exact y1
    | 2, hx, hv => cases hx; cases hv; exact y2
  subst he
  exact ⟨_, rfl, _, _, _, [], _, [], hW', trodAll_mk1 (shut_bool Tryz.underlying4 _), (trodAll_cons_mk (Below.trod laidOut (by kernel_rfl) (of_decide_eq_true (by kernel_rfl)) h0 bel lt0) (trodAll_cons_mk (Below.trod laidOut (by kernel_rfl) (of_decide_eq_true (by kernel_rfl)) h1 bel lt1) (trodAll_cons_mk (Below.trod laidOut (by kernel_rfl) (of_decide_eq_true (by kernel_rfl)) h2 bel lt2) trodAll_mk0))), rfl, bel.frame _, fun h => by cases h⟩
def cellD : DataW Unit → Value
  | .lit (.int k n) => .int k n
  | _ => .bool false
def rowD : DataW Unit → List Value
  | .agg l => l.map cellD
  | _ => []
def rowsD : DataW Unit → List Value
  | .agg l => l.flatMap rowD
  | _ => []
/-- A world in which the listed tables hold what they should. -/
noncomputable def laidWorld (os : Os) : World :=
  { World.holding Tryz.prog os ⟨#[], #[], []⟩ with heap := (((World.holding Tryz.prog os ⟨#[], #[], []⟩).heap).setIfInBounds 2 (.cells (rowsD Rows.laid_unicode_utf8_acceptRanges).toArray 273 (0, 0))).setIfInBounds 1 (.cells (rowD Rows.laid_unicode_utf8_first).toArray 270 (0, 0)) }
theorem laid_met (os : Os) : laidMet Tryz.prog Rows.fnExactSortTermsRow.laid ((laidWorld os).forCall (fun _ _ => 0) ⟨#[], #[.agg #[.slice none 0 0], .slice none 0 0, .slice none 0 0], []⟩).memory :=
  laidMet_of_run' 8 (by kernel_rfl) (by kernel_rfl)
theorem reads (os : Os) {H : Type} (enc : TypeId × Value → H) : ∃ places, DataW.whole enc Tryz.prog ((laidWorld os).forCall (fun _ _ => 0) ⟨#[], #[.agg #[.slice none 0 0], .slice none 0 0, .slice none 0 0], []⟩).memory Tryz.f4.params.toList Rows.fnExactSortTermsSpec.vars false (#[.agg #[.slice none 0 0], .slice none 0 0, .slice none 0 0] : Array Value).toList 8 = some ([.agg [.nil], .nil, .nil], [], places) :=
  ⟨[], by kernel_rfl⟩
set_option maxRecDepth 100000 in
theorem lifted (os : Os) (started : os.Started) (H : Type) (enc : TypeId × Value → H) (F : Stop.Interp) :
    ReturnsInHanded {} Tryz.checked os 4 .any ((OpenSpec.ofChange Rows.fnExactSortTermsSpec).preRow enc Tryz.prog Tryz.f4 Rows.fnExactSortTermsRow.domain false Rows.fnExactSortTermsRow.laid) (((OpenSpec.ofChange Rows.fnExactSortTermsSpec).at F).post enc Tryz.prog Tryz.f4 false true false false) := by
  obtain ⟨places, hx⟩ := reads os enc
  refine returnsInHanded_of_row (C := Tryz.checked) (s := OpenSpec.ofChange Rows.fnExactSortTermsSpec) own started (by kernel_rfl) Tryz.func4
    (witness_row_at (enc := enc) (C := Tryz.checked) false (laidWorld os) #[.agg #[.slice none 0 0], .slice none 0 0, .slice none 0 0] rfl (by kernel_rfl) (by kernel_rfl) (by kernel_rfl)
      (OpenSpec.preRow_of_cond 8 hx (by kernel_rfl) (fun k hk => by cases hk) (by kernel_rfl) (laid_met os))) ?_
  intro W base args ds gs before hval hW _ _ _ hL _ _
  exact contract H enc W base args ds gs before hval hW
theorem j_inPlace : (Rows.fnExactSortTermsRow.inPlace == Tryz.prog.inPlace 4) = true := by kernel_rfl
theorem j_unfollowed : (Rows.fnExactSortTermsRow.unfollowed == Tryz.prog.unfollowed 4) = true := by kernel_rfl
theorem j_recurses : (Rows.fnExactSortTermsRow.recurses == Tryz.prog.recurses 4) = true := by kernel_rfl
theorem j_named : (Rows.fnExactSortTermsRow.named == Tryz.prog.varsNamed 4) = true := by kernel_rfl
theorem named5 : Tryz.prog.funcNamed "loop.example/g00653/laws.FnExactSortTerms" = some 4 := by kernel_rfl
theorem closed : joinedFacts Tryz.prog 4 Tryz.f4 Rows.fnExactSortTermsSpec Rows.fnExactSortTermsRow = true := by
  unfold joinedFacts
  rw [j_inPlace, j_unfollowed, j_recurses, j_named]
  kernel_rfl
set_option maxRecDepth 100000 in
theorem said : Rows.FnExactSortTermsSaid :=
  OpenClaim.holds_of_cond 4 Tryz.f4 rfl rfl rfl rfl rfl rfl rfl ⟨rfl, rfl, rfl, rfl, rfl⟩ rfl rfl rfl rfl rfl named5 Tryz.func4 closed
    (of_decide_eq_true (by kernel_rfl)) (by unfold Func.isWrapper; first | (rw [if_pos (by decide +kernel)]; kernel_rfl) | (rw [if_neg (by decide +kernel)]; exact ⟨rfl, rfl⟩))
    (fun os started H enc _ F => by rw [OpenClaim.pre_eq_preRow]; exact lifted os started H enc F)
theorem plain (f : FuncId) (fn : Func) (hf : Tryz.pinned.checked.prog.funcNamed "loop.example/g00653/laws.FnExactSortTerms" = some f) (hfn : Tryz.pinned.checked.prog.funcs[f]? = some fn) :
    false = Tryz.pinned.checked.prog.looks [] ∧ ∀ (j : Nat) t, fn.params[j]? = some t → Tryz.pinned.checked.prog.wantsStandIn t = false := by
  obtain rfl : f = 4 := Option.some.inj ((show Tryz.prog.funcNamed "loop.example/g00653/laws.FnExactSortTerms" = some 4 by kernel_rfl).symm.trans hf) |>.symm
  obtain rfl : fn = Tryz.f4 := (Option.some.inj (Tryz.func4.symm.trans hfn)).symm
  refine ⟨by kernel_rfl, fun j t ht => ?_⟩
  rw [Tryz.params4] at ht
  have hm : t ∈ [24, 25, 51] := by simpa using Array.mem_of_getElem? ht
  have hall : [24, 25, 51].all (fun t => !Tryz.prog.wantsStandIn t) = true := by kernel_rfl
  have := List.all_eq_true.1 hall t hm
  show Tryz.prog.wantsStandIn t = false
  simpa using this
theorem wf : Rows.fnExactSortTermsRow.wfByText (OpenSpec.ofChange Rows.fnExactSortTermsSpec) = true := by kernel_rfl
theorem goes : false = Rows.fnExactSortTermsRow.goesBy Tryz.pinned.checked.prog := by kernel_rfl
theorem card : Rows.FnExactSortTermsCardSaid :=
  Claim7.holds_tied_plain_at .later [] _ _ _ _ said (fun _ h => by cases h) wf (fun _ h => by cases h) fnExactSortTerms_row_tie rfl ⟨rfl, rfl⟩ (by kernel_rfl) rfl plain goes
#print axioms card
end Go.Proofs.YthbfgfeldkegaaaGreatDoor.fnExactSortTerms
namespace Go.Proofs.YthbfgfeldkegaaaGreatDoor
theorem fnExactSortTerms_holds : Rows.FnExactSortTermsCardSaid := fnExactSortTerms.card
end Go.Proofs.YthbfgfeldkegaaaGreatDoor
