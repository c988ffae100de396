/- The law FnExactDeriveEntry: for every input the call returns true and leaves its arguments as they were. Condition: the two listed tables of the library hold what its text lays (tied by the card). -/
import Derived.Test.YthmkbhakjdcpfaaGreatDoorCards
import Derived.Test.YthmkbhakjdcpfaaGreatDoorTie
import Derived.WalkKit
import Derived.ProofKit
import Derived.OpenShut
import Derived.ShutString
import Derived.ChangeOld
import Derived.Below
import Derived.SizedLaws
import Derived.Carry
import Derived.Deep.DeepHandedRow
import Derived.Lib.LaidTab
import Derived.Test.YthmkbhakjdcpfaaGreatDoorM5
namespace Go.Proofs.YthmkbhakjdcpfaaGreatDoor.fnExactDeriveEntry
open Go.ChangeShapes Go.WideShapes Go.ChangeAt Go.RowKit
set_option linter.unusedVariables false
theorem own : ownKnob Tryz.prog.godebug = none := by kernel_rfl
theorem laidOut : laidOutB Tryz.prog = true := by kernel_rfl
theorem mixed : Tryz.prog.follows .mixedOrders = true := by kernel_rfl
set_option maxRecDepth 100000 in
theorem contract (H : Type) (enc : TypeId × Value → H) (W : World) (base : Nat) (args : Array Value) (ds gs : List (DataW H)) (before : List MemPlace)
    (hval : ∀ (j : Nat) t v, Tryz.f5.params[j]? = some t → args[j]? = some v → Value.okWide Tryz.prog W .any base t v)
    (hW : DataW.Whole enc Tryz.prog Tryz.f5.params.toList Rows.fnExactDeriveEntrySpec.vars false W args.toList ds gs before) :
    Calls Tryz.prog 5 args W fun e W' => ∃ v, e = .returned v ∧ Rows.fnExactDeriveEntrySpec.post enc Tryz.prog Tryz.f5 false true false false W args v W' := by
  have hW' := hW
  obtain ⟨p, q, hA0, hV, rfl, hfz, hnd⟩ := hW
  have hA : DataW.TrodAll enc Tryz.prog W 0 (fun _ => true) true Tryz.f5.params.toList args.toList ds p := hA0
  rw [Tryz.params5] at hA hval
  obtain ⟨v0, vs0, d0, ds0, p0, q0, hargs, rfl, rfl, h0, r0⟩ := trodAll_cons hA
  obtain ⟨v1, vs1, d1, ds1, p1, q1, rfl, rfl, rfl, h1, r1⟩ := trodAll_cons r0
  obtain ⟨v2, vs2, d2, ds2, p2, q2, rfl, rfl, rfl, h2, r2⟩ := trodAll_cons r1
  obtain ⟨v3, vs3, d3, ds3, p3, q3, rfl, rfl, rfl, h3, r3⟩ := trodAll_cons r2
  obtain ⟨v4, vs4, d4, ds4, p4, q4, rfl, rfl, rfl, h4, r4⟩ := trodAll_cons r3
  obtain ⟨v5, vs5, d5, ds5, p5, q5, rfl, rfl, rfl, h5, r5⟩ := trodAll_cons r4
  obtain ⟨v6, vs6, d6, ds6, p6, q6, rfl, rfl, rfl, h6, r6⟩ := trodAll_cons r5
  obtain ⟨v7, vs7, d7, ds7, p7, q7, rfl, rfl, rfl, h7, r7⟩ := trodAll_cons r6
  obtain ⟨rfl, rfl, rfl⟩ := trodAll_nil r7
  obtain rfl : args = #[v0, v1, v2, v3, v4, v5, v6, v7] := by cases args; simp_all
  obtain ⟨rfl, rfl⟩ := trodVars_none hV
  have lt0 : ∀ x ∈ p0, x.block < W.heap.size := by obtain ⟨m, hm⟩ := h0; exact DataW.trod_lt m _ _ _ hm
  obtain ⟨x0, w0, y0⟩ := Ev.open_arg (s := Ev.Ty.sh_Signature) (by kernel_rfl) (hval 0 24 v0 rfl rfl) h0
  have lt1 : ∀ x ∈ p1, x.block < W.heap.size := by obtain ⟨m, hm⟩ := h1; exact DataW.trod_lt m _ _ _ hm
  obtain ⟨x1, w1, y1⟩ := Ev.open_arg (s := (.sl Ev.Ty.sh_Equation)) (by kernel_rfl) (hval 1 25 v1 rfl rfl) h1
  have lt2 : ∀ x ∈ p2, x.block < W.heap.size := by obtain ⟨m, hm⟩ := h2; exact DataW.trod_lt m _ _ _ hm
  obtain ⟨x2, w2, y2⟩ := Ev.open_arg (s := (.sl Ev.Ty.sh_Entry)) (by kernel_rfl) (hval 2 26 v2 rfl rfl) h2
  have lt3 : ∀ x ∈ p3, x.block < W.heap.size := by obtain ⟨m, hm⟩ := h3; exact DataW.trod_lt m _ _ _ hm
  obtain ⟨x3, w3, y3⟩ := Ev.open_arg (s := (.int .i64)) (by kernel_rfl) (hval 3 2 v3 rfl rfl) h3
  have lt4 : ∀ x ∈ p4, x.block < W.heap.size := by obtain ⟨m, hm⟩ := h4; exact DataW.trod_lt m _ _ _ hm
  obtain ⟨x4, w4, y4⟩ := Ev.open_arg (s := (.int .i64)) (by kernel_rfl) (hval 4 2 v4 rfl rfl) h4
  have lt5 : ∀ x ∈ p5, x.block < W.heap.size := by obtain ⟨m, hm⟩ := h5; exact DataW.trod_lt m _ _ _ hm
  obtain ⟨x5, w5, y5⟩ := Ev.open_arg (s := (.int .i64)) (by kernel_rfl) (hval 5 2 v5 rfl rfl) h5
  have lt6 : ∀ x ∈ p6, x.block < W.heap.size := by obtain ⟨m, hm⟩ := h6; exact DataW.trod_lt m _ _ _ hm
  obtain ⟨x6, w6, y6⟩ := Ev.open_arg (s := (.int .i64)) (by kernel_rfl) (hval 6 2 v6 rfl rfl) h6
  have lt7 : ∀ x ∈ p7, x.block < W.heap.size := by obtain ⟨m, hm⟩ := h7; exact DataW.trod_lt m _ _ _ hm
  obtain ⟨x7, w7, y7⟩ := Ev.open_arg (s := (.int .i64)) (by kernel_rfl) (hval 7 2 v7 rfl rfl) h7
  have hc : Ev.Ty.Call Ev.F.laws_FnExactDeriveEntry [Ev.argOf Ev.Ty.sh_Signature x0, Ev.argOf (.sl Ev.Ty.sh_Equation) x1, Ev.argOf (.sl Ev.Ty.sh_Entry) x2, Ev.argOf (.int .i64) x3, Ev.argOf (.int .i64) x4, Ev.argOf (.int .i64) x5, Ev.argOf (.int .i64) x6, Ev.argOf (.int .i64) x7] (.bool true) := by
    rw [Ev.Ty.arg_agg (α := Ev.Ty.Signature) x0 w0, Ev.Ty.arg_list (α := Ev.Ty.Equation) x1 w1, Ev.Ty.arg_list (α := Ev.Ty.Entry) x2 w2]
    exact Ev.Ty.laws_FnExactDeriveEntry (Ev.Ty.OfSh.of (s := Ev.Ty.sh_Signature) (α := Ev.Ty.Signature) x0) (Ev.Ty.OfSh.of (s := (.sl Ev.Ty.sh_Equation)) (α := (List Ev.Ty.Equation)) x1) (Ev.Ty.OfSh.of (s := (.sl Ev.Ty.sh_Entry)) (α := (List Ev.Ty.Entry)) x2) x3 x4 x5 x6 x7 (Ev.Ty.OfSh.sm (α := Ev.Ty.Signature) x0 w0) (Ev.Ty.OfSh.sm (α := (List Ev.Ty.Equation)) x1 w1) (Ev.Ty.OfSh.sm (α := (List Ev.Ty.Entry)) x2 w2) w3 w4 w5 w6 w7
  refine (Ev.law_calls (at_ := Ev.A 5) rfl Tryz.func5 (by kernel_rfl) (by kernel_rfl) (Ev.lim_sound mixed Ev.X_sound hc) rfl (fun i x v hx hv => ?_)).mono fun e W' ⟨he, bel⟩ => ?_
  · match i, hx, hv with
    | 0, hx, hv => cases hx; cases hv; exact y0
    | 1, hx, hv => cases hx; cases hv; exact y1
    | 2, hx, hv => cases hx; cases hv; exact y2
    | 3, hx, hv => cases hx; cases hv; exact y3
    | 4, hx, hv => cases hx; cases hv; exact y4
    | 5, hx, hv => cases hx; cases hv; exact y5
    | 6, hx, hv => cases hx; cases hv; exact y6
    | 7, hx, hv => cases hx; cases hv; exact y7
  subst he
  exact ⟨_, rfl, _, _, _, [], _, [], hW', trodAll_mk1 (shut_bool Tryz.underlying4 _), (trodAll_cons_mk (Below.trod laidOut (by kernel_rfl) (of_decide_eq_true (by kernel_rfl)) h0 bel lt0) (trodAll_cons_mk (Below.trod laidOut (by kernel_rfl) (of_decide_eq_true (by kernel_rfl)) h1 bel lt1) (trodAll_cons_mk (Below.trod laidOut (by kernel_rfl) (of_decide_eq_true (by kernel_rfl)) h2 bel lt2) (trodAll_cons_mk (Below.trod laidOut (by kernel_rfl) (of_decide_eq_true (by kernel_rfl)) h3 bel lt3) (trodAll_cons_mk (Below.trod laidOut (by kernel_rfl) (of_decide_eq_true (by kernel_rfl)) h4 bel lt4) (trodAll_cons_mk (Below.trod laidOut (by kernel_rfl) (of_decide_eq_true (by kernel_rfl)) h5 bel lt5) (trodAll_cons_mk (Below.trod laidOut (by kernel_rfl) (of_decide_eq_true (by kernel_rfl)) h6 bel lt6) (trodAll_cons_mk (Below.trod laidOut (by kernel_rfl) (of_decide_eq_true (by kernel_rfl)) h7 bel lt7) trodAll_mk0)))))))), rfl, bel.frame _, fun h => by cases h⟩
def cellD : DataW Unit → Value
  | .lit (.int k n) => .int k n
  | _ => .bool false
def rowD : DataW Unit → List Value
  | .agg l => l.map cellD
  | _ => []
def rowsD : DataW Unit → List Value
  | .agg l => l.flatMap rowD
  | _ => []
/-- A world in which the listed tables hold what they should. -/
noncomputable def laidWorld (os : Os) : World :=
  { World.holding Tryz.prog os ⟨#[], #[], []⟩ with heap := (((World.holding Tryz.prog os ⟨#[], #[], []⟩).heap).setIfInBounds 1 (.cells (rowsD Rows.laid_unicode_utf8_acceptRanges).toArray 263 (0, 0))).setIfInBounds 0 (.cells (rowD Rows.laid_unicode_utf8_first).toArray 260 (0, 0)) }
theorem laid_met (os : Os) : laidMet Tryz.prog Rows.fnExactDeriveEntryRow.laid ((laidWorld os).forCall (fun _ _ => 0) ⟨#[], #[.agg #[.slice none 0 0], .slice none 0 0, .slice none 0 0, .int .i64 0, .int .i64 0, .int .i64 0, .int .i64 0, .int .i64 0], []⟩).memory :=
  laidMet_of_run' 8 (by kernel_rfl) (by kernel_rfl)
theorem reads (os : Os) {H : Type} (enc : TypeId × Value → H) : ∃ places, DataW.whole enc Tryz.prog ((laidWorld os).forCall (fun _ _ => 0) ⟨#[], #[.agg #[.slice none 0 0], .slice none 0 0, .slice none 0 0, .int .i64 0, .int .i64 0, .int .i64 0, .int .i64 0, .int .i64 0], []⟩).memory Tryz.f5.params.toList Rows.fnExactDeriveEntrySpec.vars false (#[.agg #[.slice none 0 0], .slice none 0 0, .slice none 0 0, .int .i64 0, .int .i64 0, .int .i64 0, .int .i64 0, .int .i64 0] : Array Value).toList 8 = some ([.agg [.nil], .nil, .nil, .lit (.int .i64 0), .lit (.int .i64 0), .lit (.int .i64 0), .lit (.int .i64 0), .lit (.int .i64 0)], [], places) :=
  ⟨[], by kernel_rfl⟩
set_option maxRecDepth 100000 in
theorem lifted (os : Os) (started : os.Started) (H : Type) (enc : TypeId × Value → H) (F : Stop.Interp) :
    ReturnsInHanded {} Tryz.checked os 5 .any ((OpenSpec.ofChange Rows.fnExactDeriveEntrySpec).preRow enc Tryz.prog Tryz.f5 Rows.fnExactDeriveEntryRow.domain false Rows.fnExactDeriveEntryRow.laid) (((OpenSpec.ofChange Rows.fnExactDeriveEntrySpec).at F).post enc Tryz.prog Tryz.f5 false true false false) := by
  obtain ⟨places, hx⟩ := reads os enc
  refine returnsInHanded_of_row (C := Tryz.checked) (s := OpenSpec.ofChange Rows.fnExactDeriveEntrySpec) own started (by kernel_rfl) Tryz.func5
    (witness_row_at (enc := enc) (C := Tryz.checked) false (laidWorld os) #[.agg #[.slice none 0 0], .slice none 0 0, .slice none 0 0, .int .i64 0, .int .i64 0, .int .i64 0, .int .i64 0, .int .i64 0] rfl (by kernel_rfl) (by kernel_rfl) (by kernel_rfl)
      (OpenSpec.preRow_of_cond 8 hx (by kernel_rfl) (fun k hk => by cases hk) (by kernel_rfl) (laid_met os))) ?_
  intro W base args ds gs before hval hW _ _ _ hL _ _
  exact contract H enc W base args ds gs before hval hW
theorem j_inPlace : (Rows.fnExactDeriveEntryRow.inPlace == Tryz.prog.inPlace 5) = true := by kernel_rfl
theorem j_unfollowed : (Rows.fnExactDeriveEntryRow.unfollowed == Tryz.prog.unfollowed 5) = true := by kernel_rfl
theorem j_recurses : (Rows.fnExactDeriveEntryRow.recurses == Tryz.prog.recurses 5) = true := by kernel_rfl
theorem j_named : (Rows.fnExactDeriveEntryRow.named == Tryz.prog.varsNamed 5) = true := by kernel_rfl
theorem named5 : Tryz.prog.funcNamed "loop.example/g00653/laws.FnExactDeriveEntry" = some 5 := by kernel_rfl
theorem closed : joinedFacts Tryz.prog 5 Tryz.f5 Rows.fnExactDeriveEntrySpec Rows.fnExactDeriveEntryRow = true := by
  unfold joinedFacts
  rw [j_inPlace, j_unfollowed, j_recurses, j_named]
  kernel_rfl
set_option maxRecDepth 100000 in
theorem said : Rows.FnExactDeriveEntrySaid :=
  OpenClaim.holds_of_cond 5 Tryz.f5 rfl rfl rfl rfl rfl rfl rfl ⟨rfl, rfl, rfl, rfl, rfl⟩ rfl rfl rfl rfl rfl named5 Tryz.func5 closed
    (of_decide_eq_true (by kernel_rfl)) (by unfold Func.isWrapper; first | (rw [if_pos (by decide +kernel)]; kernel_rfl) | (rw [if_neg (by decide +kernel)]; exact ⟨rfl, rfl⟩))
    (fun os started H enc _ F => by rw [OpenClaim.pre_eq_preRow]; exact lifted os started H enc F)
theorem plain (f : FuncId) (fn : Func) (hf : Tryz.pinned.checked.prog.funcNamed "loop.example/g00653/laws.FnExactDeriveEntry" = some f) (hfn : Tryz.pinned.checked.prog.funcs[f]? = some fn) :
    false = Tryz.pinned.checked.prog.looks [] ∧ ∀ (j : Nat) t, fn.params[j]? = some t → Tryz.pinned.checked.prog.wantsStandIn t = false := by
  obtain rfl : f = 5 := Option.some.inj ((show Tryz.prog.funcNamed "loop.example/g00653/laws.FnExactDeriveEntry" = some 5 by kernel_rfl).symm.trans hf) |>.symm
  obtain rfl : fn = Tryz.f5 := (Option.some.inj (Tryz.func5.symm.trans hfn)).symm
  refine ⟨by kernel_rfl, fun j t ht => ?_⟩
  rw [Tryz.params5] at ht
  have hm : t ∈ [24, 25, 26, 2, 2, 2, 2, 2] := by simpa using Array.mem_of_getElem? ht
  have hall : [24, 25, 26, 2, 2, 2, 2, 2].all (fun t => !Tryz.prog.wantsStandIn t) = true := by kernel_rfl
  have := List.all_eq_true.1 hall t hm
  show Tryz.prog.wantsStandIn t = false
  simpa using this
theorem wf : Rows.fnExactDeriveEntryRow.wfByText (OpenSpec.ofChange Rows.fnExactDeriveEntrySpec) = true := by kernel_rfl
theorem goes : false = Rows.fnExactDeriveEntryRow.goesBy Tryz.pinned.checked.prog := by kernel_rfl
theorem card : Rows.FnExactDeriveEntryCardSaid :=
  Claim7.holds_tied_plain_at .later [] _ _ _ _ said (fun _ h => by cases h) wf (fun _ h => by cases h) fnExactDeriveEntry_row_tie rfl ⟨rfl, rfl⟩ (by kernel_rfl) rfl plain goes
#print axioms card
end Go.Proofs.YthmkbhakjdcpfaaGreatDoor.fnExactDeriveEntry
namespace Go.Proofs.YthmkbhakjdcpfaaGreatDoor
theorem fnExactDeriveEntry_holds : Rows.FnExactDeriveEntryCardSaid := fnExactDeriveEntry.card
end Go.Proofs.YthmkbhakjdcpfaaGreatDoor
