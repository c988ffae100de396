/- The value of a term: by the program and by the reference. -/
import Derived.Test.YtmcfccgmhinpdaaGreatDoorTyEvalF
namespace Ev.Ty
open Go Ev
open Enc (enc)
open Sm (sm)
set_option linter.unusedSimpArgs false
set_option linter.unusedVariables false

theorem cmp_Or_int64 (l : List Int) (hl : l.length ≤ 4294967296) : Call F.cmp_Or_int64 [slc l] (.int .i64 ((l.find? fun n => decide (n ≠ 0)).getD 0)) := by
  refine call_of rfl (l.length + 1) ((cmp_Or_int64.ev _ _).trans ?_)
  have := scan_loop (l := l) (g := fun n => if n ≠ 0 then some (some (.int .i64 n, [])) else none) (z := some (.int .i64 0, [])) (S := fun m k => cmp_Or_int64.at0 (l.length + 1) m (cmp_Or_int64.st0 0 (cells l) l.length (k : Nat)))
    (fun m k h => by
      have hlk : l[k]? = some l[k] := List.getElem?_eq_getElem h
      simp only [cmp_Or_int64.next0, cmp_Or_int64.round0, Int.ofNat_lt, str_inj, beq_dec, bne_dec, cond_dec, cond_nt, if_true, if_false, decide_true, decide_false, cond_true, cond_false, u8_inj, cells_div, sz_int, sz_u8, sz_list, sz_Symbol, sz_Signature, sz_Equation, sz_Binding, sz_Algebra, sz_Entry, sz_Completion, sz_Theory, sz_Put, sz_Disk, sz_Act, sz_IntResult, sz_IntsResult, sz_BytesResult, sz_TextResult, sz_SignatureResult, sz_TermResult, sz_TermsResult, sz_EquationResult, sz_EquationsResult, sz_KeyResult, sz_BindingResult, sz_RedexResult, sz_NormalResult, sz_AlgebraResult, sz_EntryResult, sz_CompletionResult, sz_TheoryResult, sz_DiskResult, inB_nat, Int.toNat_natCast, get0, get1, get2, get3, get4, get5, get6, get7, get8, Nat.reduceLT, bind_of, List.getElem?_cons_zero, List.getElem?_cons_succ, oInt_int, oBool_bool, oStr_str, oSl_slc, oAgg_agg, oTup_tup, oCons_cons, oNil_nil, sl_cells, h, hlk, enc_int]
      rw [wrap_succ (by omega)]
      by_cases e : l[k] = 0 <;> simp [e])
    (fun m => by simp only [cmp_Or_int64.next0, cmp_Or_int64.round0, Int.ofNat_lt, str_inj, beq_dec, bne_dec, cond_dec, cond_nt, if_true, if_false, decide_true, decide_false, cond_true, cond_false, u8_inj, cells_div, sz_int, sz_u8, sz_list, sz_Symbol, sz_Signature, sz_Equation, sz_Binding, sz_Algebra, sz_Entry, sz_Completion, sz_Theory, sz_Put, sz_Disk, sz_Act, sz_IntResult, sz_IntsResult, sz_BytesResult, sz_TextResult, sz_SignatureResult, sz_TermResult, sz_TermsResult, sz_EquationResult, sz_EquationsResult, sz_KeyResult, sz_BindingResult, sz_RedexResult, sz_NormalResult, sz_AlgebraResult, sz_EntryResult, sz_CompletionResult, sz_TheoryResult, sz_DiskResult, inB_nat, Int.toNat_natCast, get0, get1, get2, get3, get4, get5, get6, get7, get8, Nat.reduceLT, bind_of, List.getElem?_cons_zero, List.getElem?_cons_succ, oInt_int, oBool_bool, oStr_str, oSl_slc, oAgg_agg, oTup_tup, oCons_cons, oNil_nil, sl_cells, Nat.lt_irrefl]) (Nat.lt_succ_self _)
  simp only [cells_div, sz_int]
  refine this.trans ?_
  clear this
  induction l with
  | nil => rfl
  | cons x l ih =>
    rw [List.findSome?_cons, List.find?_cons]
    by_cases e : x = 0
    · simpa [e] using ih (by simp at hl; omega)
    · simp [e]
theorem impl_firstCode2 (a b : Int) : Call F.impl_firstCode [.sl 1 [.int .i64 a, .int .i64 b]] (.int .i64 (if a = 0 then b else a)) := by
  refine call_of rfl 0 ((impl_firstCode.ev _ _).trans ?_)
  have := cmp_Or_int64 [a, b] (by simp)
  simp only [Int.ofNat_lt, str_inj, beq_dec, bne_dec, cond_dec, cond_nt, if_true, if_false, decide_true, decide_false, cond_true, cond_false, u8_inj, cells_div, sz_int, sz_u8, sz_list, sz_Symbol, sz_Signature, sz_Equation, sz_Binding, sz_Algebra, sz_Entry, sz_Completion, sz_Theory, sz_Put, sz_Disk, sz_Act, sz_IntResult, sz_IntsResult, sz_BytesResult, sz_TextResult, sz_SignatureResult, sz_TermResult, sz_TermsResult, sz_EquationResult, sz_EquationsResult, sz_KeyResult, sz_BindingResult, sz_RedexResult, sz_NormalResult, sz_AlgebraResult, sz_EntryResult, sz_CompletionResult, sz_TheoryResult, sz_DiskResult, inB_nat, Int.toNat_natCast, get0, get1, get2, get3, get4, get5, get6, get7, get8, Nat.reduceLT, bind_of, List.getElem?_cons_zero, List.getElem?_cons_succ, oInt_int, oBool_bool, oStr_str, oSl_slc, oAgg_agg, oTup_tup, oCons_cons, oNil_nil, sl_cells, show LIM F.cmp_Or_int64 [.sl 1 [.int .i64 a, .int .i64 b]] = _ from this]
  by_cases h : a = 0
  · by_cases h' : b = 0 <;> simp [h, h']
  · simp [h]
theorem impl_firstCode3 (a b c : Int) : Call F.impl_firstCode [.sl 1 [.int .i64 a, .int .i64 b, .int .i64 c]] (.int .i64 (if a = 0 then if b = 0 then c else b else a)) := by
  refine call_of rfl 0 ((impl_firstCode.ev _ _).trans ?_)
  have := cmp_Or_int64 [a, b, c] (by simp)
  simp only [Int.ofNat_lt, str_inj, beq_dec, bne_dec, cond_dec, cond_nt, if_true, if_false, decide_true, decide_false, cond_true, cond_false, u8_inj, cells_div, sz_int, sz_u8, sz_list, sz_Symbol, sz_Signature, sz_Equation, sz_Binding, sz_Algebra, sz_Entry, sz_Completion, sz_Theory, sz_Put, sz_Disk, sz_Act, sz_IntResult, sz_IntsResult, sz_BytesResult, sz_TextResult, sz_SignatureResult, sz_TermResult, sz_TermsResult, sz_EquationResult, sz_EquationsResult, sz_KeyResult, sz_BindingResult, sz_RedexResult, sz_NormalResult, sz_AlgebraResult, sz_EntryResult, sz_CompletionResult, sz_TheoryResult, sz_DiskResult, inB_nat, Int.toNat_natCast, get0, get1, get2, get3, get4, get5, get6, get7, get8, Nat.reduceLT, bind_of, List.getElem?_cons_zero, List.getElem?_cons_succ, oInt_int, oBool_bool, oStr_str, oSl_slc, oAgg_agg, oTup_tup, oCons_cons, oNil_nil, sl_cells, show LIM F.cmp_Or_int64 [.sl 1 [.int .i64 a, .int .i64 b, .int .i64 c]] = _ from this]
  by_cases h : a = 0
  · by_cases h' : b = 0
    · by_cases h'' : c = 0 <;> simp [h, h', h'']
    · simp [h, h']
  · simp [h]
theorem spec_l4Low (t : List Int) (hl : t.length ≤ 4294967296) : Call F.spec_l4Low [slc t] (.bool (!t.any fun n => decide (n < -6))) := by
  refine call_of rfl (t.length + 1) ((spec_l4Low.ev _ _).trans ?_)
  refine (any_loopL (l := t) (p := fun n => decide (n < -6)) (r := some (.bool false, [])) (z := some (.bool true, [])) (S := fun m k => spec_l4Low.at0 (t.length + 1) m (spec_l4Low.st0 (cells t) (k : Nat))) (fun m k h => ?_) (fun m => ?_) (Nat.lt_succ_self _)).trans ?_
  · have hlk : t[k]? = some t[k] := List.getElem?_eq_getElem h
    simp only [spec_l4Low.next0, spec_l4Low.round0, Int.ofNat_lt, str_inj, beq_dec, bne_dec, cond_dec, cond_nt, if_true, if_false, decide_true, decide_false, cond_true, cond_false, u8_inj, cells_div, sz_int, sz_u8, sz_list, sz_Symbol, sz_Signature, sz_Equation, sz_Binding, sz_Algebra, sz_Entry, sz_Completion, sz_Theory, sz_Put, sz_Disk, sz_Act, sz_IntResult, sz_IntsResult, sz_BytesResult, sz_TextResult, sz_SignatureResult, sz_TermResult, sz_TermsResult, sz_EquationResult, sz_EquationsResult, sz_KeyResult, sz_BindingResult, sz_RedexResult, sz_NormalResult, sz_AlgebraResult, sz_EntryResult, sz_CompletionResult, sz_TheoryResult, sz_DiskResult, inB_nat, Int.toNat_natCast, get0, get1, get2, get3, get4, get5, get6, get7, get8, Nat.reduceLT, bind_of, List.getElem?_cons_zero, List.getElem?_cons_succ, oInt_int, oBool_bool, oStr_str, oSl_slc, oAgg_agg, oTup_tup, oCons_cons, oNil_nil, sl_cells, h, hlk, enc_int]
    rw [wrap_succ (by omega)]
    simp only [decide_eq_true_eq]
  · simp only [spec_l4Low.next0, spec_l4Low.round0, Int.ofNat_lt, str_inj, beq_dec, bne_dec, cond_dec, cond_nt, if_true, if_false, decide_true, decide_false, cond_true, cond_false, u8_inj, cells_div, sz_int, sz_u8, sz_list, sz_Symbol, sz_Signature, sz_Equation, sz_Binding, sz_Algebra, sz_Entry, sz_Completion, sz_Theory, sz_Put, sz_Disk, sz_Act, sz_IntResult, sz_IntsResult, sz_BytesResult, sz_TextResult, sz_SignatureResult, sz_TermResult, sz_TermsResult, sz_EquationResult, sz_EquationsResult, sz_KeyResult, sz_BindingResult, sz_RedexResult, sz_NormalResult, sz_AlgebraResult, sz_EntryResult, sz_CompletionResult, sz_TheoryResult, sz_DiskResult, inB_nat, Int.toNat_natCast, get0, get1, get2, get3, get4, get5, get6, get7, get8, Nat.reduceLT, bind_of, List.getElem?_cons_zero, List.getElem?_cons_succ, oInt_int, oBool_bool, oStr_str, oSl_slc, oAgg_agg, oTup_tup, oCons_cons, oNil_nil, sl_cells, Nat.lt_irrefl]
  · cases t.any fun n => decide (n < -6) <;> rfl

open Classical in
/-- The tree of a right term. -/
noncomputable def treeOf (l : List Symbol) (t : List Int) : Tm := if h : ∃ x : Tm, x.ok (ar l) ∧ t = x.flat then h.choose else .k 0
theorem treeOf_spec {l : List Symbol} {t : List Int} (ok : SigOk ⟨l⟩) (h : TermOk l t) : (treeOf l t).ok (ar l) ∧ t = (treeOf l t).flat := by
  have := h.tree ok
  unfold treeOf
  rw [dif_pos this]
  exact this.choose_spec
/-- What may stand for variables. -/
def valuesOk (z : Int) (vs : List Int) : Bool := !vs.any fun n => !inR n 0 (z - 1)
noncomputable def evalTerm (s : Signature) (a : Algebra) (vs t : List Int) : IntResult :=
  if algFault s a ≠ 0 then ⟨algFault s a, 0⟩
  else if termFault0 s.symbols t ≠ 0 then ⟨termFault0 s.symbols t, 0⟩
  else if vs.length ≠ 6 then ⟨2, 0⟩
  else if valuesOk a.size vs = false then ⟨3, 0⟩
  else if t.any (fun n => decide (n < -6)) then ⟨3, 0⟩
  else ⟨0, (treeOf s.symbols t).eval a.size a.tables vs⟩
theorem algFault_sig {s : Signature} {a : Algebra} (h : algFault s a = 0) : sigFault s = 0 := by
  unfold algFault at h
  by_cases h1 : sigFault s = 0
  · exact h1
  · rw [if_pos h1] at h; exact absurd h h1
theorem valuesOk_iff {z : Int} {vs : List Int} : valuesOk z vs = true ↔ ∀ n ∈ vs, 0 ≤ n ∧ n ≤ z - 1 := by
  unfold valuesOk
  rw [Bool.not_eq_true', List.any_eq_false]
  constructor
  · intro h n hn; have := h n hn; exact inR_iff.1 (by simpa using this)
  · intro h n hn; simpa using inR_iff.2 (h n hn)
section
variable (l : List Symbol) (z : Int) (tb : List (List Int)) (vs t : List Int) (hs : l.length ≤ 4294967296) (ht : sm 4294967296 tb) (hl : t.length ≤ 4294967296)
include hs ht hl
end
end Ev.Ty
