/- Equality, by the program and by the reference. -/
import Derived.Test.YtmcfccgmhinpdaaGreatDoorTyPlumb
namespace Ev.Ty
open Go Ev
open Enc (enc)
open Sm (sm)
set_option linter.unusedVariables false
set_option linter.unusedSimpArgs false
theorem spec_l1Same (l r : List Int) (hs : sm 4294967296 l) : Call F.spec_l1Same [slc l, slc r] (.bool (decide (l = r))) := by
  refine call_of rfl (l.length + 1) ((spec_l1Same.ev _ _ _).trans ?_)
  simp only [cells_div, sz_int]
  by_cases hl : l.length = r.length
  · have loop := eq_loop hl (S := fun m k => spec_l1Same.at0 (l.length + 1) m (spec_l1Same.st0 (cells l) (cells r) (k : Nat)))
      (fun m k h h' => by
        have hlk : l[k]? = some l[k] := List.getElem?_eq_getElem h
        have hrk : r[k]? = some r[k] := List.getElem?_eq_getElem h'
        simp only [spec_l1Same.next0, spec_l1Same.round0, Int.ofNat_lt, str_inj, beq_dec, bne_dec, cond_dec, cond_nt, if_true, if_false, decide_true, decide_false, cond_true, cond_false, u8_inj, cells_div, sz_int, sz_u8, sz_list, sz_Symbol, sz_Signature, sz_Equation, sz_Binding, sz_Algebra, sz_Entry, sz_Completion, sz_Theory, sz_Put, sz_Disk, sz_Act, sz_IntResult, sz_IntsResult, sz_BytesResult, sz_TextResult, sz_SignatureResult, sz_TermResult, sz_TermsResult, sz_EquationResult, sz_EquationsResult, sz_KeyResult, sz_BindingResult, sz_RedexResult, sz_NormalResult, sz_AlgebraResult, sz_EntryResult, sz_CompletionResult, sz_TheoryResult, sz_DiskResult, inB_nat, Int.toNat_natCast, get0, get1, get2, get3, get4, get5, get6, get7, get8, Nat.reduceLT, bind_of, List.getElem?_cons_zero, List.getElem?_cons_succ, oInt_int, oBool_bool, oStr_str, oSl_slc, oAgg_agg, oTup_tup, oCons_cons, oNil_nil, sl_cells, h, h', hlk, hrk, cells_window (l := l) sz_int hlk, cells_window (l := r) sz_int hrk, enc_int, enc_u8]
        rw [wrap_succ (by have := hs.1; omega)])
      (fun m => by
        simp only [spec_l1Same.next0, spec_l1Same.round0, Int.ofNat_lt, str_inj, beq_dec, bne_dec, cond_dec, cond_nt, if_true, if_false, decide_true, decide_false, cond_true, cond_false, u8_inj, cells_div, sz_int, sz_u8, sz_list, sz_Symbol, sz_Signature, sz_Equation, sz_Binding, sz_Algebra, sz_Entry, sz_Completion, sz_Theory, sz_Put, sz_Disk, sz_Act, sz_IntResult, sz_IntsResult, sz_BytesResult, sz_TextResult, sz_SignatureResult, sz_TermResult, sz_TermsResult, sz_EquationResult, sz_EquationsResult, sz_KeyResult, sz_BindingResult, sz_RedexResult, sz_NormalResult, sz_AlgebraResult, sz_EntryResult, sz_CompletionResult, sz_TheoryResult, sz_DiskResult, inB_nat, Int.toNat_natCast, get0, get1, get2, get3, get4, get5, get6, get7, get8, Nat.reduceLT, bind_of, List.getElem?_cons_zero, List.getElem?_cons_succ, oInt_int, oBool_bool, oStr_str, oSl_slc, oAgg_agg, oTup_tup, oCons_cons, oNil_nil, sl_cells, Nat.lt_irrefl])
    rw [cond_neg (by rw [hl]; exact bne_self_eq_false _)]
    exact loop
  · rw [cond_pos (by simp; omega)]
    simp only [show (l = r) = False from eq_false fun e => hl (e ▸ rfl), decide_false]

theorem slices_Equal_Sint64 (l r : List Int) (hs : sm 4294967296 l) : Call F.slices_Equal_Sint64 [slc l, slc r] (.bool (decide (l = r))) := by
  refine call_of rfl (l.length + 1) ((slices_Equal_Sint64.ev _ _ _).trans ?_)
  simp only [cells_div, sz_int]
  by_cases hl : l.length = r.length
  · have loop := eq_loop hl (S := fun m k => slices_Equal_Sint64.at0 (l.length + 1) m (slices_Equal_Sint64.st0 (cells l) (cells r) l.length (k : Nat)))
      (fun m k h h' => by
        have hlk : l[k]? = some l[k] := List.getElem?_eq_getElem h
        have hrk : r[k]? = some r[k] := List.getElem?_eq_getElem h'
        simp only [slices_Equal_Sint64.next0, slices_Equal_Sint64.round0, Int.ofNat_lt, str_inj, beq_dec, bne_dec, cond_dec, cond_nt, if_true, if_false, decide_true, decide_false, cond_true, cond_false, u8_inj, cells_div, sz_int, sz_u8, sz_list, sz_Symbol, sz_Signature, sz_Equation, sz_Binding, sz_Algebra, sz_Entry, sz_Completion, sz_Theory, sz_Put, sz_Disk, sz_Act, sz_IntResult, sz_IntsResult, sz_BytesResult, sz_TextResult, sz_SignatureResult, sz_TermResult, sz_TermsResult, sz_EquationResult, sz_EquationsResult, sz_KeyResult, sz_BindingResult, sz_RedexResult, sz_NormalResult, sz_AlgebraResult, sz_EntryResult, sz_CompletionResult, sz_TheoryResult, sz_DiskResult, inB_nat, Int.toNat_natCast, get0, get1, get2, get3, get4, get5, get6, get7, get8, Nat.reduceLT, bind_of, List.getElem?_cons_zero, List.getElem?_cons_succ, oInt_int, oBool_bool, oStr_str, oSl_slc, oAgg_agg, oTup_tup, oCons_cons, oNil_nil, sl_cells, h, h', hlk, hrk, cells_window (l := l) sz_int hlk, cells_window (l := r) sz_int hrk, enc_int, enc_u8]
        rw [wrap_succ (by have := hs.1; omega)])
      (fun m => by
        simp only [slices_Equal_Sint64.next0, slices_Equal_Sint64.round0, Int.ofNat_lt, str_inj, beq_dec, bne_dec, cond_dec, cond_nt, if_true, if_false, decide_true, decide_false, cond_true, cond_false, u8_inj, cells_div, sz_int, sz_u8, sz_list, sz_Symbol, sz_Signature, sz_Equation, sz_Binding, sz_Algebra, sz_Entry, sz_Completion, sz_Theory, sz_Put, sz_Disk, sz_Act, sz_IntResult, sz_IntsResult, sz_BytesResult, sz_TextResult, sz_SignatureResult, sz_TermResult, sz_TermsResult, sz_EquationResult, sz_EquationsResult, sz_KeyResult, sz_BindingResult, sz_RedexResult, sz_NormalResult, sz_AlgebraResult, sz_EntryResult, sz_CompletionResult, sz_TheoryResult, sz_DiskResult, inB_nat, Int.toNat_natCast, get0, get1, get2, get3, get4, get5, get6, get7, get8, Nat.reduceLT, bind_of, List.getElem?_cons_zero, List.getElem?_cons_succ, oInt_int, oBool_bool, oStr_str, oSl_slc, oAgg_agg, oTup_tup, oCons_cons, oNil_nil, sl_cells, Nat.lt_irrefl])
    rw [cond_neg (by rw [hl]; exact bne_self_eq_false _)]
    exact loop
  · rw [cond_pos (by simp; omega)]
    simp only [show (l = r) = False from eq_false fun e => hl (e ▸ rfl), decide_false]

end Ev.Ty
