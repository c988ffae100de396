/- Equality, by the program and by the reference. -/
import Derived.Test.YtmiggelfhbllkaaTyPlumb
namespace Ev.Ty
open Go Ev
open Enc (enc)
open Sm (sm)
set_option linter.unusedVariables false
set_option linter.unusedSimpArgs false
theorem spec_l1Same (l r : List Int) (hs : sm 4294967296 l) : Call F.spec_l1Same [slc l, slc r] (.bool (decide (l = r))) := by
  refine call_of rfl (l.length + 1) ((spec_l1Same.ev _ _ _).trans ?_)
  simp only [cells_div, sz_int]
  by_cases hl : l.length = r.length
  · have loop := eq_loop hl (S := fun m k => spec_l1Same.at0 (l.length + 1) m (spec_l1Same.st0 (cells l) (cells r) (k : Nat)))
      (fun m k h h' => by
        have hlk : l[k]? = some l[k] := List.getElem?_eq_getElem h
        have hrk : r[k]? = some r[k] := List.getElem?_eq_getElem h'
        simp only [spec_l1Same.next0, spec_l1Same.round0, Int.ofNat_lt, beq_dec, bne_dec, cond_dec, cond_nt, if_true, if_false, decide_true, decide_false, cond_true, cond_false, u8_inj, cells_div, sz_int, sz_u8, sz_list, sz_Symbol, sz_Signature, sz_Equation, sz_Binding, sz_Algebra, sz_Entry, sz_Completion, sz_Theory, sz_Put, sz_Disk, sz_Act, sz_IntResult, sz_IntsResult, sz_BytesResult, sz_TextResult, sz_SignatureResult, sz_TermResult, sz_TermsResult, sz_EquationResult, sz_EquationsResult, sz_KeyResult, sz_BindingResult, sz_RedexResult, sz_NormalResult, sz_AlgebraResult, sz_EntryResult, sz_CompletionResult, sz_TheoryResult, sz_DiskResult, inB_nat, Int.toNat_natCast, get0, get1, get2, get3, get4, get5, get6, get7, get8, Nat.reduceLT, Option.bind_some, List.getElem?_cons_zero, List.getElem?_cons_succ, oInt_int, oBool_bool, oStr_str, oSl_slc, oAgg_agg, oTup_tup, oCons_cons, oNil_nil, sl_cells, h, h', hlk, hrk, cells_window (l := l) sz_int hlk, cells_window (l := r) sz_int hrk, enc_int, enc_u8]
        rw [wrap_succ (by have := hs.1; omega)])
      (fun m => by
        simp only [spec_l1Same.next0, spec_l1Same.round0, Int.ofNat_lt, beq_dec, bne_dec, cond_dec, cond_nt, if_true, if_false, decide_true, decide_false, cond_true, cond_false, u8_inj, cells_div, sz_int, sz_u8, sz_list, sz_Symbol, sz_Signature, sz_Equation, sz_Binding, sz_Algebra, sz_Entry, sz_Completion, sz_Theory, sz_Put, sz_Disk, sz_Act, sz_IntResult, sz_IntsResult, sz_BytesResult, sz_TextResult, sz_SignatureResult, sz_TermResult, sz_TermsResult, sz_EquationResult, sz_EquationsResult, sz_KeyResult, sz_BindingResult, sz_RedexResult, sz_NormalResult, sz_AlgebraResult, sz_EntryResult, sz_CompletionResult, sz_TheoryResult, sz_DiskResult, inB_nat, Int.toNat_natCast, get0, get1, get2, get3, get4, get5, get6, get7, get8, Nat.reduceLT, Option.bind_some, List.getElem?_cons_zero, List.getElem?_cons_succ, oInt_int, oBool_bool, oStr_str, oSl_slc, oAgg_agg, oTup_tup, oCons_cons, oNil_nil, sl_cells, Nat.lt_irrefl])
    rw [cond_neg (by rw [hl]; exact bne_self_eq_false _)]
    exact loop
  · rw [cond_pos (by simp; omega)]
    simp only [show (l = r) = False from eq_false fun e => hl (e ▸ rfl), decide_false]

theorem slices_Equal_Sint64 (l r : List Int) (hs : sm 4294967296 l) : Call F.slices_Equal_Sint64 [slc l, slc r] (.bool (decide (l = r))) := by
  refine call_of rfl (l.length + 1) ((slices_Equal_Sint64.ev _ _ _).trans ?_)
  simp only [cells_div, sz_int]
  by_cases hl : l.length = r.length
  · have loop := eq_loop hl (S := fun m k => slices_Equal_Sint64.at0 (l.length + 1) m (slices_Equal_Sint64.st0 (cells l) (cells r) l.length (k : Nat)))
      (fun m k h h' => by
        have hlk : l[k]? = some l[k] := List.getElem?_eq_getElem h
        have hrk : r[k]? = some r[k] := List.getElem?_eq_getElem h'
        simp only [slices_Equal_Sint64.next0, slices_Equal_Sint64.round0, Int.ofNat_lt, beq_dec, bne_dec, cond_dec, cond_nt, if_true, if_false, decide_true, decide_false, cond_true, cond_false, u8_inj, cells_div, sz_int, sz_u8, sz_list, sz_Symbol, sz_Signature, sz_Equation, sz_Binding, sz_Algebra, sz_Entry, sz_Completion, sz_Theory, sz_Put, sz_Disk, sz_Act, sz_IntResult, sz_IntsResult, sz_BytesResult, sz_TextResult, sz_SignatureResult, sz_TermResult, sz_TermsResult, sz_EquationResult, sz_EquationsResult, sz_KeyResult, sz_BindingResult, sz_RedexResult, sz_NormalResult, sz_AlgebraResult, sz_EntryResult, sz_CompletionResult, sz_TheoryResult, sz_DiskResult, inB_nat, Int.toNat_natCast, get0, get1, get2, get3, get4, get5, get6, get7, get8, Nat.reduceLT, Option.bind_some, List.getElem?_cons_zero, List.getElem?_cons_succ, oInt_int, oBool_bool, oStr_str, oSl_slc, oAgg_agg, oTup_tup, oCons_cons, oNil_nil, sl_cells, h, h', hlk, hrk, cells_window (l := l) sz_int hlk, cells_window (l := r) sz_int hrk, enc_int, enc_u8]
        rw [wrap_succ (by have := hs.1; omega)])
      (fun m => by
        simp only [slices_Equal_Sint64.next0, slices_Equal_Sint64.round0, Int.ofNat_lt, beq_dec, bne_dec, cond_dec, cond_nt, if_true, if_false, decide_true, decide_false, cond_true, cond_false, u8_inj, cells_div, sz_int, sz_u8, sz_list, sz_Symbol, sz_Signature, sz_Equation, sz_Binding, sz_Algebra, sz_Entry, sz_Completion, sz_Theory, sz_Put, sz_Disk, sz_Act, sz_IntResult, sz_IntsResult, sz_BytesResult, sz_TextResult, sz_SignatureResult, sz_TermResult, sz_TermsResult, sz_EquationResult, sz_EquationsResult, sz_KeyResult, sz_BindingResult, sz_RedexResult, sz_NormalResult, sz_AlgebraResult, sz_EntryResult, sz_CompletionResult, sz_TheoryResult, sz_DiskResult, inB_nat, Int.toNat_natCast, get0, get1, get2, get3, get4, get5, get6, get7, get8, Nat.reduceLT, Option.bind_some, List.getElem?_cons_zero, List.getElem?_cons_succ, oInt_int, oBool_bool, oStr_str, oSl_slc, oAgg_agg, oTup_tup, oCons_cons, oNil_nil, sl_cells, Nat.lt_irrefl])
    rw [cond_neg (by rw [hl]; exact bne_self_eq_false _)]
    exact loop
  · rw [cond_pos (by simp; omega)]
    simp only [show (l = r) = False from eq_false fun e => hl (e ▸ rfl), decide_false]

theorem impl_sameEquation (v_left : List Int) (v_right : List Int) (w_left : List Int) (w_right : List Int) (hs : sm 4294967296 (Equation.mk v_left v_right)) : Call F.impl_sameEquation [.agg [slc v_left, slc v_right], .agg [slc w_left, slc w_right]] (.bool (decide ((Equation.mk v_left v_right) = (Equation.mk w_left w_right)))) := by
  refine call_of rfl 0 ((impl_sameEquation.ev _ _ _ _ _ ).trans ?_)
  simp only [Int.ofNat_lt, beq_dec, bne_dec, cond_dec, cond_nt, if_true, if_false, decide_true, decide_false, cond_true, cond_false, u8_inj, cells_div, sz_int, sz_u8, sz_list, sz_Symbol, sz_Signature, sz_Equation, sz_Binding, sz_Algebra, sz_Entry, sz_Completion, sz_Theory, sz_Put, sz_Disk, sz_Act, sz_IntResult, sz_IntsResult, sz_BytesResult, sz_TextResult, sz_SignatureResult, sz_TermResult, sz_TermsResult, sz_EquationResult, sz_EquationsResult, sz_KeyResult, sz_BindingResult, sz_RedexResult, sz_NormalResult, sz_AlgebraResult, sz_EntryResult, sz_CompletionResult, sz_TheoryResult, sz_DiskResult, inB_nat, Int.toNat_natCast, get0, get1, get2, get3, get4, get5, get6, get7, get8, Nat.reduceLT, Option.bind_some, List.getElem?_cons_zero, List.getElem?_cons_succ, oInt_int, oBool_bool, oStr_str, oSl_slc, oAgg_agg, oTup_tup, oCons_cons, oNil_nil, sl_cells, (slices_Equal_Sint64 _ _ hs.1).eq, (slices_Equal_Sint64 _ _ hs.2).eq, Equation.mk.injEq]
  by_cases h0 : v_left = w_left
  case neg => simp only [h0,  beq_self_eq_true, decide_eq_false, not_false_eq_true, if_true, if_false, decide_false, decide_true, cond_false, cond_true, false_and, and_false, ↓reduceIte]
  by_cases h1 : v_right = w_right
  case neg => simp only [h1, h0,  beq_self_eq_true, decide_eq_false, not_false_eq_true, if_true, if_false, decide_false, decide_true, cond_false, cond_true, false_and, and_false, ↓reduceIte]
  simp only [h0, h1, if_true, decide_true, cond_true, and_true, and_self, beq_self_eq_true]

theorem spec_l4Same (v_left : List Int) (v_right : List Int) (w_left : List Int) (w_right : List Int) (hs : sm 4294967296 (Equation.mk v_left v_right)) : Call F.spec_l4Same [.rref [slc v_left, slc v_right] 0, .rref [slc w_left, slc w_right] 0] (.bool (decide ((Equation.mk v_left v_right) = (Equation.mk w_left w_right)))) := by
  refine call_of rfl 0 ((spec_l4Same.ev _ _ _ _ _ ).trans ?_)
  simp only [Int.ofNat_lt, beq_dec, bne_dec, cond_dec, cond_nt, if_true, if_false, decide_true, decide_false, cond_true, cond_false, u8_inj, cells_div, sz_int, sz_u8, sz_list, sz_Symbol, sz_Signature, sz_Equation, sz_Binding, sz_Algebra, sz_Entry, sz_Completion, sz_Theory, sz_Put, sz_Disk, sz_Act, sz_IntResult, sz_IntsResult, sz_BytesResult, sz_TextResult, sz_SignatureResult, sz_TermResult, sz_TermsResult, sz_EquationResult, sz_EquationsResult, sz_KeyResult, sz_BindingResult, sz_RedexResult, sz_NormalResult, sz_AlgebraResult, sz_EntryResult, sz_CompletionResult, sz_TheoryResult, sz_DiskResult, inB_nat, Int.toNat_natCast, get0, get1, get2, get3, get4, get5, get6, get7, get8, Nat.reduceLT, Option.bind_some, List.getElem?_cons_zero, List.getElem?_cons_succ, oInt_int, oBool_bool, oStr_str, oSl_slc, oAgg_agg, oTup_tup, oCons_cons, oNil_nil, sl_cells, (spec_l1Same _ _ hs.1).eq, (spec_l1Same _ _ hs.2).eq, Equation.mk.injEq]
  by_cases h0 : v_left = w_left
  case neg => simp only [h0,  beq_self_eq_true, decide_eq_false, not_false_eq_true, if_true, if_false, decide_false, decide_true, cond_false, cond_true, false_and, and_false, ↓reduceIte]
  by_cases h1 : v_right = w_right
  case neg => simp only [h1, h0,  beq_self_eq_true, decide_eq_false, not_false_eq_true, if_true, if_false, decide_false, decide_true, cond_false, cond_true, false_and, and_false, ↓reduceIte]
  simp only [h0, h1, if_true, decide_true, cond_true, and_true, and_self, beq_self_eq_true]

theorem impl_Entry_equation (a b c d e : Int) (l r : List Int) : Call F.impl_Entry_equation [.agg [.int .i64 a, .int .i64 b, .int .i64 c, .int .i64 d, .int .i64 e, slc l, slc r]] (.agg [slc l, slc r]) :=
  call_of rfl 0 ((impl_Entry_equation.ev _ _ _ _ _ _ _ _).trans rfl)

theorem impl_sameEntry (v_kind : Int) (v_a : Int) (v_b : Int) (v_place : Int) (v_side : Int) (v_left : List Int) (v_right : List Int) (w_kind : Int) (w_a : Int) (w_b : Int) (w_place : Int) (w_side : Int) (w_left : List Int) (w_right : List Int) (hs : sm 4294967296 (Entry.mk v_kind v_a v_b v_place v_side v_left v_right)) : Call F.impl_sameEntry [.agg [.int .i64 v_kind, .int .i64 v_a, .int .i64 v_b, .int .i64 v_place, .int .i64 v_side, slc v_left, slc v_right], .agg [.int .i64 w_kind, .int .i64 w_a, .int .i64 w_b, .int .i64 w_place, .int .i64 w_side, slc w_left, slc w_right]] (.bool (decide ((Entry.mk v_kind v_a v_b v_place v_side v_left v_right) = (Entry.mk w_kind w_a w_b w_place w_side w_left w_right)))) := by
  refine call_of rfl 0 ((impl_sameEntry.ev _ _ _ _ _ _ _ _ _ _ _ _ _ _ _ ).trans ?_)
  simp only [Int.ofNat_lt, beq_dec, bne_dec, cond_dec, cond_nt, if_true, if_false, decide_true, decide_false, cond_true, cond_false, u8_inj, cells_div, sz_int, sz_u8, sz_list, sz_Symbol, sz_Signature, sz_Equation, sz_Binding, sz_Algebra, sz_Entry, sz_Completion, sz_Theory, sz_Put, sz_Disk, sz_Act, sz_IntResult, sz_IntsResult, sz_BytesResult, sz_TextResult, sz_SignatureResult, sz_TermResult, sz_TermsResult, sz_EquationResult, sz_EquationsResult, sz_KeyResult, sz_BindingResult, sz_RedexResult, sz_NormalResult, sz_AlgebraResult, sz_EntryResult, sz_CompletionResult, sz_TheoryResult, sz_DiskResult, inB_nat, Int.toNat_natCast, get0, get1, get2, get3, get4, get5, get6, get7, get8, Nat.reduceLT, Option.bind_some, List.getElem?_cons_zero, List.getElem?_cons_succ, oInt_int, oBool_bool, oStr_str, oSl_slc, oAgg_agg, oTup_tup, oCons_cons, oNil_nil, sl_cells, (impl_Entry_equation _ _ _ _ _ _ _).eq, (impl_sameEquation _ _ _ _ hs).eq, Equation.mk.injEq, Entry.mk.injEq]
  by_cases h0 : v_kind = w_kind
  case neg => simp only [h0,  beq_self_eq_true, decide_eq_false, not_false_eq_true, if_true, if_false, decide_false, decide_true, cond_false, cond_true, false_and, and_false, ↓reduceIte]
  by_cases h1 : v_a = w_a
  case neg => simp only [h1, h0,  beq_self_eq_true, decide_eq_false, not_false_eq_true, if_true, if_false, decide_false, decide_true, cond_false, cond_true, false_and, and_false, ↓reduceIte]
  by_cases h2 : v_b = w_b
  case neg => simp only [h2, h0, h1,  beq_self_eq_true, decide_eq_false, not_false_eq_true, if_true, if_false, decide_false, decide_true, cond_false, cond_true, false_and, and_false, ↓reduceIte]
  by_cases h3 : v_place = w_place
  case neg => simp only [h3, h0, h1, h2,  beq_self_eq_true, decide_eq_false, not_false_eq_true, if_true, if_false, decide_false, decide_true, cond_false, cond_true, false_and, and_false, ↓reduceIte]
  by_cases h4 : v_side = w_side
  case neg => simp only [h4, h0, h1, h2, h3,  beq_self_eq_true, decide_eq_false, not_false_eq_true, if_true, if_false, decide_false, decide_true, cond_false, cond_true, false_and, and_false, ↓reduceIte]
  by_cases h5 : v_left = w_left
  case neg => simp only [h5, h0, h1, h2, h3, h4,  beq_self_eq_true, decide_eq_false, not_false_eq_true, if_true, if_false, decide_false, decide_true, cond_false, cond_true, false_and, and_false, ↓reduceIte]
  by_cases h6 : v_right = w_right
  case neg => simp only [h6, h0, h1, h2, h3, h4, h5,  beq_self_eq_true, decide_eq_false, not_false_eq_true, if_true, if_false, decide_false, decide_true, cond_false, cond_true, false_and, and_false, ↓reduceIte]
  simp only [h0, h1, h2, h3, h4, h5, h6, if_true, decide_true, cond_true, and_true, and_self, beq_self_eq_true]

theorem spec_l11Same (v_kind : Int) (v_a : Int) (v_b : Int) (v_place : Int) (v_side : Int) (v_left : List Int) (v_right : List Int) (w_kind : Int) (w_a : Int) (w_b : Int) (w_place : Int) (w_side : Int) (w_left : List Int) (w_right : List Int) (hs : sm 4294967296 (Entry.mk v_kind v_a v_b v_place v_side v_left v_right)) : Call F.spec_l11Same [.rref [.int .i64 v_kind, .int .i64 v_a, .int .i64 v_b, .int .i64 v_place, .int .i64 v_side, slc v_left, slc v_right] 0, .rref [.int .i64 w_kind, .int .i64 w_a, .int .i64 w_b, .int .i64 w_place, .int .i64 w_side, slc w_left, slc w_right] 0] (.bool (decide ((Entry.mk v_kind v_a v_b v_place v_side v_left v_right) = (Entry.mk w_kind w_a w_b w_place w_side w_left w_right)))) := by
  refine call_of rfl 0 ((spec_l11Same.ev _ _ _ _ _ _ _ _ _ _ _ _ _ _ _ ).trans ?_)
  simp only [Int.ofNat_lt, beq_dec, bne_dec, cond_dec, cond_nt, if_true, if_false, decide_true, decide_false, cond_true, cond_false, u8_inj, cells_div, sz_int, sz_u8, sz_list, sz_Symbol, sz_Signature, sz_Equation, sz_Binding, sz_Algebra, sz_Entry, sz_Completion, sz_Theory, sz_Put, sz_Disk, sz_Act, sz_IntResult, sz_IntsResult, sz_BytesResult, sz_TextResult, sz_SignatureResult, sz_TermResult, sz_TermsResult, sz_EquationResult, sz_EquationsResult, sz_KeyResult, sz_BindingResult, sz_RedexResult, sz_NormalResult, sz_AlgebraResult, sz_EntryResult, sz_CompletionResult, sz_TheoryResult, sz_DiskResult, inB_nat, Int.toNat_natCast, get0, get1, get2, get3, get4, get5, get6, get7, get8, Nat.reduceLT, Option.bind_some, List.getElem?_cons_zero, List.getElem?_cons_succ, oInt_int, oBool_bool, oStr_str, oSl_slc, oAgg_agg, oTup_tup, oCons_cons, oNil_nil, sl_cells, (spec_l1Same _ _ hs.1).eq, (spec_l1Same _ _ hs.2).eq, Entry.mk.injEq]
  by_cases h0 : v_kind = w_kind
  case neg => simp only [h0,  beq_self_eq_true, decide_eq_false, not_false_eq_true, if_true, if_false, decide_false, decide_true, cond_false, cond_true, false_and, and_false, ↓reduceIte]
  by_cases h1 : v_a = w_a
  case neg => simp only [h1, h0,  beq_self_eq_true, decide_eq_false, not_false_eq_true, if_true, if_false, decide_false, decide_true, cond_false, cond_true, false_and, and_false, ↓reduceIte]
  by_cases h2 : v_b = w_b
  case neg => simp only [h2, h0, h1,  beq_self_eq_true, decide_eq_false, not_false_eq_true, if_true, if_false, decide_false, decide_true, cond_false, cond_true, false_and, and_false, ↓reduceIte]
  by_cases h3 : v_place = w_place
  case neg => simp only [h3, h0, h1, h2,  beq_self_eq_true, decide_eq_false, not_false_eq_true, if_true, if_false, decide_false, decide_true, cond_false, cond_true, false_and, and_false, ↓reduceIte]
  by_cases h4 : v_side = w_side
  case neg => simp only [h4, h0, h1, h2, h3,  beq_self_eq_true, decide_eq_false, not_false_eq_true, if_true, if_false, decide_false, decide_true, cond_false, cond_true, false_and, and_false, ↓reduceIte]
  by_cases h5 : v_left = w_left
  case neg => simp only [h5, h0, h1, h2, h3, h4,  beq_self_eq_true, decide_eq_false, not_false_eq_true, if_true, if_false, decide_false, decide_true, cond_false, cond_true, false_and, and_false, ↓reduceIte]
  by_cases h6 : v_right = w_right
  case neg => simp only [h6, h0, h1, h2, h3, h4, h5,  beq_self_eq_true, decide_eq_false, not_false_eq_true, if_true, if_false, decide_false, decide_true, cond_false, cond_true, false_and, and_false, ↓reduceIte]
  simp only [h0, h1, h2, h3, h4, h5, h6, if_true, decide_true, cond_true, and_true, and_self, beq_self_eq_true]

theorem slices_EqualFunc_SEquation_at2_impl_sameEquation (l r : List Equation) (hs : sm 4294967296 l) : Call F.slices_EqualFunc_SEquation [slc l, slc r, .clo F.impl_sameEquation []] (.bool (decide (l = r))) := by
  refine call_of rfl (l.length + 1) ((slices_EqualFunc_SEquation_at2_impl_sameEquation.ev _ _ _).trans ?_)
  simp only [cells_div, sz_Equation]
  by_cases hl : l.length = r.length
  · have loop := eq_loop hl (S := fun m k => slices_EqualFunc_SEquation_at2_impl_sameEquation.at0 (l.length + 1) m (slices_EqualFunc_SEquation_at2_impl_sameEquation.st0 (cells r) (cells l) l.length (k : Nat)))
      (fun m k h h' => by
        have hlk : l[k]? = some l[k] := List.getElem?_eq_getElem h
        have hrk : r[k]? = some r[k] := List.getElem?_eq_getElem h'
        simp only [slices_EqualFunc_SEquation_at2_impl_sameEquation.next0, slices_EqualFunc_SEquation_at2_impl_sameEquation.round0, Int.ofNat_lt, beq_dec, bne_dec, cond_dec, cond_nt, if_true, if_false, decide_true, decide_false, cond_true, cond_false, u8_inj, cells_div, sz_int, sz_u8, sz_list, sz_Symbol, sz_Signature, sz_Equation, sz_Binding, sz_Algebra, sz_Entry, sz_Completion, sz_Theory, sz_Put, sz_Disk, sz_Act, sz_IntResult, sz_IntsResult, sz_BytesResult, sz_TextResult, sz_SignatureResult, sz_TermResult, sz_TermsResult, sz_EquationResult, sz_EquationsResult, sz_KeyResult, sz_BindingResult, sz_RedexResult, sz_NormalResult, sz_AlgebraResult, sz_EntryResult, sz_CompletionResult, sz_TheoryResult, sz_DiskResult, inB_nat, Int.toNat_natCast, get0, get1, get2, get3, get4, get5, get6, get7, get8, Nat.reduceLT, Option.bind_some, List.getElem?_cons_zero, List.getElem?_cons_succ, oInt_int, oBool_bool, oStr_str, oSl_slc, oAgg_agg, oTup_tup, oCons_cons, oNil_nil, sl_cells, h, h', hlk, hrk, cells_window (l := l) sz_Equation hlk, cells_window (l := r) sz_Equation hrk, enc_Equation, (impl_sameEquation l[k].left l[k].right r[k].left r[k].right (hs.2 _ (List.getElem_mem h))).eq]
        rw [wrap_succ (by have := hs.1; omega)])
      (fun m => by
        simp only [slices_EqualFunc_SEquation_at2_impl_sameEquation.next0, slices_EqualFunc_SEquation_at2_impl_sameEquation.round0, Int.ofNat_lt, beq_dec, bne_dec, cond_dec, cond_nt, if_true, if_false, decide_true, decide_false, cond_true, cond_false, u8_inj, cells_div, sz_int, sz_u8, sz_list, sz_Symbol, sz_Signature, sz_Equation, sz_Binding, sz_Algebra, sz_Entry, sz_Completion, sz_Theory, sz_Put, sz_Disk, sz_Act, sz_IntResult, sz_IntsResult, sz_BytesResult, sz_TextResult, sz_SignatureResult, sz_TermResult, sz_TermsResult, sz_EquationResult, sz_EquationsResult, sz_KeyResult, sz_BindingResult, sz_RedexResult, sz_NormalResult, sz_AlgebraResult, sz_EntryResult, sz_CompletionResult, sz_TheoryResult, sz_DiskResult, inB_nat, Int.toNat_natCast, get0, get1, get2, get3, get4, get5, get6, get7, get8, Nat.reduceLT, Option.bind_some, List.getElem?_cons_zero, List.getElem?_cons_succ, oInt_int, oBool_bool, oStr_str, oSl_slc, oAgg_agg, oTup_tup, oCons_cons, oNil_nil, sl_cells, Nat.lt_irrefl])
    rw [cond_neg (by rw [hl]; exact bne_self_eq_false _)]
    exact loop
  · rw [cond_pos (by simp; omega)]
    simp only [show (l = r) = False from eq_false fun e => hl (e ▸ rfl), decide_false]

theorem slices_EqualFunc_SEntry_at2_impl_sameEntry (l r : List Entry) (hs : sm 4294967296 l) : Call F.slices_EqualFunc_SEntry [slc l, slc r, .clo F.impl_sameEntry []] (.bool (decide (l = r))) := by
  refine call_of rfl (l.length + 1) ((slices_EqualFunc_SEntry_at2_impl_sameEntry.ev _ _ _).trans ?_)
  simp only [cells_div, sz_Entry]
  by_cases hl : l.length = r.length
  · have loop := eq_loop hl (S := fun m k => slices_EqualFunc_SEntry_at2_impl_sameEntry.at0 (l.length + 1) m (slices_EqualFunc_SEntry_at2_impl_sameEntry.st0 (cells r) (cells l) l.length (k : Nat)))
      (fun m k h h' => by
        have hlk : l[k]? = some l[k] := List.getElem?_eq_getElem h
        have hrk : r[k]? = some r[k] := List.getElem?_eq_getElem h'
        simp only [slices_EqualFunc_SEntry_at2_impl_sameEntry.next0, slices_EqualFunc_SEntry_at2_impl_sameEntry.round0, Int.ofNat_lt, beq_dec, bne_dec, cond_dec, cond_nt, if_true, if_false, decide_true, decide_false, cond_true, cond_false, u8_inj, cells_div, sz_int, sz_u8, sz_list, sz_Symbol, sz_Signature, sz_Equation, sz_Binding, sz_Algebra, sz_Entry, sz_Completion, sz_Theory, sz_Put, sz_Disk, sz_Act, sz_IntResult, sz_IntsResult, sz_BytesResult, sz_TextResult, sz_SignatureResult, sz_TermResult, sz_TermsResult, sz_EquationResult, sz_EquationsResult, sz_KeyResult, sz_BindingResult, sz_RedexResult, sz_NormalResult, sz_AlgebraResult, sz_EntryResult, sz_CompletionResult, sz_TheoryResult, sz_DiskResult, inB_nat, Int.toNat_natCast, get0, get1, get2, get3, get4, get5, get6, get7, get8, Nat.reduceLT, Option.bind_some, List.getElem?_cons_zero, List.getElem?_cons_succ, oInt_int, oBool_bool, oStr_str, oSl_slc, oAgg_agg, oTup_tup, oCons_cons, oNil_nil, sl_cells, h, h', hlk, hrk, cells_window (l := l) sz_Entry hlk, cells_window (l := r) sz_Entry hrk, enc_Entry, (impl_sameEntry l[k].kind l[k].a l[k].b l[k].place l[k].side l[k].left l[k].right r[k].kind r[k].a r[k].b r[k].place r[k].side r[k].left r[k].right (hs.2 _ (List.getElem_mem h))).eq]
        rw [wrap_succ (by have := hs.1; omega)])
      (fun m => by
        simp only [slices_EqualFunc_SEntry_at2_impl_sameEntry.next0, slices_EqualFunc_SEntry_at2_impl_sameEntry.round0, Int.ofNat_lt, beq_dec, bne_dec, cond_dec, cond_nt, if_true, if_false, decide_true, decide_false, cond_true, cond_false, u8_inj, cells_div, sz_int, sz_u8, sz_list, sz_Symbol, sz_Signature, sz_Equation, sz_Binding, sz_Algebra, sz_Entry, sz_Completion, sz_Theory, sz_Put, sz_Disk, sz_Act, sz_IntResult, sz_IntsResult, sz_BytesResult, sz_TextResult, sz_SignatureResult, sz_TermResult, sz_TermsResult, sz_EquationResult, sz_EquationsResult, sz_KeyResult, sz_BindingResult, sz_RedexResult, sz_NormalResult, sz_AlgebraResult, sz_EntryResult, sz_CompletionResult, sz_TheoryResult, sz_DiskResult, inB_nat, Int.toNat_natCast, get0, get1, get2, get3, get4, get5, get6, get7, get8, Nat.reduceLT, Option.bind_some, List.getElem?_cons_zero, List.getElem?_cons_succ, oInt_int, oBool_bool, oStr_str, oSl_slc, oAgg_agg, oTup_tup, oCons_cons, oNil_nil, sl_cells, Nat.lt_irrefl])
    rw [cond_neg (by rw [hl]; exact bne_self_eq_false _)]
    exact loop
  · rw [cond_pos (by simp; omega)]
    simp only [show (l = r) = False from eq_false fun e => hl (e ▸ rfl), decide_false]

theorem spec_SameEquations (l r : List Equation) (hs : sm 4294967296 l) : Call F.spec_SameEquations [slc l, slc r] (.bool (decide (l = r))) := by
  refine call_of rfl (l.length + 1) ((spec_SameEquations.ev _ _ _).trans ?_)
  simp only [cells_div, sz_Equation]
  by_cases hl : l.length = r.length
  · have loop := eq_loop hl (S := fun m k => spec_SameEquations.at0 (l.length + 1) m (spec_SameEquations.st0 (cells l) (cells r) (k : Nat)))
      (fun m k h h' => by
        have hlk : l[k]? = some l[k] := List.getElem?_eq_getElem h
        have hrk : r[k]? = some r[k] := List.getElem?_eq_getElem h'
        simp only [spec_SameEquations.next0, spec_SameEquations.round0, Int.ofNat_lt, beq_dec, bne_dec, cond_dec, cond_nt, if_true, if_false, decide_true, decide_false, cond_true, cond_false, u8_inj, cells_div, sz_int, sz_u8, sz_list, sz_Symbol, sz_Signature, sz_Equation, sz_Binding, sz_Algebra, sz_Entry, sz_Completion, sz_Theory, sz_Put, sz_Disk, sz_Act, sz_IntResult, sz_IntsResult, sz_BytesResult, sz_TextResult, sz_SignatureResult, sz_TermResult, sz_TermsResult, sz_EquationResult, sz_EquationsResult, sz_KeyResult, sz_BindingResult, sz_RedexResult, sz_NormalResult, sz_AlgebraResult, sz_EntryResult, sz_CompletionResult, sz_TheoryResult, sz_DiskResult, inB_nat, Int.toNat_natCast, get0, get1, get2, get3, get4, get5, get6, get7, get8, Nat.reduceLT, Option.bind_some, List.getElem?_cons_zero, List.getElem?_cons_succ, oInt_int, oBool_bool, oStr_str, oSl_slc, oAgg_agg, oTup_tup, oCons_cons, oNil_nil, sl_cells, h, h', hlk, hrk, cells_window (l := l) sz_Equation hlk, cells_window (l := r) sz_Equation hrk, enc_Equation, (spec_l4Same l[k].left l[k].right r[k].left r[k].right (hs.2 _ (List.getElem_mem h))).eq]
        rw [wrap_succ (by have := hs.1; omega)])
      (fun m => by
        simp only [spec_SameEquations.next0, spec_SameEquations.round0, Int.ofNat_lt, beq_dec, bne_dec, cond_dec, cond_nt, if_true, if_false, decide_true, decide_false, cond_true, cond_false, u8_inj, cells_div, sz_int, sz_u8, sz_list, sz_Symbol, sz_Signature, sz_Equation, sz_Binding, sz_Algebra, sz_Entry, sz_Completion, sz_Theory, sz_Put, sz_Disk, sz_Act, sz_IntResult, sz_IntsResult, sz_BytesResult, sz_TextResult, sz_SignatureResult, sz_TermResult, sz_TermsResult, sz_EquationResult, sz_EquationsResult, sz_KeyResult, sz_BindingResult, sz_RedexResult, sz_NormalResult, sz_AlgebraResult, sz_EntryResult, sz_CompletionResult, sz_TheoryResult, sz_DiskResult, inB_nat, Int.toNat_natCast, get0, get1, get2, get3, get4, get5, get6, get7, get8, Nat.reduceLT, Option.bind_some, List.getElem?_cons_zero, List.getElem?_cons_succ, oInt_int, oBool_bool, oStr_str, oSl_slc, oAgg_agg, oTup_tup, oCons_cons, oNil_nil, sl_cells, Nat.lt_irrefl])
    rw [cond_neg (by rw [hl]; exact bne_self_eq_false _)]
    exact loop
  · rw [cond_pos (by simp; omega)]
    simp only [show (l = r) = False from eq_false fun e => hl (e ▸ rfl), decide_false]

theorem spec_SameEntries (l r : List Entry) (hs : sm 4294967296 l) : Call F.spec_SameEntries [slc l, slc r] (.bool (decide (l = r))) := by
  refine call_of rfl (l.length + 1) ((spec_SameEntries.ev _ _ _).trans ?_)
  simp only [cells_div, sz_Entry]
  by_cases hl : l.length = r.length
  · have loop := eq_loop hl (S := fun m k => spec_SameEntries.at0 (l.length + 1) m (spec_SameEntries.st0 (cells l) (cells r) (k : Nat)))
      (fun m k h h' => by
        have hlk : l[k]? = some l[k] := List.getElem?_eq_getElem h
        have hrk : r[k]? = some r[k] := List.getElem?_eq_getElem h'
        simp only [spec_SameEntries.next0, spec_SameEntries.round0, Int.ofNat_lt, beq_dec, bne_dec, cond_dec, cond_nt, if_true, if_false, decide_true, decide_false, cond_true, cond_false, u8_inj, cells_div, sz_int, sz_u8, sz_list, sz_Symbol, sz_Signature, sz_Equation, sz_Binding, sz_Algebra, sz_Entry, sz_Completion, sz_Theory, sz_Put, sz_Disk, sz_Act, sz_IntResult, sz_IntsResult, sz_BytesResult, sz_TextResult, sz_SignatureResult, sz_TermResult, sz_TermsResult, sz_EquationResult, sz_EquationsResult, sz_KeyResult, sz_BindingResult, sz_RedexResult, sz_NormalResult, sz_AlgebraResult, sz_EntryResult, sz_CompletionResult, sz_TheoryResult, sz_DiskResult, inB_nat, Int.toNat_natCast, get0, get1, get2, get3, get4, get5, get6, get7, get8, Nat.reduceLT, Option.bind_some, List.getElem?_cons_zero, List.getElem?_cons_succ, oInt_int, oBool_bool, oStr_str, oSl_slc, oAgg_agg, oTup_tup, oCons_cons, oNil_nil, sl_cells, h, h', hlk, hrk, cells_window (l := l) sz_Entry hlk, cells_window (l := r) sz_Entry hrk, enc_Entry, (spec_l11Same l[k].kind l[k].a l[k].b l[k].place l[k].side l[k].left l[k].right r[k].kind r[k].a r[k].b r[k].place r[k].side r[k].left r[k].right (hs.2 _ (List.getElem_mem h))).eq]
        rw [wrap_succ (by have := hs.1; omega)])
      (fun m => by
        simp only [spec_SameEntries.next0, spec_SameEntries.round0, Int.ofNat_lt, beq_dec, bne_dec, cond_dec, cond_nt, if_true, if_false, decide_true, decide_false, cond_true, cond_false, u8_inj, cells_div, sz_int, sz_u8, sz_list, sz_Symbol, sz_Signature, sz_Equation, sz_Binding, sz_Algebra, sz_Entry, sz_Completion, sz_Theory, sz_Put, sz_Disk, sz_Act, sz_IntResult, sz_IntsResult, sz_BytesResult, sz_TextResult, sz_SignatureResult, sz_TermResult, sz_TermsResult, sz_EquationResult, sz_EquationsResult, sz_KeyResult, sz_BindingResult, sz_RedexResult, sz_NormalResult, sz_AlgebraResult, sz_EntryResult, sz_CompletionResult, sz_TheoryResult, sz_DiskResult, inB_nat, Int.toNat_natCast, get0, get1, get2, get3, get4, get5, get6, get7, get8, Nat.reduceLT, Option.bind_some, List.getElem?_cons_zero, List.getElem?_cons_succ, oInt_int, oBool_bool, oStr_str, oSl_slc, oAgg_agg, oTup_tup, oCons_cons, oNil_nil, sl_cells, Nat.lt_irrefl])
    rw [cond_neg (by rw [hl]; exact bne_self_eq_false _)]
    exact loop
  · rw [cond_pos (by simp; omega)]
    simp only [show (l = r) = False from eq_false fun e => hl (e ▸ rfl), decide_false]

theorem impl_SameEquations (l r : List Equation) (hs : sm 4294967296 l) : Call F.impl_SameEquations [slc l, slc r] (.bool (decide (l = r))) := by
  refine call_of rfl 0 ((impl_SameEquations.ev _ _ _).trans ?_)
  simp only [Int.ofNat_lt, beq_dec, bne_dec, cond_dec, cond_nt, if_true, if_false, decide_true, decide_false, cond_true, cond_false, u8_inj, cells_div, sz_int, sz_u8, sz_list, sz_Symbol, sz_Signature, sz_Equation, sz_Binding, sz_Algebra, sz_Entry, sz_Completion, sz_Theory, sz_Put, sz_Disk, sz_Act, sz_IntResult, sz_IntsResult, sz_BytesResult, sz_TextResult, sz_SignatureResult, sz_TermResult, sz_TermsResult, sz_EquationResult, sz_EquationsResult, sz_KeyResult, sz_BindingResult, sz_RedexResult, sz_NormalResult, sz_AlgebraResult, sz_EntryResult, sz_CompletionResult, sz_TheoryResult, sz_DiskResult, inB_nat, Int.toNat_natCast, get0, get1, get2, get3, get4, get5, get6, get7, get8, Nat.reduceLT, Option.bind_some, List.getElem?_cons_zero, List.getElem?_cons_succ, oInt_int, oBool_bool, oStr_str, oSl_slc, oAgg_agg, oTup_tup, oCons_cons, oNil_nil, sl_cells, (slices_EqualFunc_SEquation_at2_impl_sameEquation l r hs).eq]

theorem impl_SameEntries (l r : List Entry) (hs : sm 4294967296 l) : Call F.impl_SameEntries [slc l, slc r] (.bool (decide (l = r))) := by
  refine call_of rfl 0 ((impl_SameEntries.ev _ _ _).trans ?_)
  simp only [Int.ofNat_lt, beq_dec, bne_dec, cond_dec, cond_nt, if_true, if_false, decide_true, decide_false, cond_true, cond_false, u8_inj, cells_div, sz_int, sz_u8, sz_list, sz_Symbol, sz_Signature, sz_Equation, sz_Binding, sz_Algebra, sz_Entry, sz_Completion, sz_Theory, sz_Put, sz_Disk, sz_Act, sz_IntResult, sz_IntsResult, sz_BytesResult, sz_TextResult, sz_SignatureResult, sz_TermResult, sz_TermsResult, sz_EquationResult, sz_EquationsResult, sz_KeyResult, sz_BindingResult, sz_RedexResult, sz_NormalResult, sz_AlgebraResult, sz_EntryResult, sz_CompletionResult, sz_TheoryResult, sz_DiskResult, inB_nat, Int.toNat_natCast, get0, get1, get2, get3, get4, get5, get6, get7, get8, Nat.reduceLT, Option.bind_some, List.getElem?_cons_zero, List.getElem?_cons_succ, oInt_int, oBool_bool, oStr_str, oSl_slc, oAgg_agg, oTup_tup, oCons_cons, oNil_nil, sl_cells, (slices_EqualFunc_SEntry_at2_impl_sameEntry l r hs).eq]

theorem impl_SameTheories (v_order : List Int) (v_equations : List Equation) (v_rules : List Equation) (w_order : List Int) (w_equations : List Equation) (w_rules : List Equation) (hs : sm 4294967296 (Theory.mk v_order v_equations v_rules)) : Call F.impl_SameTheories [.agg [slc v_order, slc v_equations, slc v_rules], .agg [slc w_order, slc w_equations, slc w_rules]] (.bool (decide ((Theory.mk v_order v_equations v_rules) = (Theory.mk w_order w_equations w_rules)))) := by
  refine call_of rfl 0 ((impl_SameTheories.ev _ _ _ _ _ _ _ ).trans ?_)
  simp only [Int.ofNat_lt, beq_dec, bne_dec, cond_dec, cond_nt, if_true, if_false, decide_true, decide_false, cond_true, cond_false, u8_inj, cells_div, sz_int, sz_u8, sz_list, sz_Symbol, sz_Signature, sz_Equation, sz_Binding, sz_Algebra, sz_Entry, sz_Completion, sz_Theory, sz_Put, sz_Disk, sz_Act, sz_IntResult, sz_IntsResult, sz_BytesResult, sz_TextResult, sz_SignatureResult, sz_TermResult, sz_TermsResult, sz_EquationResult, sz_EquationsResult, sz_KeyResult, sz_BindingResult, sz_RedexResult, sz_NormalResult, sz_AlgebraResult, sz_EntryResult, sz_CompletionResult, sz_TheoryResult, sz_DiskResult, inB_nat, Int.toNat_natCast, get0, get1, get2, get3, get4, get5, get6, get7, get8, Nat.reduceLT, Option.bind_some, List.getElem?_cons_zero, List.getElem?_cons_succ, oInt_int, oBool_bool, oStr_str, oSl_slc, oAgg_agg, oTup_tup, oCons_cons, oNil_nil, sl_cells, (slices_Equal_Sint64 _ _ hs.1).eq, (impl_SameEquations _ _ hs.2.1).eq, (impl_SameEquations _ _ hs.2.2).eq, Theory.mk.injEq]
  by_cases h0 : v_order = w_order
  case neg => simp only [h0,  beq_self_eq_true, decide_eq_false, not_false_eq_true, if_true, if_false, decide_false, decide_true, cond_false, cond_true, false_and, and_false, ↓reduceIte]
  by_cases h1 : v_equations = w_equations
  case neg => simp only [h1, h0,  beq_self_eq_true, decide_eq_false, not_false_eq_true, if_true, if_false, decide_false, decide_true, cond_false, cond_true, false_and, and_false, ↓reduceIte]
  by_cases h2 : v_rules = w_rules
  case neg => simp only [h2, h0, h1,  beq_self_eq_true, decide_eq_false, not_false_eq_true, if_true, if_false, decide_false, decide_true, cond_false, cond_true, false_and, and_false, ↓reduceIte]
  simp only [h0, h1, h2, if_true, decide_true, cond_true, and_true, and_self, beq_self_eq_true]

theorem impl_SameCompletions (v_order : List Int) (v_equations : List Equation) (v_entries : List Entry) (v_rules : List Int) (v_waiting : List Int) (v_rounds : Int) (w_order : List Int) (w_equations : List Equation) (w_entries : List Entry) (w_rules : List Int) (w_waiting : List Int) (w_rounds : Int) (hs : sm 4294967296 (Completion.mk v_order v_equations v_entries v_rules v_waiting v_rounds)) : Call F.impl_SameCompletions [.agg [slc v_order, slc v_equations, slc v_entries, slc v_rules, slc v_waiting, .int .i64 v_rounds], .agg [slc w_order, slc w_equations, slc w_entries, slc w_rules, slc w_waiting, .int .i64 w_rounds]] (.bool (decide ((Completion.mk v_order v_equations v_entries v_rules v_waiting v_rounds) = (Completion.mk w_order w_equations w_entries w_rules w_waiting w_rounds)))) := by
  refine call_of rfl 0 ((impl_SameCompletions.ev _ _ _ _ _ _ _ _ _ _ _ _ _ ).trans ?_)
  simp only [Int.ofNat_lt, beq_dec, bne_dec, cond_dec, cond_nt, if_true, if_false, decide_true, decide_false, cond_true, cond_false, u8_inj, cells_div, sz_int, sz_u8, sz_list, sz_Symbol, sz_Signature, sz_Equation, sz_Binding, sz_Algebra, sz_Entry, sz_Completion, sz_Theory, sz_Put, sz_Disk, sz_Act, sz_IntResult, sz_IntsResult, sz_BytesResult, sz_TextResult, sz_SignatureResult, sz_TermResult, sz_TermsResult, sz_EquationResult, sz_EquationsResult, sz_KeyResult, sz_BindingResult, sz_RedexResult, sz_NormalResult, sz_AlgebraResult, sz_EntryResult, sz_CompletionResult, sz_TheoryResult, sz_DiskResult, inB_nat, Int.toNat_natCast, get0, get1, get2, get3, get4, get5, get6, get7, get8, Nat.reduceLT, Option.bind_some, List.getElem?_cons_zero, List.getElem?_cons_succ, oInt_int, oBool_bool, oStr_str, oSl_slc, oAgg_agg, oTup_tup, oCons_cons, oNil_nil, sl_cells, (slices_Equal_Sint64 _ _ hs.1).eq, (impl_SameEquations _ _ hs.2.1).eq, (impl_SameEntries _ _ hs.2.2.1).eq, (slices_Equal_Sint64 _ _ hs.2.2.2.1).eq, (slices_Equal_Sint64 _ _ hs.2.2.2.2).eq, Completion.mk.injEq]
  by_cases h0 : v_order = w_order
  case neg => simp only [h0,  beq_self_eq_true, decide_eq_false, not_false_eq_true, if_true, if_false, decide_false, decide_true, cond_false, cond_true, false_and, and_false, ↓reduceIte]
  by_cases h1 : v_equations = w_equations
  case neg => simp only [h1, h0,  beq_self_eq_true, decide_eq_false, not_false_eq_true, if_true, if_false, decide_false, decide_true, cond_false, cond_true, false_and, and_false, ↓reduceIte]
  by_cases h2 : v_entries = w_entries
  case neg => simp only [h2, h0, h1,  beq_self_eq_true, decide_eq_false, not_false_eq_true, if_true, if_false, decide_false, decide_true, cond_false, cond_true, false_and, and_false, ↓reduceIte]
  by_cases h3 : v_rules = w_rules
  case neg => simp only [h3, h0, h1, h2,  beq_self_eq_true, decide_eq_false, not_false_eq_true, if_true, if_false, decide_false, decide_true, cond_false, cond_true, false_and, and_false, ↓reduceIte]
  by_cases h4 : v_waiting = w_waiting
  case neg => simp only [h4, h0, h1, h2, h3,  beq_self_eq_true, decide_eq_false, not_false_eq_true, if_true, if_false, decide_false, decide_true, cond_false, cond_true, false_and, and_false, ↓reduceIte]
  by_cases h5 : v_rounds = w_rounds
  case neg => simp only [h5, h0, h1, h2, h3, h4,  beq_self_eq_true, decide_eq_false, not_false_eq_true, if_true, if_false, decide_false, decide_true, cond_false, cond_true, false_and, and_false, ↓reduceIte]
  simp only [h0, h1, h2, h3, h4, h5, if_true, decide_true, cond_true, and_true, and_self, beq_self_eq_true]

theorem spec_SameTheories (v_order : List Int) (v_equations : List Equation) (v_rules : List Equation) (w_order : List Int) (w_equations : List Equation) (w_rules : List Equation) (hs : sm 4294967296 (Theory.mk v_order v_equations v_rules)) : Call F.spec_SameTheories [.agg [slc v_order, slc v_equations, slc v_rules], .agg [slc w_order, slc w_equations, slc w_rules]] (.bool (decide ((Theory.mk v_order v_equations v_rules) = (Theory.mk w_order w_equations w_rules)))) := by
  refine call_of rfl 0 ((spec_SameTheories.ev _ _ _ _ _ _ _ ).trans ?_)
  simp only [Int.ofNat_lt, beq_dec, bne_dec, cond_dec, cond_nt, if_true, if_false, decide_true, decide_false, cond_true, cond_false, u8_inj, cells_div, sz_int, sz_u8, sz_list, sz_Symbol, sz_Signature, sz_Equation, sz_Binding, sz_Algebra, sz_Entry, sz_Completion, sz_Theory, sz_Put, sz_Disk, sz_Act, sz_IntResult, sz_IntsResult, sz_BytesResult, sz_TextResult, sz_SignatureResult, sz_TermResult, sz_TermsResult, sz_EquationResult, sz_EquationsResult, sz_KeyResult, sz_BindingResult, sz_RedexResult, sz_NormalResult, sz_AlgebraResult, sz_EntryResult, sz_CompletionResult, sz_TheoryResult, sz_DiskResult, inB_nat, Int.toNat_natCast, get0, get1, get2, get3, get4, get5, get6, get7, get8, Nat.reduceLT, Option.bind_some, List.getElem?_cons_zero, List.getElem?_cons_succ, oInt_int, oBool_bool, oStr_str, oSl_slc, oAgg_agg, oTup_tup, oCons_cons, oNil_nil, sl_cells, (spec_l1Same _ _ hs.1).eq, (spec_SameEquations _ _ hs.2.1).eq, (spec_SameEquations _ _ hs.2.2).eq, Theory.mk.injEq]
  by_cases h0 : v_order = w_order
  case neg => simp only [h0,  beq_self_eq_true, decide_eq_false, not_false_eq_true, if_true, if_false, decide_false, decide_true, cond_false, cond_true, false_and, and_false, ↓reduceIte]
  by_cases h1 : v_equations = w_equations
  case neg => simp only [h1, h0,  beq_self_eq_true, decide_eq_false, not_false_eq_true, if_true, if_false, decide_false, decide_true, cond_false, cond_true, false_and, and_false, ↓reduceIte]
  by_cases h2 : v_rules = w_rules
  case neg => simp only [h2, h0, h1,  beq_self_eq_true, decide_eq_false, not_false_eq_true, if_true, if_false, decide_false, decide_true, cond_false, cond_true, false_and, and_false, ↓reduceIte]
  simp only [h0, h1, h2, if_true, decide_true, cond_true, and_true, and_self, beq_self_eq_true]

theorem spec_SameCompletions (v_order : List Int) (v_equations : List Equation) (v_entries : List Entry) (v_rules : List Int) (v_waiting : List Int) (v_rounds : Int) (w_order : List Int) (w_equations : List Equation) (w_entries : List Entry) (w_rules : List Int) (w_waiting : List Int) (w_rounds : Int) (hs : sm 4294967296 (Completion.mk v_order v_equations v_entries v_rules v_waiting v_rounds)) : Call F.spec_SameCompletions [.agg [slc v_order, slc v_equations, slc v_entries, slc v_rules, slc v_waiting, .int .i64 v_rounds], .agg [slc w_order, slc w_equations, slc w_entries, slc w_rules, slc w_waiting, .int .i64 w_rounds]] (.bool (decide ((Completion.mk v_order v_equations v_entries v_rules v_waiting v_rounds) = (Completion.mk w_order w_equations w_entries w_rules w_waiting w_rounds)))) := by
  refine call_of rfl 0 ((spec_SameCompletions.ev _ _ _ _ _ _ _ _ _ _ _ _ _ ).trans ?_)
  simp only [Int.ofNat_lt, beq_dec, bne_dec, cond_dec, cond_nt, if_true, if_false, decide_true, decide_false, cond_true, cond_false, u8_inj, cells_div, sz_int, sz_u8, sz_list, sz_Symbol, sz_Signature, sz_Equation, sz_Binding, sz_Algebra, sz_Entry, sz_Completion, sz_Theory, sz_Put, sz_Disk, sz_Act, sz_IntResult, sz_IntsResult, sz_BytesResult, sz_TextResult, sz_SignatureResult, sz_TermResult, sz_TermsResult, sz_EquationResult, sz_EquationsResult, sz_KeyResult, sz_BindingResult, sz_RedexResult, sz_NormalResult, sz_AlgebraResult, sz_EntryResult, sz_CompletionResult, sz_TheoryResult, sz_DiskResult, inB_nat, Int.toNat_natCast, get0, get1, get2, get3, get4, get5, get6, get7, get8, Nat.reduceLT, Option.bind_some, List.getElem?_cons_zero, List.getElem?_cons_succ, oInt_int, oBool_bool, oStr_str, oSl_slc, oAgg_agg, oTup_tup, oCons_cons, oNil_nil, sl_cells, (spec_l1Same _ _ hs.1).eq, (spec_SameEquations _ _ hs.2.1).eq, (spec_SameEntries _ _ hs.2.2.1).eq, (spec_l1Same _ _ hs.2.2.2.1).eq, (spec_l1Same _ _ hs.2.2.2.2).eq, Completion.mk.injEq]
  by_cases h0 : v_order = w_order
  case neg => simp only [h0,  beq_self_eq_true, decide_eq_false, not_false_eq_true, if_true, if_false, decide_false, decide_true, cond_false, cond_true, false_and, and_false, ↓reduceIte]
  by_cases h1 : v_equations = w_equations
  case neg => simp only [h1, h0,  beq_self_eq_true, decide_eq_false, not_false_eq_true, if_true, if_false, decide_false, decide_true, cond_false, cond_true, false_and, and_false, ↓reduceIte]
  by_cases h2 : v_entries = w_entries
  case neg => simp only [h2, h0, h1,  beq_self_eq_true, decide_eq_false, not_false_eq_true, if_true, if_false, decide_false, decide_true, cond_false, cond_true, false_and, and_false, ↓reduceIte]
  by_cases h3 : v_rules = w_rules
  case neg => simp only [h3, h0, h1, h2,  beq_self_eq_true, decide_eq_false, not_false_eq_true, if_true, if_false, decide_false, decide_true, cond_false, cond_true, false_and, and_false, ↓reduceIte]
  by_cases h4 : v_waiting = w_waiting
  case neg => simp only [h4, h0, h1, h2, h3,  beq_self_eq_true, decide_eq_false, not_false_eq_true, if_true, if_false, decide_false, decide_true, cond_false, cond_true, false_and, and_false, ↓reduceIte]
  by_cases h5 : v_rounds = w_rounds
  case neg => simp only [h5, h0, h1, h2, h3, h4,  beq_self_eq_true, decide_eq_false, not_false_eq_true, if_true, if_false, decide_false, decide_true, cond_false, cond_true, false_and, and_false, ↓reduceIte]
  simp only [h0, h1, h2, h3, h4, h5, if_true, decide_true, cond_true, and_true, and_self, beq_self_eq_true]

end Ev.Ty
