/- Steps on the way to RowEqualIn: TyLEqualIn. -/
import Derived.Test.YtljjgphapbhkaaaGreatDoorM4
section
namespace Ev.Ty
open Go Ev
open Enc (enc)
open Sm (sm)
set_option linter.unusedSimpArgs false
set_option linter.unusedVariables false
set_option maxRecDepth 100000
set_option maxHeartbeats 2000000
theorem laws_FnExactEqualIn (s : Signature) (t : Theory) (a : List Int) (b : List Int) (h_s : sm maxLen s) (h_t : sm maxLen t) (h_a : sm maxLen a) (h_b : sm maxLen b) : Call F.laws_FnExactEqualIn [.agg (enc s), .agg (enc t), slc a, slc b] (.bool true) := by
  by_cases n0 : (a.length : Int) > 1048576
  · exact call_of rfl 0 ((laws_FnExactEqualIn.ev _ _ _ _ _ _ _ ).trans (by simp only [Int.ofNat_lt, str_inj, beq_dec, bne_dec, cond_dec, cond_nt, if_true, if_false, decide_true, decide_false, cond_true, cond_false, u8_inj, cells_div, sz_int, sz_u8, sz_list, sz_Symbol, sz_Signature, sz_Equation, sz_Binding, sz_Algebra, sz_Entry, sz_Completion, sz_Theory, sz_Put, sz_Disk, sz_Act, sz_IntResult, sz_IntsResult, sz_BytesResult, sz_TextResult, sz_SignatureResult, sz_TermResult, sz_TermsResult, sz_EquationResult, sz_EquationsResult, sz_KeyResult, sz_BindingResult, sz_RedexResult, sz_NormalResult, sz_AlgebraResult, sz_EntryResult, sz_CompletionResult, sz_TheoryResult, sz_DiskResult, inB_nat, Int.toNat_natCast, get0, get1, get2, get3, get4, get5, get6, get7, get8, Nat.reduceLT, bind_of, List.getElem?_cons_zero, List.getElem?_cons_succ, oInt_int, oBool_bool, oStr_str, oSl_slc, oAgg_agg, oTup_tup, oCons_cons, oNil_nil, sl_cells, n0]))
  have p0 : True → sm 1048576 a := fun _ => ⟨by omega, fun _ _ => trivial⟩
  by_cases n1 : (b.length : Int) > 1048576
  · exact call_of rfl 0 ((laws_FnExactEqualIn.ev _ _ _ _ _ _ _ ).trans (by simp only [Int.ofNat_lt, str_inj, beq_dec, bne_dec, cond_dec, cond_nt, if_true, if_false, decide_true, decide_false, cond_true, cond_false, u8_inj, cells_div, sz_int, sz_u8, sz_list, sz_Symbol, sz_Signature, sz_Equation, sz_Binding, sz_Algebra, sz_Entry, sz_Completion, sz_Theory, sz_Put, sz_Disk, sz_Act, sz_IntResult, sz_IntsResult, sz_BytesResult, sz_TextResult, sz_SignatureResult, sz_TermResult, sz_TermsResult, sz_EquationResult, sz_EquationsResult, sz_KeyResult, sz_BindingResult, sz_RedexResult, sz_NormalResult, sz_AlgebraResult, sz_EntryResult, sz_CompletionResult, sz_TheoryResult, sz_DiskResult, inB_nat, Int.toNat_natCast, get0, get1, get2, get3, get4, get5, get6, get7, get8, Nat.reduceLT, bind_of, List.getElem?_cons_zero, List.getElem?_cons_succ, oInt_int, oBool_bool, oStr_str, oSl_slc, oAgg_agg, oTup_tup, oCons_cons, oNil_nil, sl_cells, n0, n1]))
  have p1 : True → sm 1048576 b := fun _ => ⟨by omega, fun _ _ => trivial⟩
  obtain ⟨r2, c2, g2, p2⟩ := laws_szSignature s.symbols 1048576 (by omega) (by omega) h_s
  by_cases n2 : r2 < 0
  · exact call_of rfl 0 ((laws_FnExactEqualIn.ev _ _ _ _ _ _ _ ).trans (by simp only [Int.ofNat_lt, str_inj, beq_dec, bne_dec, cond_dec, cond_nt, if_true, if_false, decide_true, decide_false, cond_true, cond_false, u8_inj, cells_div, sz_int, sz_u8, sz_list, sz_Symbol, sz_Signature, sz_Equation, sz_Binding, sz_Algebra, sz_Entry, sz_Completion, sz_Theory, sz_Put, sz_Disk, sz_Act, sz_IntResult, sz_IntsResult, sz_BytesResult, sz_TextResult, sz_SignatureResult, sz_TermResult, sz_TermsResult, sz_EquationResult, sz_EquationsResult, sz_KeyResult, sz_BindingResult, sz_RedexResult, sz_NormalResult, sz_AlgebraResult, sz_EntryResult, sz_CompletionResult, sz_TheoryResult, sz_DiskResult, inB_nat, Int.toNat_natCast, get0, get1, get2, get3, get4, get5, get6, get7, get8, Nat.reduceLT, bind_of, List.getElem?_cons_zero, List.getElem?_cons_succ, oInt_int, oBool_bool, oStr_str, oSl_slc, oAgg_agg, oTup_tup, oCons_cons, oNil_nil, sl_cells, n0, n1, c2.eq, n2]))
  obtain ⟨r3, c3, g3, p3⟩ := laws_szTheory t.order t.equations t.rules r2 (by omega) (by omega) h_t
  by_cases n3 : r3 < 0
  · exact call_of rfl 0 ((laws_FnExactEqualIn.ev _ _ _ _ _ _ _ ).trans (by simp only [Int.ofNat_lt, str_inj, beq_dec, bne_dec, cond_dec, cond_nt, if_true, if_false, decide_true, decide_false, cond_true, cond_false, u8_inj, cells_div, sz_int, sz_u8, sz_list, sz_Symbol, sz_Signature, sz_Equation, sz_Binding, sz_Algebra, sz_Entry, sz_Completion, sz_Theory, sz_Put, sz_Disk, sz_Act, sz_IntResult, sz_IntsResult, sz_BytesResult, sz_TextResult, sz_SignatureResult, sz_TermResult, sz_TermsResult, sz_EquationResult, sz_EquationsResult, sz_KeyResult, sz_BindingResult, sz_RedexResult, sz_NormalResult, sz_AlgebraResult, sz_EntryResult, sz_CompletionResult, sz_TheoryResult, sz_DiskResult, inB_nat, Int.toNat_natCast, get0, get1, get2, get3, get4, get5, get6, get7, get8, Nat.reduceLT, bind_of, List.getElem?_cons_zero, List.getElem?_cons_succ, oInt_int, oBool_bool, oStr_str, oSl_slc, oAgg_agg, oTup_tup, oCons_cons, oNil_nil, sl_cells, n0, n1, c2.eq, n2, c3.eq, n3]))
  have q_a := p0 trivial
  have s_a := sm_mono (show 1048576 ≤ 4294967296 by omega) q_a
  have m_a := sm_mono (show 1048576 ≤ 67108864 by omega) q_a
  have q_b := p1 trivial
  have s_b := sm_mono (show 1048576 ≤ 4294967296 by omega) q_b
  have m_b := sm_mono (show 1048576 ≤ 67108864 by omega) q_b
  have q_s := p2 (by omega)
  have s_s := sm_mono (show 1048576 ≤ 4294967296 by omega) q_s
  have m_s := sm_mono (show 1048576 ≤ 67108864 by omega) q_s
  have q_t := p3 (by omega)
  have s_t := sm_mono (show 1048576 ≤ 4294967296 by omega) q_t
  have m_t := sm_mono (show 1048576 ≤ 67108864 by omega) q_t
  have hi : Call F.impl_EqualIn [.agg [slc s.symbols], .agg [slc t.order, slc t.equations, slc t.rules], slc a, slc b] (.agg (enc (equalInR s t a b))) := impl_EqualIn s t a b q_s q_t q_a q_b
  have hp : Call F.spec_EqualIn [.agg [slc s.symbols], .agg [slc t.order, slc t.equations, slc t.rules], slc a, slc b] (.agg (enc (equalInR s t a b))) := spec_EqualIn s t a b q_s q_t q_a q_b
  have hv := equalInR_sm s t a b q_s q_t q_a q_b
  generalize equalInR s t a b = r at hi hp hv
  obtain ⟨w_code, w_value⟩ := r
  have hv2 := sm_mono (show 67108864 ≤ 4294967296 by omega) hv
  exact call_of rfl 0 ((laws_FnExactEqualIn.ev _ _ _ _ _ _ _ ).trans (by simp only [Int.ofNat_lt, str_inj, beq_dec, bne_dec, cond_dec, cond_nt, if_true, if_false, decide_true, decide_false, cond_true, cond_false, u8_inj, cells_div, sz_int, sz_u8, sz_list, sz_Symbol, sz_Signature, sz_Equation, sz_Binding, sz_Algebra, sz_Entry, sz_Completion, sz_Theory, sz_Put, sz_Disk, sz_Act, sz_IntResult, sz_IntsResult, sz_BytesResult, sz_TextResult, sz_SignatureResult, sz_TermResult, sz_TermsResult, sz_EquationResult, sz_EquationsResult, sz_KeyResult, sz_BindingResult, sz_RedexResult, sz_NormalResult, sz_AlgebraResult, sz_EntryResult, sz_CompletionResult, sz_TheoryResult, sz_DiskResult, inB_nat, Int.toNat_natCast, get0, get1, get2, get3, get4, get5, get6, get7, get8, Nat.reduceLT, bind_of, List.getElem?_cons_zero, List.getElem?_cons_succ, oInt_int, oBool_bool, oStr_str, oSl_slc, oAgg_agg, oTup_tup, oCons_cons, oNil_nil, sl_cells, n0, n1, c2.eq, n2, c3.eq, n3, hi.eq, hp.eq, (laws_toInt64S a s_a).eq, (laws_eqInt64S a _  s_a).eq, (laws_toInt64S b s_b).eq, (laws_eqInt64S b _  s_b).eq, (laws_toSignature s.symbols s_s).eq, (laws_eqSignature s.symbols _  s_s).eq, (laws_toTheory t.order t.equations t.rules s_t).eq, (laws_eqTheory t.order t.equations t.rules _ _ _  s_t).eq, (laws_eqIntResult w_code w_value _ _  hv2).eq, enc_IntResult, decide_true, Bool.not_true, cond_false]))
end Ev.Ty
end
