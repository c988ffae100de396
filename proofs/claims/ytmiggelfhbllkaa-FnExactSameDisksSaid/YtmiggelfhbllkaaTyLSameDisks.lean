/- The law SameDisks. Printed by mklaw.py. -/
import Derived.Test.YtmiggelfhbllkaaTyDisk2
namespace Ev.Ty
open Go Ev
open Enc (enc)
open Sm (sm)
set_option linter.unusedSimpArgs false
set_option linter.unusedVariables false
theorem laws_FnExactSameDisks (a : Disk) (b : Disk) (h_a : sm maxLen a) (h_b : sm maxLen b) : Call F.laws_FnExactSameDisks [.agg (enc a), .agg (enc b)] (.bool true) := by
  obtain ⟨r0, c0, g0, p0⟩ := laws_szDisk a.sectors a.pending 1048576 (by omega) (by omega) h_a
  by_cases n0 : r0 < 0
  · exact call_of rfl 0 ((laws_FnExactSameDisks.ev _ _ _ _ _ ).trans (by simp only [Int.ofNat_lt, str_inj, beq_dec, bne_dec, cond_dec, cond_nt, if_true, if_false, decide_true, decide_false, cond_true, cond_false, u8_inj, cells_div, sz_int, sz_u8, sz_list, sz_Symbol, sz_Signature, sz_Equation, sz_Binding, sz_Algebra, sz_Entry, sz_Completion, sz_Theory, sz_Put, sz_Disk, sz_Act, sz_IntResult, sz_IntsResult, sz_BytesResult, sz_TextResult, sz_SignatureResult, sz_TermResult, sz_TermsResult, sz_EquationResult, sz_EquationsResult, sz_KeyResult, sz_BindingResult, sz_RedexResult, sz_NormalResult, sz_AlgebraResult, sz_EntryResult, sz_CompletionResult, sz_TheoryResult, sz_DiskResult, inB_nat, Int.toNat_natCast, get0, get1, get2, get3, get4, get5, get6, get7, get8, Nat.reduceLT, bind_of, List.getElem?_cons_zero, List.getElem?_cons_succ, oInt_int, oBool_bool, oStr_str, oSl_slc, oAgg_agg, oTup_tup, oCons_cons, oNil_nil, sl_cells, c0.eq, n0]))
  obtain ⟨r1, c1, g1, p1⟩ := laws_szDisk b.sectors b.pending r0 (by omega) (by omega) h_b
  by_cases n1 : r1 < 0
  · exact call_of rfl 0 ((laws_FnExactSameDisks.ev _ _ _ _ _ ).trans (by simp only [Int.ofNat_lt, str_inj, beq_dec, bne_dec, cond_dec, cond_nt, if_true, if_false, decide_true, decide_false, cond_true, cond_false, u8_inj, cells_div, sz_int, sz_u8, sz_list, sz_Symbol, sz_Signature, sz_Equation, sz_Binding, sz_Algebra, sz_Entry, sz_Completion, sz_Theory, sz_Put, sz_Disk, sz_Act, sz_IntResult, sz_IntsResult, sz_BytesResult, sz_TextResult, sz_SignatureResult, sz_TermResult, sz_TermsResult, sz_EquationResult, sz_EquationsResult, sz_KeyResult, sz_BindingResult, sz_RedexResult, sz_NormalResult, sz_AlgebraResult, sz_EntryResult, sz_CompletionResult, sz_TheoryResult, sz_DiskResult, inB_nat, Int.toNat_natCast, get0, get1, get2, get3, get4, get5, get6, get7, get8, Nat.reduceLT, bind_of, List.getElem?_cons_zero, List.getElem?_cons_succ, oInt_int, oBool_bool, oStr_str, oSl_slc, oAgg_agg, oTup_tup, oCons_cons, oNil_nil, sl_cells, c0.eq, n0, c1.eq, n1]))
  have q_a := p0 (by omega)
  have s_a := sm_mono (show 1048576 ≤ 4294967296 by omega) q_a
  have m_a := sm_mono (show 1048576 ≤ 67108864 by omega) q_a
  have q_b := p1 (by omega)
  have s_b := sm_mono (show 1048576 ≤ 4294967296 by omega) q_b
  have m_b := sm_mono (show 1048576 ≤ 67108864 by omega) q_b
  have hi : Call F.impl_SameDisks [.agg [slc a.sectors, slc a.pending], .agg [slc b.sectors, slc b.pending]] (.bool (sameDisksB a b)) := impl_SameDisks a b q_a q_b
  have hp : Call F.spec_SameDisks [.agg [slc a.sectors, slc a.pending], .agg [slc b.sectors, slc b.pending]] (.bool (sameDisksB a b)) := spec_SameDisks a b q_a q_b
  exact call_of rfl 0 ((laws_FnExactSameDisks.ev _ _ _ _ _ ).trans (by simp only [Int.ofNat_lt, str_inj, beq_dec, bne_dec, cond_dec, cond_nt, if_true, if_false, decide_true, decide_false, cond_true, cond_false, u8_inj, cells_div, sz_int, sz_u8, sz_list, sz_Symbol, sz_Signature, sz_Equation, sz_Binding, sz_Algebra, sz_Entry, sz_Completion, sz_Theory, sz_Put, sz_Disk, sz_Act, sz_IntResult, sz_IntsResult, sz_BytesResult, sz_TextResult, sz_SignatureResult, sz_TermResult, sz_TermsResult, sz_EquationResult, sz_EquationsResult, sz_KeyResult, sz_BindingResult, sz_RedexResult, sz_NormalResult, sz_AlgebraResult, sz_EntryResult, sz_CompletionResult, sz_TheoryResult, sz_DiskResult, inB_nat, Int.toNat_natCast, get0, get1, get2, get3, get4, get5, get6, get7, get8, Nat.reduceLT, bind_of, List.getElem?_cons_zero, List.getElem?_cons_succ, oInt_int, oBool_bool, oStr_str, oSl_slc, oAgg_agg, oTup_tup, oCons_cons, oNil_nil, sl_cells, c0.eq, n0, c1.eq, n1, hi.eq, hp.eq, (laws_toDisk a.sectors a.pending s_a).eq, (laws_eqDisk a.sectors a.pending _ _  s_a).eq, (laws_toDisk b.sectors b.pending s_b).eq, (laws_eqDisk b.sectors b.pending _ _  s_b).eq, decide_true, Bool.not_true, cond_false]))
end Ev.Ty
