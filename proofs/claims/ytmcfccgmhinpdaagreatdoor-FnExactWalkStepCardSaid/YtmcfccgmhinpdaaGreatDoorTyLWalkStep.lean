/- The law WalkStep. Printed by mklaw.py. -/
import Derived.Test.YtmcfccgmhinpdaaGreatDoorTyWalk
namespace Ev.Ty
open Go Ev
open Enc (enc)
open Sm (sm)
set_option linter.unusedSimpArgs false
set_option linter.unusedVariables false
set_option maxRecDepth 100000
set_option maxHeartbeats 2000000
theorem laws_FnExactWalkStep (s : Signature) (es : List Equation) (t : List Int) (n : Int) (back : Bool) (b : Binding) (p : Int) (h_s : sm maxLen s) (h_es : sm maxLen es) (h_t : sm maxLen t) (h_n : (Sh.int .i64).wf n) (h_back : (Sh.bool).wf back) (h_b : sm maxLen b) (h_p : (Sh.int .i64).wf p) : Call F.laws_FnExactWalkStep [.agg (enc s), slc es, slc t, .int .i64 n, .bool back, .agg (enc b), .int .i64 p] (.bool true) := by
  by_cases n0 : (t.length : Int) > 1048576
  · exact call_of rfl 0 ((laws_FnExactWalkStep.ev _ _ _ _ _ _ _ _ _ ).trans (by simp only [Int.ofNat_lt, str_inj, beq_dec, bne_dec, cond_dec, cond_nt, if_true, if_false, decide_true, decide_false, cond_true, cond_false, u8_inj, cells_div, sz_int, sz_u8, sz_list, sz_Symbol, sz_Signature, sz_Equation, sz_Binding, sz_Algebra, sz_Entry, sz_Completion, sz_Theory, sz_Put, sz_Disk, sz_Act, sz_IntResult, sz_IntsResult, sz_BytesResult, sz_TextResult, sz_SignatureResult, sz_TermResult, sz_TermsResult, sz_EquationResult, sz_EquationsResult, sz_KeyResult, sz_BindingResult, sz_RedexResult, sz_NormalResult, sz_AlgebraResult, sz_EntryResult, sz_CompletionResult, sz_TheoryResult, sz_DiskResult, inB_nat, Int.toNat_natCast, get0, get1, get2, get3, get4, get5, get6, get7, get8, Nat.reduceLT, bind_of, List.getElem?_cons_zero, List.getElem?_cons_succ, oInt_int, oBool_bool, oStr_str, oSl_slc, oAgg_agg, oTup_tup, oCons_cons, oNil_nil, sl_cells, n0]))
  have p0 : True → sm 1048576 t := fun _ => ⟨by omega, fun _ _ => trivial⟩
  obtain ⟨r1, c1, g1, p1⟩ := laws_szSignature s.symbols 1048576 (by omega) (by omega) h_s
  by_cases n1 : r1 < 0
  · exact call_of rfl 0 ((laws_FnExactWalkStep.ev _ _ _ _ _ _ _ _ _ ).trans (by simp only [Int.ofNat_lt, str_inj, beq_dec, bne_dec, cond_dec, cond_nt, if_true, if_false, decide_true, decide_false, cond_true, cond_false, u8_inj, cells_div, sz_int, sz_u8, sz_list, sz_Symbol, sz_Signature, sz_Equation, sz_Binding, sz_Algebra, sz_Entry, sz_Completion, sz_Theory, sz_Put, sz_Disk, sz_Act, sz_IntResult, sz_IntsResult, sz_BytesResult, sz_TextResult, sz_SignatureResult, sz_TermResult, sz_TermsResult, sz_EquationResult, sz_EquationsResult, sz_KeyResult, sz_BindingResult, sz_RedexResult, sz_NormalResult, sz_AlgebraResult, sz_EntryResult, sz_CompletionResult, sz_TheoryResult, sz_DiskResult, inB_nat, Int.toNat_natCast, get0, get1, get2, get3, get4, get5, get6, get7, get8, Nat.reduceLT, bind_of, List.getElem?_cons_zero, List.getElem?_cons_succ, oInt_int, oBool_bool, oStr_str, oSl_slc, oAgg_agg, oTup_tup, oCons_cons, oNil_nil, sl_cells, n0, c1.eq, n1]))
  obtain ⟨r2, c2, g2, p2⟩ := laws_szEquationS es r1 (by omega) (by omega) h_es
  by_cases n2 : r2 < 0
  · exact call_of rfl 0 ((laws_FnExactWalkStep.ev _ _ _ _ _ _ _ _ _ ).trans (by simp only [Int.ofNat_lt, str_inj, beq_dec, bne_dec, cond_dec, cond_nt, if_true, if_false, decide_true, decide_false, cond_true, cond_false, u8_inj, cells_div, sz_int, sz_u8, sz_list, sz_Symbol, sz_Signature, sz_Equation, sz_Binding, sz_Algebra, sz_Entry, sz_Completion, sz_Theory, sz_Put, sz_Disk, sz_Act, sz_IntResult, sz_IntsResult, sz_BytesResult, sz_TextResult, sz_SignatureResult, sz_TermResult, sz_TermsResult, sz_EquationResult, sz_EquationsResult, sz_KeyResult, sz_BindingResult, sz_RedexResult, sz_NormalResult, sz_AlgebraResult, sz_EntryResult, sz_CompletionResult, sz_TheoryResult, sz_DiskResult, inB_nat, Int.toNat_natCast, get0, get1, get2, get3, get4, get5, get6, get7, get8, Nat.reduceLT, bind_of, List.getElem?_cons_zero, List.getElem?_cons_succ, oInt_int, oBool_bool, oStr_str, oSl_slc, oAgg_agg, oTup_tup, oCons_cons, oNil_nil, sl_cells, n0, c1.eq, n1, c2.eq, n2]))
  obtain ⟨r3, c3, g3, p3⟩ := laws_szBinding b.vars b.terms r2 (by omega) (by omega) h_b
  by_cases n3 : r3 < 0
  · exact call_of rfl 0 ((laws_FnExactWalkStep.ev _ _ _ _ _ _ _ _ _ ).trans (by simp only [Int.ofNat_lt, str_inj, beq_dec, bne_dec, cond_dec, cond_nt, if_true, if_false, decide_true, decide_false, cond_true, cond_false, u8_inj, cells_div, sz_int, sz_u8, sz_list, sz_Symbol, sz_Signature, sz_Equation, sz_Binding, sz_Algebra, sz_Entry, sz_Completion, sz_Theory, sz_Put, sz_Disk, sz_Act, sz_IntResult, sz_IntsResult, sz_BytesResult, sz_TextResult, sz_SignatureResult, sz_TermResult, sz_TermsResult, sz_EquationResult, sz_EquationsResult, sz_KeyResult, sz_BindingResult, sz_RedexResult, sz_NormalResult, sz_AlgebraResult, sz_EntryResult, sz_CompletionResult, sz_TheoryResult, sz_DiskResult, inB_nat, Int.toNat_natCast, get0, get1, get2, get3, get4, get5, get6, get7, get8, Nat.reduceLT, bind_of, List.getElem?_cons_zero, List.getElem?_cons_succ, oInt_int, oBool_bool, oStr_str, oSl_slc, oAgg_agg, oTup_tup, oCons_cons, oNil_nil, sl_cells, n0, c1.eq, n1, c2.eq, n2, c3.eq, n3]))
  have q_t := p0 trivial
  have s_t := sm_mono (show 1048576 ≤ 4294967296 by omega) q_t
  have m_t := sm_mono (show 1048576 ≤ 67108864 by omega) q_t
  have q_s := p1 (by omega)
  have s_s := sm_mono (show 1048576 ≤ 4294967296 by omega) q_s
  have m_s := sm_mono (show 1048576 ≤ 67108864 by omega) q_s
  have q_es := p2 (by omega)
  have s_es := sm_mono (show 1048576 ≤ 4294967296 by omega) q_es
  have m_es := sm_mono (show 1048576 ≤ 67108864 by omega) q_es
  have q_b := p3 (by omega)
  have s_b := sm_mono (show 1048576 ≤ 4294967296 by omega) q_b
  have m_b := sm_mono (show 1048576 ≤ 67108864 by omega) q_b
  have hi : Call F.impl_WalkStep [.agg [slc s.symbols], slc es, slc t, .int .i64 n, .bool back, .agg [slc b.vars, slc b.terms], .int .i64 p] (.agg (enc (walkStepR s es t n back b p))) := impl_WalkStep s es t n back b p q_s q_es q_t q_b
  have hp : Call F.spec_WalkStep [.agg [slc s.symbols], slc es, slc t, .int .i64 n, .bool back, .agg [slc b.vars, slc b.terms], .int .i64 p] (.agg (enc (walkStepR s es t n back b p))) := spec_WalkStep s es t n back b p q_s q_es q_t q_b
  have hv := walkStepR_sm s es t n back b p q_s q_es q_t q_b
  generalize walkStepR s es t n back b p = r at hi hp hv
  obtain ⟨w_code, w_term⟩ := r
  have hv2 := sm_mono (show 67108864 ≤ 4294967296 by omega) hv
  obtain ⟨x0_0, k0, f0, a0, b0⟩ := laws_markSignature s.symbols 1 (by omega) (by omega) m_s
  have l0 : ¬ k0 < 0 := by omega
  obtain ⟨x1_0, k1, f1, a1, b1⟩ := laws_markEquationS es k0 (by omega) (by omega) m_es
  have l1 : ¬ k1 < 0 := by omega
  obtain ⟨x2_0, k2, f2, a2, b2, z2⟩ := laws_markInt64S t k1 (by omega) (by omega) m_t
  have l2 : ¬ k2 < 0 := by omega
  obtain ⟨x3_0, x3_1, k3, f3, a3, b3⟩ := laws_markBinding b.vars b.terms k2 (by omega) (by omega) m_b
  have l3 : ¬ k3 < 0 := by omega
  obtain ⟨y0, kr, fr, ar, br, zr⟩ := laws_markTermResult w_code w_term 1 (by omega) (by omega) hv
  have lr : ¬ kr < 0 := by omega
  exact call_of rfl 0 ((laws_FnExactWalkStep.ev _ _ _ _ _ _ _ _ _ ).trans (by simp only [Int.ofNat_lt, str_inj, beq_dec, bne_dec, cond_dec, cond_nt, if_true, if_false, decide_true, decide_false, cond_true, cond_false, u8_inj, cells_div, sz_int, sz_u8, sz_list, sz_Symbol, sz_Signature, sz_Equation, sz_Binding, sz_Algebra, sz_Entry, sz_Completion, sz_Theory, sz_Put, sz_Disk, sz_Act, sz_IntResult, sz_IntsResult, sz_BytesResult, sz_TextResult, sz_SignatureResult, sz_TermResult, sz_TermsResult, sz_EquationResult, sz_EquationsResult, sz_KeyResult, sz_BindingResult, sz_RedexResult, sz_NormalResult, sz_AlgebraResult, sz_EntryResult, sz_CompletionResult, sz_TheoryResult, sz_DiskResult, inB_nat, Int.toNat_natCast, get0, get1, get2, get3, get4, get5, get6, get7, get8, Nat.reduceLT, bind_of, List.getElem?_cons_zero, List.getElem?_cons_succ, oInt_int, oBool_bool, oStr_str, oSl_slc, oAgg_agg, oTup_tup, oCons_cons, oNil_nil, sl_cells, n0, c1.eq, n1, c2.eq, n2, c3.eq, n3, hi.eq, hp.eq, (laws_toInt64S t s_t).eq, (laws_eqInt64S t _  s_t).eq, (laws_toSignature s.symbols s_s).eq, (laws_eqSignature s.symbols _  s_s).eq, (laws_toEquationS es s_es).eq, (laws_eqEquationS es _  s_es).eq, (laws_toBinding b.vars b.terms s_b).eq, (laws_eqBinding b.vars b.terms _ _  s_b).eq, (laws_eqTermResult w_code w_term _ _  hv2).eq, f0, l0, f1, l1, f2, l2, f3, l3, fr, zr, lr, enc_TermResult, decide_true, Bool.not_true, cond_false]))
end Ev.Ty
