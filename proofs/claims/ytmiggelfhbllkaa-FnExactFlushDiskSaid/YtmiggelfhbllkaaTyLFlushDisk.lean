/- The law FlushDisk. Printed by mklaw.py. -/
import Derived.Test.YtmiggelfhbllkaaTyFlush
namespace Ev.Ty
open Go Ev
open Enc (enc)
open Sm (sm)
set_option linter.unusedSimpArgs false
set_option linter.unusedVariables false
theorem laws_FnExactFlushDisk (d : Disk) (h_d : sm maxLen d) : Call F.laws_FnExactFlushDisk [.agg (enc d)] (.bool true) := by
  obtain ⟨r0, c0, g0, p0⟩ := laws_szDisk d.sectors d.pending 1048576 (by omega) (by omega) h_d
  by_cases n0 : r0 < 0
  · exact call_of rfl 0 ((laws_FnExactFlushDisk.ev _ _ _ ).trans (by simp only [Int.ofNat_lt, str_inj, beq_dec, bne_dec, cond_dec, cond_nt, if_true, if_false, decide_true, decide_false, cond_true, cond_false, u8_inj, cells_div, sz_int, sz_u8, sz_list, sz_Symbol, sz_Signature, sz_Equation, sz_Binding, sz_Algebra, sz_Entry, sz_Completion, sz_Theory, sz_Put, sz_Disk, sz_Act, sz_IntResult, sz_IntsResult, sz_BytesResult, sz_TextResult, sz_SignatureResult, sz_TermResult, sz_TermsResult, sz_EquationResult, sz_EquationsResult, sz_KeyResult, sz_BindingResult, sz_RedexResult, sz_NormalResult, sz_AlgebraResult, sz_EntryResult, sz_CompletionResult, sz_TheoryResult, sz_DiskResult, inB_nat, Int.toNat_natCast, get0, get1, get2, get3, get4, get5, get6, get7, get8, Nat.reduceLT, bind_of, List.getElem?_cons_zero, List.getElem?_cons_succ, oInt_int, oBool_bool, oStr_str, oSl_slc, oAgg_agg, oTup_tup, oCons_cons, oNil_nil, sl_cells, c0.eq, n0]))
  have q_d := p0 (by omega)
  have s_d := sm_mono (show 1048576 ≤ 4294967296 by omega) q_d
  have m_d := sm_mono (show 1048576 ≤ 67108864 by omega) q_d
  have hi : Call F.impl_FlushDisk [.agg [slc d.sectors, slc d.pending]] (.agg (enc (flushDiskR d))) := impl_FlushDisk d q_d
  have hp : Call F.spec_FlushDisk [.agg [slc d.sectors, slc d.pending]] (.agg (enc (flushDiskR d))) := spec_FlushDisk d q_d
  have hv := flushDiskR_sm d q_d
  generalize flushDiskR d = r at hi hp hv
  obtain ⟨w_code, ⟨w_disk_sectors, w_disk_pending⟩⟩ := r
  have hv2 := sm_mono (show 67108864 ≤ 4294967296 by omega) hv
  obtain ⟨x0_0, x0_1, k0, f0, a0, b0, z0⟩ := laws_markDisk d.sectors d.pending 1 (by omega) (by omega) m_d
  have l0 : ¬ k0 < 0 := by omega
  obtain ⟨y0, y1, kr, fr, ar, br, zr⟩ := laws_markDiskResult w_code w_disk_sectors w_disk_pending 1 (by omega) (by omega) hv
  have lr : ¬ kr < 0 := by omega
  exact call_of rfl 0 ((laws_FnExactFlushDisk.ev _ _ _ ).trans (by simp only [Int.ofNat_lt, str_inj, beq_dec, bne_dec, cond_dec, cond_nt, if_true, if_false, decide_true, decide_false, cond_true, cond_false, u8_inj, cells_div, sz_int, sz_u8, sz_list, sz_Symbol, sz_Signature, sz_Equation, sz_Binding, sz_Algebra, sz_Entry, sz_Completion, sz_Theory, sz_Put, sz_Disk, sz_Act, sz_IntResult, sz_IntsResult, sz_BytesResult, sz_TextResult, sz_SignatureResult, sz_TermResult, sz_TermsResult, sz_EquationResult, sz_EquationsResult, sz_KeyResult, sz_BindingResult, sz_RedexResult, sz_NormalResult, sz_AlgebraResult, sz_EntryResult, sz_CompletionResult, sz_TheoryResult, sz_DiskResult, inB_nat, Int.toNat_natCast, get0, get1, get2, get3, get4, get5, get6, get7, get8, Nat.reduceLT, bind_of, List.getElem?_cons_zero, List.getElem?_cons_succ, oInt_int, oBool_bool, oStr_str, oSl_slc, oAgg_agg, oTup_tup, oCons_cons, oNil_nil, sl_cells, c0.eq, n0, hi.eq, hp.eq, (laws_toDisk d.sectors d.pending s_d).eq, (laws_eqDisk d.sectors d.pending _ _  s_d).eq, (laws_eqDiskResult w_code w_disk_sectors w_disk_pending _ _ _  hv2).eq, f0, l0, fr, zr, lr, enc_DiskResult, decide_true, Bool.not_true, cond_false]))
end Ev.Ty
