/- The law NewDisk. Printed by mklaw.py. -/
import Derived.Test.YtmiggelfhbllkaaTyDisk2
namespace Ev.Ty
open Go Ev
open Enc (enc)
open Sm (sm)
set_option linter.unusedSimpArgs false
set_option linter.unusedVariables false
theorem laws_FnExactNewDisk (n : Int) (h_n : (Sh.int .i64).wf n) : Call F.laws_FnExactNewDisk [.int .i64 n] (.bool true) := by
  have hi : Call F.impl_NewDisk [.int .i64 n] (.agg (enc (newDiskR n))) := impl_NewDisk n 
  have hp : Call F.spec_NewDisk [.int .i64 n] (.agg (enc (newDiskR n))) := spec_NewDisk n 
  have hv := newDiskR_sm n 
  generalize newDiskR n = r at hi hp hv
  obtain ⟨w_code, ⟨w_disk_sectors, w_disk_pending⟩⟩ := r
  have hv2 := sm_mono (show 67108864 ≤ 4294967296 by omega) hv
  obtain ⟨y0, y1, kr, fr, ar, br, zr⟩ := laws_markDiskResult w_code w_disk_sectors w_disk_pending 1 (by omega) (by omega) hv
  have lr : ¬ kr < 0 := by omega
  exact call_of rfl 0 ((laws_FnExactNewDisk.ev _ _ ).trans (by simp only [Int.ofNat_lt, str_inj, beq_dec, bne_dec, cond_dec, cond_nt, if_true, if_false, decide_true, decide_false, cond_true, cond_false, u8_inj, cells_div, sz_int, sz_u8, sz_list, sz_Symbol, sz_Signature, sz_Equation, sz_Binding, sz_Algebra, sz_Entry, sz_Completion, sz_Theory, sz_Put, sz_Disk, sz_Act, sz_IntResult, sz_IntsResult, sz_BytesResult, sz_TextResult, sz_SignatureResult, sz_TermResult, sz_TermsResult, sz_EquationResult, sz_EquationsResult, sz_KeyResult, sz_BindingResult, sz_RedexResult, sz_NormalResult, sz_AlgebraResult, sz_EntryResult, sz_CompletionResult, sz_TheoryResult, sz_DiskResult, inB_nat, Int.toNat_natCast, get0, get1, get2, get3, get4, get5, get6, get7, get8, Nat.reduceLT, bind_of, List.getElem?_cons_zero, List.getElem?_cons_succ, oInt_int, oBool_bool, oStr_str, oSl_slc, oAgg_agg, oTup_tup, oCons_cons, oNil_nil, sl_cells, hi.eq, hp.eq, (laws_eqDiskResult w_code w_disk_sectors w_disk_pending _ _ _  hv2).eq, fr, zr, lr, enc_DiskResult, decide_true, Bool.not_true, cond_false]))
end Ev.Ty
