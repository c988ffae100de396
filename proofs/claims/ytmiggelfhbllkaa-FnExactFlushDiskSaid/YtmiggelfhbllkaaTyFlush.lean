/- FlushDisk. -/
import Derived.Test.YtmiggelfhbllkaaTyDisk2
namespace Ev.Ty
open Go Ev
open Enc (enc)
open Sm (sm)
set_option linter.unusedSimpArgs false
set_option linter.unusedVariables false

theorem lset_List {α : Type} [Enc α] {o : List (List α)} {i : Nat} (hi : i < o.length) {w : List α} : List.set (cells o) (i * 1) (slc w) = cells (o.set i w) := by
  have := fsets_List (o := o) hi (x := o[i]) (w := w)
  rwa [set_same (List.getElem?_eq_getElem hi)] at this
theorem cells_snoc {α : Type} [Enc α] (l : List α) (x : α) : cells l ++ enc x = cells (l ++ [x]) := by rw [cells_append, enc_cells_one]
/-- What a right disk is. -/
structure DiskOk (s : List (List UInt8)) (p : List Put) : Prop where
  le : s.length ≤ 64
  sec : ∀ x ∈ s, x.length = 96
  many : p.length ≤ s.length
  put : ∀ x ∈ p, (0 ≤ x.sector ∧ x.sector < s.length) ∧ x.bytes.length = 96
theorem diskOk {s : List (List UInt8)} {p : List Put} (h : diskFault ⟨s, p⟩ = 0) : DiskOk s p := by
  unfold diskFault at h
  split at h
  · cases h
  · rename_i h1
    split at h
    · cases h
    · rename_i h2
      split at h
      · cases h
      · rename_i h3
        split at h
        · rename_i c hc
          obtain ⟨x, _, hx⟩ := List.exists_of_findSome?_eq_some hc
          unfold putFault at hx
          split at hx
          · cases hx; cases h
          · split at hx
            · cases hx; cases h
            · cases hx
        · rename_i hn
          have h1 := inR8 (by simpa using h1)
          have h12 : (s.length : Int) ≤ 64 := h1.2
          refine ⟨by omega, fun x hx => ?_, by simpa using h3, fun x hx => ?_⟩
          · have h2 := Bool.eq_false_iff.2 h2
            rw [List.any_eq_false] at h2
            simpa using h2 x hx
          · have := List.findSome?_eq_none_iff.1 hn x hx
            unfold putFault at this
            split at this
            · cases this
            · rename_i q1
              split at this
              · cases this
              · rename_i q2
                have q1 := inR8 (by simpa using q1)
                have q3 : (0 : Int) ≤ x.sector := q1.1
                have q4 : x.sector ≤ (s.length : Int) - 1 := q1.2
                exact ⟨by omega, by simpa using q2⟩
theorem spec_l14Copy (s : List (List UInt8)) (p : List Put) (hs : sm 1048576 (Disk.mk s p)) : Call F.spec_l14Copy [.rref [slc s, slc p] 0] (.agg [slc s, slc p]) := by
  have h1 : s.length ≤ 1048576 := hs.1.1
  have h2 : p.length ≤ 1048576 := hs.2.1
  refine call_of rfl (s.length + p.length + 1) ((spec_l14Copy.ev _ _ _).trans ?_)
  refine run_loop (n := s.length) (S := fun m k o => spec_l14Copy.at0 (s.length + p.length + 1) m (spec_l14Copy.st0 (cells s) (cells p) (k : Nat) (cells o))) (st := fun k => s.take k) (fun m k h => ?_) (fun m => ?_) (by omega)
  · simp only [spec_l14Copy.next0, spec_l14Copy.round0, Int.ofNat_lt, str_inj, beq_dec, bne_dec, cond_dec, cond_nt, if_true, if_false, decide_true, decide_false, cond_true, cond_false, u8_inj, cells_div, sz_int, sz_u8, sz_list, sz_Symbol, sz_Signature, sz_Equation, sz_Binding, sz_Algebra, sz_Entry, sz_Completion, sz_Theory, sz_Put, sz_Disk, sz_Act, sz_IntResult, sz_IntsResult, sz_BytesResult, sz_TextResult, sz_SignatureResult, sz_TermResult, sz_TermsResult, sz_EquationResult, sz_EquationsResult, sz_KeyResult, sz_BindingResult, sz_RedexResult, sz_NormalResult, sz_AlgebraResult, sz_EntryResult, sz_CompletionResult, sz_TheoryResult, sz_DiskResult, inB_nat, Int.toNat_natCast, get0, get1, get2, get3, get4, get5, get6, get7, get8, Nat.reduceLT, bind_of, List.getElem?_cons_zero, List.getElem?_cons_succ, oInt_int, oBool_bool, oStr_str, oSl_slc, oAgg_agg, oTup_tup, oCons_cons, oNil_nil, sl_cells, h, List.getElem?_eq_getElem, enc_list, (spec_l1Copy s[k] (Nat.le_trans (hs.1.2 _ (List.getElem_mem h)).1 (by omega))).eq]
    rw [wrap_succ (by omega), cond_pos (ble_ok (by rw [cells_length, List.length_take]; simp only [sz_Put, sz_list]; omega)), cells_snoc_list, List.take_append_getElem h]
  · simp only [spec_l14Copy.next0, spec_l14Copy.round0, Int.ofNat_lt, str_inj, beq_dec, bne_dec, cond_dec, cond_nt, if_true, if_false, decide_true, decide_false, cond_true, cond_false, u8_inj, cells_div, sz_int, sz_u8, sz_list, sz_Symbol, sz_Signature, sz_Equation, sz_Binding, sz_Algebra, sz_Entry, sz_Completion, sz_Theory, sz_Put, sz_Disk, sz_Act, sz_IntResult, sz_IntsResult, sz_BytesResult, sz_TextResult, sz_SignatureResult, sz_TermResult, sz_TermsResult, sz_EquationResult, sz_EquationsResult, sz_KeyResult, sz_BindingResult, sz_RedexResult, sz_NormalResult, sz_AlgebraResult, sz_EntryResult, sz_CompletionResult, sz_TheoryResult, sz_DiskResult, inB_nat, Int.toNat_natCast, get0, get1, get2, get3, get4, get5, get6, get7, get8, Nat.reduceLT, bind_of, List.getElem?_cons_zero, List.getElem?_cons_succ, oInt_int, oBool_bool, oStr_str, oSl_slc, oAgg_agg, oTup_tup, oCons_cons, oNil_nil, sl_cells, Nat.lt_irrefl, List.take_length]
    refine run_loop (n := p.length) (S := fun m k o => spec_l14Copy.at2 (s.length + p.length + 1) m (spec_l14Copy.st2 (cells s) (cells p) (k : Nat) (cells s) (cells o))) (st := fun k => p.take k) (fun m k h => ?_) (fun m => ?_) (by omega)
    · have he : cells (p.take k) ++ [.int .i64 p[k].sector, slc p[k].bytes] = cells (p.take (k + 1)) := by
        rw [← List.take_append_getElem h]; exact cells_snoc (p.take k) p[k]
      simp only [spec_l14Copy.next2, spec_l14Copy.round2, Int.ofNat_lt, str_inj, beq_dec, bne_dec, cond_dec, cond_nt, if_true, if_false, decide_true, decide_false, cond_true, cond_false, u8_inj, cells_div, sz_int, sz_u8, sz_list, sz_Symbol, sz_Signature, sz_Equation, sz_Binding, sz_Algebra, sz_Entry, sz_Completion, sz_Theory, sz_Put, sz_Disk, sz_Act, sz_IntResult, sz_IntsResult, sz_BytesResult, sz_TextResult, sz_SignatureResult, sz_TermResult, sz_TermsResult, sz_EquationResult, sz_EquationsResult, sz_KeyResult, sz_BindingResult, sz_RedexResult, sz_NormalResult, sz_AlgebraResult, sz_EntryResult, sz_CompletionResult, sz_TheoryResult, sz_DiskResult, inB_nat, Int.toNat_natCast, get0, get1, get2, get3, get4, get5, get6, get7, get8, Nat.reduceLT, bind_of, List.getElem?_cons_zero, List.getElem?_cons_succ, oInt_int, oBool_bool, oStr_str, oSl_slc, oAgg_agg, oTup_tup, oCons_cons, oNil_nil, sl_cells, h, List.getElem?_eq_getElem, enc_Put, (spec_l1Copy p[k].bytes (Nat.le_trans (hs.2.2 _ (List.getElem_mem h)).1 (by omega))).eq]
      rw [wrap_succ (by omega), cond_pos (ble_ok (by rw [cells_length, List.length_take]; simp only [sz_Put, sz_list]; omega)), he]
    · simp only [spec_l14Copy.next2, spec_l14Copy.round2, Int.ofNat_lt, str_inj, beq_dec, bne_dec, cond_dec, cond_nt, if_true, if_false, decide_true, decide_false, cond_true, cond_false, u8_inj, cells_div, sz_int, sz_u8, sz_list, sz_Symbol, sz_Signature, sz_Equation, sz_Binding, sz_Algebra, sz_Entry, sz_Completion, sz_Theory, sz_Put, sz_Disk, sz_Act, sz_IntResult, sz_IntsResult, sz_BytesResult, sz_TextResult, sz_SignatureResult, sz_TermResult, sz_TermsResult, sz_EquationResult, sz_EquationsResult, sz_KeyResult, sz_BindingResult, sz_RedexResult, sz_NormalResult, sz_AlgebraResult, sz_EntryResult, sz_CompletionResult, sz_TheoryResult, sz_DiskResult, inB_nat, Int.toNat_natCast, get0, get1, get2, get3, get4, get5, get6, get7, get8, Nat.reduceLT, bind_of, List.getElem?_cons_zero, List.getElem?_cons_succ, oInt_int, oBool_bool, oStr_str, oSl_slc, oAgg_agg, oTup_tup, oCons_cons, oNil_nil, sl_cells, Nat.lt_irrefl, List.take_length]
theorem impl_ownPuts (p : List Put) (hs : sm 1048576 p) : Call F.impl_ownPuts [slc p] (slc p) := by
  have h2 := hs.1
  refine call_of rfl (p.length + 1) ((impl_ownPuts.ev _ _).trans ?_)
  simp only [cells_div, sz_Put]
  refine run_loop (n := p.length) (S := fun m k o => impl_ownPuts.at0 (p.length + 1) m (impl_ownPuts.st0 (cells p) p.length (k : Nat) (cells o))) (st := fun k => p.take k) (fun m k h => ?_) (fun m => ?_) (by omega)
  · have he : cells (p.take k) ++ [.int .i64 p[k].sector, slc p[k].bytes] = cells (p.take (k + 1)) := by
      rw [← List.take_append_getElem h]; exact cells_snoc (p.take k) p[k]
    simp only [impl_ownPuts.next0, impl_ownPuts.round0, Int.ofNat_lt, str_inj, beq_dec, bne_dec, cond_dec, cond_nt, if_true, if_false, decide_true, decide_false, cond_true, cond_false, u8_inj, cells_div, sz_int, sz_u8, sz_list, sz_Symbol, sz_Signature, sz_Equation, sz_Binding, sz_Algebra, sz_Entry, sz_Completion, sz_Theory, sz_Put, sz_Disk, sz_Act, sz_IntResult, sz_IntsResult, sz_BytesResult, sz_TextResult, sz_SignatureResult, sz_TermResult, sz_TermsResult, sz_EquationResult, sz_EquationsResult, sz_KeyResult, sz_BindingResult, sz_RedexResult, sz_NormalResult, sz_AlgebraResult, sz_EntryResult, sz_CompletionResult, sz_TheoryResult, sz_DiskResult, inB_nat, Int.toNat_natCast, get0, get1, get2, get3, get4, get5, get6, get7, get8, Nat.reduceLT, bind_of, List.getElem?_cons_zero, List.getElem?_cons_succ, oInt_int, oBool_bool, oStr_str, oSl_slc, oAgg_agg, oTup_tup, oCons_cons, oNil_nil, sl_cells, h, List.getElem?_eq_getElem, enc_Put, (slices_Clone_Sbyte p[k].bytes (Nat.le_trans (hs.2 _ (List.getElem_mem h)).1 (by omega))).eq]
    rw [wrap_succ (by omega), cond_pos (ble_ok (by rw [cells_length, List.length_take]; simp only [sz_Put, sz_list]; omega)), he]
  · simp only [impl_ownPuts.next0, impl_ownPuts.round0, Int.ofNat_lt, str_inj, beq_dec, bne_dec, cond_dec, cond_nt, if_true, if_false, decide_true, decide_false, cond_true, cond_false, u8_inj, cells_div, sz_int, sz_u8, sz_list, sz_Symbol, sz_Signature, sz_Equation, sz_Binding, sz_Algebra, sz_Entry, sz_Completion, sz_Theory, sz_Put, sz_Disk, sz_Act, sz_IntResult, sz_IntsResult, sz_BytesResult, sz_TextResult, sz_SignatureResult, sz_TermResult, sz_TermsResult, sz_EquationResult, sz_EquationsResult, sz_KeyResult, sz_BindingResult, sz_RedexResult, sz_NormalResult, sz_AlgebraResult, sz_EntryResult, sz_CompletionResult, sz_TheoryResult, sz_DiskResult, inB_nat, Int.toNat_natCast, get0, get1, get2, get3, get4, get5, get6, get7, get8, Nat.reduceLT, bind_of, List.getElem?_cons_zero, List.getElem?_cons_succ, oInt_int, oBool_bool, oStr_str, oSl_slc, oAgg_agg, oTup_tup, oCons_cons, oNil_nil, sl_cells, Nat.lt_irrefl, List.take_length]
theorem impl_ownDisk (s : List (List UInt8)) (p : List Put) (hs : sm 1048576 (Disk.mk s p)) : Call F.impl_ownDisk [.agg [slc s, slc p]] (.agg [slc s, slc p]) := by
  have h1 : s.length ≤ 1048576 := hs.1.1
  refine call_of rfl (s.length + 1) ((impl_ownDisk.ev _ _ _).trans ?_)
  simp only [Int.ofNat_lt, str_inj, beq_dec, bne_dec, cond_dec, cond_nt, if_true, if_false, decide_true, decide_false, cond_true, cond_false, u8_inj, cells_div, sz_int, sz_u8, sz_list, sz_Symbol, sz_Signature, sz_Equation, sz_Binding, sz_Algebra, sz_Entry, sz_Completion, sz_Theory, sz_Put, sz_Disk, sz_Act, sz_IntResult, sz_IntsResult, sz_BytesResult, sz_TextResult, sz_SignatureResult, sz_TermResult, sz_TermsResult, sz_EquationResult, sz_EquationsResult, sz_KeyResult, sz_BindingResult, sz_RedexResult, sz_NormalResult, sz_AlgebraResult, sz_EntryResult, sz_CompletionResult, sz_TheoryResult, sz_DiskResult, inB_nat, Int.toNat_natCast, get0, get1, get2, get3, get4, get5, get6, get7, get8, Nat.reduceLT, bind_of, List.getElem?_cons_zero, List.getElem?_cons_succ, oInt_int, oBool_bool, oStr_str, oSl_slc, oAgg_agg, oTup_tup, oCons_cons, oNil_nil, sl_cells, (impl_ownPuts p hs.2).eq]
  refine run_loop (n := s.length) (S := fun m k o => impl_ownDisk.at0 (s.length + 1) m (impl_ownDisk.st0 (cells s) s.length (k : Nat) (cells p) (cells o))) (st := fun k => s.take k) (fun m k h => ?_) (fun m => ?_) (by omega)
  · simp only [impl_ownDisk.next0, impl_ownDisk.round0, Int.ofNat_lt, str_inj, beq_dec, bne_dec, cond_dec, cond_nt, if_true, if_false, decide_true, decide_false, cond_true, cond_false, u8_inj, cells_div, sz_int, sz_u8, sz_list, sz_Symbol, sz_Signature, sz_Equation, sz_Binding, sz_Algebra, sz_Entry, sz_Completion, sz_Theory, sz_Put, sz_Disk, sz_Act, sz_IntResult, sz_IntsResult, sz_BytesResult, sz_TextResult, sz_SignatureResult, sz_TermResult, sz_TermsResult, sz_EquationResult, sz_EquationsResult, sz_KeyResult, sz_BindingResult, sz_RedexResult, sz_NormalResult, sz_AlgebraResult, sz_EntryResult, sz_CompletionResult, sz_TheoryResult, sz_DiskResult, inB_nat, Int.toNat_natCast, get0, get1, get2, get3, get4, get5, get6, get7, get8, Nat.reduceLT, bind_of, List.getElem?_cons_zero, List.getElem?_cons_succ, oInt_int, oBool_bool, oStr_str, oSl_slc, oAgg_agg, oTup_tup, oCons_cons, oNil_nil, sl_cells, h, List.getElem?_eq_getElem, enc_list, (slices_Clone_Sbyte s[k] (Nat.le_trans (hs.1.2 _ (List.getElem_mem h)).1 (by omega))).eq]
    rw [wrap_succ (by omega), cond_pos (ble_ok (by rw [cells_length, List.length_take]; simp only [sz_Put, sz_list]; omega)), cells_snoc_list, List.take_append_getElem h]
  · simp only [impl_ownDisk.next0, impl_ownDisk.round0, Int.ofNat_lt, str_inj, beq_dec, bne_dec, cond_dec, cond_nt, if_true, if_false, decide_true, decide_false, cond_true, cond_false, u8_inj, cells_div, sz_int, sz_u8, sz_list, sz_Symbol, sz_Signature, sz_Equation, sz_Binding, sz_Algebra, sz_Entry, sz_Completion, sz_Theory, sz_Put, sz_Disk, sz_Act, sz_IntResult, sz_IntsResult, sz_BytesResult, sz_TextResult, sz_SignatureResult, sz_TermResult, sz_TermsResult, sz_EquationResult, sz_EquationsResult, sz_KeyResult, sz_BindingResult, sz_RedexResult, sz_NormalResult, sz_AlgebraResult, sz_EntryResult, sz_CompletionResult, sz_TheoryResult, sz_DiskResult, inB_nat, Int.toNat_natCast, get0, get1, get2, get3, get4, get5, get6, get7, get8, Nat.reduceLT, bind_of, List.getElem?_cons_zero, List.getElem?_cons_succ, oInt_int, oBool_bool, oStr_str, oSl_slc, oAgg_agg, oTup_tup, oCons_cons, oNil_nil, sl_cells, Nat.lt_irrefl, List.take_length]
/-! ## flushing -/
def putStep (s : List (List UInt8)) (x : Put) : List (List UInt8) := s.set x.sector.toNat x.bytes
def flushed (s : List (List UInt8)) (p : List Put) : List (List UInt8) := p.foldl putStep s
def flushI (n : Nat) (_ : Nat) (s : List (List UInt8)) : Prop := s.length = n ∧ ∀ x ∈ s, x.length = 96
theorem flushI_step {n k : Nat} {s : List (List UInt8)} {x : Put} (hx : x.bytes.length = 96) (h : flushI n k s) : flushI n (k + 1) (putStep s x) := by
  refine ⟨by simpa [putStep] using h.1, fun y hy => ?_⟩
  rcases List.mem_or_eq_of_mem_set hy with h1 | rfl
  · exact h.2 y h1
  · exact hx
theorem cells_len1 {l : List UInt8} : (cells l).length = l.length := by rw [cells_length, sz_u8, Nat.mul_one]
theorem impl_Disk_flush (s : List (List UInt8)) (p : List Put) (ok : DiskOk s p) : LIM F.impl_Disk_flush [.rref [slc s, slc p] 0, .clo F.impl_whole []] = some (.tup [], [.agg [slc (flushed s p), slc ([] : List Put)]]) := by
  have hle := ok.le
  have hm := ok.many
  refine call2_of rfl (p.length + 1) ((impl_Disk_flush_at1_impl_whole.ev _ _ _).trans ?_)
  simp only [cells_div, sz_Put]
  have key := fold_loop (l := p) (f := p.length + 1) (S := fun m k o => impl_Disk_flush_at1_impl_whole.at0 (p.length + 1) m (impl_Disk_flush_at1_impl_whole.st0 p.length (k : Nat) (cells o) (cells p))) (g := putStep) (z := fun o => some (.tup [], [.agg [slc o, slc ([] : List Put)]])) (flushI s.length)
    (fun m k o h ho => ?_) (fun k o h ho => flushI_step (ok.put _ (List.getElem_mem h)).2 ho) (fun m o ho => ?_) s ⟨rfl, ok.sec⟩ (by omega)
  · exact key
  · obtain ⟨hsec, hb⟩ := ok.put _ (List.getElem_mem h)
    obtain ⟨q, hq⟩ : ∃ q : Nat, p[k].sector = q := ⟨p[k].sector.toNat, by omega⟩
    have hqo : q < o.length := by rw [ho.1]; omega
    have ho96 : o[q].length = 96 := ho.2 _ (List.getElem_mem hqo)
    have hw : Call F.impl_whole [.int .i64 (k : Nat)] (.int .i64 96) := call_of rfl 0 (impl_whole.ev _ _)
    have e1 : ((cells p[k].bytes).take ((Int.toNat 96) * 1)).drop (0 * 1) = cells p[k].bytes := by
      rw [List.take_of_length_le (by rw [cells_len1, hb]; decide)]; rfl
    have e2 : setCells (cells o[q]) 0 (List.take (cells o[q]).length (cells p[k].bytes)) = cells p[k].bytes := by
      rw [List.take_of_length_le (by rw [cells_len1, cells_len1, hb, ho96]; decide), setCells_zero _ _ (by rw [cells_len1, cells_len1, hb, ho96]; decide), List.drop_of_length_le (by rw [cells_len1, cells_len1, hb, ho96]; decide), List.append_nil]
    have e3 : List.set (cells p) (k * 2 + 1) (slc p[k].bytes) = cells p := set_same (by rw [get1 sz_Put (by decide), List.getElem?_eq_getElem h]; rfl)
    have e4 : putStep o p[k] = o.set q p[k].bytes := by unfold putStep; rw [hq]; rfl
    simp only [impl_Disk_flush_at1_impl_whole.next0, impl_Disk_flush_at1_impl_whole.round0, Int.ofNat_lt, str_inj, beq_dec, bne_dec, cond_dec, cond_nt, if_true, if_false, decide_true, decide_false, cond_true, cond_false, u8_inj, cells_div, sz_int, sz_u8, sz_list, sz_Symbol, sz_Signature, sz_Equation, sz_Binding, sz_Algebra, sz_Entry, sz_Completion, sz_Theory, sz_Put, sz_Disk, sz_Act, sz_IntResult, sz_IntsResult, sz_BytesResult, sz_TextResult, sz_SignatureResult, sz_TermResult, sz_TermsResult, sz_EquationResult, sz_EquationsResult, sz_KeyResult, sz_BindingResult, sz_RedexResult, sz_NormalResult, sz_AlgebraResult, sz_EntryResult, sz_CompletionResult, sz_TheoryResult, sz_DiskResult, inB_nat, Int.toNat_natCast, get0, get1, get2, get3, get4, get5, get6, get7, get8, Nat.reduceLT, bind_of, List.getElem?_cons_zero, List.getElem?_cons_succ, oInt_int, oBool_bool, oStr_str, oSl_slc, oAgg_agg, oTup_tup, oCons_cons, oNil_nil, sl_cells, h, List.getElem?_eq_getElem, enc_Put, hq, hqo, enc_list, hw.eq, hb, e1, e2, e3, e4, scalars_u8, lset_List hqo]
    rw [wrap_succ (by omega)]
    rfl
  · simp only [impl_Disk_flush_at1_impl_whole.next0, impl_Disk_flush_at1_impl_whole.round0, Int.ofNat_lt, str_inj, beq_dec, bne_dec, cond_dec, cond_nt, if_true, if_false, decide_true, decide_false, cond_true, cond_false, u8_inj, cells_div, sz_int, sz_u8, sz_list, sz_Symbol, sz_Signature, sz_Equation, sz_Binding, sz_Algebra, sz_Entry, sz_Completion, sz_Theory, sz_Put, sz_Disk, sz_Act, sz_IntResult, sz_IntsResult, sz_BytesResult, sz_TextResult, sz_SignatureResult, sz_TermResult, sz_TermsResult, sz_EquationResult, sz_EquationsResult, sz_KeyResult, sz_BindingResult, sz_RedexResult, sz_NormalResult, sz_AlgebraResult, sz_EntryResult, sz_CompletionResult, sz_TheoryResult, sz_DiskResult, inB_nat, Int.toNat_natCast, get0, get1, get2, get3, get4, get5, get6, get7, get8, Nat.reduceLT, bind_of, List.getElem?_cons_zero, List.getElem?_cons_succ, oInt_int, oBool_bool, oStr_str, oSl_slc, oAgg_agg, oTup_tup, oCons_cons, oNil_nil, sl_cells, Nat.lt_irrefl, slc_nil]
/-- So many bytes written over. -/
def mixed (b t : List UInt8) (j : Nat) : List UInt8 := b.take j ++ t.drop j
theorem mixed_len {b t : List UInt8} {j : Nat} (hb : b.length = 96) (ht : t.length = 96) (hj : j ≤ 96) : (mixed b t j).length = 96 := by simp [mixed]; omega
theorem mixed_set {b t : List UInt8} {j : Nat} (hb : b.length = 96) (ht : t.length = 96) (hj : j < 96) : (mixed b t j).set j (b[j]'(by omega)) = mixed b t (j + 1) := by
  unfold mixed
  refine List.ext_getElem? fun i => ?_
  rw [List.getElem?_set]
  have hjb : j < b.length := by omega
  split
  · rename_i h; subst h
    rw [if_pos (by simp; omega), List.getElem?_append_left (by simp; omega), List.getElem?_take, if_pos (by omega), List.getElem?_eq_getElem]
  · rename_i h
    rw [List.getElem?_append, List.getElem?_append, List.length_take, List.length_take, Nat.min_eq_left (by omega), Nat.min_eq_left (by omega)]
    by_cases h1 : i < j
    · rw [if_pos h1, if_pos (by omega), List.getElem?_take, List.getElem?_take, if_pos h1, if_pos (by omega)]
    · rw [if_neg h1, if_neg (by omega), List.getElem?_drop, List.getElem?_drop]
      congr 1; omega
theorem spec_l14Crash (s : List (List UInt8)) (p : List Put) (ok : DiskOk s p) : LIM F.spec_l14Crash [.rref [slc s, slc p] 0, slc (List.replicate p.length (96 : Int))] = some (.tup [], [.agg [slc (flushed s p), slc ([] : List Put)]]) := by
  have hle := ok.le
  have hm := ok.many
  refine call2_of rfl (p.length + 100) ((spec_l14Crash.ev _ _ _ _).trans ?_)
  have key := fold_loop (l := p) (f := p.length + 100) (S := fun m k o => spec_l14Crash.at0 (p.length + 100) m (spec_l14Crash.st0 (cells (List.replicate p.length (96 : Int))) (k : Nat) (cells o) (cells p))) (g := putStep) (z := fun o => some (.tup [], [.agg [slc o, slc ([] : List Put)]])) (flushI s.length)
    (fun m k o h ho => ?_) (fun k o h ho => flushI_step (ok.put _ (List.getElem_mem h)).2 ho) (fun m o ho => ?_) s ⟨rfl, ok.sec⟩ (by omega)
  · exact key
  · obtain ⟨hsec, hb⟩ := ok.put _ (List.getElem_mem h)
    obtain ⟨q, hq⟩ : ∃ q : Nat, p[k].sector = q := ⟨p[k].sector.toNat, by omega⟩
    have hqo : q < o.length := by rw [ho.1]; omega
    have ho96 : o[q].length = 96 := ho.2 _ (List.getElem_mem hqo)
    have e3 : List.set (cells p) (k * 2 + 1) (slc p[k].bytes) = cells p := set_same (by rw [get1 sz_Put (by decide), List.getElem?_eq_getElem h]; rfl)
    have e4 : putStep o p[k] = o.set q p[k].bytes := by unfold putStep; rw [hq]; rfl
    have hrep : (List.replicate p.length (96 : Int))[k]? = some 96 := by rw [List.getElem?_replicate, if_pos h]
    simp only [spec_l14Crash.next0, spec_l14Crash.round0, Int.ofNat_lt, str_inj, beq_dec, bne_dec, cond_dec, cond_nt, if_true, if_false, decide_true, decide_false, cond_true, cond_false, u8_inj, cells_div, sz_int, sz_u8, sz_list, sz_Symbol, sz_Signature, sz_Equation, sz_Binding, sz_Algebra, sz_Entry, sz_Completion, sz_Theory, sz_Put, sz_Disk, sz_Act, sz_IntResult, sz_IntsResult, sz_BytesResult, sz_TextResult, sz_SignatureResult, sz_TermResult, sz_TermsResult, sz_EquationResult, sz_EquationsResult, sz_KeyResult, sz_BindingResult, sz_RedexResult, sz_NormalResult, sz_AlgebraResult, sz_EntryResult, sz_CompletionResult, sz_TheoryResult, sz_DiskResult, inB_nat, Int.toNat_natCast, get0, get1, get2, get3, get4, get5, get6, get7, get8, Nat.reduceLT, bind_of, List.getElem?_cons_zero, List.getElem?_cons_succ, oInt_int, oBool_bool, oStr_str, oSl_slc, oAgg_agg, oTup_tup, oCons_cons, oNil_nil, sl_cells, h, List.getElem?_eq_getElem, enc_Put, hq]
    have e0 : o.set q (mixed p[k].bytes o[q] 0) = o := set_same (by rw [List.getElem?_eq_getElem hqo]; simp [mixed])
    have key2 := run_loop (n := 96) (S := fun m' j o' => spec_l14Crash.at2 (p.length + 100) (spec_l14Crash.at0 (p.length + 100) m) m' (spec_l14Crash.st2 (cells (List.replicate p.length (96 : Int))) (k : Nat) (j : Nat) (cells o') (cells p) (k * 2 + 1) (cells p[k].bytes) q)) (st := fun j => o.set q (mixed p[k].bytes o[q] j)) (z := spec_l14Crash.at0 (p.length + 100) m (spec_l14Crash.st0 (cells (List.replicate p.length (96 : Int))) ((k + 1 : Nat) : Int) (cells (putStep o p[k])) (cells p))) (f := p.length + 100) (fun m' j hj => ?_) (fun m' => ?_) (by omega)
    · simp only [e0] at key2
      exact key2
    · have hx := mixed_len hb ho96 (Nat.le_of_lt hj)
      have hqs : q < (o.set q (mixed p[k].bytes o[q] j)).length := by simpa using hqo
      have hjb : j < p[k].bytes.length := by omega
      have hjx : j < (mixed p[k].bytes o[q] j).length := by omega
      have hj96 : (j : Int) < 96 := by omega
      have hbd : j * 1 + 1 ≤ (mixed p[k].bytes o[q] j).length * 1 := by omega
      have e5 : setCells (cells (mixed p[k].bytes o[q] j)) (j * 1) [.int .u8 ((p[k].bytes[j]).toNat : Int)] = cells (mixed p[k].bytes o[q] (j + 1)) := by
        rw [set_UInt8 hjx, mixed_set hb ho96 hj]
      simp only [spec_l14Crash.next2, spec_l14Crash.round2, Int.ofNat_lt, str_inj, beq_dec, bne_dec, cond_dec, cond_nt, if_true, if_false, decide_true, decide_false, cond_true, cond_false, u8_inj, cells_div, sz_int, sz_u8, sz_list, sz_Symbol, sz_Signature, sz_Equation, sz_Binding, sz_Algebra, sz_Entry, sz_Completion, sz_Theory, sz_Put, sz_Disk, sz_Act, sz_IntResult, sz_IntsResult, sz_BytesResult, sz_TextResult, sz_SignatureResult, sz_TermResult, sz_TermsResult, sz_EquationResult, sz_EquationsResult, sz_KeyResult, sz_BindingResult, sz_RedexResult, sz_NormalResult, sz_AlgebraResult, sz_EntryResult, sz_CompletionResult, sz_TheoryResult, sz_DiskResult, inB_nat, Int.toNat_natCast, get0, get1, get2, get3, get4, get5, get6, get7, get8, Nat.reduceLT, bind_of, List.getElem?_cons_zero, List.getElem?_cons_succ, oInt_int, oBool_bool, oStr_str, oSl_slc, oAgg_agg, oTup_tup, oCons_cons, oNil_nil, sl_cells, List.length_replicate, h, hrep, enc_int, hj96, hqs, hqo, List.length_set, List.getElem?_set_self hqo, enc_list, hjb, hjx, List.getElem?_eq_getElem, enc_u8, cells_le, hbd, e5, lset_List hqs, List.set_set]
      rw [wrap_succ (by omega)]
    · have e6 : mixed p[k].bytes o[q] 96 = p[k].bytes := by unfold mixed; rw [List.take_of_length_le (by omega), List.drop_of_length_le (by omega), List.append_nil]
      have hn : ¬ (((96 : Nat) : Int) < 96) := by omega
      simp only [spec_l14Crash.next2, spec_l14Crash.round2, Int.ofNat_lt, str_inj, beq_dec, bne_dec, cond_dec, cond_nt, if_true, if_false, decide_true, decide_false, cond_true, cond_false, u8_inj, cells_div, sz_int, sz_u8, sz_list, sz_Symbol, sz_Signature, sz_Equation, sz_Binding, sz_Algebra, sz_Entry, sz_Completion, sz_Theory, sz_Put, sz_Disk, sz_Act, sz_IntResult, sz_IntsResult, sz_BytesResult, sz_TextResult, sz_SignatureResult, sz_TermResult, sz_TermsResult, sz_EquationResult, sz_EquationsResult, sz_KeyResult, sz_BindingResult, sz_RedexResult, sz_NormalResult, sz_AlgebraResult, sz_EntryResult, sz_CompletionResult, sz_TheoryResult, sz_DiskResult, inB_nat, Int.toNat_natCast, get0, get1, get2, get3, get4, get5, get6, get7, get8, Nat.reduceLT, bind_of, List.getElem?_cons_zero, List.getElem?_cons_succ, oInt_int, oBool_bool, oStr_str, oSl_slc, oAgg_agg, oTup_tup, oCons_cons, oNil_nil, sl_cells, List.length_replicate, h, hrep, enc_int, hn, e3, e4, e6]
      rw [wrap_succ (by omega)]
  · simp only [spec_l14Crash.next0, spec_l14Crash.round0, Int.ofNat_lt, str_inj, beq_dec, bne_dec, cond_dec, cond_nt, if_true, if_false, decide_true, decide_false, cond_true, cond_false, u8_inj, cells_div, sz_int, sz_u8, sz_list, sz_Symbol, sz_Signature, sz_Equation, sz_Binding, sz_Algebra, sz_Entry, sz_Completion, sz_Theory, sz_Put, sz_Disk, sz_Act, sz_IntResult, sz_IntsResult, sz_BytesResult, sz_TextResult, sz_SignatureResult, sz_TermResult, sz_TermsResult, sz_EquationResult, sz_EquationsResult, sz_KeyResult, sz_BindingResult, sz_RedexResult, sz_NormalResult, sz_AlgebraResult, sz_EntryResult, sz_CompletionResult, sz_TheoryResult, sz_DiskResult, inB_nat, Int.toNat_natCast, get0, get1, get2, get3, get4, get5, get6, get7, get8, Nat.reduceLT, bind_of, List.getElem?_cons_zero, List.getElem?_cons_succ, oInt_int, oBool_bool, oStr_str, oSl_slc, oAgg_agg, oTup_tup, oCons_cons, oNil_nil, sl_cells, Nat.lt_irrefl, slc_nil]
theorem spec_l14Flush (s : List (List UInt8)) (p : List Put) (ok : DiskOk s p) : LIM F.spec_l14Flush [.rref [slc s, slc p] 0] = some (.tup [], [.agg [slc (flushed s p), slc ([] : List Put)]]) := by
  have hle := ok.le
  have hm := ok.many
  refine call2_of rfl (p.length + 1) ((spec_l14Flush.ev _ _ _).trans ?_)
  refine run_loop (n := p.length) (S := fun m k o => spec_l14Flush.at0 (p.length + 1) m (spec_l14Flush.st0 (k : Nat) (cells s) (cells p) (cells o))) (st := fun k => List.replicate k (96 : Int)) (fun m k h => ?_) (fun m => ?_) (by omega)
  · simp only [spec_l14Flush.next0, spec_l14Flush.round0, Int.ofNat_lt, str_inj, beq_dec, bne_dec, cond_dec, cond_nt, if_true, if_false, decide_true, decide_false, cond_true, cond_false, u8_inj, cells_div, sz_int, sz_u8, sz_list, sz_Symbol, sz_Signature, sz_Equation, sz_Binding, sz_Algebra, sz_Entry, sz_Completion, sz_Theory, sz_Put, sz_Disk, sz_Act, sz_IntResult, sz_IntsResult, sz_BytesResult, sz_TextResult, sz_SignatureResult, sz_TermResult, sz_TermsResult, sz_EquationResult, sz_EquationsResult, sz_KeyResult, sz_BindingResult, sz_RedexResult, sz_NormalResult, sz_AlgebraResult, sz_EntryResult, sz_CompletionResult, sz_TheoryResult, sz_DiskResult, inB_nat, Int.toNat_natCast, get0, get1, get2, get3, get4, get5, get6, get7, get8, Nat.reduceLT, bind_of, List.getElem?_cons_zero, List.getElem?_cons_succ, oInt_int, oBool_bool, oStr_str, oSl_slc, oAgg_agg, oTup_tup, oCons_cons, oNil_nil, sl_cells, h]
    rw [wrap_succ (by omega), cond_pos (ble_ok (by rw [cells_length, List.length_replicate]; simp only [sz_int]; omega)), cells_snoc_int, ← List.replicate_succ']
  · simp only [spec_l14Flush.next0, spec_l14Flush.round0, Int.ofNat_lt, str_inj, beq_dec, bne_dec, cond_dec, cond_nt, if_true, if_false, decide_true, decide_false, cond_true, cond_false, u8_inj, cells_div, sz_int, sz_u8, sz_list, sz_Symbol, sz_Signature, sz_Equation, sz_Binding, sz_Algebra, sz_Entry, sz_Completion, sz_Theory, sz_Put, sz_Disk, sz_Act, sz_IntResult, sz_IntsResult, sz_BytesResult, sz_TextResult, sz_SignatureResult, sz_TermResult, sz_TermsResult, sz_EquationResult, sz_EquationsResult, sz_KeyResult, sz_BindingResult, sz_RedexResult, sz_NormalResult, sz_AlgebraResult, sz_EntryResult, sz_CompletionResult, sz_TheoryResult, sz_DiskResult, inB_nat, Int.toNat_natCast, get0, get1, get2, get3, get4, get5, get6, get7, get8, Nat.reduceLT, bind_of, List.getElem?_cons_zero, List.getElem?_cons_succ, oInt_int, oBool_bool, oStr_str, oSl_slc, oAgg_agg, oTup_tup, oCons_cons, oNil_nil, sl_cells, Nat.lt_irrefl, spec_l14Crash s p ok]
def flushDiskR (d : Disk) : DiskResult := if diskFault d = 0 then ⟨0, ⟨flushed d.sectors d.pending, []⟩⟩ else ⟨diskFault d, ⟨[], []⟩⟩
theorem flushDiskR_sm (d : Disk) (hs : sm 1048576 d) : sm 67108864 (flushDiskR d) := by
  unfold flushDiskR
  split
  · rename_i h
    have ok := diskOk (s := d.sectors) (p := d.pending) h
    have hi : flushI d.sectors.length d.pending.length (flushed d.sectors d.pending) := fold_inv (flushI d.sectors.length) (fun k o h ho => flushI_step (ok.put _ (List.getElem_mem h)).2 ho) d.sectors ⟨rfl, ok.sec⟩
    have hle := ok.le
    exact ⟨⟨by show (flushed d.sectors d.pending).length ≤ _; rw [hi.1]; omega, fun x hx => ⟨by have := hi.2 x hx; omega, fun _ _ => trivial⟩⟩, by simp, by simp⟩
  · exact ⟨⟨by simp, by simp⟩, by simp, by simp⟩
theorem impl_FlushDisk (d : Disk) (hs : sm 1048576 d) : Call F.impl_FlushDisk [.agg (enc d)] (.agg (enc (flushDiskR d))) := by
  have h4 := sm_mono (show 1048576 ≤ 4294967296 by omega) hs
  obtain ⟨s, p⟩ := d
  refine call_of rfl 0 ((impl_FlushDisk.ev _ _ _).trans ?_)
  simp only [Int.ofNat_lt, str_inj, beq_dec, bne_dec, cond_dec, cond_nt, if_true, if_false, decide_true, decide_false, cond_true, cond_false, u8_inj, cells_div, sz_int, sz_u8, sz_list, sz_Symbol, sz_Signature, sz_Equation, sz_Binding, sz_Algebra, sz_Entry, sz_Completion, sz_Theory, sz_Put, sz_Disk, sz_Act, sz_IntResult, sz_IntsResult, sz_BytesResult, sz_TextResult, sz_SignatureResult, sz_TermResult, sz_TermsResult, sz_EquationResult, sz_EquationsResult, sz_KeyResult, sz_BindingResult, sz_RedexResult, sz_NormalResult, sz_AlgebraResult, sz_EntryResult, sz_CompletionResult, sz_TheoryResult, sz_DiskResult, inB_nat, Int.toNat_natCast, get0, get1, get2, get3, get4, get5, get6, get7, get8, Nat.reduceLT, bind_of, List.getElem?_cons_zero, List.getElem?_cons_succ, oInt_int, oBool_bool, oStr_str, oSl_slc, oAgg_agg, oTup_tup, oCons_cons, oNil_nil, sl_cells, (impl_DiskFault s p h4).eq, flushDiskR]
  by_cases h0 : diskFault ⟨s, p⟩ = 0
  case neg => simp only [h0, Int.ofNat_lt, str_inj, beq_dec, bne_dec, cond_dec, cond_nt, if_true, if_false, decide_true, decide_false, cond_true, cond_false, u8_inj, cells_div, sz_int, sz_u8, sz_list, sz_Symbol, sz_Signature, sz_Equation, sz_Binding, sz_Algebra, sz_Entry, sz_Completion, sz_Theory, sz_Put, sz_Disk, sz_Act, sz_IntResult, sz_IntsResult, sz_BytesResult, sz_TextResult, sz_SignatureResult, sz_TermResult, sz_TermsResult, sz_EquationResult, sz_EquationsResult, sz_KeyResult, sz_BindingResult, sz_RedexResult, sz_NormalResult, sz_AlgebraResult, sz_EntryResult, sz_CompletionResult, sz_TheoryResult, sz_DiskResult, inB_nat, Int.toNat_natCast, get0, get1, get2, get3, get4, get5, get6, get7, get8, Nat.reduceLT, bind_of, List.getElem?_cons_zero, List.getElem?_cons_succ, oInt_int, oBool_bool, oStr_str, oSl_slc, oAgg_agg, oTup_tup, oCons_cons, oNil_nil, sl_cells, enc_DiskResult, slc_nil]
  simp only [h0, Int.ofNat_lt, str_inj, beq_dec, bne_dec, cond_dec, cond_nt, if_true, if_false, decide_true, decide_false, cond_true, cond_false, u8_inj, cells_div, sz_int, sz_u8, sz_list, sz_Symbol, sz_Signature, sz_Equation, sz_Binding, sz_Algebra, sz_Entry, sz_Completion, sz_Theory, sz_Put, sz_Disk, sz_Act, sz_IntResult, sz_IntsResult, sz_BytesResult, sz_TextResult, sz_SignatureResult, sz_TermResult, sz_TermsResult, sz_EquationResult, sz_EquationsResult, sz_KeyResult, sz_BindingResult, sz_RedexResult, sz_NormalResult, sz_AlgebraResult, sz_EntryResult, sz_CompletionResult, sz_TheoryResult, sz_DiskResult, inB_nat, Int.toNat_natCast, get0, get1, get2, get3, get4, get5, get6, get7, get8, Nat.reduceLT, bind_of, List.getElem?_cons_zero, List.getElem?_cons_succ, oInt_int, oBool_bool, oStr_str, oSl_slc, oAgg_agg, oTup_tup, oCons_cons, oNil_nil, sl_cells, (impl_ownDisk s p hs).eq, impl_Disk_flush s p (diskOk h0), enc_DiskResult]
theorem spec_FlushDisk (d : Disk) (hs : sm 1048576 d) : Call F.spec_FlushDisk [.agg (enc d)] (.agg (enc (flushDiskR d))) := by
  have h4 := sm_mono (show 1048576 ≤ 4294967296 by omega) hs
  obtain ⟨s, p⟩ := d
  refine call_of rfl 0 ((spec_FlushDisk.ev _ _ _).trans ?_)
  simp only [Int.ofNat_lt, str_inj, beq_dec, bne_dec, cond_dec, cond_nt, if_true, if_false, decide_true, decide_false, cond_true, cond_false, u8_inj, cells_div, sz_int, sz_u8, sz_list, sz_Symbol, sz_Signature, sz_Equation, sz_Binding, sz_Algebra, sz_Entry, sz_Completion, sz_Theory, sz_Put, sz_Disk, sz_Act, sz_IntResult, sz_IntsResult, sz_BytesResult, sz_TextResult, sz_SignatureResult, sz_TermResult, sz_TermsResult, sz_EquationResult, sz_EquationsResult, sz_KeyResult, sz_BindingResult, sz_RedexResult, sz_NormalResult, sz_AlgebraResult, sz_EntryResult, sz_CompletionResult, sz_TheoryResult, sz_DiskResult, inB_nat, Int.toNat_natCast, get0, get1, get2, get3, get4, get5, get6, get7, get8, Nat.reduceLT, bind_of, List.getElem?_cons_zero, List.getElem?_cons_succ, oInt_int, oBool_bool, oStr_str, oSl_slc, oAgg_agg, oTup_tup, oCons_cons, oNil_nil, sl_cells, (spec_DiskFault s p h4).eq, flushDiskR]
  by_cases h0 : diskFault ⟨s, p⟩ = 0
  case neg => simp only [h0, Int.ofNat_lt, str_inj, beq_dec, bne_dec, cond_dec, cond_nt, if_true, if_false, decide_true, decide_false, cond_true, cond_false, u8_inj, cells_div, sz_int, sz_u8, sz_list, sz_Symbol, sz_Signature, sz_Equation, sz_Binding, sz_Algebra, sz_Entry, sz_Completion, sz_Theory, sz_Put, sz_Disk, sz_Act, sz_IntResult, sz_IntsResult, sz_BytesResult, sz_TextResult, sz_SignatureResult, sz_TermResult, sz_TermsResult, sz_EquationResult, sz_EquationsResult, sz_KeyResult, sz_BindingResult, sz_RedexResult, sz_NormalResult, sz_AlgebraResult, sz_EntryResult, sz_CompletionResult, sz_TheoryResult, sz_DiskResult, inB_nat, Int.toNat_natCast, get0, get1, get2, get3, get4, get5, get6, get7, get8, Nat.reduceLT, bind_of, List.getElem?_cons_zero, List.getElem?_cons_succ, oInt_int, oBool_bool, oStr_str, oSl_slc, oAgg_agg, oTup_tup, oCons_cons, oNil_nil, sl_cells, enc_DiskResult, slc_nil]
  simp only [h0, Int.ofNat_lt, str_inj, beq_dec, bne_dec, cond_dec, cond_nt, if_true, if_false, decide_true, decide_false, cond_true, cond_false, u8_inj, cells_div, sz_int, sz_u8, sz_list, sz_Symbol, sz_Signature, sz_Equation, sz_Binding, sz_Algebra, sz_Entry, sz_Completion, sz_Theory, sz_Put, sz_Disk, sz_Act, sz_IntResult, sz_IntsResult, sz_BytesResult, sz_TextResult, sz_SignatureResult, sz_TermResult, sz_TermsResult, sz_EquationResult, sz_EquationsResult, sz_KeyResult, sz_BindingResult, sz_RedexResult, sz_NormalResult, sz_AlgebraResult, sz_EntryResult, sz_CompletionResult, sz_TheoryResult, sz_DiskResult, inB_nat, Int.toNat_natCast, get0, get1, get2, get3, get4, get5, get6, get7, get8, Nat.reduceLT, bind_of, List.getElem?_cons_zero, List.getElem?_cons_succ, oInt_int, oBool_bool, oStr_str, oSl_slc, oAgg_agg, oTup_tup, oCons_cons, oNil_nil, sl_cells, (spec_l14Copy s p hs).eq, spec_l14Flush s p (diskOk h0), enc_DiskResult]
end Ev.Ty
