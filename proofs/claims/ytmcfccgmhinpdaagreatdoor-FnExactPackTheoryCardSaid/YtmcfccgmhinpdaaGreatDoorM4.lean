/- Steps on the way to RowPackTheory: TyPlumb, TyNum, TySig, TyAlg, TyTerm, TyTree, TyEval, TyEvalF, TyEvalT, TyVars, TyEqs, TySame, TyBind, TyRules. -/
import Derived.Test.YtmcfccgmhinpdaaGreatDoorM3
import Derived.Lib.SlTrimSet
section
namespace Ev.Ty
open Go Ev
open Enc (enc)
open Sm (sm)
set_option linter.unusedVariables false
set_option linter.unusedSimpArgs false
theorem laws_toSymbol (v_name : ByteArray) (v_arity : Int) (hs : sm 4294967296 (Symbol.mk v_name v_arity)) : Call F.laws_toSymbol [.agg [.str v_name, .int .i64 v_arity]] (.agg [.str v_name, .int .i64 v_arity]) := by
  refine call_of rfl 0 ((laws_toSymbol.ev _ _ _ ).trans ?_)
  simp only [Int.ofNat_lt, str_inj, beq_dec, bne_dec, cond_dec, cond_nt, if_true, if_false, decide_true, decide_false, cond_true, cond_false, u8_inj, cells_div, sz_int, sz_u8, sz_list, sz_Symbol, sz_Signature, sz_Equation, sz_Binding, sz_Algebra, sz_Entry, sz_Completion, sz_Theory, sz_Put, sz_Disk, sz_Act, sz_IntResult, sz_IntsResult, sz_BytesResult, sz_TextResult, sz_SignatureResult, sz_TermResult, sz_TermsResult, sz_EquationResult, sz_EquationsResult, sz_KeyResult, sz_BindingResult, sz_RedexResult, sz_NormalResult, sz_AlgebraResult, sz_EntryResult, sz_CompletionResult, sz_TheoryResult, sz_DiskResult, inB_nat, Int.toNat_natCast, get0, get1, get2, get3, get4, get5, get6, get7, get8, Nat.reduceLT, bind_of, List.getElem?_cons_zero, List.getElem?_cons_succ, oInt_int, oBool_bool, oStr_str, oSl_slc, oAgg_agg, oTup_tup, oCons_cons, oNil_nil, sl_cells]
theorem laws_eqSymbol (v_name : ByteArray) (v_arity : Int) (w_name : ByteArray) (w_arity : Int) (hs : sm 4294967296 (Symbol.mk v_name v_arity)) : Call F.laws_eqSymbol [.agg [.str v_name, .int .i64 v_arity], .agg [.str w_name, .int .i64 w_arity]] (.bool (decide ((Symbol.mk v_name v_arity) = (Symbol.mk w_name w_arity)))) := by
  refine call_of rfl 0 ((laws_eqSymbol.ev _ _ _ _ _ ).trans ?_)
  simp only [Int.ofNat_lt, str_inj, beq_dec, bne_dec, cond_dec, cond_nt, if_true, if_false, decide_true, decide_false, cond_true, cond_false, u8_inj, cells_div, sz_int, sz_u8, sz_list, sz_Symbol, sz_Signature, sz_Equation, sz_Binding, sz_Algebra, sz_Entry, sz_Completion, sz_Theory, sz_Put, sz_Disk, sz_Act, sz_IntResult, sz_IntsResult, sz_BytesResult, sz_TextResult, sz_SignatureResult, sz_TermResult, sz_TermsResult, sz_EquationResult, sz_EquationsResult, sz_KeyResult, sz_BindingResult, sz_RedexResult, sz_NormalResult, sz_AlgebraResult, sz_EntryResult, sz_CompletionResult, sz_TheoryResult, sz_DiskResult, inB_nat, Int.toNat_natCast, get0, get1, get2, get3, get4, get5, get6, get7, get8, Nat.reduceLT, bind_of, List.getElem?_cons_zero, List.getElem?_cons_succ, oInt_int, oBool_bool, oStr_str, oSl_slc, oAgg_agg, oTup_tup, oCons_cons, oNil_nil, sl_cells, Symbol.mk.injEq]
  by_cases h0 : v_name = w_name
  case neg => simp only [h0,  if_true, if_false, decide_false, cond_false, false_and, and_false]
  by_cases h1 : v_arity = w_arity
  case neg => simp only [h1, h0,  if_true, if_false, decide_false, cond_false, false_and, and_false]
  simp only [h0, h1, if_true, decide_true, cond_true, and_true, and_self]
theorem laws_szSymbol (v_name : ByteArray) (v_arity : Int) (left : Int) (h0 : 0 ≤ left) (h1 : left ≤ 1048576) (hs : sm maxLen (Symbol.mk v_name v_arity)) : ∃ r, Call F.laws_szSymbol [.agg [.str v_name, .int .i64 v_arity], .int .i64 left] (.int .i64 r) ∧ r ≤ left ∧ (0 ≤ r → sm 1048576 (Symbol.mk v_name v_arity)) := by
  have hl0 := hs
  have hl0 : v_name.size ≤ maxLen := hl0
  obtain ⟨r0, e0, hr0, hp0⟩ : ∃ r, r = left - (v_name.size : Int) ∧ r ≤ left ∧ (0 ≤ r → v_name.size ≤ 1048576) := ⟨_, rfl, by omega, fun _ => by omega⟩
  have hw0 : IntKind.wrap .i64 (left - ((v_name.size : Nat) : Int)) = r0 := by rw [wrap64 (by unfold maxLen at hl0; omega)]; exact e0.symm
  by_cases n0 : r0 < 0
  · exact ⟨-1, call_of rfl 0 ((laws_szSymbol.ev _ _ _ _ ).trans (by simp only [Int.ofNat_lt, str_inj, beq_dec, bne_dec, cond_dec, cond_nt, if_true, if_false, decide_true, decide_false, cond_true, cond_false, u8_inj, cells_div, sz_int, sz_u8, sz_list, sz_Symbol, sz_Signature, sz_Equation, sz_Binding, sz_Algebra, sz_Entry, sz_Completion, sz_Theory, sz_Put, sz_Disk, sz_Act, sz_IntResult, sz_IntsResult, sz_BytesResult, sz_TextResult, sz_SignatureResult, sz_TermResult, sz_TermsResult, sz_EquationResult, sz_EquationsResult, sz_KeyResult, sz_BindingResult, sz_RedexResult, sz_NormalResult, sz_AlgebraResult, sz_EntryResult, sz_CompletionResult, sz_TheoryResult, sz_DiskResult, inB_nat, Int.toNat_natCast, get0, get1, get2, get3, get4, get5, get6, get7, get8, Nat.reduceLT, bind_of, List.getElem?_cons_zero, List.getElem?_cons_succ, oInt_int, oBool_bool, oStr_str, oSl_slc, oAgg_agg, oTup_tup, oCons_cons, oNil_nil, sl_cells, hw0, n0])), by omega, by omega⟩
  exact ⟨r0, call_of rfl 0 ((laws_szSymbol.ev _ _ _ _ ).trans (by simp only [Int.ofNat_lt, str_inj, beq_dec, bne_dec, cond_dec, cond_nt, if_true, if_false, decide_true, decide_false, cond_true, cond_false, u8_inj, cells_div, sz_int, sz_u8, sz_list, sz_Symbol, sz_Signature, sz_Equation, sz_Binding, sz_Algebra, sz_Entry, sz_Completion, sz_Theory, sz_Put, sz_Disk, sz_Act, sz_IntResult, sz_IntsResult, sz_BytesResult, sz_TextResult, sz_SignatureResult, sz_TermResult, sz_TermsResult, sz_EquationResult, sz_EquationsResult, sz_KeyResult, sz_BindingResult, sz_RedexResult, sz_NormalResult, sz_AlgebraResult, sz_EntryResult, sz_CompletionResult, sz_TheoryResult, sz_DiskResult, inB_nat, Int.toNat_natCast, get0, get1, get2, get3, get4, get5, get6, get7, get8, Nat.reduceLT, bind_of, List.getElem?_cons_zero, List.getElem?_cons_succ, oInt_int, oBool_bool, oStr_str, oSl_slc, oAgg_agg, oTup_tup, oCons_cons, oNil_nil, sl_cells, hw0, n0])), by omega, fun _ => hp0 (by omega)⟩
theorem laws_toSymbolS (l : List Symbol) (hs : sm 4294967296 l) : Call F.laws_toSymbolS [slc l] (slc l) := by
  have loop := to_loop (l := l) (S := fun m k o => laws_toSymbolS.at0 (l.length + 1) m (laws_toSymbolS.st0 (cells l) (k : Nat) (cells o))) (z := slc l)
    (fun m k o h ho => by
      simp only [laws_toSymbolS.next0, laws_toSymbolS.round0, Int.ofNat_lt, str_inj, beq_dec, bne_dec, cond_dec, cond_nt, if_true, if_false, decide_true, decide_false, cond_true, cond_false, u8_inj, cells_div, sz_int, sz_u8, sz_list, sz_Symbol, sz_Signature, sz_Equation, sz_Binding, sz_Algebra, sz_Entry, sz_Completion, sz_Theory, sz_Put, sz_Disk, sz_Act, sz_IntResult, sz_IntsResult, sz_BytesResult, sz_TextResult, sz_SignatureResult, sz_TermResult, sz_TermsResult, sz_EquationResult, sz_EquationsResult, sz_KeyResult, sz_BindingResult, sz_RedexResult, sz_NormalResult, sz_AlgebraResult, sz_EntryResult, sz_CompletionResult, sz_TheoryResult, sz_DiskResult, inB_nat, Int.toNat_natCast, get0, get1, get2, get3, get4, get5, get6, get7, get8, Nat.reduceLT, bind_of, List.getElem?_cons_zero, List.getElem?_cons_succ, oInt_int, oBool_bool, oStr_str, oSl_slc, oAgg_agg, oTup_tup, oCons_cons, oNil_nil, sl_cells, List.length_replicate, h, ho, (laws_toSymbol l[k].name l[k].arity (hs.2 _ (List.getElem_mem h))).eq, List.getElem?_eq_getElem, enc_Symbol]
      rw [set_Symbol (by omega), wrap_succ (by have := hs.1; omega)]
      simp only [cells_length, sz_Symbol, sz_int, sz_u8, sz_list, ho]
      rw [if_pos (by omega)])
    (fun m o ho => by
      simp only [laws_toSymbolS.next0, laws_toSymbolS.round0, Int.ofNat_lt, str_inj, beq_dec, bne_dec, cond_dec, cond_nt, if_true, if_false, decide_true, decide_false, cond_true, cond_false, u8_inj, cells_div, sz_int, sz_u8, sz_list, sz_Symbol, sz_Signature, sz_Equation, sz_Binding, sz_Algebra, sz_Entry, sz_Completion, sz_Theory, sz_Put, sz_Disk, sz_Act, sz_IntResult, sz_IntsResult, sz_BytesResult, sz_TextResult, sz_SignatureResult, sz_TermResult, sz_TermsResult, sz_EquationResult, sz_EquationsResult, sz_KeyResult, sz_BindingResult, sz_RedexResult, sz_NormalResult, sz_AlgebraResult, sz_EntryResult, sz_CompletionResult, sz_TheoryResult, sz_DiskResult, inB_nat, Int.toNat_natCast, get0, get1, get2, get3, get4, get5, get6, get7, get8, Nat.reduceLT, bind_of, List.getElem?_cons_zero, List.getElem?_cons_succ, oInt_int, oBool_bool, oStr_str, oSl_slc, oAgg_agg, oTup_tup, oCons_cons, oNil_nil, sl_cells, Nat.lt_irrefl, ho])
  refine call_of rfl (l.length + 1) ((laws_toSymbolS.ev _ _).trans ?_)
  simp only [cells_div, sz_Symbol, sz_int, sz_u8, sz_list, Int.toNat_natCast, rep_Symbol]
  rw [cond_pos (by have := hs.1; simp; omega)]
  exact loop _ (by simp)
theorem laws_eqSymbolS (l r : List Symbol) (hs : sm 4294967296 l) : Call F.laws_eqSymbolS [slc l, slc r] (.bool (decide (l = r))) := by
  refine call_of rfl (l.length + 1) ((laws_eqSymbolS.ev _ _ _).trans ?_)
  simp only [cells_div, sz_Symbol, sz_int, sz_u8, sz_list]
  by_cases hl : l.length = r.length
  · have loop := eq_loop hl (S := fun m k => laws_eqSymbolS.at0 (l.length + 1) m (laws_eqSymbolS.st0 (cells l) (cells r) (k : Nat)))
      (fun m k h h' => by
        simp only [laws_eqSymbolS.next0, laws_eqSymbolS.round0, Int.ofNat_lt, str_inj, beq_dec, bne_dec, cond_dec, cond_nt, if_true, if_false, decide_true, decide_false, cond_true, cond_false, u8_inj, cells_div, sz_int, sz_u8, sz_list, sz_Symbol, sz_Signature, sz_Equation, sz_Binding, sz_Algebra, sz_Entry, sz_Completion, sz_Theory, sz_Put, sz_Disk, sz_Act, sz_IntResult, sz_IntsResult, sz_BytesResult, sz_TextResult, sz_SignatureResult, sz_TermResult, sz_TermsResult, sz_EquationResult, sz_EquationsResult, sz_KeyResult, sz_BindingResult, sz_RedexResult, sz_NormalResult, sz_AlgebraResult, sz_EntryResult, sz_CompletionResult, sz_TheoryResult, sz_DiskResult, inB_nat, Int.toNat_natCast, get0, get1, get2, get3, get4, get5, get6, get7, get8, Nat.reduceLT, bind_of, List.getElem?_cons_zero, List.getElem?_cons_succ, oInt_int, oBool_bool, oStr_str, oSl_slc, oAgg_agg, oTup_tup, oCons_cons, oNil_nil, sl_cells, h, h', (laws_eqSymbol l[k].name l[k].arity r[k].name r[k].arity (hs.2 _ (List.getElem_mem h))).eq, List.getElem?_eq_getElem, enc_Symbol]
        rw [wrap_succ (by have := hs.1; omega)])
      (fun m => by
        simp only [laws_eqSymbolS.next0, laws_eqSymbolS.round0, Int.ofNat_lt, str_inj, beq_dec, bne_dec, cond_dec, cond_nt, if_true, if_false, decide_true, decide_false, cond_true, cond_false, u8_inj, cells_div, sz_int, sz_u8, sz_list, sz_Symbol, sz_Signature, sz_Equation, sz_Binding, sz_Algebra, sz_Entry, sz_Completion, sz_Theory, sz_Put, sz_Disk, sz_Act, sz_IntResult, sz_IntsResult, sz_BytesResult, sz_TextResult, sz_SignatureResult, sz_TermResult, sz_TermsResult, sz_EquationResult, sz_EquationsResult, sz_KeyResult, sz_BindingResult, sz_RedexResult, sz_NormalResult, sz_AlgebraResult, sz_EntryResult, sz_CompletionResult, sz_TheoryResult, sz_DiskResult, inB_nat, Int.toNat_natCast, get0, get1, get2, get3, get4, get5, get6, get7, get8, Nat.reduceLT, bind_of, List.getElem?_cons_zero, List.getElem?_cons_succ, oInt_int, oBool_bool, oStr_str, oSl_slc, oAgg_agg, oTup_tup, oCons_cons, oNil_nil, sl_cells, Nat.lt_irrefl])
    rw [cond_neg (by rw [hl]; exact bne_self_eq_false _)]
    exact loop
  · rw [cond_pos (by simp; omega)]
    simp only [show (l = r) = False from eq_false fun e => hl (e ▸ rfl), decide_false]
theorem laws_szSymbolS (l : List Symbol) (left : Int) (h0 : 0 ≤ left) (h1 : left ≤ 1048576) (hs : sm maxLen l) : ∃ r, Call F.laws_szSymbolS [slc l, .int .i64 left] (.int .i64 r) ∧ r ≤ left ∧ (0 ≤ r → sm 1048576 l) := by
  have hl := hs.1
  have hw : IntKind.wrap .i64 (left - ((l.length : Nat) : Int)) = left - l.length := wrap64 (by unfold maxLen at hl; omega)
  by_cases h : left - (l.length : Int) < 0
  · exact ⟨-1, call_of rfl 0 ((laws_szSymbolS.ev _ _ _).trans (by simp only [Int.ofNat_lt, str_inj, beq_dec, bne_dec, cond_dec, cond_nt, if_true, if_false, decide_true, decide_false, cond_true, cond_false, u8_inj, cells_div, sz_int, sz_u8, sz_list, sz_Symbol, sz_Signature, sz_Equation, sz_Binding, sz_Algebra, sz_Entry, sz_Completion, sz_Theory, sz_Put, sz_Disk, sz_Act, sz_IntResult, sz_IntsResult, sz_BytesResult, sz_TextResult, sz_SignatureResult, sz_TermResult, sz_TermsResult, sz_EquationResult, sz_EquationsResult, sz_KeyResult, sz_BindingResult, sz_RedexResult, sz_NormalResult, sz_AlgebraResult, sz_EntryResult, sz_CompletionResult, sz_TheoryResult, sz_DiskResult, inB_nat, Int.toNat_natCast, get0, get1, get2, get3, get4, get5, get6, get7, get8, Nat.reduceLT, bind_of, List.getElem?_cons_zero, List.getElem?_cons_succ, oInt_int, oBool_bool, oStr_str, oSl_slc, oAgg_agg, oTup_tup, oCons_cons, oNil_nil, sl_cells, hw, h])), by omega, by omega⟩
  · obtain ⟨r, e, hr, hp⟩ := sz_loop (l := l) (P := sm 1048576) (S := fun m k left => laws_szSymbolS.at0 (l.length + 1) m (laws_szSymbolS.st0 (cells l) left (k : Nat)))
      (fun m k left hk h0 h1 => by
        obtain ⟨r, c, hr, hp⟩ := laws_szSymbol l[k].name l[k].arity left h0 h1 (hs.2 _ (List.getElem_mem hk))
        refine ⟨r, hr, hp, ?_⟩
        simp only [laws_szSymbolS.next0, laws_szSymbolS.round0, Int.ofNat_lt, str_inj, beq_dec, bne_dec, cond_dec, cond_nt, if_true, if_false, decide_true, decide_false, cond_true, cond_false, u8_inj, cells_div, sz_int, sz_u8, sz_list, sz_Symbol, sz_Signature, sz_Equation, sz_Binding, sz_Algebra, sz_Entry, sz_Completion, sz_Theory, sz_Put, sz_Disk, sz_Act, sz_IntResult, sz_IntsResult, sz_BytesResult, sz_TextResult, sz_SignatureResult, sz_TermResult, sz_TermsResult, sz_EquationResult, sz_EquationsResult, sz_KeyResult, sz_BindingResult, sz_RedexResult, sz_NormalResult, sz_AlgebraResult, sz_EntryResult, sz_CompletionResult, sz_TheoryResult, sz_DiskResult, inB_nat, Int.toNat_natCast, get0, get1, get2, get3, get4, get5, get6, get7, get8, Nat.reduceLT, bind_of, List.getElem?_cons_zero, List.getElem?_cons_succ, oInt_int, oBool_bool, oStr_str, oSl_slc, oAgg_agg, oTup_tup, oCons_cons, oNil_nil, sl_cells, hk, List.getElem?_eq_getElem, enc_Symbol, c.eq]
        rw [wrap_succ (by unfold maxLen at hl; omega)])
      (fun m left => by simp only [laws_szSymbolS.next0, laws_szSymbolS.round0, Int.ofNat_lt, str_inj, beq_dec, bne_dec, cond_dec, cond_nt, if_true, if_false, decide_true, decide_false, cond_true, cond_false, u8_inj, cells_div, sz_int, sz_u8, sz_list, sz_Symbol, sz_Signature, sz_Equation, sz_Binding, sz_Algebra, sz_Entry, sz_Completion, sz_Theory, sz_Put, sz_Disk, sz_Act, sz_IntResult, sz_IntsResult, sz_BytesResult, sz_TextResult, sz_SignatureResult, sz_TermResult, sz_TermsResult, sz_EquationResult, sz_EquationsResult, sz_KeyResult, sz_BindingResult, sz_RedexResult, sz_NormalResult, sz_AlgebraResult, sz_EntryResult, sz_CompletionResult, sz_TheoryResult, sz_DiskResult, inB_nat, Int.toNat_natCast, get0, get1, get2, get3, get4, get5, get6, get7, get8, Nat.reduceLT, bind_of, List.getElem?_cons_zero, List.getElem?_cons_succ, oInt_int, oBool_bool, oStr_str, oSl_slc, oAgg_agg, oTup_tup, oCons_cons, oNil_nil, sl_cells, Nat.lt_irrefl])
      (left - l.length) (by omega) (by omega)
    refine ⟨r, call_of rfl (l.length + 1) ((laws_szSymbolS.ev _ _ _).trans ?_), by omega, fun h => ⟨by omega, hp h⟩⟩
    simp only [cells_div, sz_Symbol, sz_list, hw, h, decide_false, cond_false]
    exact e
theorem laws_markSymbolS (l : List Symbol) (k : Int) (h0 : 0 ≤ k) (hk : k ≤ 4611686018293170176) (hs : sm 67108864 l) : ∃ (l' : List Symbol) (k' : Int), LIM F.laws_markSymbolS [slc l, .int .i64 k] = some (.int .i64 k', [slc l']) ∧ k ≤ k' ∧ k' ≤ k + 134217728 := by
  obtain ⟨l', k', e, hl, hc, g, b⟩ := mark_loop (l := l) (k := k) (b := 2) (h := fun _ (_ : Symbol) _ => True) (S := fun m c i o => laws_markSymbolS.at0 (l.length + 1) m (laws_markSymbolS.st0 c (i : Nat) (cells o))) (z := fun c o => some (.int .i64 c, [slc o]))
    (fun m c i o x hi ho hm hc1 hc2 => by
      have hx := hs.2 x hm
      have hl := hs.1
      have hio : i < l.length := by omega
      obtain ⟨x_name, x_arity⟩ := x
      obtain ⟨t0, e0⟩ := laws_markText c (by omega)
      have w0 : IntKind.wrap .i64 (c + 1) = c + 1 := wrap64 (by omega)
      have w1 : IntKind.wrap .i64 (c + 1 + 1) = c + 1 + 1 := wrap64 (by omega)
      have hb0 : i * 2 + 1 ≤ o.length * 2 := by omega
      have hb1 : i * 2 + 1 + 1 ≤ o.length * 2 := by omega
      refine ⟨⟨t0, c + 1⟩, c + 1 + 1, ?_, trivial, by omega, by omega⟩
      simp only [laws_markSymbolS.next0, laws_markSymbolS.round0, Int.ofNat_lt, str_inj, beq_dec, bne_dec, cond_dec, cond_nt, if_true, if_false, decide_true, decide_false, cond_true, cond_false, u8_inj, cells_div, sz_int, sz_u8, sz_list, sz_Symbol, sz_Signature, sz_Equation, sz_Binding, sz_Algebra, sz_Entry, sz_Completion, sz_Theory, sz_Put, sz_Disk, sz_Act, sz_IntResult, sz_IntsResult, sz_BytesResult, sz_TextResult, sz_SignatureResult, sz_TermResult, sz_TermsResult, sz_EquationResult, sz_EquationsResult, sz_KeyResult, sz_BindingResult, sz_RedexResult, sz_NormalResult, sz_AlgebraResult, sz_EntryResult, sz_CompletionResult, sz_TheoryResult, sz_DiskResult, inB_nat, Int.toNat_natCast, get0, get1, get2, get3, get4, get5, get6, get7, get8, Nat.reduceLT, bind_of, List.getElem?_cons_zero, List.getElem?_cons_succ, oInt_int, oBool_bool, oStr_str, oSl_slc, oAgg_agg, oTup_tup, oCons_cons, oNil_nil, sl_cells, List.length_set, List.getElem?_set_self hi, cells_le, hi, Nat.lt_irrefl, enc_Symbol, hb0, hb1, fset_Symbol_0 hi, fset_Symbol_1 hi, e0, w0, w1, List.set_set]
      rw [wrap_succ (by omega)])
    (fun m c o ho => by simp only [laws_markSymbolS.next0, laws_markSymbolS.round0, Int.ofNat_lt, str_inj, beq_dec, bne_dec, cond_dec, cond_nt, if_true, if_false, decide_true, decide_false, cond_true, cond_false, u8_inj, cells_div, sz_int, sz_u8, sz_list, sz_Symbol, sz_Signature, sz_Equation, sz_Binding, sz_Algebra, sz_Entry, sz_Completion, sz_Theory, sz_Put, sz_Disk, sz_Act, sz_IntResult, sz_IntsResult, sz_BytesResult, sz_TextResult, sz_SignatureResult, sz_TermResult, sz_TermsResult, sz_EquationResult, sz_EquationsResult, sz_KeyResult, sz_BindingResult, sz_RedexResult, sz_NormalResult, sz_AlgebraResult, sz_EntryResult, sz_CompletionResult, sz_TheoryResult, sz_DiskResult, inB_nat, Int.toNat_natCast, get0, get1, get2, get3, get4, get5, get6, get7, get8, Nat.reduceLT, bind_of, List.getElem?_cons_zero, List.getElem?_cons_succ, oInt_int, oBool_bool, oStr_str, oSl_slc, oAgg_agg, oTup_tup, oCons_cons, oNil_nil, sl_cells, ho, Nat.lt_irrefl]) h0
    (l.length + 1) (by omega)
  have hl1 := hs.1
  refine ⟨l', k', ?_, by omega, by omega⟩
  · refine call2_of rfl (l.length + 1) ((laws_markSymbolS.ev _ _ _).trans ?_)
    exact e
theorem laws_toSignature (v_symbols : List Symbol) (hs : sm 4294967296 (Signature.mk v_symbols)) : Call F.laws_toSignature [.agg [slc v_symbols]] (.agg [slc v_symbols]) := by
  refine call_of rfl 0 ((laws_toSignature.ev _ _ ).trans ?_)
  simp only [Int.ofNat_lt, str_inj, beq_dec, bne_dec, cond_dec, cond_nt, if_true, if_false, decide_true, decide_false, cond_true, cond_false, u8_inj, cells_div, sz_int, sz_u8, sz_list, sz_Symbol, sz_Signature, sz_Equation, sz_Binding, sz_Algebra, sz_Entry, sz_Completion, sz_Theory, sz_Put, sz_Disk, sz_Act, sz_IntResult, sz_IntsResult, sz_BytesResult, sz_TextResult, sz_SignatureResult, sz_TermResult, sz_TermsResult, sz_EquationResult, sz_EquationsResult, sz_KeyResult, sz_BindingResult, sz_RedexResult, sz_NormalResult, sz_AlgebraResult, sz_EntryResult, sz_CompletionResult, sz_TheoryResult, sz_DiskResult, inB_nat, Int.toNat_natCast, get0, get1, get2, get3, get4, get5, get6, get7, get8, Nat.reduceLT, bind_of, List.getElem?_cons_zero, List.getElem?_cons_succ, oInt_int, oBool_bool, oStr_str, oSl_slc, oAgg_agg, oTup_tup, oCons_cons, oNil_nil, sl_cells, (laws_toSymbolS _ hs).eq]
theorem laws_eqSignature (v_symbols : List Symbol) (w_symbols : List Symbol) (hs : sm 4294967296 (Signature.mk v_symbols)) : Call F.laws_eqSignature [.agg [slc v_symbols], .agg [slc w_symbols]] (.bool (decide ((Signature.mk v_symbols) = (Signature.mk w_symbols)))) := by
  refine call_of rfl 0 ((laws_eqSignature.ev _ _ _ ).trans ?_)
  simp only [Int.ofNat_lt, str_inj, beq_dec, bne_dec, cond_dec, cond_nt, if_true, if_false, decide_true, decide_false, cond_true, cond_false, u8_inj, cells_div, sz_int, sz_u8, sz_list, sz_Symbol, sz_Signature, sz_Equation, sz_Binding, sz_Algebra, sz_Entry, sz_Completion, sz_Theory, sz_Put, sz_Disk, sz_Act, sz_IntResult, sz_IntsResult, sz_BytesResult, sz_TextResult, sz_SignatureResult, sz_TermResult, sz_TermsResult, sz_EquationResult, sz_EquationsResult, sz_KeyResult, sz_BindingResult, sz_RedexResult, sz_NormalResult, sz_AlgebraResult, sz_EntryResult, sz_CompletionResult, sz_TheoryResult, sz_DiskResult, inB_nat, Int.toNat_natCast, get0, get1, get2, get3, get4, get5, get6, get7, get8, Nat.reduceLT, bind_of, List.getElem?_cons_zero, List.getElem?_cons_succ, oInt_int, oBool_bool, oStr_str, oSl_slc, oAgg_agg, oTup_tup, oCons_cons, oNil_nil, sl_cells, (laws_eqSymbolS _ _ hs).eq, Signature.mk.injEq]
  by_cases h0 : v_symbols = w_symbols
  case neg => simp only [h0,  if_true, if_false, decide_false, cond_false, false_and, and_false]
  simp only [h0, if_true, decide_true, cond_true, and_true, and_self]
theorem laws_szSignature (v_symbols : List Symbol) (left : Int) (h0 : 0 ≤ left) (h1 : left ≤ 1048576) (hs : sm maxLen (Signature.mk v_symbols)) : ∃ r, Call F.laws_szSignature [.agg [slc v_symbols], .int .i64 left] (.int .i64 r) ∧ r ≤ left ∧ (0 ≤ r → sm 1048576 (Signature.mk v_symbols)) := by
  obtain ⟨r0, c0, hr0, hp0⟩ := laws_szSymbolS v_symbols left h0 h1 (hs)
  by_cases n0 : r0 < 0
  · exact ⟨-1, call_of rfl 0 ((laws_szSignature.ev _ _ _ ).trans (by simp only [Int.ofNat_lt, str_inj, beq_dec, bne_dec, cond_dec, cond_nt, if_true, if_false, decide_true, decide_false, cond_true, cond_false, u8_inj, cells_div, sz_int, sz_u8, sz_list, sz_Symbol, sz_Signature, sz_Equation, sz_Binding, sz_Algebra, sz_Entry, sz_Completion, sz_Theory, sz_Put, sz_Disk, sz_Act, sz_IntResult, sz_IntsResult, sz_BytesResult, sz_TextResult, sz_SignatureResult, sz_TermResult, sz_TermsResult, sz_EquationResult, sz_EquationsResult, sz_KeyResult, sz_BindingResult, sz_RedexResult, sz_NormalResult, sz_AlgebraResult, sz_EntryResult, sz_CompletionResult, sz_TheoryResult, sz_DiskResult, inB_nat, Int.toNat_natCast, get0, get1, get2, get3, get4, get5, get6, get7, get8, Nat.reduceLT, bind_of, List.getElem?_cons_zero, List.getElem?_cons_succ, oInt_int, oBool_bool, oStr_str, oSl_slc, oAgg_agg, oTup_tup, oCons_cons, oNil_nil, sl_cells, c0.eq, n0])), by omega, by omega⟩
  exact ⟨r0, call_of rfl 0 ((laws_szSignature.ev _ _ _ ).trans (by simp only [Int.ofNat_lt, str_inj, beq_dec, bne_dec, cond_dec, cond_nt, if_true, if_false, decide_true, decide_false, cond_true, cond_false, u8_inj, cells_div, sz_int, sz_u8, sz_list, sz_Symbol, sz_Signature, sz_Equation, sz_Binding, sz_Algebra, sz_Entry, sz_Completion, sz_Theory, sz_Put, sz_Disk, sz_Act, sz_IntResult, sz_IntsResult, sz_BytesResult, sz_TextResult, sz_SignatureResult, sz_TermResult, sz_TermsResult, sz_EquationResult, sz_EquationsResult, sz_KeyResult, sz_BindingResult, sz_RedexResult, sz_NormalResult, sz_AlgebraResult, sz_EntryResult, sz_CompletionResult, sz_TheoryResult, sz_DiskResult, inB_nat, Int.toNat_natCast, get0, get1, get2, get3, get4, get5, get6, get7, get8, Nat.reduceLT, bind_of, List.getElem?_cons_zero, List.getElem?_cons_succ, oInt_int, oBool_bool, oStr_str, oSl_slc, oAgg_agg, oTup_tup, oCons_cons, oNil_nil, sl_cells, c0.eq, n0])), by omega, fun _ => hp0 (by omega)⟩
theorem laws_markSignature (v_symbols : List Symbol) (k : Int) (h0 : 0 ≤ k) (hk : k ≤ 4611686018293170176) (hs : sm 67108864 (Signature.mk v_symbols)) : ∃ (u_symbols : List Symbol) (k' : Int), LIM F.laws_markSignature [.agg [slc v_symbols], .int .i64 k] = some (.int .i64 k', [.agg [slc u_symbols]]) ∧ k ≤ k' ∧ k' ≤ k + 134217728 := by
  obtain ⟨u_symbols, c_symbols, e_symbols, g_symbols, b_symbols⟩ := laws_markSymbolS v_symbols k (by omega) (by omega) (hs)
  have n_symbols : ¬ c_symbols < 0 := by omega
  refine ⟨u_symbols, c_symbols, call2_of rfl 0 ((laws_markSignature.ev _ _ _ ).trans ?_), by omega, by omega⟩
  · simp only [Int.ofNat_lt, str_inj, beq_dec, bne_dec, cond_dec, cond_nt, if_true, if_false, decide_true, decide_false, cond_true, cond_false, u8_inj, cells_div, sz_int, sz_u8, sz_list, sz_Symbol, sz_Signature, sz_Equation, sz_Binding, sz_Algebra, sz_Entry, sz_Completion, sz_Theory, sz_Put, sz_Disk, sz_Act, sz_IntResult, sz_IntsResult, sz_BytesResult, sz_TextResult, sz_SignatureResult, sz_TermResult, sz_TermsResult, sz_EquationResult, sz_EquationsResult, sz_KeyResult, sz_BindingResult, sz_RedexResult, sz_NormalResult, sz_AlgebraResult, sz_EntryResult, sz_CompletionResult, sz_TheoryResult, sz_DiskResult, inB_nat, Int.toNat_natCast, get0, get1, get2, get3, get4, get5, get6, get7, get8, Nat.reduceLT, bind_of, List.getElem?_cons_zero, List.getElem?_cons_succ, oInt_int, oBool_bool, oStr_str, oSl_slc, oAgg_agg, oTup_tup, oCons_cons, oNil_nil, sl_cells, e_symbols]
theorem laws_toInt64S (l : List Int) (hs : sm 4294967296 l) : Call F.laws_toInt64S [slc l] (slc l) := by
  have loop := to_loop (l := l) (S := fun m k o => laws_toInt64S.at0 (l.length + 1) m (laws_toInt64S.st0 (cells l) (k : Nat) (cells o))) (z := slc l)
    (fun m k o h ho => by
      simp only [laws_toInt64S.next0, laws_toInt64S.round0, Int.ofNat_lt, str_inj, beq_dec, bne_dec, cond_dec, cond_nt, if_true, if_false, decide_true, decide_false, cond_true, cond_false, u8_inj, cells_div, sz_int, sz_u8, sz_list, sz_Symbol, sz_Signature, sz_Equation, sz_Binding, sz_Algebra, sz_Entry, sz_Completion, sz_Theory, sz_Put, sz_Disk, sz_Act, sz_IntResult, sz_IntsResult, sz_BytesResult, sz_TextResult, sz_SignatureResult, sz_TermResult, sz_TermsResult, sz_EquationResult, sz_EquationsResult, sz_KeyResult, sz_BindingResult, sz_RedexResult, sz_NormalResult, sz_AlgebraResult, sz_EntryResult, sz_CompletionResult, sz_TheoryResult, sz_DiskResult, inB_nat, Int.toNat_natCast, get0, get1, get2, get3, get4, get5, get6, get7, get8, Nat.reduceLT, bind_of, List.getElem?_cons_zero, List.getElem?_cons_succ, oInt_int, oBool_bool, oStr_str, oSl_slc, oAgg_agg, oTup_tup, oCons_cons, oNil_nil, sl_cells, List.length_replicate, h, ho, List.getElem?_eq_getElem, enc_int, enc_u8, enc_list]
      rw [set_Int (by omega), wrap_succ (by have := hs.1; omega)]
      simp only [cells_length, sz_int, sz_u8, sz_list, ho]
      rw [if_pos (by omega)])
    (fun m o ho => by
      simp only [laws_toInt64S.next0, laws_toInt64S.round0, Int.ofNat_lt, str_inj, beq_dec, bne_dec, cond_dec, cond_nt, if_true, if_false, decide_true, decide_false, cond_true, cond_false, u8_inj, cells_div, sz_int, sz_u8, sz_list, sz_Symbol, sz_Signature, sz_Equation, sz_Binding, sz_Algebra, sz_Entry, sz_Completion, sz_Theory, sz_Put, sz_Disk, sz_Act, sz_IntResult, sz_IntsResult, sz_BytesResult, sz_TextResult, sz_SignatureResult, sz_TermResult, sz_TermsResult, sz_EquationResult, sz_EquationsResult, sz_KeyResult, sz_BindingResult, sz_RedexResult, sz_NormalResult, sz_AlgebraResult, sz_EntryResult, sz_CompletionResult, sz_TheoryResult, sz_DiskResult, inB_nat, Int.toNat_natCast, get0, get1, get2, get3, get4, get5, get6, get7, get8, Nat.reduceLT, bind_of, List.getElem?_cons_zero, List.getElem?_cons_succ, oInt_int, oBool_bool, oStr_str, oSl_slc, oAgg_agg, oTup_tup, oCons_cons, oNil_nil, sl_cells, Nat.lt_irrefl, ho])
  refine call_of rfl (l.length + 1) ((laws_toInt64S.ev _ _).trans ?_)
  simp only [cells_div, sz_int, sz_u8, sz_list, Int.toNat_natCast, rep_Int]
  rw [cond_pos (by have := hs.1; simp; omega)]
  exact loop _ (by simp)
theorem laws_eqInt64S (l r : List Int) (hs : sm 4294967296 l) : Call F.laws_eqInt64S [slc l, slc r] (.bool (decide (l = r))) := by
  refine call_of rfl (l.length + 1) ((laws_eqInt64S.ev _ _ _).trans ?_)
  simp only [cells_div, sz_int, sz_u8, sz_list]
  by_cases hl : l.length = r.length
  · have loop := eq_loop hl (S := fun m k => laws_eqInt64S.at0 (l.length + 1) m (laws_eqInt64S.st0 (cells l) (cells r) (k : Nat)))
      (fun m k h h' => by
        simp only [laws_eqInt64S.next0, laws_eqInt64S.round0, Int.ofNat_lt, str_inj, beq_dec, bne_dec, cond_dec, cond_nt, if_true, if_false, decide_true, decide_false, cond_true, cond_false, u8_inj, cells_div, sz_int, sz_u8, sz_list, sz_Symbol, sz_Signature, sz_Equation, sz_Binding, sz_Algebra, sz_Entry, sz_Completion, sz_Theory, sz_Put, sz_Disk, sz_Act, sz_IntResult, sz_IntsResult, sz_BytesResult, sz_TextResult, sz_SignatureResult, sz_TermResult, sz_TermsResult, sz_EquationResult, sz_EquationsResult, sz_KeyResult, sz_BindingResult, sz_RedexResult, sz_NormalResult, sz_AlgebraResult, sz_EntryResult, sz_CompletionResult, sz_TheoryResult, sz_DiskResult, inB_nat, Int.toNat_natCast, get0, get1, get2, get3, get4, get5, get6, get7, get8, Nat.reduceLT, bind_of, List.getElem?_cons_zero, List.getElem?_cons_succ, oInt_int, oBool_bool, oStr_str, oSl_slc, oAgg_agg, oTup_tup, oCons_cons, oNil_nil, sl_cells, h, h', List.getElem?_eq_getElem, enc_int, enc_u8, enc_list]
        rw [wrap_succ (by have := hs.1; omega)])
      (fun m => by
        simp only [laws_eqInt64S.next0, laws_eqInt64S.round0, Int.ofNat_lt, str_inj, beq_dec, bne_dec, cond_dec, cond_nt, if_true, if_false, decide_true, decide_false, cond_true, cond_false, u8_inj, cells_div, sz_int, sz_u8, sz_list, sz_Symbol, sz_Signature, sz_Equation, sz_Binding, sz_Algebra, sz_Entry, sz_Completion, sz_Theory, sz_Put, sz_Disk, sz_Act, sz_IntResult, sz_IntsResult, sz_BytesResult, sz_TextResult, sz_SignatureResult, sz_TermResult, sz_TermsResult, sz_EquationResult, sz_EquationsResult, sz_KeyResult, sz_BindingResult, sz_RedexResult, sz_NormalResult, sz_AlgebraResult, sz_EntryResult, sz_CompletionResult, sz_TheoryResult, sz_DiskResult, inB_nat, Int.toNat_natCast, get0, get1, get2, get3, get4, get5, get6, get7, get8, Nat.reduceLT, bind_of, List.getElem?_cons_zero, List.getElem?_cons_succ, oInt_int, oBool_bool, oStr_str, oSl_slc, oAgg_agg, oTup_tup, oCons_cons, oNil_nil, sl_cells, Nat.lt_irrefl])
    rw [cond_neg (by rw [hl]; exact bne_self_eq_false _)]
    exact loop
  · rw [cond_pos (by simp; omega)]
    simp only [show (l = r) = False from eq_false fun e => hl (e ▸ rfl), decide_false]
theorem laws_szInt64S (l : List Int) (left : Int) (h0 : 0 ≤ left) (h1 : left ≤ 1048576) (hs : sm maxLen l) : ∃ r, Call F.laws_szInt64S [slc l, .int .i64 left] (.int .i64 r) ∧ r ≤ left ∧ (0 ≤ r → sm 1048576 l) := by
  have hl := hs.1
  have hw : IntKind.wrap .i64 (left - ((l.length : Nat) : Int)) = left - l.length := wrap64 (by unfold maxLen at hl; omega)
  by_cases h : left - (l.length : Int) < 0
  · exact ⟨-1, call_of rfl 0 ((laws_szInt64S.ev _ _ _).trans (by simp only [Int.ofNat_lt, str_inj, beq_dec, bne_dec, cond_dec, cond_nt, if_true, if_false, decide_true, decide_false, cond_true, cond_false, u8_inj, cells_div, sz_int, sz_u8, sz_list, sz_Symbol, sz_Signature, sz_Equation, sz_Binding, sz_Algebra, sz_Entry, sz_Completion, sz_Theory, sz_Put, sz_Disk, sz_Act, sz_IntResult, sz_IntsResult, sz_BytesResult, sz_TextResult, sz_SignatureResult, sz_TermResult, sz_TermsResult, sz_EquationResult, sz_EquationsResult, sz_KeyResult, sz_BindingResult, sz_RedexResult, sz_NormalResult, sz_AlgebraResult, sz_EntryResult, sz_CompletionResult, sz_TheoryResult, sz_DiskResult, inB_nat, Int.toNat_natCast, get0, get1, get2, get3, get4, get5, get6, get7, get8, Nat.reduceLT, bind_of, List.getElem?_cons_zero, List.getElem?_cons_succ, oInt_int, oBool_bool, oStr_str, oSl_slc, oAgg_agg, oTup_tup, oCons_cons, oNil_nil, sl_cells, hw, h])), by omega, by omega⟩
  · refine ⟨left - l.length, call_of rfl 0 ((laws_szInt64S.ev _ _ _).trans (by simp only [Int.ofNat_lt, str_inj, beq_dec, bne_dec, cond_dec, cond_nt, if_true, if_false, decide_true, decide_false, cond_true, cond_false, u8_inj, cells_div, sz_int, sz_u8, sz_list, sz_Symbol, sz_Signature, sz_Equation, sz_Binding, sz_Algebra, sz_Entry, sz_Completion, sz_Theory, sz_Put, sz_Disk, sz_Act, sz_IntResult, sz_IntsResult, sz_BytesResult, sz_TextResult, sz_SignatureResult, sz_TermResult, sz_TermsResult, sz_EquationResult, sz_EquationsResult, sz_KeyResult, sz_BindingResult, sz_RedexResult, sz_NormalResult, sz_AlgebraResult, sz_EntryResult, sz_CompletionResult, sz_TheoryResult, sz_DiskResult, inB_nat, Int.toNat_natCast, get0, get1, get2, get3, get4, get5, get6, get7, get8, Nat.reduceLT, bind_of, List.getElem?_cons_zero, List.getElem?_cons_succ, oInt_int, oBool_bool, oStr_str, oSl_slc, oAgg_agg, oTup_tup, oCons_cons, oNil_nil, sl_cells, hw, h])), by omega, fun _ => ⟨by omega, fun x hx => trivial⟩⟩
theorem laws_markInt64S (l : List Int) (k : Int) (h0 : 0 ≤ k) (hk : k ≤ 4611686018360279040) (hs : sm 67108864 l) : ∃ (l' : List Int) (k' : Int), LIM F.laws_markInt64S [slc l, .int .i64 k] = some (.int .i64 k', [slc l']) ∧ k ≤ k' ∧ k' ≤ k + 67108864 ∧ LIM F.laws_heldInt64S [slc l', .int .i64 k] = some (.int .i64 k', []) := by
  obtain ⟨l', k', e, hl, hc, g, b⟩ := mark_loop (l := l) (k := k) (b := 1) (h := fun (c : Int) (y : Int) (c' : Int) => y = c ∧ c' = c + 1 ∧ 0 ≤ c ∧ c ≤ 4611686018427387904) (S := fun m c i o => laws_markInt64S.at0 (l.length + 1) m (laws_markInt64S.st0 c (i : Nat) (cells o))) (z := fun c o => some (.int .i64 c, [slc o]))
    (fun m c i o x hi ho hm hc1 hc2 => by
      have hx := hs.2 x hm
      have hl := hs.1
      have hio : i < l.length := by omega
      skip
      have w0 : IntKind.wrap .i64 (c + 1) = c + 1 := wrap64 (by omega)
      have hb0 : i * 1 + 1 ≤ o.length * 1 := by omega
      refine ⟨c, c + 1, ?_, ⟨rfl, rfl, by omega, by omega⟩, by omega, by omega⟩
      simp only [laws_markInt64S.next0, laws_markInt64S.round0, Int.ofNat_lt, str_inj, beq_dec, bne_dec, cond_dec, cond_nt, if_true, if_false, decide_true, decide_false, cond_true, cond_false, u8_inj, cells_div, sz_int, sz_u8, sz_list, sz_Symbol, sz_Signature, sz_Equation, sz_Binding, sz_Algebra, sz_Entry, sz_Completion, sz_Theory, sz_Put, sz_Disk, sz_Act, sz_IntResult, sz_IntsResult, sz_BytesResult, sz_TextResult, sz_SignatureResult, sz_TermResult, sz_TermsResult, sz_EquationResult, sz_EquationsResult, sz_KeyResult, sz_BindingResult, sz_RedexResult, sz_NormalResult, sz_AlgebraResult, sz_EntryResult, sz_CompletionResult, sz_TheoryResult, sz_DiskResult, inB_nat, Int.toNat_natCast, get0, get1, get2, get3, get4, get5, get6, get7, get8, Nat.reduceLT, bind_of, List.getElem?_cons_zero, List.getElem?_cons_succ, oInt_int, oBool_bool, oStr_str, oSl_slc, oAgg_agg, oTup_tup, oCons_cons, oNil_nil, sl_cells, List.length_set, List.getElem?_set_self hi, cells_le, hi, Nat.lt_irrefl, enc_int, enc_u8, enc_list, hb0, fset_Int hi, w0, List.set_set]
      rw [wrap_succ (by omega)])
    (fun m c o ho => by simp only [laws_markInt64S.next0, laws_markInt64S.round0, Int.ofNat_lt, str_inj, beq_dec, bne_dec, cond_dec, cond_nt, if_true, if_false, decide_true, decide_false, cond_true, cond_false, u8_inj, cells_div, sz_int, sz_u8, sz_list, sz_Symbol, sz_Signature, sz_Equation, sz_Binding, sz_Algebra, sz_Entry, sz_Completion, sz_Theory, sz_Put, sz_Disk, sz_Act, sz_IntResult, sz_IntsResult, sz_BytesResult, sz_TextResult, sz_SignatureResult, sz_TermResult, sz_TermsResult, sz_EquationResult, sz_EquationsResult, sz_KeyResult, sz_BindingResult, sz_RedexResult, sz_NormalResult, sz_AlgebraResult, sz_EntryResult, sz_CompletionResult, sz_TheoryResult, sz_DiskResult, inB_nat, Int.toNat_natCast, get0, get1, get2, get3, get4, get5, get6, get7, get8, Nat.reduceLT, bind_of, List.getElem?_cons_zero, List.getElem?_cons_succ, oInt_int, oBool_bool, oStr_str, oSl_slc, oAgg_agg, oTup_tup, oCons_cons, oNil_nil, sl_cells, ho, Nat.lt_irrefl]) h0
    (l.length + 1) (by omega)
  have hl1 := hs.1
  refine ⟨l', k', ?_, by omega, by omega, ?_⟩
  · refine call2_of rfl (l.length + 1) ((laws_markInt64S.ev _ _ _).trans ?_)
    exact e
  · refine call_of rfl (l'.length + 1) ((laws_heldInt64S.ev _ _ _).trans ?_)
    refine held_loop (l := l') (S := fun m c i => laws_heldInt64S.at0 (l'.length + 1) m (laws_heldInt64S.st0 (cells l') c (i : Nat))) (z := fun c => some (.int .i64 c, []))
      (fun m c i c' hi => ?_)
      (fun m c => by simp only [laws_heldInt64S.next0, laws_heldInt64S.round0, Int.ofNat_lt, str_inj, beq_dec, bne_dec, cond_dec, cond_nt, if_true, if_false, decide_true, decide_false, cond_true, cond_false, u8_inj, cells_div, sz_int, sz_u8, sz_list, sz_Symbol, sz_Signature, sz_Equation, sz_Binding, sz_Algebra, sz_Entry, sz_Completion, sz_Theory, sz_Put, sz_Disk, sz_Act, sz_IntResult, sz_IntsResult, sz_BytesResult, sz_TextResult, sz_SignatureResult, sz_TermResult, sz_TermsResult, sz_EquationResult, sz_EquationsResult, sz_KeyResult, sz_BindingResult, sz_RedexResult, sz_NormalResult, sz_AlgebraResult, sz_EntryResult, sz_CompletionResult, sz_TheoryResult, sz_DiskResult, inB_nat, Int.toNat_natCast, get0, get1, get2, get3, get4, get5, get6, get7, get8, Nat.reduceLT, bind_of, List.getElem?_cons_zero, List.getElem?_cons_succ, oInt_int, oBool_bool, oStr_str, oSl_slc, oAgg_agg, oTup_tup, oCons_cons, oNil_nil, sl_cells, Nat.lt_irrefl]) hc (by omega)
    rintro ⟨q0, qe, qa, qb⟩
    rw [qe]
    have w0 : IntKind.wrap .i64 (c + 1) = c + 1 := wrap64 (by omega)
    simp only [laws_heldInt64S.next0, laws_heldInt64S.round0, Int.ofNat_lt, str_inj, beq_dec, bne_dec, cond_dec, cond_nt, if_true, if_false, decide_true, decide_false, cond_true, cond_false, u8_inj, cells_div, sz_int, sz_u8, sz_list, sz_Symbol, sz_Signature, sz_Equation, sz_Binding, sz_Algebra, sz_Entry, sz_Completion, sz_Theory, sz_Put, sz_Disk, sz_Act, sz_IntResult, sz_IntsResult, sz_BytesResult, sz_TextResult, sz_SignatureResult, sz_TermResult, sz_TermsResult, sz_EquationResult, sz_EquationsResult, sz_KeyResult, sz_BindingResult, sz_RedexResult, sz_NormalResult, sz_AlgebraResult, sz_EntryResult, sz_CompletionResult, sz_TheoryResult, sz_DiskResult, inB_nat, Int.toNat_natCast, get0, get1, get2, get3, get4, get5, get6, get7, get8, Nat.reduceLT, bind_of, List.getElem?_cons_zero, List.getElem?_cons_succ, oInt_int, oBool_bool, oStr_str, oSl_slc, oAgg_agg, oTup_tup, oCons_cons, oNil_nil, sl_cells, hi, List.getElem?_eq_getElem, enc_int, enc_u8, enc_list, q0, w0]
    rw [wrap_succ (by omega)]
theorem laws_toEquation (v_left : List Int) (v_right : List Int) (hs : sm 4294967296 (Equation.mk v_left v_right)) : Call F.laws_toEquation [.agg [slc v_left, slc v_right]] (.agg [slc v_left, slc v_right]) := by
  refine call_of rfl 0 ((laws_toEquation.ev _ _ _ ).trans ?_)
  simp only [Int.ofNat_lt, str_inj, beq_dec, bne_dec, cond_dec, cond_nt, if_true, if_false, decide_true, decide_false, cond_true, cond_false, u8_inj, cells_div, sz_int, sz_u8, sz_list, sz_Symbol, sz_Signature, sz_Equation, sz_Binding, sz_Algebra, sz_Entry, sz_Completion, sz_Theory, sz_Put, sz_Disk, sz_Act, sz_IntResult, sz_IntsResult, sz_BytesResult, sz_TextResult, sz_SignatureResult, sz_TermResult, sz_TermsResult, sz_EquationResult, sz_EquationsResult, sz_KeyResult, sz_BindingResult, sz_RedexResult, sz_NormalResult, sz_AlgebraResult, sz_EntryResult, sz_CompletionResult, sz_TheoryResult, sz_DiskResult, inB_nat, Int.toNat_natCast, get0, get1, get2, get3, get4, get5, get6, get7, get8, Nat.reduceLT, bind_of, List.getElem?_cons_zero, List.getElem?_cons_succ, oInt_int, oBool_bool, oStr_str, oSl_slc, oAgg_agg, oTup_tup, oCons_cons, oNil_nil, sl_cells, (laws_toInt64S _ hs.1).eq, (laws_toInt64S _ hs.2).eq]
theorem laws_eqEquation (v_left : List Int) (v_right : List Int) (w_left : List Int) (w_right : List Int) (hs : sm 4294967296 (Equation.mk v_left v_right)) : Call F.laws_eqEquation [.agg [slc v_left, slc v_right], .agg [slc w_left, slc w_right]] (.bool (decide ((Equation.mk v_left v_right) = (Equation.mk w_left w_right)))) := by
  refine call_of rfl 0 ((laws_eqEquation.ev _ _ _ _ _ ).trans ?_)
  simp only [Int.ofNat_lt, str_inj, beq_dec, bne_dec, cond_dec, cond_nt, if_true, if_false, decide_true, decide_false, cond_true, cond_false, u8_inj, cells_div, sz_int, sz_u8, sz_list, sz_Symbol, sz_Signature, sz_Equation, sz_Binding, sz_Algebra, sz_Entry, sz_Completion, sz_Theory, sz_Put, sz_Disk, sz_Act, sz_IntResult, sz_IntsResult, sz_BytesResult, sz_TextResult, sz_SignatureResult, sz_TermResult, sz_TermsResult, sz_EquationResult, sz_EquationsResult, sz_KeyResult, sz_BindingResult, sz_RedexResult, sz_NormalResult, sz_AlgebraResult, sz_EntryResult, sz_CompletionResult, sz_TheoryResult, sz_DiskResult, inB_nat, Int.toNat_natCast, get0, get1, get2, get3, get4, get5, get6, get7, get8, Nat.reduceLT, bind_of, List.getElem?_cons_zero, List.getElem?_cons_succ, oInt_int, oBool_bool, oStr_str, oSl_slc, oAgg_agg, oTup_tup, oCons_cons, oNil_nil, sl_cells, (laws_eqInt64S _ _ hs.1).eq, (laws_eqInt64S _ _ hs.2).eq, Equation.mk.injEq]
  by_cases h0 : v_left = w_left
  case neg => simp only [h0,  if_true, if_false, decide_false, cond_false, false_and, and_false]
  by_cases h1 : v_right = w_right
  case neg => simp only [h1, h0,  if_true, if_false, decide_false, cond_false, false_and, and_false]
  simp only [h0, h1, if_true, decide_true, cond_true, and_true, and_self]
theorem laws_szEquation (v_left : List Int) (v_right : List Int) (left : Int) (h0 : 0 ≤ left) (h1 : left ≤ 1048576) (hs : sm maxLen (Equation.mk v_left v_right)) : ∃ r, Call F.laws_szEquation [.agg [slc v_left, slc v_right], .int .i64 left] (.int .i64 r) ∧ r ≤ left ∧ (0 ≤ r → sm 1048576 (Equation.mk v_left v_right)) := by
  obtain ⟨r0, c0, hr0, hp0⟩ := laws_szInt64S v_left left h0 h1 (hs.1)
  by_cases n0 : r0 < 0
  · exact ⟨-1, call_of rfl 0 ((laws_szEquation.ev _ _ _ _ ).trans (by simp only [Int.ofNat_lt, str_inj, beq_dec, bne_dec, cond_dec, cond_nt, if_true, if_false, decide_true, decide_false, cond_true, cond_false, u8_inj, cells_div, sz_int, sz_u8, sz_list, sz_Symbol, sz_Signature, sz_Equation, sz_Binding, sz_Algebra, sz_Entry, sz_Completion, sz_Theory, sz_Put, sz_Disk, sz_Act, sz_IntResult, sz_IntsResult, sz_BytesResult, sz_TextResult, sz_SignatureResult, sz_TermResult, sz_TermsResult, sz_EquationResult, sz_EquationsResult, sz_KeyResult, sz_BindingResult, sz_RedexResult, sz_NormalResult, sz_AlgebraResult, sz_EntryResult, sz_CompletionResult, sz_TheoryResult, sz_DiskResult, inB_nat, Int.toNat_natCast, get0, get1, get2, get3, get4, get5, get6, get7, get8, Nat.reduceLT, bind_of, List.getElem?_cons_zero, List.getElem?_cons_succ, oInt_int, oBool_bool, oStr_str, oSl_slc, oAgg_agg, oTup_tup, oCons_cons, oNil_nil, sl_cells, c0.eq, n0])), by omega, by omega⟩
  obtain ⟨r1, c1, hr1, hp1⟩ := laws_szInt64S v_right r0 (by omega) (by omega) (hs.2)
  by_cases n1 : r1 < 0
  · exact ⟨-1, call_of rfl 0 ((laws_szEquation.ev _ _ _ _ ).trans (by simp only [Int.ofNat_lt, str_inj, beq_dec, bne_dec, cond_dec, cond_nt, if_true, if_false, decide_true, decide_false, cond_true, cond_false, u8_inj, cells_div, sz_int, sz_u8, sz_list, sz_Symbol, sz_Signature, sz_Equation, sz_Binding, sz_Algebra, sz_Entry, sz_Completion, sz_Theory, sz_Put, sz_Disk, sz_Act, sz_IntResult, sz_IntsResult, sz_BytesResult, sz_TextResult, sz_SignatureResult, sz_TermResult, sz_TermsResult, sz_EquationResult, sz_EquationsResult, sz_KeyResult, sz_BindingResult, sz_RedexResult, sz_NormalResult, sz_AlgebraResult, sz_EntryResult, sz_CompletionResult, sz_TheoryResult, sz_DiskResult, inB_nat, Int.toNat_natCast, get0, get1, get2, get3, get4, get5, get6, get7, get8, Nat.reduceLT, bind_of, List.getElem?_cons_zero, List.getElem?_cons_succ, oInt_int, oBool_bool, oStr_str, oSl_slc, oAgg_agg, oTup_tup, oCons_cons, oNil_nil, sl_cells, c0.eq, c1.eq, n0, n1])), by omega, by omega⟩
  exact ⟨r1, call_of rfl 0 ((laws_szEquation.ev _ _ _ _ ).trans (by simp only [Int.ofNat_lt, str_inj, beq_dec, bne_dec, cond_dec, cond_nt, if_true, if_false, decide_true, decide_false, cond_true, cond_false, u8_inj, cells_div, sz_int, sz_u8, sz_list, sz_Symbol, sz_Signature, sz_Equation, sz_Binding, sz_Algebra, sz_Entry, sz_Completion, sz_Theory, sz_Put, sz_Disk, sz_Act, sz_IntResult, sz_IntsResult, sz_BytesResult, sz_TextResult, sz_SignatureResult, sz_TermResult, sz_TermsResult, sz_EquationResult, sz_EquationsResult, sz_KeyResult, sz_BindingResult, sz_RedexResult, sz_NormalResult, sz_AlgebraResult, sz_EntryResult, sz_CompletionResult, sz_TheoryResult, sz_DiskResult, inB_nat, Int.toNat_natCast, get0, get1, get2, get3, get4, get5, get6, get7, get8, Nat.reduceLT, bind_of, List.getElem?_cons_zero, List.getElem?_cons_succ, oInt_int, oBool_bool, oStr_str, oSl_slc, oAgg_agg, oTup_tup, oCons_cons, oNil_nil, sl_cells, c0.eq, c1.eq, n0, n1])), by omega, fun _ => ⟨hp0 (by omega), hp1 (by omega)⟩⟩
theorem laws_toEquationS (l : List Equation) (hs : sm 4294967296 l) : Call F.laws_toEquationS [slc l] (slc l) := by
  have loop := to_loop (l := l) (S := fun m k o => laws_toEquationS.at0 (l.length + 1) m (laws_toEquationS.st0 (cells l) (k : Nat) (cells o))) (z := slc l)
    (fun m k o h ho => by
      simp only [laws_toEquationS.next0, laws_toEquationS.round0, Int.ofNat_lt, str_inj, beq_dec, bne_dec, cond_dec, cond_nt, if_true, if_false, decide_true, decide_false, cond_true, cond_false, u8_inj, cells_div, sz_int, sz_u8, sz_list, sz_Symbol, sz_Signature, sz_Equation, sz_Binding, sz_Algebra, sz_Entry, sz_Completion, sz_Theory, sz_Put, sz_Disk, sz_Act, sz_IntResult, sz_IntsResult, sz_BytesResult, sz_TextResult, sz_SignatureResult, sz_TermResult, sz_TermsResult, sz_EquationResult, sz_EquationsResult, sz_KeyResult, sz_BindingResult, sz_RedexResult, sz_NormalResult, sz_AlgebraResult, sz_EntryResult, sz_CompletionResult, sz_TheoryResult, sz_DiskResult, inB_nat, Int.toNat_natCast, get0, get1, get2, get3, get4, get5, get6, get7, get8, Nat.reduceLT, bind_of, List.getElem?_cons_zero, List.getElem?_cons_succ, oInt_int, oBool_bool, oStr_str, oSl_slc, oAgg_agg, oTup_tup, oCons_cons, oNil_nil, sl_cells, List.length_replicate, h, ho, (laws_toEquation l[k].left l[k].right (hs.2 _ (List.getElem_mem h))).eq, List.getElem?_eq_getElem, enc_Equation]
      rw [set_Equation (by omega), wrap_succ (by have := hs.1; omega)]
      simp only [cells_length, sz_Equation, sz_int, sz_u8, sz_list, ho]
      rw [if_pos (by omega)])
    (fun m o ho => by
      simp only [laws_toEquationS.next0, laws_toEquationS.round0, Int.ofNat_lt, str_inj, beq_dec, bne_dec, cond_dec, cond_nt, if_true, if_false, decide_true, decide_false, cond_true, cond_false, u8_inj, cells_div, sz_int, sz_u8, sz_list, sz_Symbol, sz_Signature, sz_Equation, sz_Binding, sz_Algebra, sz_Entry, sz_Completion, sz_Theory, sz_Put, sz_Disk, sz_Act, sz_IntResult, sz_IntsResult, sz_BytesResult, sz_TextResult, sz_SignatureResult, sz_TermResult, sz_TermsResult, sz_EquationResult, sz_EquationsResult, sz_KeyResult, sz_BindingResult, sz_RedexResult, sz_NormalResult, sz_AlgebraResult, sz_EntryResult, sz_CompletionResult, sz_TheoryResult, sz_DiskResult, inB_nat, Int.toNat_natCast, get0, get1, get2, get3, get4, get5, get6, get7, get8, Nat.reduceLT, bind_of, List.getElem?_cons_zero, List.getElem?_cons_succ, oInt_int, oBool_bool, oStr_str, oSl_slc, oAgg_agg, oTup_tup, oCons_cons, oNil_nil, sl_cells, Nat.lt_irrefl, ho])
  refine call_of rfl (l.length + 1) ((laws_toEquationS.ev _ _).trans ?_)
  simp only [cells_div, sz_Equation, sz_int, sz_u8, sz_list, Int.toNat_natCast, rep_Equation]
  rw [cond_pos (by have := hs.1; simp; omega)]
  exact loop _ (by simp)
theorem laws_eqEquationS (l r : List Equation) (hs : sm 4294967296 l) : Call F.laws_eqEquationS [slc l, slc r] (.bool (decide (l = r))) := by
  refine call_of rfl (l.length + 1) ((laws_eqEquationS.ev _ _ _).trans ?_)
  simp only [cells_div, sz_Equation, sz_int, sz_u8, sz_list]
  by_cases hl : l.length = r.length
  · have loop := eq_loop hl (S := fun m k => laws_eqEquationS.at0 (l.length + 1) m (laws_eqEquationS.st0 (cells l) (cells r) (k : Nat)))
      (fun m k h h' => by
        simp only [laws_eqEquationS.next0, laws_eqEquationS.round0, Int.ofNat_lt, str_inj, beq_dec, bne_dec, cond_dec, cond_nt, if_true, if_false, decide_true, decide_false, cond_true, cond_false, u8_inj, cells_div, sz_int, sz_u8, sz_list, sz_Symbol, sz_Signature, sz_Equation, sz_Binding, sz_Algebra, sz_Entry, sz_Completion, sz_Theory, sz_Put, sz_Disk, sz_Act, sz_IntResult, sz_IntsResult, sz_BytesResult, sz_TextResult, sz_SignatureResult, sz_TermResult, sz_TermsResult, sz_EquationResult, sz_EquationsResult, sz_KeyResult, sz_BindingResult, sz_RedexResult, sz_NormalResult, sz_AlgebraResult, sz_EntryResult, sz_CompletionResult, sz_TheoryResult, sz_DiskResult, inB_nat, Int.toNat_natCast, get0, get1, get2, get3, get4, get5, get6, get7, get8, Nat.reduceLT, bind_of, List.getElem?_cons_zero, List.getElem?_cons_succ, oInt_int, oBool_bool, oStr_str, oSl_slc, oAgg_agg, oTup_tup, oCons_cons, oNil_nil, sl_cells, h, h', (laws_eqEquation l[k].left l[k].right r[k].left r[k].right (hs.2 _ (List.getElem_mem h))).eq, List.getElem?_eq_getElem, enc_Equation]
        rw [wrap_succ (by have := hs.1; omega)])
      (fun m => by
        simp only [laws_eqEquationS.next0, laws_eqEquationS.round0, Int.ofNat_lt, str_inj, beq_dec, bne_dec, cond_dec, cond_nt, if_true, if_false, decide_true, decide_false, cond_true, cond_false, u8_inj, cells_div, sz_int, sz_u8, sz_list, sz_Symbol, sz_Signature, sz_Equation, sz_Binding, sz_Algebra, sz_Entry, sz_Completion, sz_Theory, sz_Put, sz_Disk, sz_Act, sz_IntResult, sz_IntsResult, sz_BytesResult, sz_TextResult, sz_SignatureResult, sz_TermResult, sz_TermsResult, sz_EquationResult, sz_EquationsResult, sz_KeyResult, sz_BindingResult, sz_RedexResult, sz_NormalResult, sz_AlgebraResult, sz_EntryResult, sz_CompletionResult, sz_TheoryResult, sz_DiskResult, inB_nat, Int.toNat_natCast, get0, get1, get2, get3, get4, get5, get6, get7, get8, Nat.reduceLT, bind_of, List.getElem?_cons_zero, List.getElem?_cons_succ, oInt_int, oBool_bool, oStr_str, oSl_slc, oAgg_agg, oTup_tup, oCons_cons, oNil_nil, sl_cells, Nat.lt_irrefl])
    rw [cond_neg (by rw [hl]; exact bne_self_eq_false _)]
    exact loop
  · rw [cond_pos (by simp; omega)]
    simp only [show (l = r) = False from eq_false fun e => hl (e ▸ rfl), decide_false]
theorem laws_szEquationS (l : List Equation) (left : Int) (h0 : 0 ≤ left) (h1 : left ≤ 1048576) (hs : sm maxLen l) : ∃ r, Call F.laws_szEquationS [slc l, .int .i64 left] (.int .i64 r) ∧ r ≤ left ∧ (0 ≤ r → sm 1048576 l) := by
  have hl := hs.1
  have hw : IntKind.wrap .i64 (left - ((l.length : Nat) : Int)) = left - l.length := wrap64 (by unfold maxLen at hl; omega)
  by_cases h : left - (l.length : Int) < 0
  · exact ⟨-1, call_of rfl 0 ((laws_szEquationS.ev _ _ _).trans (by simp only [Int.ofNat_lt, str_inj, beq_dec, bne_dec, cond_dec, cond_nt, if_true, if_false, decide_true, decide_false, cond_true, cond_false, u8_inj, cells_div, sz_int, sz_u8, sz_list, sz_Symbol, sz_Signature, sz_Equation, sz_Binding, sz_Algebra, sz_Entry, sz_Completion, sz_Theory, sz_Put, sz_Disk, sz_Act, sz_IntResult, sz_IntsResult, sz_BytesResult, sz_TextResult, sz_SignatureResult, sz_TermResult, sz_TermsResult, sz_EquationResult, sz_EquationsResult, sz_KeyResult, sz_BindingResult, sz_RedexResult, sz_NormalResult, sz_AlgebraResult, sz_EntryResult, sz_CompletionResult, sz_TheoryResult, sz_DiskResult, inB_nat, Int.toNat_natCast, get0, get1, get2, get3, get4, get5, get6, get7, get8, Nat.reduceLT, bind_of, List.getElem?_cons_zero, List.getElem?_cons_succ, oInt_int, oBool_bool, oStr_str, oSl_slc, oAgg_agg, oTup_tup, oCons_cons, oNil_nil, sl_cells, hw, h])), by omega, by omega⟩
  · obtain ⟨r, e, hr, hp⟩ := sz_loop (l := l) (P := sm 1048576) (S := fun m k left => laws_szEquationS.at0 (l.length + 1) m (laws_szEquationS.st0 (cells l) left (k : Nat)))
      (fun m k left hk h0 h1 => by
        obtain ⟨r, c, hr, hp⟩ := laws_szEquation l[k].left l[k].right left h0 h1 (hs.2 _ (List.getElem_mem hk))
        refine ⟨r, hr, hp, ?_⟩
        simp only [laws_szEquationS.next0, laws_szEquationS.round0, Int.ofNat_lt, str_inj, beq_dec, bne_dec, cond_dec, cond_nt, if_true, if_false, decide_true, decide_false, cond_true, cond_false, u8_inj, cells_div, sz_int, sz_u8, sz_list, sz_Symbol, sz_Signature, sz_Equation, sz_Binding, sz_Algebra, sz_Entry, sz_Completion, sz_Theory, sz_Put, sz_Disk, sz_Act, sz_IntResult, sz_IntsResult, sz_BytesResult, sz_TextResult, sz_SignatureResult, sz_TermResult, sz_TermsResult, sz_EquationResult, sz_EquationsResult, sz_KeyResult, sz_BindingResult, sz_RedexResult, sz_NormalResult, sz_AlgebraResult, sz_EntryResult, sz_CompletionResult, sz_TheoryResult, sz_DiskResult, inB_nat, Int.toNat_natCast, get0, get1, get2, get3, get4, get5, get6, get7, get8, Nat.reduceLT, bind_of, List.getElem?_cons_zero, List.getElem?_cons_succ, oInt_int, oBool_bool, oStr_str, oSl_slc, oAgg_agg, oTup_tup, oCons_cons, oNil_nil, sl_cells, hk, List.getElem?_eq_getElem, enc_Equation, c.eq]
        rw [wrap_succ (by unfold maxLen at hl; omega)])
      (fun m left => by simp only [laws_szEquationS.next0, laws_szEquationS.round0, Int.ofNat_lt, str_inj, beq_dec, bne_dec, cond_dec, cond_nt, if_true, if_false, decide_true, decide_false, cond_true, cond_false, u8_inj, cells_div, sz_int, sz_u8, sz_list, sz_Symbol, sz_Signature, sz_Equation, sz_Binding, sz_Algebra, sz_Entry, sz_Completion, sz_Theory, sz_Put, sz_Disk, sz_Act, sz_IntResult, sz_IntsResult, sz_BytesResult, sz_TextResult, sz_SignatureResult, sz_TermResult, sz_TermsResult, sz_EquationResult, sz_EquationsResult, sz_KeyResult, sz_BindingResult, sz_RedexResult, sz_NormalResult, sz_AlgebraResult, sz_EntryResult, sz_CompletionResult, sz_TheoryResult, sz_DiskResult, inB_nat, Int.toNat_natCast, get0, get1, get2, get3, get4, get5, get6, get7, get8, Nat.reduceLT, bind_of, List.getElem?_cons_zero, List.getElem?_cons_succ, oInt_int, oBool_bool, oStr_str, oSl_slc, oAgg_agg, oTup_tup, oCons_cons, oNil_nil, sl_cells, Nat.lt_irrefl])
      (left - l.length) (by omega) (by omega)
    refine ⟨r, call_of rfl (l.length + 1) ((laws_szEquationS.ev _ _ _).trans ?_), by omega, fun h => ⟨by omega, hp h⟩⟩
    simp only [cells_div, sz_Equation, sz_list, hw, h, decide_false, cond_false]
    exact e
theorem laws_markEquationS (l : List Equation) (k : Int) (h0 : 0 ≤ k) (hk : k ≤ 4602678819172646912) (hs : sm 67108864 l) : ∃ (l' : List Equation) (k' : Int), LIM F.laws_markEquationS [slc l, .int .i64 k] = some (.int .i64 k', [slc l']) ∧ k ≤ k' ∧ k' ≤ k + 9007199254740992 := by
  obtain ⟨l', k', e, hl, hc, g, b⟩ := mark_loop (l := l) (k := k) (b := 134217728) (h := fun _ (_ : Equation) _ => True) (S := fun m c i o => laws_markEquationS.at0 (l.length + 1) m (laws_markEquationS.st0 c (i : Nat) (cells o))) (z := fun c o => some (.int .i64 c, [slc o]))
    (fun m c i o x hi ho hm hc1 hc2 => by
      have hx := hs.2 x hm
      have hl := hs.1
      have hio : i < l.length := by omega
      obtain ⟨x_left, x_right⟩ := x
      obtain ⟨y0, k0, e0, g0, b0⟩ := laws_markInt64S x_left c (by omega) (by omega) hx.1
      obtain ⟨y1, k1, e1, g1, b1⟩ := laws_markInt64S x_right k0 (by omega) (by omega) hx.2
      have hb0 : i * 2 + 1 ≤ o.length * 2 := by omega
      have hb1 : i * 2 + 1 + 1 ≤ o.length * 2 := by omega
      refine ⟨⟨y0, y1⟩, k1, ?_, trivial, by omega, by omega⟩
      simp only [laws_markEquationS.next0, laws_markEquationS.round0, Int.ofNat_lt, str_inj, beq_dec, bne_dec, cond_dec, cond_nt, if_true, if_false, decide_true, decide_false, cond_true, cond_false, u8_inj, cells_div, sz_int, sz_u8, sz_list, sz_Symbol, sz_Signature, sz_Equation, sz_Binding, sz_Algebra, sz_Entry, sz_Completion, sz_Theory, sz_Put, sz_Disk, sz_Act, sz_IntResult, sz_IntsResult, sz_BytesResult, sz_TextResult, sz_SignatureResult, sz_TermResult, sz_TermsResult, sz_EquationResult, sz_EquationsResult, sz_KeyResult, sz_BindingResult, sz_RedexResult, sz_NormalResult, sz_AlgebraResult, sz_EntryResult, sz_CompletionResult, sz_TheoryResult, sz_DiskResult, inB_nat, Int.toNat_natCast, get0, get1, get2, get3, get4, get5, get6, get7, get8, Nat.reduceLT, bind_of, List.getElem?_cons_zero, List.getElem?_cons_succ, oInt_int, oBool_bool, oStr_str, oSl_slc, oAgg_agg, oTup_tup, oCons_cons, oNil_nil, sl_cells, List.length_set, List.getElem?_set_self hi, cells_le, hi, Nat.lt_irrefl, enc_Equation, hb0, hb1, fset_Equation_0 hi, fset_Equation_1 hi, fsets_Equation_0 hi, fsets_Equation_1 hi, e0, e1, List.set_set]
      rw [wrap_succ (by omega)])
    (fun m c o ho => by simp only [laws_markEquationS.next0, laws_markEquationS.round0, Int.ofNat_lt, str_inj, beq_dec, bne_dec, cond_dec, cond_nt, if_true, if_false, decide_true, decide_false, cond_true, cond_false, u8_inj, cells_div, sz_int, sz_u8, sz_list, sz_Symbol, sz_Signature, sz_Equation, sz_Binding, sz_Algebra, sz_Entry, sz_Completion, sz_Theory, sz_Put, sz_Disk, sz_Act, sz_IntResult, sz_IntsResult, sz_BytesResult, sz_TextResult, sz_SignatureResult, sz_TermResult, sz_TermsResult, sz_EquationResult, sz_EquationsResult, sz_KeyResult, sz_BindingResult, sz_RedexResult, sz_NormalResult, sz_AlgebraResult, sz_EntryResult, sz_CompletionResult, sz_TheoryResult, sz_DiskResult, inB_nat, Int.toNat_natCast, get0, get1, get2, get3, get4, get5, get6, get7, get8, Nat.reduceLT, bind_of, List.getElem?_cons_zero, List.getElem?_cons_succ, oInt_int, oBool_bool, oStr_str, oSl_slc, oAgg_agg, oTup_tup, oCons_cons, oNil_nil, sl_cells, ho, Nat.lt_irrefl]) h0
    (l.length + 1) (by omega)
  have hl1 := hs.1
  refine ⟨l', k', ?_, by omega, by omega⟩
  · refine call2_of rfl (l.length + 1) ((laws_markEquationS.ev _ _ _).trans ?_)
    exact e
theorem laws_toTheory (v_order : List Int) (v_equations : List Equation) (v_rules : List Equation) (hs : sm 4294967296 (Theory.mk v_order v_equations v_rules)) : Call F.laws_toTheory [.agg [slc v_order, slc v_equations, slc v_rules]] (.agg [slc v_order, slc v_equations, slc v_rules]) := by
  refine call_of rfl 0 ((laws_toTheory.ev _ _ _ _ ).trans ?_)
  simp only [Int.ofNat_lt, str_inj, beq_dec, bne_dec, cond_dec, cond_nt, if_true, if_false, decide_true, decide_false, cond_true, cond_false, u8_inj, cells_div, sz_int, sz_u8, sz_list, sz_Symbol, sz_Signature, sz_Equation, sz_Binding, sz_Algebra, sz_Entry, sz_Completion, sz_Theory, sz_Put, sz_Disk, sz_Act, sz_IntResult, sz_IntsResult, sz_BytesResult, sz_TextResult, sz_SignatureResult, sz_TermResult, sz_TermsResult, sz_EquationResult, sz_EquationsResult, sz_KeyResult, sz_BindingResult, sz_RedexResult, sz_NormalResult, sz_AlgebraResult, sz_EntryResult, sz_CompletionResult, sz_TheoryResult, sz_DiskResult, inB_nat, Int.toNat_natCast, get0, get1, get2, get3, get4, get5, get6, get7, get8, Nat.reduceLT, bind_of, List.getElem?_cons_zero, List.getElem?_cons_succ, oInt_int, oBool_bool, oStr_str, oSl_slc, oAgg_agg, oTup_tup, oCons_cons, oNil_nil, sl_cells, (laws_toInt64S _ hs.1).eq, (laws_toEquationS _ hs.2.1).eq, (laws_toEquationS _ hs.2.2).eq]
theorem laws_eqTheory (v_order : List Int) (v_equations : List Equation) (v_rules : List Equation) (w_order : List Int) (w_equations : List Equation) (w_rules : List Equation) (hs : sm 4294967296 (Theory.mk v_order v_equations v_rules)) : Call F.laws_eqTheory [.agg [slc v_order, slc v_equations, slc v_rules], .agg [slc w_order, slc w_equations, slc w_rules]] (.bool (decide ((Theory.mk v_order v_equations v_rules) = (Theory.mk w_order w_equations w_rules)))) := by
  refine call_of rfl 0 ((laws_eqTheory.ev _ _ _ _ _ _ _ ).trans ?_)
  simp only [Int.ofNat_lt, str_inj, beq_dec, bne_dec, cond_dec, cond_nt, if_true, if_false, decide_true, decide_false, cond_true, cond_false, u8_inj, cells_div, sz_int, sz_u8, sz_list, sz_Symbol, sz_Signature, sz_Equation, sz_Binding, sz_Algebra, sz_Entry, sz_Completion, sz_Theory, sz_Put, sz_Disk, sz_Act, sz_IntResult, sz_IntsResult, sz_BytesResult, sz_TextResult, sz_SignatureResult, sz_TermResult, sz_TermsResult, sz_EquationResult, sz_EquationsResult, sz_KeyResult, sz_BindingResult, sz_RedexResult, sz_NormalResult, sz_AlgebraResult, sz_EntryResult, sz_CompletionResult, sz_TheoryResult, sz_DiskResult, inB_nat, Int.toNat_natCast, get0, get1, get2, get3, get4, get5, get6, get7, get8, Nat.reduceLT, bind_of, List.getElem?_cons_zero, List.getElem?_cons_succ, oInt_int, oBool_bool, oStr_str, oSl_slc, oAgg_agg, oTup_tup, oCons_cons, oNil_nil, sl_cells, (laws_eqInt64S _ _ hs.1).eq, (laws_eqEquationS _ _ hs.2.1).eq, (laws_eqEquationS _ _ hs.2.2).eq, Theory.mk.injEq]
  by_cases h0 : v_order = w_order
  case neg => simp only [h0,  if_true, if_false, decide_false, cond_false, false_and, and_false]
  by_cases h1 : v_equations = w_equations
  case neg => simp only [h1, h0,  if_true, if_false, decide_false, cond_false, false_and, and_false]
  by_cases h2 : v_rules = w_rules
  case neg => simp only [h2, h0, h1,  if_true, if_false, decide_false, cond_false, false_and, and_false]
  simp only [h0, h1, h2, if_true, decide_true, cond_true, and_true, and_self]
theorem laws_szTheory (v_order : List Int) (v_equations : List Equation) (v_rules : List Equation) (left : Int) (h0 : 0 ≤ left) (h1 : left ≤ 1048576) (hs : sm maxLen (Theory.mk v_order v_equations v_rules)) : ∃ r, Call F.laws_szTheory [.agg [slc v_order, slc v_equations, slc v_rules], .int .i64 left] (.int .i64 r) ∧ r ≤ left ∧ (0 ≤ r → sm 1048576 (Theory.mk v_order v_equations v_rules)) := by
  obtain ⟨r0, c0, hr0, hp0⟩ := laws_szInt64S v_order left h0 h1 (hs.1)
  by_cases n0 : r0 < 0
  · exact ⟨-1, call_of rfl 0 ((laws_szTheory.ev _ _ _ _ _ ).trans (by simp only [Int.ofNat_lt, str_inj, beq_dec, bne_dec, cond_dec, cond_nt, if_true, if_false, decide_true, decide_false, cond_true, cond_false, u8_inj, cells_div, sz_int, sz_u8, sz_list, sz_Symbol, sz_Signature, sz_Equation, sz_Binding, sz_Algebra, sz_Entry, sz_Completion, sz_Theory, sz_Put, sz_Disk, sz_Act, sz_IntResult, sz_IntsResult, sz_BytesResult, sz_TextResult, sz_SignatureResult, sz_TermResult, sz_TermsResult, sz_EquationResult, sz_EquationsResult, sz_KeyResult, sz_BindingResult, sz_RedexResult, sz_NormalResult, sz_AlgebraResult, sz_EntryResult, sz_CompletionResult, sz_TheoryResult, sz_DiskResult, inB_nat, Int.toNat_natCast, get0, get1, get2, get3, get4, get5, get6, get7, get8, Nat.reduceLT, bind_of, List.getElem?_cons_zero, List.getElem?_cons_succ, oInt_int, oBool_bool, oStr_str, oSl_slc, oAgg_agg, oTup_tup, oCons_cons, oNil_nil, sl_cells, c0.eq, n0])), by omega, by omega⟩
  obtain ⟨r1, c1, hr1, hp1⟩ := laws_szEquationS v_equations r0 (by omega) (by omega) (hs.2.1)
  by_cases n1 : r1 < 0
  · exact ⟨-1, call_of rfl 0 ((laws_szTheory.ev _ _ _ _ _ ).trans (by simp only [Int.ofNat_lt, str_inj, beq_dec, bne_dec, cond_dec, cond_nt, if_true, if_false, decide_true, decide_false, cond_true, cond_false, u8_inj, cells_div, sz_int, sz_u8, sz_list, sz_Symbol, sz_Signature, sz_Equation, sz_Binding, sz_Algebra, sz_Entry, sz_Completion, sz_Theory, sz_Put, sz_Disk, sz_Act, sz_IntResult, sz_IntsResult, sz_BytesResult, sz_TextResult, sz_SignatureResult, sz_TermResult, sz_TermsResult, sz_EquationResult, sz_EquationsResult, sz_KeyResult, sz_BindingResult, sz_RedexResult, sz_NormalResult, sz_AlgebraResult, sz_EntryResult, sz_CompletionResult, sz_TheoryResult, sz_DiskResult, inB_nat, Int.toNat_natCast, get0, get1, get2, get3, get4, get5, get6, get7, get8, Nat.reduceLT, bind_of, List.getElem?_cons_zero, List.getElem?_cons_succ, oInt_int, oBool_bool, oStr_str, oSl_slc, oAgg_agg, oTup_tup, oCons_cons, oNil_nil, sl_cells, c0.eq, c1.eq, n0, n1])), by omega, by omega⟩
  obtain ⟨r2, c2, hr2, hp2⟩ := laws_szEquationS v_rules r1 (by omega) (by omega) (hs.2.2)
  by_cases n2 : r2 < 0
  · exact ⟨-1, call_of rfl 0 ((laws_szTheory.ev _ _ _ _ _ ).trans (by simp only [Int.ofNat_lt, str_inj, beq_dec, bne_dec, cond_dec, cond_nt, if_true, if_false, decide_true, decide_false, cond_true, cond_false, u8_inj, cells_div, sz_int, sz_u8, sz_list, sz_Symbol, sz_Signature, sz_Equation, sz_Binding, sz_Algebra, sz_Entry, sz_Completion, sz_Theory, sz_Put, sz_Disk, sz_Act, sz_IntResult, sz_IntsResult, sz_BytesResult, sz_TextResult, sz_SignatureResult, sz_TermResult, sz_TermsResult, sz_EquationResult, sz_EquationsResult, sz_KeyResult, sz_BindingResult, sz_RedexResult, sz_NormalResult, sz_AlgebraResult, sz_EntryResult, sz_CompletionResult, sz_TheoryResult, sz_DiskResult, inB_nat, Int.toNat_natCast, get0, get1, get2, get3, get4, get5, get6, get7, get8, Nat.reduceLT, bind_of, List.getElem?_cons_zero, List.getElem?_cons_succ, oInt_int, oBool_bool, oStr_str, oSl_slc, oAgg_agg, oTup_tup, oCons_cons, oNil_nil, sl_cells, c0.eq, c1.eq, c2.eq, n0, n1, n2])), by omega, by omega⟩
  exact ⟨r2, call_of rfl 0 ((laws_szTheory.ev _ _ _ _ _ ).trans (by simp only [Int.ofNat_lt, str_inj, beq_dec, bne_dec, cond_dec, cond_nt, if_true, if_false, decide_true, decide_false, cond_true, cond_false, u8_inj, cells_div, sz_int, sz_u8, sz_list, sz_Symbol, sz_Signature, sz_Equation, sz_Binding, sz_Algebra, sz_Entry, sz_Completion, sz_Theory, sz_Put, sz_Disk, sz_Act, sz_IntResult, sz_IntsResult, sz_BytesResult, sz_TextResult, sz_SignatureResult, sz_TermResult, sz_TermsResult, sz_EquationResult, sz_EquationsResult, sz_KeyResult, sz_BindingResult, sz_RedexResult, sz_NormalResult, sz_AlgebraResult, sz_EntryResult, sz_CompletionResult, sz_TheoryResult, sz_DiskResult, inB_nat, Int.toNat_natCast, get0, get1, get2, get3, get4, get5, get6, get7, get8, Nat.reduceLT, bind_of, List.getElem?_cons_zero, List.getElem?_cons_succ, oInt_int, oBool_bool, oStr_str, oSl_slc, oAgg_agg, oTup_tup, oCons_cons, oNil_nil, sl_cells, c0.eq, c1.eq, c2.eq, n0, n1, n2])), by omega, fun _ => ⟨hp0 (by omega), hp1 (by omega), hp2 (by omega)⟩⟩
theorem laws_markTheory (v_order : List Int) (v_equations : List Equation) (v_rules : List Equation) (k : Int) (h0 : 0 ≤ k) (hk : k ≤ 4593671619850797056) (hs : sm 67108864 (Theory.mk v_order v_equations v_rules)) : ∃ (u_order : List Int) (u_equations : List Equation) (u_rules : List Equation) (k' : Int), LIM F.laws_markTheory [.agg [slc v_order, slc v_equations, slc v_rules], .int .i64 k] = some (.int .i64 k', [.agg [slc u_order, slc u_equations, slc u_rules]]) ∧ k ≤ k' ∧ k' ≤ k + 18014398576590848 := by
  obtain ⟨u_order, c_order, e_order, g_order, b_order⟩ := laws_markInt64S v_order k (by omega) (by omega) (hs.1)
  have n_order : ¬ c_order < 0 := by omega
  obtain ⟨u_equations, c_equations, e_equations, g_equations, b_equations⟩ := laws_markEquationS v_equations c_order (by omega) (by omega) (hs.2.1)
  have n_equations : ¬ c_equations < 0 := by omega
  obtain ⟨u_rules, c_rules, e_rules, g_rules, b_rules⟩ := laws_markEquationS v_rules c_equations (by omega) (by omega) (hs.2.2)
  have n_rules : ¬ c_rules < 0 := by omega
  refine ⟨u_order, u_equations, u_rules, c_rules, call2_of rfl 0 ((laws_markTheory.ev _ _ _ _ _ ).trans ?_), by omega, by omega⟩
  · simp only [Int.ofNat_lt, str_inj, beq_dec, bne_dec, cond_dec, cond_nt, if_true, if_false, decide_true, decide_false, cond_true, cond_false, u8_inj, cells_div, sz_int, sz_u8, sz_list, sz_Symbol, sz_Signature, sz_Equation, sz_Binding, sz_Algebra, sz_Entry, sz_Completion, sz_Theory, sz_Put, sz_Disk, sz_Act, sz_IntResult, sz_IntsResult, sz_BytesResult, sz_TextResult, sz_SignatureResult, sz_TermResult, sz_TermsResult, sz_EquationResult, sz_EquationsResult, sz_KeyResult, sz_BindingResult, sz_RedexResult, sz_NormalResult, sz_AlgebraResult, sz_EntryResult, sz_CompletionResult, sz_TheoryResult, sz_DiskResult, inB_nat, Int.toNat_natCast, get0, get1, get2, get3, get4, get5, get6, get7, get8, Nat.reduceLT, bind_of, List.getElem?_cons_zero, List.getElem?_cons_succ, oInt_int, oBool_bool, oStr_str, oSl_slc, oAgg_agg, oTup_tup, oCons_cons, oNil_nil, sl_cells, e_order, e_equations, e_rules]
theorem laws_eqByteS (l r : List UInt8) (hs : sm 4294967296 l) : Call F.laws_eqByteS [slc l, slc r] (.bool (decide (l = r))) := by
  refine call_of rfl (l.length + 1) ((laws_eqByteS.ev _ _ _).trans ?_)
  simp only [cells_div, sz_int, sz_u8, sz_list]
  by_cases hl : l.length = r.length
  · have loop := eq_loop hl (S := fun m k => laws_eqByteS.at0 (l.length + 1) m (laws_eqByteS.st0 (cells l) (cells r) (k : Nat)))
      (fun m k h h' => by
        simp only [laws_eqByteS.next0, laws_eqByteS.round0, Int.ofNat_lt, str_inj, beq_dec, bne_dec, cond_dec, cond_nt, if_true, if_false, decide_true, decide_false, cond_true, cond_false, u8_inj, cells_div, sz_int, sz_u8, sz_list, sz_Symbol, sz_Signature, sz_Equation, sz_Binding, sz_Algebra, sz_Entry, sz_Completion, sz_Theory, sz_Put, sz_Disk, sz_Act, sz_IntResult, sz_IntsResult, sz_BytesResult, sz_TextResult, sz_SignatureResult, sz_TermResult, sz_TermsResult, sz_EquationResult, sz_EquationsResult, sz_KeyResult, sz_BindingResult, sz_RedexResult, sz_NormalResult, sz_AlgebraResult, sz_EntryResult, sz_CompletionResult, sz_TheoryResult, sz_DiskResult, inB_nat, Int.toNat_natCast, get0, get1, get2, get3, get4, get5, get6, get7, get8, Nat.reduceLT, bind_of, List.getElem?_cons_zero, List.getElem?_cons_succ, oInt_int, oBool_bool, oStr_str, oSl_slc, oAgg_agg, oTup_tup, oCons_cons, oNil_nil, sl_cells, h, h', List.getElem?_eq_getElem, enc_int, enc_u8, enc_list]
        rw [wrap_succ (by have := hs.1; omega)])
      (fun m => by
        simp only [laws_eqByteS.next0, laws_eqByteS.round0, Int.ofNat_lt, str_inj, beq_dec, bne_dec, cond_dec, cond_nt, if_true, if_false, decide_true, decide_false, cond_true, cond_false, u8_inj, cells_div, sz_int, sz_u8, sz_list, sz_Symbol, sz_Signature, sz_Equation, sz_Binding, sz_Algebra, sz_Entry, sz_Completion, sz_Theory, sz_Put, sz_Disk, sz_Act, sz_IntResult, sz_IntsResult, sz_BytesResult, sz_TextResult, sz_SignatureResult, sz_TermResult, sz_TermsResult, sz_EquationResult, sz_EquationsResult, sz_KeyResult, sz_BindingResult, sz_RedexResult, sz_NormalResult, sz_AlgebraResult, sz_EntryResult, sz_CompletionResult, sz_TheoryResult, sz_DiskResult, inB_nat, Int.toNat_natCast, get0, get1, get2, get3, get4, get5, get6, get7, get8, Nat.reduceLT, bind_of, List.getElem?_cons_zero, List.getElem?_cons_succ, oInt_int, oBool_bool, oStr_str, oSl_slc, oAgg_agg, oTup_tup, oCons_cons, oNil_nil, sl_cells, Nat.lt_irrefl])
    rw [cond_neg (by rw [hl]; exact bne_self_eq_false _)]
    exact loop
  · rw [cond_pos (by simp; omega)]
    simp only [show (l = r) = False from eq_false fun e => hl (e ▸ rfl), decide_false]
theorem laws_markByteS (l : List UInt8) (k : Int) (h0 : 0 ≤ k) (hk : k ≤ 4611686018360279040) (hs : sm 67108864 l) : ∃ (l' : List UInt8) (k' : Int), LIM F.laws_markByteS [slc l, .int .i64 k] = some (.int .i64 k', [slc l']) ∧ k ≤ k' ∧ k' ≤ k + 67108864 ∧ LIM F.laws_heldByteS [slc l', .int .i64 k] = some (.int .i64 k', []) := by
  obtain ⟨l', k', e, hl, hc, g, b⟩ := mark_loop (l := l) (k := k) (b := 1) (h := fun (c : Int) (y : UInt8) (c' : Int) => (y.toNat : Int) = IntKind.wrap .u8 c ∧ c' = c + 1 ∧ 0 ≤ c ∧ c ≤ 4611686018427387904) (S := fun m c i o => laws_markByteS.at0 (l.length + 1) m (laws_markByteS.st0 c (i : Nat) (cells o))) (z := fun c o => some (.int .i64 c, [slc o]))
    (fun m c i o x hi ho hm hc1 hc2 => by
      have hx := hs.2 x hm
      have hl := hs.1
      have hio : i < l.length := by omega
      skip
      obtain ⟨y0, v0⟩ : ∃ y : UInt8, IntKind.wrap .u8 c = (y.toNat : Int) := ⟨_, u8_wrap _⟩
      have w0 : IntKind.wrap .i64 (c + 1) = c + 1 := wrap64 (by omega)
      have hb0 : i * 1 + 1 ≤ o.length * 1 := by omega
      refine ⟨y0, c + 1, ?_, ⟨v0.symm, rfl, by omega, by omega⟩, by omega, by omega⟩
      simp only [laws_markByteS.next0, laws_markByteS.round0, Int.ofNat_lt, str_inj, beq_dec, bne_dec, cond_dec, cond_nt, if_true, if_false, decide_true, decide_false, cond_true, cond_false, u8_inj, cells_div, sz_int, sz_u8, sz_list, sz_Symbol, sz_Signature, sz_Equation, sz_Binding, sz_Algebra, sz_Entry, sz_Completion, sz_Theory, sz_Put, sz_Disk, sz_Act, sz_IntResult, sz_IntsResult, sz_BytesResult, sz_TextResult, sz_SignatureResult, sz_TermResult, sz_TermsResult, sz_EquationResult, sz_EquationsResult, sz_KeyResult, sz_BindingResult, sz_RedexResult, sz_NormalResult, sz_AlgebraResult, sz_EntryResult, sz_CompletionResult, sz_TheoryResult, sz_DiskResult, inB_nat, Int.toNat_natCast, get0, get1, get2, get3, get4, get5, get6, get7, get8, Nat.reduceLT, bind_of, List.getElem?_cons_zero, List.getElem?_cons_succ, oInt_int, oBool_bool, oStr_str, oSl_slc, oAgg_agg, oTup_tup, oCons_cons, oNil_nil, sl_cells, List.length_set, List.getElem?_set_self hi, cells_le, hi, Nat.lt_irrefl, enc_int, enc_u8, enc_list, hb0, fset_UInt8 hi, w0, v0, List.set_set]
      rw [wrap_succ (by omega)])
    (fun m c o ho => by simp only [laws_markByteS.next0, laws_markByteS.round0, Int.ofNat_lt, str_inj, beq_dec, bne_dec, cond_dec, cond_nt, if_true, if_false, decide_true, decide_false, cond_true, cond_false, u8_inj, cells_div, sz_int, sz_u8, sz_list, sz_Symbol, sz_Signature, sz_Equation, sz_Binding, sz_Algebra, sz_Entry, sz_Completion, sz_Theory, sz_Put, sz_Disk, sz_Act, sz_IntResult, sz_IntsResult, sz_BytesResult, sz_TextResult, sz_SignatureResult, sz_TermResult, sz_TermsResult, sz_EquationResult, sz_EquationsResult, sz_KeyResult, sz_BindingResult, sz_RedexResult, sz_NormalResult, sz_AlgebraResult, sz_EntryResult, sz_CompletionResult, sz_TheoryResult, sz_DiskResult, inB_nat, Int.toNat_natCast, get0, get1, get2, get3, get4, get5, get6, get7, get8, Nat.reduceLT, bind_of, List.getElem?_cons_zero, List.getElem?_cons_succ, oInt_int, oBool_bool, oStr_str, oSl_slc, oAgg_agg, oTup_tup, oCons_cons, oNil_nil, sl_cells, ho, Nat.lt_irrefl]) h0
    (l.length + 1) (by omega)
  have hl1 := hs.1
  refine ⟨l', k', ?_, by omega, by omega, ?_⟩
  · refine call2_of rfl (l.length + 1) ((laws_markByteS.ev _ _ _).trans ?_)
    exact e
  · refine call_of rfl (l'.length + 1) ((laws_heldByteS.ev _ _ _).trans ?_)
    refine held_loop (l := l') (S := fun m c i => laws_heldByteS.at0 (l'.length + 1) m (laws_heldByteS.st0 (cells l') c (i : Nat))) (z := fun c => some (.int .i64 c, []))
      (fun m c i c' hi => ?_)
      (fun m c => by simp only [laws_heldByteS.next0, laws_heldByteS.round0, Int.ofNat_lt, str_inj, beq_dec, bne_dec, cond_dec, cond_nt, if_true, if_false, decide_true, decide_false, cond_true, cond_false, u8_inj, cells_div, sz_int, sz_u8, sz_list, sz_Symbol, sz_Signature, sz_Equation, sz_Binding, sz_Algebra, sz_Entry, sz_Completion, sz_Theory, sz_Put, sz_Disk, sz_Act, sz_IntResult, sz_IntsResult, sz_BytesResult, sz_TextResult, sz_SignatureResult, sz_TermResult, sz_TermsResult, sz_EquationResult, sz_EquationsResult, sz_KeyResult, sz_BindingResult, sz_RedexResult, sz_NormalResult, sz_AlgebraResult, sz_EntryResult, sz_CompletionResult, sz_TheoryResult, sz_DiskResult, inB_nat, Int.toNat_natCast, get0, get1, get2, get3, get4, get5, get6, get7, get8, Nat.reduceLT, bind_of, List.getElem?_cons_zero, List.getElem?_cons_succ, oInt_int, oBool_bool, oStr_str, oSl_slc, oAgg_agg, oTup_tup, oCons_cons, oNil_nil, sl_cells, Nat.lt_irrefl]) hc (by omega)
    rintro ⟨q0, qe, qa, qb⟩
    rw [qe]
    have w0 : IntKind.wrap .i64 (c + 1) = c + 1 := wrap64 (by omega)
    simp only [laws_heldByteS.next0, laws_heldByteS.round0, Int.ofNat_lt, str_inj, beq_dec, bne_dec, cond_dec, cond_nt, if_true, if_false, decide_true, decide_false, cond_true, cond_false, u8_inj, cells_div, sz_int, sz_u8, sz_list, sz_Symbol, sz_Signature, sz_Equation, sz_Binding, sz_Algebra, sz_Entry, sz_Completion, sz_Theory, sz_Put, sz_Disk, sz_Act, sz_IntResult, sz_IntsResult, sz_BytesResult, sz_TextResult, sz_SignatureResult, sz_TermResult, sz_TermsResult, sz_EquationResult, sz_EquationsResult, sz_KeyResult, sz_BindingResult, sz_RedexResult, sz_NormalResult, sz_AlgebraResult, sz_EntryResult, sz_CompletionResult, sz_TheoryResult, sz_DiskResult, inB_nat, Int.toNat_natCast, get0, get1, get2, get3, get4, get5, get6, get7, get8, Nat.reduceLT, bind_of, List.getElem?_cons_zero, List.getElem?_cons_succ, oInt_int, oBool_bool, oStr_str, oSl_slc, oAgg_agg, oTup_tup, oCons_cons, oNil_nil, sl_cells, hi, List.getElem?_eq_getElem, enc_int, enc_u8, enc_list, q0, w0]
    rw [wrap_succ (by omega)]
theorem laws_eqIntResult (v_code : Int) (v_value : Int) (w_code : Int) (w_value : Int) (hs : sm 4294967296 (IntResult.mk v_code v_value)) : Call F.laws_eqIntResult [.agg [.int .i64 v_code, .int .i64 v_value], .agg [.int .i64 w_code, .int .i64 w_value]] (.bool (decide ((IntResult.mk v_code v_value) = (IntResult.mk w_code w_value)))) := by
  refine call_of rfl 0 ((laws_eqIntResult.ev _ _ _ _ _ ).trans ?_)
  simp only [Int.ofNat_lt, str_inj, beq_dec, bne_dec, cond_dec, cond_nt, if_true, if_false, decide_true, decide_false, cond_true, cond_false, u8_inj, cells_div, sz_int, sz_u8, sz_list, sz_Symbol, sz_Signature, sz_Equation, sz_Binding, sz_Algebra, sz_Entry, sz_Completion, sz_Theory, sz_Put, sz_Disk, sz_Act, sz_IntResult, sz_IntsResult, sz_BytesResult, sz_TextResult, sz_SignatureResult, sz_TermResult, sz_TermsResult, sz_EquationResult, sz_EquationsResult, sz_KeyResult, sz_BindingResult, sz_RedexResult, sz_NormalResult, sz_AlgebraResult, sz_EntryResult, sz_CompletionResult, sz_TheoryResult, sz_DiskResult, inB_nat, Int.toNat_natCast, get0, get1, get2, get3, get4, get5, get6, get7, get8, Nat.reduceLT, bind_of, List.getElem?_cons_zero, List.getElem?_cons_succ, oInt_int, oBool_bool, oStr_str, oSl_slc, oAgg_agg, oTup_tup, oCons_cons, oNil_nil, sl_cells, IntResult.mk.injEq]
  by_cases h0 : v_code = w_code
  case neg => simp only [h0,  if_true, if_false, decide_false, cond_false, false_and, and_false]
  by_cases h1 : v_value = w_value
  case neg => simp only [h1, h0,  if_true, if_false, decide_false, cond_false, false_and, and_false]
  simp only [h0, h1, if_true, decide_true, cond_true, and_true, and_self]
theorem laws_eqBytesResult (v_code : Int) (v_bytes : List UInt8) (w_code : Int) (w_bytes : List UInt8) (hs : sm 4294967296 (BytesResult.mk v_code v_bytes)) : Call F.laws_eqBytesResult [.agg [.int .i64 v_code, slc v_bytes], .agg [.int .i64 w_code, slc w_bytes]] (.bool (decide ((BytesResult.mk v_code v_bytes) = (BytesResult.mk w_code w_bytes)))) := by
  refine call_of rfl 0 ((laws_eqBytesResult.ev _ _ _ _ _ ).trans ?_)
  simp only [Int.ofNat_lt, str_inj, beq_dec, bne_dec, cond_dec, cond_nt, if_true, if_false, decide_true, decide_false, cond_true, cond_false, u8_inj, cells_div, sz_int, sz_u8, sz_list, sz_Symbol, sz_Signature, sz_Equation, sz_Binding, sz_Algebra, sz_Entry, sz_Completion, sz_Theory, sz_Put, sz_Disk, sz_Act, sz_IntResult, sz_IntsResult, sz_BytesResult, sz_TextResult, sz_SignatureResult, sz_TermResult, sz_TermsResult, sz_EquationResult, sz_EquationsResult, sz_KeyResult, sz_BindingResult, sz_RedexResult, sz_NormalResult, sz_AlgebraResult, sz_EntryResult, sz_CompletionResult, sz_TheoryResult, sz_DiskResult, inB_nat, Int.toNat_natCast, get0, get1, get2, get3, get4, get5, get6, get7, get8, Nat.reduceLT, bind_of, List.getElem?_cons_zero, List.getElem?_cons_succ, oInt_int, oBool_bool, oStr_str, oSl_slc, oAgg_agg, oTup_tup, oCons_cons, oNil_nil, sl_cells, (laws_eqByteS _ _ hs).eq, BytesResult.mk.injEq]
  by_cases h0 : v_code = w_code
  case neg => simp only [h0,  if_true, if_false, decide_false, cond_false, false_and, and_false]
  by_cases h1 : v_bytes = w_bytes
  case neg => simp only [h1, h0,  if_true, if_false, decide_false, cond_false, false_and, and_false]
  simp only [h0, h1, if_true, decide_true, cond_true, and_true, and_self]
theorem laws_markBytesResult (v_code : Int) (v_bytes : List UInt8) (k : Int) (h0 : 0 ≤ k) (hk : k ≤ 4611686018360279040) (hs : sm 67108864 (BytesResult.mk v_code v_bytes)) : ∃ (u_bytes : List UInt8) (k' : Int), LIM F.laws_markBytesResult [.agg [.int .i64 v_code, slc v_bytes], .int .i64 k] = some (.int .i64 k', [.agg [.int .i64 v_code, slc u_bytes]]) ∧ k ≤ k' ∧ k' ≤ k + 67108864 ∧ LIM F.laws_heldBytesResult [.agg [.int .i64 v_code, slc u_bytes], .int .i64 k] = some (.int .i64 k', []) := by
  obtain ⟨u_bytes, c_bytes, e_bytes, g_bytes, b_bytes, z_bytes⟩ := laws_markByteS v_bytes k (by omega) (by omega) (hs)
  have n_bytes : ¬ c_bytes < 0 := by omega
  refine ⟨u_bytes, c_bytes, call2_of rfl 0 ((laws_markBytesResult.ev _ _ _ _ ).trans ?_), by omega, by omega, call_of rfl 0 ((laws_heldBytesResult.ev _ _ _ _ ).trans ?_)⟩
  · simp only [Int.ofNat_lt, str_inj, beq_dec, bne_dec, cond_dec, cond_nt, if_true, if_false, decide_true, decide_false, cond_true, cond_false, u8_inj, cells_div, sz_int, sz_u8, sz_list, sz_Symbol, sz_Signature, sz_Equation, sz_Binding, sz_Algebra, sz_Entry, sz_Completion, sz_Theory, sz_Put, sz_Disk, sz_Act, sz_IntResult, sz_IntsResult, sz_BytesResult, sz_TextResult, sz_SignatureResult, sz_TermResult, sz_TermsResult, sz_EquationResult, sz_EquationsResult, sz_KeyResult, sz_BindingResult, sz_RedexResult, sz_NormalResult, sz_AlgebraResult, sz_EntryResult, sz_CompletionResult, sz_TheoryResult, sz_DiskResult, inB_nat, Int.toNat_natCast, get0, get1, get2, get3, get4, get5, get6, get7, get8, Nat.reduceLT, bind_of, List.getElem?_cons_zero, List.getElem?_cons_succ, oInt_int, oBool_bool, oStr_str, oSl_slc, oAgg_agg, oTup_tup, oCons_cons, oNil_nil, sl_cells, e_bytes]
  · simp only [Int.ofNat_lt, str_inj, beq_dec, bne_dec, cond_dec, cond_nt, if_true, if_false, decide_true, decide_false, cond_true, cond_false, u8_inj, cells_div, sz_int, sz_u8, sz_list, sz_Symbol, sz_Signature, sz_Equation, sz_Binding, sz_Algebra, sz_Entry, sz_Completion, sz_Theory, sz_Put, sz_Disk, sz_Act, sz_IntResult, sz_IntsResult, sz_BytesResult, sz_TextResult, sz_SignatureResult, sz_TermResult, sz_TermsResult, sz_EquationResult, sz_EquationsResult, sz_KeyResult, sz_BindingResult, sz_RedexResult, sz_NormalResult, sz_AlgebraResult, sz_EntryResult, sz_CompletionResult, sz_TheoryResult, sz_DiskResult, inB_nat, Int.toNat_natCast, get0, get1, get2, get3, get4, get5, get6, get7, get8, Nat.reduceLT, bind_of, List.getElem?_cons_zero, List.getElem?_cons_succ, oInt_int, oBool_bool, oStr_str, oSl_slc, oAgg_agg, oTup_tup, oCons_cons, oNil_nil, sl_cells, z_bytes, n_bytes]
theorem laws_eqTermResult (v_code : Int) (v_term : List Int) (w_code : Int) (w_term : List Int) (hs : sm 4294967296 (TermResult.mk v_code v_term)) : Call F.laws_eqTermResult [.agg [.int .i64 v_code, slc v_term], .agg [.int .i64 w_code, slc w_term]] (.bool (decide ((TermResult.mk v_code v_term) = (TermResult.mk w_code w_term)))) := by
  refine call_of rfl 0 ((laws_eqTermResult.ev _ _ _ _ _ ).trans ?_)
  simp only [Int.ofNat_lt, str_inj, beq_dec, bne_dec, cond_dec, cond_nt, if_true, if_false, decide_true, decide_false, cond_true, cond_false, u8_inj, cells_div, sz_int, sz_u8, sz_list, sz_Symbol, sz_Signature, sz_Equation, sz_Binding, sz_Algebra, sz_Entry, sz_Completion, sz_Theory, sz_Put, sz_Disk, sz_Act, sz_IntResult, sz_IntsResult, sz_BytesResult, sz_TextResult, sz_SignatureResult, sz_TermResult, sz_TermsResult, sz_EquationResult, sz_EquationsResult, sz_KeyResult, sz_BindingResult, sz_RedexResult, sz_NormalResult, sz_AlgebraResult, sz_EntryResult, sz_CompletionResult, sz_TheoryResult, sz_DiskResult, inB_nat, Int.toNat_natCast, get0, get1, get2, get3, get4, get5, get6, get7, get8, Nat.reduceLT, bind_of, List.getElem?_cons_zero, List.getElem?_cons_succ, oInt_int, oBool_bool, oStr_str, oSl_slc, oAgg_agg, oTup_tup, oCons_cons, oNil_nil, sl_cells, (laws_eqInt64S _ _ hs).eq, TermResult.mk.injEq]
  by_cases h0 : v_code = w_code
  case neg => simp only [h0,  if_true, if_false, decide_false, cond_false, false_and, and_false]
  by_cases h1 : v_term = w_term
  case neg => simp only [h1, h0,  if_true, if_false, decide_false, cond_false, false_and, and_false]
  simp only [h0, h1, if_true, decide_true, cond_true, and_true, and_self]
theorem laws_markTermResult (v_code : Int) (v_term : List Int) (k : Int) (h0 : 0 ≤ k) (hk : k ≤ 4611686018360279040) (hs : sm 67108864 (TermResult.mk v_code v_term)) : ∃ (u_term : List Int) (k' : Int), LIM F.laws_markTermResult [.agg [.int .i64 v_code, slc v_term], .int .i64 k] = some (.int .i64 k', [.agg [.int .i64 v_code, slc u_term]]) ∧ k ≤ k' ∧ k' ≤ k + 67108864 ∧ LIM F.laws_heldTermResult [.agg [.int .i64 v_code, slc u_term], .int .i64 k] = some (.int .i64 k', []) := by
  obtain ⟨u_term, c_term, e_term, g_term, b_term, z_term⟩ := laws_markInt64S v_term k (by omega) (by omega) (hs)
  have n_term : ¬ c_term < 0 := by omega
  refine ⟨u_term, c_term, call2_of rfl 0 ((laws_markTermResult.ev _ _ _ _ ).trans ?_), by omega, by omega, call_of rfl 0 ((laws_heldTermResult.ev _ _ _ _ ).trans ?_)⟩
  · simp only [Int.ofNat_lt, str_inj, beq_dec, bne_dec, cond_dec, cond_nt, if_true, if_false, decide_true, decide_false, cond_true, cond_false, u8_inj, cells_div, sz_int, sz_u8, sz_list, sz_Symbol, sz_Signature, sz_Equation, sz_Binding, sz_Algebra, sz_Entry, sz_Completion, sz_Theory, sz_Put, sz_Disk, sz_Act, sz_IntResult, sz_IntsResult, sz_BytesResult, sz_TextResult, sz_SignatureResult, sz_TermResult, sz_TermsResult, sz_EquationResult, sz_EquationsResult, sz_KeyResult, sz_BindingResult, sz_RedexResult, sz_NormalResult, sz_AlgebraResult, sz_EntryResult, sz_CompletionResult, sz_TheoryResult, sz_DiskResult, inB_nat, Int.toNat_natCast, get0, get1, get2, get3, get4, get5, get6, get7, get8, Nat.reduceLT, bind_of, List.getElem?_cons_zero, List.getElem?_cons_succ, oInt_int, oBool_bool, oStr_str, oSl_slc, oAgg_agg, oTup_tup, oCons_cons, oNil_nil, sl_cells, e_term]
  · simp only [Int.ofNat_lt, str_inj, beq_dec, bne_dec, cond_dec, cond_nt, if_true, if_false, decide_true, decide_false, cond_true, cond_false, u8_inj, cells_div, sz_int, sz_u8, sz_list, sz_Symbol, sz_Signature, sz_Equation, sz_Binding, sz_Algebra, sz_Entry, sz_Completion, sz_Theory, sz_Put, sz_Disk, sz_Act, sz_IntResult, sz_IntsResult, sz_BytesResult, sz_TextResult, sz_SignatureResult, sz_TermResult, sz_TermsResult, sz_EquationResult, sz_EquationsResult, sz_KeyResult, sz_BindingResult, sz_RedexResult, sz_NormalResult, sz_AlgebraResult, sz_EntryResult, sz_CompletionResult, sz_TheoryResult, sz_DiskResult, inB_nat, Int.toNat_natCast, get0, get1, get2, get3, get4, get5, get6, get7, get8, Nat.reduceLT, bind_of, List.getElem?_cons_zero, List.getElem?_cons_succ, oInt_int, oBool_bool, oStr_str, oSl_slc, oAgg_agg, oTup_tup, oCons_cons, oNil_nil, sl_cells, z_term, n_term]
theorem laws_eqRedexResult (v_code : Int) (v_place : Int) (v_rule : Int) (w_code : Int) (w_place : Int) (w_rule : Int) (hs : sm 4294967296 (RedexResult.mk v_code v_place v_rule)) : Call F.laws_eqRedexResult [.agg [.int .i64 v_code, .int .i64 v_place, .int .i64 v_rule], .agg [.int .i64 w_code, .int .i64 w_place, .int .i64 w_rule]] (.bool (decide ((RedexResult.mk v_code v_place v_rule) = (RedexResult.mk w_code w_place w_rule)))) := by
  refine call_of rfl 0 ((laws_eqRedexResult.ev _ _ _ _ _ _ _ ).trans ?_)
  simp only [Int.ofNat_lt, str_inj, beq_dec, bne_dec, cond_dec, cond_nt, if_true, if_false, decide_true, decide_false, cond_true, cond_false, u8_inj, cells_div, sz_int, sz_u8, sz_list, sz_Symbol, sz_Signature, sz_Equation, sz_Binding, sz_Algebra, sz_Entry, sz_Completion, sz_Theory, sz_Put, sz_Disk, sz_Act, sz_IntResult, sz_IntsResult, sz_BytesResult, sz_TextResult, sz_SignatureResult, sz_TermResult, sz_TermsResult, sz_EquationResult, sz_EquationsResult, sz_KeyResult, sz_BindingResult, sz_RedexResult, sz_NormalResult, sz_AlgebraResult, sz_EntryResult, sz_CompletionResult, sz_TheoryResult, sz_DiskResult, inB_nat, Int.toNat_natCast, get0, get1, get2, get3, get4, get5, get6, get7, get8, Nat.reduceLT, bind_of, List.getElem?_cons_zero, List.getElem?_cons_succ, oInt_int, oBool_bool, oStr_str, oSl_slc, oAgg_agg, oTup_tup, oCons_cons, oNil_nil, sl_cells, RedexResult.mk.injEq]
  by_cases h0 : v_code = w_code
  case neg => simp only [h0,  if_true, if_false, decide_false, cond_false, false_and, and_false]
  by_cases h1 : v_place = w_place
  case neg => simp only [h1, h0,  if_true, if_false, decide_false, cond_false, false_and, and_false]
  by_cases h2 : v_rule = w_rule
  case neg => simp only [h2, h0, h1,  if_true, if_false, decide_false, cond_false, false_and, and_false]
  simp only [h0, h1, h2, if_true, decide_true, cond_true, and_true, and_self]
theorem laws_eqNormalResult (v_code : Int) (v_term : List Int) (v_steps : Int) (w_code : Int) (w_term : List Int) (w_steps : Int) (hs : sm 4294967296 (NormalResult.mk v_code v_term v_steps)) : Call F.laws_eqNormalResult [.agg [.int .i64 v_code, slc v_term, .int .i64 v_steps], .agg [.int .i64 w_code, slc w_term, .int .i64 w_steps]] (.bool (decide ((NormalResult.mk v_code v_term v_steps) = (NormalResult.mk w_code w_term w_steps)))) := by
  refine call_of rfl 0 ((laws_eqNormalResult.ev _ _ _ _ _ _ _ ).trans ?_)
  simp only [Int.ofNat_lt, str_inj, beq_dec, bne_dec, cond_dec, cond_nt, if_true, if_false, decide_true, decide_false, cond_true, cond_false, u8_inj, cells_div, sz_int, sz_u8, sz_list, sz_Symbol, sz_Signature, sz_Equation, sz_Binding, sz_Algebra, sz_Entry, sz_Completion, sz_Theory, sz_Put, sz_Disk, sz_Act, sz_IntResult, sz_IntsResult, sz_BytesResult, sz_TextResult, sz_SignatureResult, sz_TermResult, sz_TermsResult, sz_EquationResult, sz_EquationsResult, sz_KeyResult, sz_BindingResult, sz_RedexResult, sz_NormalResult, sz_AlgebraResult, sz_EntryResult, sz_CompletionResult, sz_TheoryResult, sz_DiskResult, inB_nat, Int.toNat_natCast, get0, get1, get2, get3, get4, get5, get6, get7, get8, Nat.reduceLT, bind_of, List.getElem?_cons_zero, List.getElem?_cons_succ, oInt_int, oBool_bool, oStr_str, oSl_slc, oAgg_agg, oTup_tup, oCons_cons, oNil_nil, sl_cells, (laws_eqInt64S _ _ hs).eq, NormalResult.mk.injEq]
  by_cases h0 : v_code = w_code
  case neg => simp only [h0,  if_true, if_false, decide_false, cond_false, false_and, and_false]
  by_cases h1 : v_term = w_term
  case neg => simp only [h1, h0,  if_true, if_false, decide_false, cond_false, false_and, and_false]
  by_cases h2 : v_steps = w_steps
  case neg => simp only [h2, h0, h1,  if_true, if_false, decide_false, cond_false, false_and, and_false]
  simp only [h0, h1, h2, if_true, decide_true, cond_true, and_true, and_self]
theorem laws_markNormalResult (v_code : Int) (v_term : List Int) (v_steps : Int) (k : Int) (h0 : 0 ≤ k) (hk : k ≤ 4611686018360279040) (hs : sm 67108864 (NormalResult.mk v_code v_term v_steps)) : ∃ (u_term : List Int) (k' : Int), LIM F.laws_markNormalResult [.agg [.int .i64 v_code, slc v_term, .int .i64 v_steps], .int .i64 k] = some (.int .i64 k', [.agg [.int .i64 v_code, slc u_term, .int .i64 v_steps]]) ∧ k ≤ k' ∧ k' ≤ k + 67108864 ∧ LIM F.laws_heldNormalResult [.agg [.int .i64 v_code, slc u_term, .int .i64 v_steps], .int .i64 k] = some (.int .i64 k', []) := by
  obtain ⟨u_term, c_term, e_term, g_term, b_term, z_term⟩ := laws_markInt64S v_term k (by omega) (by omega) (hs)
  have n_term : ¬ c_term < 0 := by omega
  refine ⟨u_term, c_term, call2_of rfl 0 ((laws_markNormalResult.ev _ _ _ _ _ ).trans ?_), by omega, by omega, call_of rfl 0 ((laws_heldNormalResult.ev _ _ _ _ _ ).trans ?_)⟩
  · simp only [Int.ofNat_lt, str_inj, beq_dec, bne_dec, cond_dec, cond_nt, if_true, if_false, decide_true, decide_false, cond_true, cond_false, u8_inj, cells_div, sz_int, sz_u8, sz_list, sz_Symbol, sz_Signature, sz_Equation, sz_Binding, sz_Algebra, sz_Entry, sz_Completion, sz_Theory, sz_Put, sz_Disk, sz_Act, sz_IntResult, sz_IntsResult, sz_BytesResult, sz_TextResult, sz_SignatureResult, sz_TermResult, sz_TermsResult, sz_EquationResult, sz_EquationsResult, sz_KeyResult, sz_BindingResult, sz_RedexResult, sz_NormalResult, sz_AlgebraResult, sz_EntryResult, sz_CompletionResult, sz_TheoryResult, sz_DiskResult, inB_nat, Int.toNat_natCast, get0, get1, get2, get3, get4, get5, get6, get7, get8, Nat.reduceLT, bind_of, List.getElem?_cons_zero, List.getElem?_cons_succ, oInt_int, oBool_bool, oStr_str, oSl_slc, oAgg_agg, oTup_tup, oCons_cons, oNil_nil, sl_cells, e_term]
  · simp only [Int.ofNat_lt, str_inj, beq_dec, bne_dec, cond_dec, cond_nt, if_true, if_false, decide_true, decide_false, cond_true, cond_false, u8_inj, cells_div, sz_int, sz_u8, sz_list, sz_Symbol, sz_Signature, sz_Equation, sz_Binding, sz_Algebra, sz_Entry, sz_Completion, sz_Theory, sz_Put, sz_Disk, sz_Act, sz_IntResult, sz_IntsResult, sz_BytesResult, sz_TextResult, sz_SignatureResult, sz_TermResult, sz_TermsResult, sz_EquationResult, sz_EquationsResult, sz_KeyResult, sz_BindingResult, sz_RedexResult, sz_NormalResult, sz_AlgebraResult, sz_EntryResult, sz_CompletionResult, sz_TheoryResult, sz_DiskResult, inB_nat, Int.toNat_natCast, get0, get1, get2, get3, get4, get5, get6, get7, get8, Nat.reduceLT, bind_of, List.getElem?_cons_zero, List.getElem?_cons_succ, oInt_int, oBool_bool, oStr_str, oSl_slc, oAgg_agg, oTup_tup, oCons_cons, oNil_nil, sl_cells, z_term, n_term]
end Ev.Ty
end

section
namespace Ev.Ty
open Go Ev
open Enc (enc)
open Sm (sm)
set_option linter.unusedSimpArgs false
def inR (n a b : Int) : Bool := decide (a ≤ n ∧ n ≤ b)
theorem impl_within (n a b : Int) : Call F.impl_within [.int .i64 n, .int .i64 a, .int .i64 b] (.bool (inR n a b)) := by
  refine call_of rfl 0 ((impl_within.ev _ _ _ _).trans ?_)
  simp only [Int.ofNat_lt, str_inj, beq_dec, bne_dec, cond_dec, cond_nt, if_true, if_false, decide_true, decide_false, cond_true, cond_false, u8_inj, cells_div, szs, sz_list, inB_nat, Int.toNat_natCast, get0, get1, get2, get3, get4, get5, get6, get7, get8, Nat.reduceLT, bind_of, List.getElem?_cons_zero, List.getElem?_cons_succ, oInt_int, oBool_bool, oStr_str, oSl_slc, oAgg_agg, oTup_tup, oCons_cons, oNil_nil, sl_cells, inR, ge_iff_le]
  by_cases h : a ≤ n <;> simp [h]
theorem spec_l1In (n a b : Int) : Call F.spec_l1In [.int .i64 n, .int .i64 a, .int .i64 b] (.bool (inR n a b)) := by
  refine call_of rfl 0 ((spec_l1In.ev _ _ _ _).trans ?_)
  simp only [Int.ofNat_lt, str_inj, beq_dec, bne_dec, cond_dec, cond_nt, if_true, if_false, decide_true, decide_false, cond_true, cond_false, u8_inj, cells_div, szs, sz_list, inB_nat, Int.toNat_natCast, get0, get1, get2, get3, get4, get5, get6, get7, get8, Nat.reduceLT, bind_of, List.getElem?_cons_zero, List.getElem?_cons_succ, oInt_int, oBool_bool, oStr_str, oSl_slc, oAgg_agg, oTup_tup, oCons_cons, oNil_nil, sl_cells, inR, ge_iff_le]
  by_cases h : a ≤ n <;> simp [h]
def twice {β : Type} [DecidableEq β] (l : List β) : Bool := !decide l.Nodup
theorem twice_iff {β : Type} [DecidableEq β] (l : List β) : twice l = true ↔ ∃ i j, j < i ∧ ∃ (h : i < l.length) (h' : j < l.length), l[i] = l[j] := by
  unfold twice
  rw [Bool.not_eq_true', decide_eq_false_iff_not, List.Nodup, List.pairwise_iff_getElem]
  constructor
  · intro h
    simp only [Classical.not_forall] at h
    obtain ⟨i, j, h1, h2, h3, h4⟩ := h
    simp only [ne_eq, Classical.not_not] at h4
    exact ⟨j, i, h3, h2, h1, h4.symm⟩
  · rintro ⟨i, j, h1, h2, h3, h4⟩ h
    exact h j i h3 h2 h1 h4.symm
theorem twice_first {α β : Type} [DecidableEq β] (f : α → β) (l : List α) : ((List.range l.length).any fun k => l[k]?.any fun x => decide (idx (fun y => decide (f y = f x)) l ≠ (k : Nat))) = twice (l.map f) := by
  rw [Bool.eq_iff_iff, twice_iff]
  simp only [List.any_eq_true, List.mem_range, List.length_map, List.getElem_map]
  constructor
  · rintro ⟨k, hk, h⟩
    rw [List.getElem?_eq_getElem hk, Option.any_some] at h
    simp only [decide_eq_true_eq] at h
    rcases idx_spec (fun y => decide (f y = f l[k])) l with ⟨_, h1⟩ | ⟨i, hi, h1, h2, h3⟩
    · have := h1 l[k] (List.getElem_mem hk)
      simp at this
    · rw [h1] at h
      simp only [decide_eq_true_eq] at h2
      rcases Nat.lt_trichotomy i k with hlt | heq | hgt
      · exact ⟨k, i, hlt, hk, hi, h2.symm⟩
      · subst heq; simp at h
      · have := h3 k hgt
        simp at this
  · rintro ⟨i, j, hji, hi, hj, he⟩
    refine ⟨i, hi, ?_⟩
    rw [List.getElem?_eq_getElem hi, Option.any_some]
    simp only [decide_eq_true_eq]
    rcases idx_spec (fun y => decide (f y = f l[i])) l with ⟨h0, _⟩ | ⟨k, hk, h1, h2, h3⟩
    · rw [h0]; omega
    · rw [h1]
      intro hk'
      have : k = i := by omega
      subst this
      have := h3 j hji
      simp [he] at this
theorem twice_pairs {α β : Type} [DecidableEq β] (f : α → β) (l : List α) : ((List.range l.length).any fun i => (List.range i).any fun j => l[i]?.any fun x => l[j]?.any fun y => decide (f x = f y)) = twice (l.map f) := by
  rw [Bool.eq_iff_iff, twice_iff]
  simp only [List.any_eq_true, List.mem_range, List.length_map, List.getElem_map]
  constructor
  · rintro ⟨i, hi, j, hj, h⟩
    rw [List.getElem?_eq_getElem hi, List.getElem?_eq_getElem (show j < l.length by omega)] at h
    exact ⟨i, j, hj, hi, by omega, by simpa using h⟩
  · rintro ⟨i, j, hji, hi, hj, he⟩
    refine ⟨i, hi, j, hji, ?_⟩
    rw [List.getElem?_eq_getElem hi, List.getElem?_eq_getElem hj]
    simpa using he
end Ev.Ty
end

section
namespace Ev.Ty
open Go Ev
open Enc (enc)
open Sm (sm)
set_option linter.unusedSimpArgs false
set_option linter.unusedVariables false
def letter (b : UInt8) : Bool := decide (97 ≤ b.toNat ∧ b.toNat ≤ 122)
def nameOk (s : ByteArray) : Bool := decide (1 ≤ s.size ∧ s.size ≤ 3) && s.data.toList.all letter
def letters : ByteArray := ByteArray.mk #[97, 98, 99, 100, 101, 102, 103, 104, 105, 106, 107, 108, 109, 110, 111, 112, 113, 114, 115, 116, 117, 118, 119, 120, 121, 122]
theorem letters_has (b : UInt8) : letters.data.toList.contains b = letter b := by
  have h : ∀ n : Fin 256, letters.data.toList.contains (UInt8.ofNat n.val) = letter (UInt8.ofNat n.val) := by decide +kernel
  have := h ⟨b.toNat, b.toNat_lt⟩
  simpa using this
theorem dropWhile_nil {α : Type} (p : α → Bool) : ∀ l : List α, (l.dropWhile p).isEmpty = l.all p
  | [] => rfl
  | x :: l => by
    rw [List.dropWhile_cons, List.all_cons]
    cases hp : p x with
    | true => simpa using dropWhile_nil p l
    | false => simp
theorem trimS_empty (l : List UInt8) : (Lib.trimS l letters.data.toList).isEmpty = l.all letter := by
  have e : (letters.data.toList.contains ·) = letter := funext letters_has
  unfold Lib.trimS Lib.trimLeftS
  rw [e, dropWhile_nil]
  unfold Lib.trimRightS
  rw [e, List.all_reverse]
  have : ∀ l : List UInt8, (l.dropWhile letter).all letter = l.all letter := by
    intro l
    induction l with
    | nil => rfl
    | cons x l ih =>
      rw [List.dropWhile_cons]
      cases hp : letter x with
      | true => simp [hp, ih]
      | false => simp [hp]
  rw [this, List.all_reverse]
theorem strings_Trim (s : ByteArray) (h : s.size ≤ 3) : Call F.strings_Trim [.str s, .str letters] (.str ⟨(Lib.trimS s.data.toList letters.data.toList).toArray⟩) := by
  refine lim_ext (e := trimE) rfl (Ev.of fun m => ?_)
  show (bif decide (s.size ≤ 9223372036854775807) && decide (letters.size < 4294967281) && letters.data.toList.all (fun b => decide (b.toNat < 128)) then _ else _) = _
  rw [decide_eq_true (by omega), show decide (letters.size < 4294967281) = true by decide +kernel, show letters.data.toList.all (fun b => decide (b.toNat < 128)) = true by decide +kernel]
  rfl
theorem impl_isName (s : ByteArray) : Call F.impl_isName [.str s] (.bool (nameOk s)) := by
  refine call_of rfl 0 ((impl_isName.ev _ _).trans ?_)
  simp only [Int.ofNat_lt, str_inj, beq_dec, bne_dec, cond_dec, cond_nt, if_true, if_false, decide_true, decide_false, cond_true, cond_false, u8_inj, cells_div, szs, sz_list, inB_nat, Int.toNat_natCast, get0, get1, get2, get3, get4, get5, get6, get7, get8, Nat.reduceLT, bind_of, List.getElem?_cons_zero, List.getElem?_cons_succ, oInt_int, oBool_bool, oStr_str, oSl_slc, oAgg_agg, oTup_tup, oCons_cons, oNil_nil, sl_cells, ge_iff_le, nameOk]
  by_cases h1 : 1 ≤ s.size
  · by_cases h2 : s.size ≤ 3
    · have h1' : (1 : Int) ≤ s.size := by omega
      have h2' : (s.size : Int) ≤ 3 := by omega
      rw [show (ByteArray.mk #[97, 98, 99, 100, 101, 102, 103, 104, 105, 106, 107, 108, 109, 110, 111, 112, 113, 114, 115, 116, 117, 118, 119, 120, 121, 122]) = letters from rfl]
      simp only [h1, h2, h1', h2', (strings_Trim s h2).eq, Int.ofNat_lt, str_inj, beq_dec, bne_dec, cond_dec, cond_nt, if_true, if_false, decide_true, decide_false, cond_true, cond_false, u8_inj, cells_div, szs, sz_list, inB_nat, Int.toNat_natCast, get0, get1, get2, get3, get4, get5, get6, get7, get8, Nat.reduceLT, bind_of, List.getElem?_cons_zero, List.getElem?_cons_succ, oInt_int, oBool_bool, oStr_str, oSl_slc, oAgg_agg, oTup_tup, oCons_cons, oNil_nil, sl_cells, and_self, Bool.true_and]
      rw [← trimS_empty]
      congr 3
      rw [Bool.eq_iff_iff, decide_eq_true_eq, List.isEmpty_iff]
      simp
    · have h1' : (1 : Int) ≤ s.size := by omega
      have h2' : ¬ (s.size : Int) ≤ 3 := by omega
      simp only [h1, h2, h1', h2', Int.ofNat_lt, str_inj, beq_dec, bne_dec, cond_dec, cond_nt, if_true, if_false, decide_true, decide_false, cond_true, cond_false, u8_inj, cells_div, szs, sz_list, inB_nat, Int.toNat_natCast, get0, get1, get2, get3, get4, get5, get6, get7, get8, Nat.reduceLT, bind_of, List.getElem?_cons_zero, List.getElem?_cons_succ, oInt_int, oBool_bool, oStr_str, oSl_slc, oAgg_agg, oTup_tup, oCons_cons, oNil_nil, sl_cells, and_false, Bool.false_and]
  · have h1' : ¬ (1 : Int) ≤ s.size := by omega
    simp only [h1, h1', Int.ofNat_lt, str_inj, beq_dec, bne_dec, cond_dec, cond_nt, if_true, if_false, decide_true, decide_false, cond_true, cond_false, u8_inj, cells_div, szs, sz_list, inB_nat, Int.toNat_natCast, get0, get1, get2, get3, get4, get5, get6, get7, get8, Nat.reduceLT, bind_of, List.getElem?_cons_zero, List.getElem?_cons_succ, oInt_int, oBool_bool, oStr_str, oSl_slc, oAgg_agg, oTup_tup, oCons_cons, oNil_nil, sl_cells, false_and, Bool.false_and]
theorem byte_at {s : ByteArray} {k : Nat} (h : k < s.data.toList.length) : s.data.getD k 0 = s.data.toList[k] := by
  simp at h
  simp [Array.getD, h]
theorem spec_l2Name (s : ByteArray) : Call F.spec_l2Name [.str s] (.bool (nameOk s)) := by
  refine call_of rfl (s.size + 1) ((spec_l2Name.ev _ _).trans ?_)
  simp only [Int.ofNat_lt, str_inj, beq_dec, bne_dec, cond_dec, cond_nt, if_true, if_false, decide_true, decide_false, cond_true, cond_false, u8_inj, cells_div, szs, sz_list, inB_nat, Int.toNat_natCast, get0, get1, get2, get3, get4, get5, get6, get7, get8, Nat.reduceLT, bind_of, List.getElem?_cons_zero, List.getElem?_cons_succ, oInt_int, oBool_bool, oStr_str, oSl_slc, oAgg_agg, oTup_tup, oCons_cons, oNil_nil, sl_cells, gt_iff_lt, nameOk]
  by_cases h1 : 1 ≤ s.size
  · by_cases h2 : s.size ≤ 3
    · have h1' : ¬ (s.size : Int) < 1 := by omega
      have h2' : ¬ (3 : Int) < s.size := by omega
      simp only [h1, h2, h1', h2', if_false, and_self, decide_true, Bool.true_and]
      have hsz : s.data.toList.length = s.size := by rw [Array.length_toList]; rfl
      refine (any_loopL (l := s.data.toList) (p := fun b => !letter b) (S := fun m k => spec_l2Name.at0 (s.size + 1) m (spec_l2Name.st0 s (k : Nat))) (r := some (.bool false, [])) (z := some (.bool true, [])) (fun m k h => ?_) (fun m => ?_) (by omega)).trans ?_
      · have h' : k < s.size := by omega
        simp only [spec_l2Name.next0, spec_l2Name.round0, Int.ofNat_lt, str_inj, beq_dec, bne_dec, cond_dec, cond_nt, if_true, if_false, decide_true, decide_false, cond_true, cond_false, u8_inj, cells_div, szs, sz_list, inB_nat, Int.toNat_natCast, get0, get1, get2, get3, get4, get5, get6, get7, get8, Nat.reduceLT, bind_of, List.getElem?_cons_zero, List.getElem?_cons_succ, oInt_int, oBool_bool, oStr_str, oSl_slc, oAgg_agg, oTup_tup, oCons_cons, oNil_nil, sl_cells, h', byte_at h]
        rw [wrap_succ (by omega)]
        unfold letter
        by_cases c1 : s.data.toList[k].toNat < 97
        · have c1' : (s.data.toList[k].toNat : Int) < 97 := by omega
          rw [if_pos c1', if_pos (by simp only [Bool.not_eq_true', decide_eq_false_iff_not]; omega)]
        · have c1' : ¬ (s.data.toList[k].toNat : Int) < 97 := by omega
          rw [if_neg c1']
          by_cases c2 : 122 < s.data.toList[k].toNat
          · have c2' : (s.data.toList[k].toNat : Int) > 122 := by omega
            rw [if_pos c2', if_pos (by simp only [Bool.not_eq_true', decide_eq_false_iff_not]; omega)]
          · have c2' : ¬ (s.data.toList[k].toNat : Int) > 122 := by omega
            rw [if_neg c2', if_neg (by simp only [Bool.not_eq_true', decide_eq_false_iff_not]; omega)]
      · rw [hsz]; simp only [spec_l2Name.next0, spec_l2Name.round0, Int.ofNat_lt, str_inj, beq_dec, bne_dec, cond_dec, cond_nt, if_true, if_false, decide_true, decide_false, cond_true, cond_false, u8_inj, cells_div, szs, sz_list, inB_nat, Int.toNat_natCast, get0, get1, get2, get3, get4, get5, get6, get7, get8, Nat.reduceLT, bind_of, List.getElem?_cons_zero, List.getElem?_cons_succ, oInt_int, oBool_bool, oStr_str, oSl_slc, oAgg_agg, oTup_tup, oCons_cons, oNil_nil, sl_cells, Nat.lt_irrefl]
      · have : s.data.toList.any (fun b => !letter b) = !s.data.toList.all letter := by rw [List.not_all_eq_any_not]
        rw [this]
        cases s.data.toList.all letter <;> rfl
    · have h1' : ¬ (s.size : Int) < 1 := by omega
      have h2' : (3 : Int) < s.size := by omega
      simp only [h1, h2, h1', h2', Int.ofNat_lt, str_inj, beq_dec, bne_dec, cond_dec, cond_nt, if_true, if_false, decide_true, decide_false, cond_true, cond_false, u8_inj, cells_div, szs, sz_list, inB_nat, Int.toNat_natCast, get0, get1, get2, get3, get4, get5, get6, get7, get8, Nat.reduceLT, bind_of, List.getElem?_cons_zero, List.getElem?_cons_succ, oInt_int, oBool_bool, oStr_str, oSl_slc, oAgg_agg, oTup_tup, oCons_cons, oNil_nil, sl_cells, and_false, Bool.false_and]
  · have h1' : (s.size : Int) < 1 := by omega
    simp only [h1, h1', Int.ofNat_lt, str_inj, beq_dec, bne_dec, cond_dec, cond_nt, if_true, if_false, decide_true, decide_false, cond_true, cond_false, u8_inj, cells_div, szs, sz_list, inB_nat, Int.toNat_natCast, get0, get1, get2, get3, get4, get5, get6, get7, get8, Nat.reduceLT, bind_of, List.getElem?_cons_zero, List.getElem?_cons_succ, oInt_int, oBool_bool, oStr_str, oSl_slc, oAgg_agg, oTup_tup, oCons_cons, oNil_nil, sl_cells, false_and, Bool.false_and]
def symFault (x : Symbol) : Option Int := if nameOk x.name = false then some 5 else if inR x.arity 0 2 = false then some 3 else none
def sigFault (s : Signature) : Int :=
  if s.symbols.length < 1 ∨ 6 < s.symbols.length then 2
  else match s.symbols.findSome? symFault with
    | some c => c
    | none => if twice (s.symbols.map (·.name)) then 6 else if s.symbols.any (fun x => decide (x.arity = 0)) then 0 else 4
theorem slices_IndexFunc_SSymbol_at1_impl_symbolIndex_1 (l : List Symbol) (hs : l.length ≤ 4294967296) (n : ByteArray) : Call F.slices_IndexFunc_SSymbol [slc l, .clo F.impl_symbolIndex_1 [.rref [.str n] 0]] (.int .i64 (idx (fun x => decide (x.name = n)) l)) := by
  refine call_of rfl (l.length + 1) ((slices_IndexFunc_SSymbol_at1_impl_symbolIndex_1.ev _ _ _).trans ?_)
  refine idx_loop (S := fun m k => slices_IndexFunc_SSymbol_at1_impl_symbolIndex_1.at0 (l.length + 1) m (slices_IndexFunc_SSymbol_at1_impl_symbolIndex_1.st0 (cells l) n _ (k : Nat))) (fun m k h => ?_) (fun m => ?_) (Nat.lt_succ_self _)
  · have hlk : l[k]? = some l[k] := List.getElem?_eq_getElem h
    have hc : Call F.impl_symbolIndex_1 [.agg [.str l[k].name, .int .i64 l[k].arity], .rref [.str n] 0] (.bool (decide (l[k].name = n))) := by
      refine call_of rfl 0 ((impl_symbolIndex_1.ev _ _ _ _).trans ?_)
      simp only [Int.ofNat_lt, str_inj, beq_dec, bne_dec, cond_dec, cond_nt, if_true, if_false, decide_true, decide_false, cond_true, cond_false, u8_inj, cells_div, szs, sz_list, inB_nat, Int.toNat_natCast, get0, get1, get2, get3, get4, get5, get6, get7, get8, Nat.reduceLT, bind_of, List.getElem?_cons_zero, List.getElem?_cons_succ, oInt_int, oBool_bool, oStr_str, oSl_slc, oAgg_agg, oTup_tup, oCons_cons, oNil_nil, sl_cells]
    simp only [slices_IndexFunc_SSymbol_at1_impl_symbolIndex_1.next0, slices_IndexFunc_SSymbol_at1_impl_symbolIndex_1.round0, Int.ofNat_lt, str_inj, beq_dec, bne_dec, cond_dec, cond_nt, if_true, if_false, decide_true, decide_false, cond_true, cond_false, u8_inj, cells_div, szs, sz_list, inB_nat, Int.toNat_natCast, get0, get1, get2, get3, get4, get5, get6, get7, get8, Nat.reduceLT, bind_of, List.getElem?_cons_zero, List.getElem?_cons_succ, oInt_int, oBool_bool, oStr_str, oSl_slc, oAgg_agg, oTup_tup, oCons_cons, oNil_nil, sl_cells, h, hlk, enc_Symbol, hc.eq]
    rw [wrap_succ (by omega)]
    simp only [decide_eq_true_eq]
  · simp only [slices_IndexFunc_SSymbol_at1_impl_symbolIndex_1.next0, slices_IndexFunc_SSymbol_at1_impl_symbolIndex_1.round0, Int.ofNat_lt, str_inj, beq_dec, bne_dec, cond_dec, cond_nt, if_true, if_false, decide_true, decide_false, cond_true, cond_false, u8_inj, cells_div, szs, sz_list, inB_nat, Int.toNat_natCast, get0, get1, get2, get3, get4, get5, get6, get7, get8, Nat.reduceLT, bind_of, List.getElem?_cons_zero, List.getElem?_cons_succ, oInt_int, oBool_bool, oStr_str, oSl_slc, oAgg_agg, oTup_tup, oCons_cons, oNil_nil, sl_cells, Nat.lt_irrefl]
theorem impl_symbolIndex (l : List Symbol) (hs : l.length ≤ 4294967296) (n : ByteArray) : Call F.impl_symbolIndex [.agg [slc l], .str n] (.int .i64 (idx (fun x => decide (x.name = n)) l)) := by
  refine call_of rfl 0 ((impl_symbolIndex.ev _ _ _).trans ?_)
  simp only [Int.ofNat_lt, str_inj, beq_dec, bne_dec, cond_dec, cond_nt, if_true, if_false, decide_true, decide_false, cond_true, cond_false, u8_inj, cells_div, szs, sz_list, inB_nat, Int.toNat_natCast, get0, get1, get2, get3, get4, get5, get6, get7, get8, Nat.reduceLT, bind_of, List.getElem?_cons_zero, List.getElem?_cons_succ, oInt_int, oBool_bool, oStr_str, oSl_slc, oAgg_agg, oTup_tup, oCons_cons, oNil_nil, sl_cells, (slices_IndexFunc_SSymbol_at1_impl_symbolIndex_1 l hs n).eq]
theorem slices_IndexFunc_SSymbol_at1_impl_SignatureFault_1 (l : List Symbol) (hs : l.length ≤ 4294967296) : Call F.slices_IndexFunc_SSymbol [slc l, .clo F.impl_SignatureFault_1 []] (.int .i64 (idx (fun x => decide (x.arity = 0)) l)) := by
  refine call_of rfl (l.length + 1) ((slices_IndexFunc_SSymbol_at1_impl_SignatureFault_1.ev _ _).trans ?_)
  refine idx_loop (S := fun m k => slices_IndexFunc_SSymbol_at1_impl_SignatureFault_1.at0 (l.length + 1) m (slices_IndexFunc_SSymbol_at1_impl_SignatureFault_1.st0 (cells l) _ (k : Nat))) (fun m k h => ?_) (fun m => ?_) (Nat.lt_succ_self _)
  · have hlk : l[k]? = some l[k] := List.getElem?_eq_getElem h
    have hc : Call F.impl_SignatureFault_1 [.agg [.str l[k].name, .int .i64 l[k].arity]] (.bool (decide (l[k].arity = 0))) := by
      refine call_of rfl 0 ((impl_SignatureFault_1.ev _ _ _).trans ?_)
      simp only [Int.ofNat_lt, str_inj, beq_dec, bne_dec, cond_dec, cond_nt, if_true, if_false, decide_true, decide_false, cond_true, cond_false, u8_inj, cells_div, szs, sz_list, inB_nat, Int.toNat_natCast, get0, get1, get2, get3, get4, get5, get6, get7, get8, Nat.reduceLT, bind_of, List.getElem?_cons_zero, List.getElem?_cons_succ, oInt_int, oBool_bool, oStr_str, oSl_slc, oAgg_agg, oTup_tup, oCons_cons, oNil_nil, sl_cells]
    simp only [slices_IndexFunc_SSymbol_at1_impl_SignatureFault_1.next0, slices_IndexFunc_SSymbol_at1_impl_SignatureFault_1.round0, Int.ofNat_lt, str_inj, beq_dec, bne_dec, cond_dec, cond_nt, if_true, if_false, decide_true, decide_false, cond_true, cond_false, u8_inj, cells_div, szs, sz_list, inB_nat, Int.toNat_natCast, get0, get1, get2, get3, get4, get5, get6, get7, get8, Nat.reduceLT, bind_of, List.getElem?_cons_zero, List.getElem?_cons_succ, oInt_int, oBool_bool, oStr_str, oSl_slc, oAgg_agg, oTup_tup, oCons_cons, oNil_nil, sl_cells, h, hlk, enc_Symbol, hc.eq]
    rw [wrap_succ (by omega)]
    simp only [decide_eq_true_eq]
  · simp only [slices_IndexFunc_SSymbol_at1_impl_SignatureFault_1.next0, slices_IndexFunc_SSymbol_at1_impl_SignatureFault_1.round0, Int.ofNat_lt, str_inj, beq_dec, bne_dec, cond_dec, cond_nt, if_true, if_false, decide_true, decide_false, cond_true, cond_false, u8_inj, cells_div, szs, sz_list, inB_nat, Int.toNat_natCast, get0, get1, get2, get3, get4, get5, get6, get7, get8, Nat.reduceLT, bind_of, List.getElem?_cons_zero, List.getElem?_cons_succ, oInt_int, oBool_bool, oStr_str, oSl_slc, oAgg_agg, oTup_tup, oCons_cons, oNil_nil, sl_cells, Nat.lt_irrefl]
theorem slices_ContainsFunc_SSymbol_at1_impl_SignatureFault_1 (l : List Symbol) (hs : l.length ≤ 4294967296) : Call F.slices_ContainsFunc_SSymbol [slc l, .clo F.impl_SignatureFault_1 []] (.bool (l.any fun x => decide (x.arity = 0))) := by
  refine call_of rfl 0 ((slices_ContainsFunc_SSymbol_at1_impl_SignatureFault_1.ev _ _).trans ?_)
  simp only [Int.ofNat_lt, str_inj, beq_dec, bne_dec, cond_dec, cond_nt, if_true, if_false, decide_true, decide_false, cond_true, cond_false, u8_inj, cells_div, szs, sz_list, inB_nat, Int.toNat_natCast, get0, get1, get2, get3, get4, get5, get6, get7, get8, Nat.reduceLT, bind_of, List.getElem?_cons_zero, List.getElem?_cons_succ, oInt_int, oBool_bool, oStr_str, oSl_slc, oAgg_agg, oTup_tup, oCons_cons, oNil_nil, sl_cells, (slices_IndexFunc_SSymbol_at1_impl_SignatureFault_1 l hs).eq, idx_nonneg]
theorem impl_SignatureFault (l : List Symbol) (hs : l.length ≤ 4294967296) : Call F.impl_SignatureFault [.agg [slc l]] (.int .i64 (sigFault ⟨l⟩)) := by
  refine call_of rfl (l.length + 1) ((impl_SignatureFault.ev _ _).trans ?_)
  simp only [Int.ofNat_lt, str_inj, beq_dec, bne_dec, cond_dec, cond_nt, if_true, if_false, decide_true, decide_false, cond_true, cond_false, u8_inj, cells_div, szs, sz_list, inB_nat, Int.toNat_natCast, get0, get1, get2, get3, get4, get5, get6, get7, get8, Nat.reduceLT, bind_of, List.getElem?_cons_zero, List.getElem?_cons_succ, oInt_int, oBool_bool, oStr_str, oSl_slc, oAgg_agg, oTup_tup, oCons_cons, oNil_nil, sl_cells, sigFault, gt_iff_lt]
  by_cases h1 : l.length < 1
  · have h1' : (l.length : Int) < 1 := by omega
    simp only [h1, h1', Int.ofNat_lt, str_inj, beq_dec, bne_dec, cond_dec, cond_nt, if_true, if_false, decide_true, decide_false, cond_true, cond_false, u8_inj, cells_div, szs, sz_list, inB_nat, Int.toNat_natCast, get0, get1, get2, get3, get4, get5, get6, get7, get8, Nat.reduceLT, bind_of, List.getElem?_cons_zero, List.getElem?_cons_succ, oInt_int, oBool_bool, oStr_str, oSl_slc, oAgg_agg, oTup_tup, oCons_cons, oNil_nil, sl_cells, true_or]
  by_cases h2 : 6 < l.length
  · have h1' : ¬ (l.length : Int) < 1 := by omega
    have h2' : (6 : Int) < l.length := by omega
    simp only [h1, h1', h2, h2', Int.ofNat_lt, str_inj, beq_dec, bne_dec, cond_dec, cond_nt, if_true, if_false, decide_true, decide_false, cond_true, cond_false, u8_inj, cells_div, szs, sz_list, inB_nat, Int.toNat_natCast, get0, get1, get2, get3, get4, get5, get6, get7, get8, Nat.reduceLT, bind_of, List.getElem?_cons_zero, List.getElem?_cons_succ, oInt_int, oBool_bool, oStr_str, oSl_slc, oAgg_agg, oTup_tup, oCons_cons, oNil_nil, sl_cells, or_true]
  have h1' : ¬ (l.length : Int) < 1 := by omega
  have h2' : ¬ (6 : Int) < l.length := by omega
  simp only [h1, h1', h2, h2', if_false, or_self]
  have two := any_loop (n := l.length) (bad := fun k => l[k]?.any fun x => decide (idx (fun y => decide (y.name = x.name)) l ≠ (k : Nat)))
    (S := fun m k => impl_SignatureFault.at2 (l.length + 1) m (impl_SignatureFault.st2 (cells l) l.length (k : Nat) (cells l))) (r := some (.int .i64 6, [])) (z := if l.any (fun x => decide (x.arity = 0)) then some (.int .i64 0, []) else some (.int .i64 4, []))
    (fun m k h => by
      have hlk : l[k]? = some l[k] := List.getElem?_eq_getElem h
      simp only [impl_SignatureFault.next2, impl_SignatureFault.round2, Int.ofNat_lt, str_inj, beq_dec, bne_dec, cond_dec, cond_nt, if_true, if_false, decide_true, decide_false, cond_true, cond_false, u8_inj, cells_div, szs, sz_list, inB_nat, Int.toNat_natCast, get0, get1, get2, get3, get4, get5, get6, get7, get8, Nat.reduceLT, bind_of, List.getElem?_cons_zero, List.getElem?_cons_succ, oInt_int, oBool_bool, oStr_str, oSl_slc, oAgg_agg, oTup_tup, oCons_cons, oNil_nil, sl_cells, h, hlk, enc_Symbol, (impl_symbolIndex l hs _).eq]
      rw [wrap_succ (by omega)]
      by_cases e : idx (fun y => decide (y.name = l[k].name)) l = (k : Int) <;> simp [e])
    (fun m => by
      simp only [impl_SignatureFault.next2, impl_SignatureFault.round2, Int.ofNat_lt, str_inj, beq_dec, bne_dec, cond_dec, cond_nt, if_true, if_false, decide_true, decide_false, cond_true, cond_false, u8_inj, cells_div, szs, sz_list, inB_nat, Int.toNat_natCast, get0, get1, get2, get3, get4, get5, get6, get7, get8, Nat.reduceLT, bind_of, List.getElem?_cons_zero, List.getElem?_cons_succ, oInt_int, oBool_bool, oStr_str, oSl_slc, oAgg_agg, oTup_tup, oCons_cons, oNil_nil, sl_cells, Nat.lt_irrefl, (slices_ContainsFunc_SSymbol_at1_impl_SignatureFault_1 l hs).eq]
      cases l.any (fun x => decide (x.arity = 0)) <;> rfl) (Nat.lt_succ_self _)
  have one := scan_loop (l := l) (g := fun x => (symFault x).map fun c => some (.int .i64 c, []))
    (S := fun m k => impl_SignatureFault.at0 (l.length + 1) m (impl_SignatureFault.st0 (cells l) l.length (k : Nat) (cells l)))
    (fun m k h => by
      have hlk : l[k]? = some l[k] := List.getElem?_eq_getElem h
      simp only [impl_SignatureFault.next0, impl_SignatureFault.round0, Int.ofNat_lt, str_inj, beq_dec, bne_dec, cond_dec, cond_nt, if_true, if_false, decide_true, decide_false, cond_true, cond_false, u8_inj, cells_div, szs, sz_list, inB_nat, Int.toNat_natCast, get0, get1, get2, get3, get4, get5, get6, get7, get8, Nat.reduceLT, bind_of, List.getElem?_cons_zero, List.getElem?_cons_succ, oInt_int, oBool_bool, oStr_str, oSl_slc, oAgg_agg, oTup_tup, oCons_cons, oNil_nil, sl_cells, h, hlk, enc_Symbol, (impl_isName _).eq, (impl_within _ _ _).eq]
      rw [wrap_succ (by omega)]
      cases h5 : nameOk l[k].name with
      | false => simp [symFault, h5]
      | true => cases h6 : inR l[k].arity 0 2 <;> simp [symFault, h5, h6])
    (fun m => by simp only [impl_SignatureFault.next0, impl_SignatureFault.round0, Int.ofNat_lt, str_inj, beq_dec, bne_dec, cond_dec, cond_nt, if_true, if_false, decide_true, decide_false, cond_true, cond_false, u8_inj, cells_div, szs, sz_list, inB_nat, Int.toNat_natCast, get0, get1, get2, get3, get4, get5, get6, get7, get8, Nat.reduceLT, bind_of, List.getElem?_cons_zero, List.getElem?_cons_succ, oInt_int, oBool_bool, oStr_str, oSl_slc, oAgg_agg, oTup_tup, oCons_cons, oNil_nil, sl_cells, Nat.lt_irrefl]; rfl) (Nat.lt_succ_self _)
  refine one.trans ?_
  rw [show impl_SignatureFault.at2 (l.length + 1) (l.length + 1) (impl_SignatureFault.st2 (cells l) l.length 0 (cells l)) = _ from two, twice_first (fun y : Symbol => y.name), findSome_map]
  cases l.findSome? symFault with
  | some c => rfl
  | none => cases twice (l.map fun x => x.name) <;> cases l.any (fun x => decide (x.arity = 0)) <;> rfl
theorem spec_SignatureFault (l : List Symbol) (hs : l.length ≤ 4294967296) : Call F.spec_SignatureFault [.agg [slc l]] (.int .i64 (sigFault ⟨l⟩)) := by
  obtain ⟨n, hn⟩ : ∃ n, n = l.length + 1 := ⟨_, rfl⟩
  refine call_of rfl n ((spec_SignatureFault.ev _ _).trans ?_)
  simp only [Int.ofNat_lt, str_inj, beq_dec, bne_dec, cond_dec, cond_nt, if_true, if_false, decide_true, decide_false, cond_true, cond_false, u8_inj, cells_div, szs, sz_list, inB_nat, Int.toNat_natCast, get0, get1, get2, get3, get4, get5, get6, get7, get8, Nat.reduceLT, bind_of, List.getElem?_cons_zero, List.getElem?_cons_succ, oInt_int, oBool_bool, oStr_str, oSl_slc, oAgg_agg, oTup_tup, oCons_cons, oNil_nil, sl_cells, sigFault, gt_iff_lt]
  by_cases h1 : l.length < 1
  · have h1' : (l.length : Int) < 1 := by omega
    simp only [h1, h1', Int.ofNat_lt, str_inj, beq_dec, bne_dec, cond_dec, cond_nt, if_true, if_false, decide_true, decide_false, cond_true, cond_false, u8_inj, cells_div, szs, sz_list, inB_nat, Int.toNat_natCast, get0, get1, get2, get3, get4, get5, get6, get7, get8, Nat.reduceLT, bind_of, List.getElem?_cons_zero, List.getElem?_cons_succ, oInt_int, oBool_bool, oStr_str, oSl_slc, oAgg_agg, oTup_tup, oCons_cons, oNil_nil, sl_cells, true_or]
  by_cases h2 : 6 < l.length
  · have h1' : ¬ (l.length : Int) < 1 := by omega
    have h2' : (6 : Int) < l.length := by omega
    simp only [h1, h1', h2, h2', Int.ofNat_lt, str_inj, beq_dec, bne_dec, cond_dec, cond_nt, if_true, if_false, decide_true, decide_false, cond_true, cond_false, u8_inj, cells_div, szs, sz_list, inB_nat, Int.toNat_natCast, get0, get1, get2, get3, get4, get5, get6, get7, get8, Nat.reduceLT, bind_of, List.getElem?_cons_zero, List.getElem?_cons_succ, oInt_int, oBool_bool, oStr_str, oSl_slc, oAgg_agg, oTup_tup, oCons_cons, oNil_nil, sl_cells, or_true]
  have h1' : ¬ (l.length : Int) < 1 := by omega
  have h2' : ¬ (6 : Int) < l.length := by omega
  simp only [h1, h1', h2, h2', if_false, or_self]
  have six := any_loopL (l := l) (p := fun x => decide (x.arity = 0)) (S := fun m k => spec_SignatureFault.at6 n m (spec_SignatureFault.st6 l.length (k : Nat) (cells l))) (r := some (.int .i64 0, [])) (z := some (.int .i64 4, []))
    (fun m k h => by
      have hlk : l[k]? = some l[k] := List.getElem?_eq_getElem h
      simp only [spec_SignatureFault.next6, spec_SignatureFault.round6, Int.ofNat_lt, str_inj, beq_dec, bne_dec, cond_dec, cond_nt, if_true, if_false, decide_true, decide_false, cond_true, cond_false, u8_inj, cells_div, szs, sz_list, inB_nat, Int.toNat_natCast, get0, get1, get2, get3, get4, get5, get6, get7, get8, Nat.reduceLT, bind_of, List.getElem?_cons_zero, List.getElem?_cons_succ, oInt_int, oBool_bool, oStr_str, oSl_slc, oAgg_agg, oTup_tup, oCons_cons, oNil_nil, sl_cells, h, hlk, enc_Symbol]
      rw [wrap_succ (by omega)]
      simp only [decide_eq_true_eq])
    (fun m => by simp only [spec_SignatureFault.next6, spec_SignatureFault.round6, Int.ofNat_lt, str_inj, beq_dec, bne_dec, cond_dec, cond_nt, if_true, if_false, decide_true, decide_false, cond_true, cond_false, u8_inj, cells_div, szs, sz_list, inB_nat, Int.toNat_natCast, get0, get1, get2, get3, get4, get5, get6, get7, get8, Nat.reduceLT, bind_of, List.getElem?_cons_zero, List.getElem?_cons_succ, oInt_int, oBool_bool, oStr_str, oSl_slc, oAgg_agg, oTup_tup, oCons_cons, oNil_nil, sl_cells, Nat.lt_irrefl]) (show l.length < n by omega)
  have two := any_loop (n := l.length) (bad := fun i => (List.range i).any fun j => l[i]?.any fun x => l[j]?.any fun y => decide (x.name = y.name))
    (S := fun m i => spec_SignatureFault.at2 n m (spec_SignatureFault.st2 l.length (i : Nat) (cells l))) (r := some (.int .i64 6, []))
    (fun m i h => by
      have hlk : l[i]? = some l[i] := List.getElem?_eq_getElem h
      simp only [spec_SignatureFault.next2, spec_SignatureFault.round2, Int.ofNat_lt, str_inj, beq_dec, bne_dec, cond_dec, cond_nt, if_true, if_false, decide_true, decide_false, cond_true, cond_false, u8_inj, cells_div, szs, sz_list, inB_nat, Int.toNat_natCast, get0, get1, get2, get3, get4, get5, get6, get7, get8, Nat.reduceLT, bind_of, List.getElem?_cons_zero, List.getElem?_cons_succ, oInt_int, oBool_bool, oStr_str, oSl_slc, oAgg_agg, oTup_tup, oCons_cons, oNil_nil, sl_cells, h]
      refine any_loop (n := i) (f := n) (bad := fun j => l[i]?.any fun x => l[j]?.any fun y => decide (x.name = y.name))
        (S := fun m' j => spec_SignatureFault.at4 n (spec_SignatureFault.at2 n m) m' (spec_SignatureFault.st4 l.length (i : Nat) (j : Nat) (cells l))) (fun m' j hj => ?_) (fun m' => ?_) (by omega)
      · have hj' : j < l.length := by omega
        have hjk : l[j]? = some l[j] := List.getElem?_eq_getElem hj'
        simp only [spec_SignatureFault.next4, spec_SignatureFault.round4, Int.ofNat_lt, str_inj, beq_dec, bne_dec, cond_dec, cond_nt, if_true, if_false, decide_true, decide_false, cond_true, cond_false, u8_inj, cells_div, szs, sz_list, inB_nat, Int.toNat_natCast, get0, get1, get2, get3, get4, get5, get6, get7, get8, Nat.reduceLT, bind_of, List.getElem?_cons_zero, List.getElem?_cons_succ, oInt_int, oBool_bool, oStr_str, oSl_slc, oAgg_agg, oTup_tup, oCons_cons, oNil_nil, sl_cells, h, hj, hj', hlk, hjk, enc_Symbol]
        rw [wrap_succ (by omega)]
        by_cases e : l[i].name = l[j].name <;> simp [e]
      · simp only [spec_SignatureFault.next4, spec_SignatureFault.round4, Int.ofNat_lt, str_inj, beq_dec, bne_dec, cond_dec, cond_nt, if_true, if_false, decide_true, decide_false, cond_true, cond_false, u8_inj, cells_div, szs, sz_list, inB_nat, Int.toNat_natCast, get0, get1, get2, get3, get4, get5, get6, get7, get8, Nat.reduceLT, bind_of, List.getElem?_cons_zero, List.getElem?_cons_succ, oInt_int, oBool_bool, oStr_str, oSl_slc, oAgg_agg, oTup_tup, oCons_cons, oNil_nil, sl_cells, Nat.lt_irrefl]
        rw [wrap_succ (by omega)])
    (fun m => by simp only [spec_SignatureFault.next2, spec_SignatureFault.round2, Int.ofNat_lt, str_inj, beq_dec, bne_dec, cond_dec, cond_nt, if_true, if_false, decide_true, decide_false, cond_true, cond_false, u8_inj, cells_div, szs, sz_list, inB_nat, Int.toNat_natCast, get0, get1, get2, get3, get4, get5, get6, get7, get8, Nat.reduceLT, bind_of, List.getElem?_cons_zero, List.getElem?_cons_succ, oInt_int, oBool_bool, oStr_str, oSl_slc, oAgg_agg, oTup_tup, oCons_cons, oNil_nil, sl_cells, Nat.lt_irrefl]; exact six) (show l.length < n by omega)
  have one := scan_loop (l := l) (g := fun x => (symFault x).map fun c => some (.int .i64 c, []))
    (S := fun m k => spec_SignatureFault.at0 n m (spec_SignatureFault.st0 l.length (k : Nat) (cells l)))
    (fun m k h => by
      have hlk : l[k]? = some l[k] := List.getElem?_eq_getElem h
      simp only [spec_SignatureFault.next0, spec_SignatureFault.round0, Int.ofNat_lt, str_inj, beq_dec, bne_dec, cond_dec, cond_nt, if_true, if_false, decide_true, decide_false, cond_true, cond_false, u8_inj, cells_div, szs, sz_list, inB_nat, Int.toNat_natCast, get0, get1, get2, get3, get4, get5, get6, get7, get8, Nat.reduceLT, bind_of, List.getElem?_cons_zero, List.getElem?_cons_succ, oInt_int, oBool_bool, oStr_str, oSl_slc, oAgg_agg, oTup_tup, oCons_cons, oNil_nil, sl_cells, h, hlk, enc_Symbol, (spec_l2Name _).eq, (spec_l1In _ _ _).eq]
      rw [wrap_succ (by omega)]
      cases h5 : nameOk l[k].name with
      | false => simp [symFault, h5]
      | true => cases h6 : inR l[k].arity 0 2 <;> simp [symFault, h5, h6])
    (fun m => by simp only [spec_SignatureFault.next0, spec_SignatureFault.round0, Int.ofNat_lt, str_inj, beq_dec, bne_dec, cond_dec, cond_nt, if_true, if_false, decide_true, decide_false, cond_true, cond_false, u8_inj, cells_div, szs, sz_list, inB_nat, Int.toNat_natCast, get0, get1, get2, get3, get4, get5, get6, get7, get8, Nat.reduceLT, bind_of, List.getElem?_cons_zero, List.getElem?_cons_succ, oInt_int, oBool_bool, oStr_str, oSl_slc, oAgg_agg, oTup_tup, oCons_cons, oNil_nil, sl_cells, Nat.lt_irrefl]; rfl) (show l.length < n by omega)
  refine one.trans ?_
  rw [show spec_SignatureFault.at2 n n (spec_SignatureFault.st2 l.length 0 (cells l)) = _ from two, twice_pairs (fun y : Symbol => y.name), findSome_map]
  cases l.findSome? symFault with
  | some c => rfl
  | none => cases twice (l.map fun x => x.name) <;> cases l.any (fun x => decide (x.arity = 0)) <;> rfl
end Ev.Ty
end

section
namespace Ev.Ty
open Go Ev
open Enc (enc)
open Sm (sm)
set_option linter.unusedSimpArgs false
set_option linter.unusedVariables false
theorem inR_iff {n a b : Int} : inR n a b = true ↔ a ≤ n ∧ n ≤ b := by unfold inR; simp
structure SigOk (s : Signature) : Prop where
  pos : 1 ≤ s.symbols.length
  le : s.symbols.length ≤ 6
  name : ∀ x ∈ s.symbols, nameOk x.name = true
  arity : ∀ x ∈ s.symbols, 0 ≤ x.arity ∧ x.arity ≤ 2
  nodup : (s.symbols.map (·.name)).Nodup
  const : ∃ x ∈ s.symbols, x.arity = 0
theorem findSome_none {α β : Type} {f : α → Option β} : ∀ {l : List α}, l.findSome? f = none ↔ ∀ x ∈ l, f x = none
  | [] => by simp
  | x :: l => by
    rw [List.findSome?_cons]
    cases h : f x with
    | some b => simp [h]
    | none => simp [h, findSome_none (l := l)]
theorem sigOk_iff (s : Signature) : sigFault s = 0 ↔ SigOk s := by
  unfold sigFault
  constructor
  · intro h
    split at h
    · cases h
    · rename_i h1
      split at h
      · rename_i c hc
        obtain ⟨x, hx, hf⟩ := List.exists_of_findSome?_eq_some hc
        unfold symFault at hf
        split at hf
        · cases hf; cases h
        · split at hf
          · cases hf; cases h
          · cases hf
      · rename_i hn
        rw [findSome_none] at hn
        split at h
        · cases h
        · rename_i ht
          split at h
          · rename_i ha
            have hx : ∀ x ∈ s.symbols, nameOk x.name = true ∧ inR x.arity 0 2 = true := fun x hx => by
              have := hn x hx
              unfold symFault at this
              split at this
              · cases this
              · split at this
                · cases this
                · rename_i h1 h2; exact ⟨by simpa using h1, by simpa using h2⟩
            refine ⟨by omega, by omega, fun x h => (hx x h).1, fun x h => inR_iff.1 (hx x h).2, ?_, ?_⟩
            · unfold twice at ht; simpa using ht
            · rw [List.any_eq_true] at ha
              obtain ⟨x, h1, h2⟩ := ha
              exact ⟨x, h1, by simpa using h2⟩
          · cases h
  · intro h
    rw [if_neg (by have := h.pos; have := h.le; omega)]
    have : s.symbols.findSome? symFault = none := findSome_none.2 fun x hx => by
      unfold symFault
      rw [if_neg (by simp [h.name x hx]), if_neg (by have := inR_iff.2 (h.arity x hx); simp [this])]
    rw [this]
    simp only
    rw [if_neg (by unfold twice; simpa using h.nodup), if_pos]
    rw [List.any_eq_true]
    obtain ⟨x, h1, h2⟩ := h.const
    exact ⟨x, h1, by simpa using h2⟩
end Ev.Ty
end

section
namespace Ev.Ty
open Go Ev
open Enc (enc)
open Sm (sm)
set_option linter.unusedSimpArgs false
set_option linter.unusedVariables false
def ar (l : List Symbol) (n : Int) : Nat := if n < 0 then 0 else ((l[n.toNat]?).map fun x => x.arity.toNat).getD 0
def nodeOk (l : List Symbol) (n : Int) : Bool := inR n 0 (l.length - 1) || inR n (-12) (-1)
def skip (a : Int → Nat) : Nat → List Int → Option (List Int)
  | 0, l => some l
  | _ + 1, [] => none
  | k + 1, n :: l => skip a (k + a n) l
def termFault0 (l : List Symbol) (t : List Int) : Int :=
  if t.length < 1 ∨ 24 < t.length then 2 else if t.any (fun n => !nodeOk l n) then 3 else if skip (ar l) 1 t = some [] then 0 else 1
def termFault (s : Signature) (t : List Int) : Int := if sigFault s ≠ 0 then sigFault s else termFault0 s.symbols t
section
variable {a : Int → Nat}
@[simp] theorem skip_zero (l : List Int) : skip a 0 l = some l := by cases l <;> rfl
theorem skip_suffix : ∀ {l r : List Int} {k : Nat}, skip a k l = some r → ∃ p, l = p ++ r ∧ (0 < k → 0 < p.length)
  | l, r, 0, h => by rw [skip_zero] at h; cases h; exact ⟨[], rfl, by omega⟩
  | [], r, k + 1, h => by cases h
  | n :: l, r, k + 1, h => by
    obtain ⟨p, hp, _⟩ := skip_suffix (l := l) (k := k + a n) h
    exact ⟨n :: p, by rw [hp]; rfl, by simp⟩
theorem skip_add : ∀ (l : List Int) (j k : Nat), skip a (j + k) l = (skip a j l).bind (skip a k)
  | l, 0, k => by simp
  | [], j + 1, k => by rw [Nat.add_right_comm]; rfl
  | n :: l, j + 1, k => by
    rw [Nat.add_right_comm]
    show skip a (j + k + a n) l = (skip a (j + a n) l).bind (skip a k)
    rw [Nat.add_right_comm, skip_add l (j + a n) k]
theorem skip_at {t r : List Int} {e k : Nat} (h : skip a k (t.drop e) = some r) : r = t.drop (t.length - r.length) ∧ r.length ≤ t.length - e ∧ (0 < k → r.length < t.length - e) := by
  obtain ⟨p, hp, hk⟩ := skip_suffix h
  have hl : (t.drop e).length = p.length + r.length := by rw [hp, List.length_append]
  rw [List.length_drop] at hl
  refine ⟨?_, by omega, fun h0 => by have := hk h0; omega⟩
  have h1 : t.length - r.length = e + p.length ∨ t.length ≤ e := by omega
  rcases h1 with h1 | h1
  · rw [h1, ← List.drop_drop, hp, List.drop_left]
  · have : r.length = 0 := by omega
    rw [List.eq_nil_of_length_eq_zero this]
    simp
end
theorem nodeOk_iff {l : List Symbol} {n : Int} : nodeOk l n = true ↔ (0 ≤ n ∧ n < l.length) ∨ (-12 ≤ n ∧ n ≤ -1) := by
  unfold nodeOk
  rw [Bool.or_eq_true, inR_iff, inR_iff]
  omega
section
variable {l : List Symbol} (ok : SigOk ⟨l⟩)
include ok
theorem ar_le (n : Int) : ar l n ≤ 2 := by
  unfold ar
  split
  · omega
  · cases h : l[n.toNat]? with
    | none => simp
    | some x =>
      have := ok.arity x (List.mem_of_getElem? h)
      simp; omega
theorem impl_isNode (n : Int) : Call F.impl_isNode [.agg [slc l], .int .i64 n] (.bool (nodeOk l n)) := by
  have hle := ok.le
  have h1 : Call F.impl_isSymbol [.agg [slc l], .int .i64 n] (.bool (inR n 0 (l.length - 1))) := by
    refine call_of rfl 0 ((impl_isSymbol.ev _ _ _).trans ?_)
    simp only [Int.ofNat_lt, str_inj, beq_dec, bne_dec, cond_dec, cond_nt, if_true, if_false, decide_true, decide_false, cond_true, cond_false, u8_inj, cells_div, szs, sz_list, inB_nat, Int.toNat_natCast, get0, get1, get2, get3, get4, get5, get6, get7, get8, Nat.reduceLT, bind_of, List.getElem?_cons_zero, List.getElem?_cons_succ, oInt_int, oBool_bool, oStr_str, oSl_slc, oAgg_agg, oTup_tup, oCons_cons, oNil_nil, sl_cells, wrap64 (x := (l.length : Int) - 1) (by simp at hle; omega), (impl_within _ _ _).eq]
  refine call_of rfl 0 ((impl_isNode.ev _ _ _).trans ?_)
  simp only [Int.ofNat_lt, str_inj, beq_dec, bne_dec, cond_dec, cond_nt, if_true, if_false, decide_true, decide_false, cond_true, cond_false, u8_inj, cells_div, szs, sz_list, inB_nat, Int.toNat_natCast, get0, get1, get2, get3, get4, get5, get6, get7, get8, Nat.reduceLT, bind_of, List.getElem?_cons_zero, List.getElem?_cons_succ, oInt_int, oBool_bool, oStr_str, oSl_slc, oAgg_agg, oTup_tup, oCons_cons, oNil_nil, sl_cells, h1.eq, (impl_within _ _ _).eq, nodeOk]
  cases inR n 0 (l.length - 1) <;> simp [Int.ofNat_lt, str_inj, beq_dec, bne_dec, cond_dec, cond_nt, if_true, if_false, decide_true, decide_false, cond_true, cond_false, u8_inj, cells_div, szs, sz_list, inB_nat, Int.toNat_natCast, get0, get1, get2, get3, get4, get5, get6, get7, get8, Nat.reduceLT, bind_of, List.getElem?_cons_zero, List.getElem?_cons_succ, oInt_int, oBool_bool, oStr_str, oSl_slc, oAgg_agg, oTup_tup, oCons_cons, oNil_nil, sl_cells]
theorem spec_l3Node (n : Int) : Call F.spec_l3Node [.rref [slc l] 0, .int .i64 n] (.bool (nodeOk l n)) := by
  have hle := ok.le
  have h1 : Call F.spec_l2Symbol [.rref [slc l] 0, .int .i64 n] (.bool (inR n 0 (l.length - 1))) := by
    refine call_of rfl 0 ((spec_l2Symbol.ev _ _ _).trans ?_)
    simp only [Int.ofNat_lt, str_inj, beq_dec, bne_dec, cond_dec, cond_nt, if_true, if_false, decide_true, decide_false, cond_true, cond_false, u8_inj, cells_div, szs, sz_list, inB_nat, Int.toNat_natCast, get0, get1, get2, get3, get4, get5, get6, get7, get8, Nat.reduceLT, bind_of, List.getElem?_cons_zero, List.getElem?_cons_succ, oInt_int, oBool_bool, oStr_str, oSl_slc, oAgg_agg, oTup_tup, oCons_cons, oNil_nil, sl_cells, wrap64 (x := (l.length : Int) - 1) (by simp at hle; omega), (spec_l1In _ _ _).eq]
  refine call_of rfl 0 ((spec_l3Node.ev _ _ _).trans ?_)
  simp only [Int.ofNat_lt, str_inj, beq_dec, bne_dec, cond_dec, cond_nt, if_true, if_false, decide_true, decide_false, cond_true, cond_false, u8_inj, cells_div, szs, sz_list, inB_nat, Int.toNat_natCast, get0, get1, get2, get3, get4, get5, get6, get7, get8, Nat.reduceLT, bind_of, List.getElem?_cons_zero, List.getElem?_cons_succ, oInt_int, oBool_bool, oStr_str, oSl_slc, oAgg_agg, oTup_tup, oCons_cons, oNil_nil, sl_cells, h1.eq, (spec_l1In _ _ _).eq, nodeOk]
  cases inR n 0 (l.length - 1) <;> simp [Int.ofNat_lt, str_inj, beq_dec, bne_dec, cond_dec, cond_nt, if_true, if_false, decide_true, decide_false, cond_true, cond_false, u8_inj, cells_div, szs, sz_list, inB_nat, Int.toNat_natCast, get0, get1, get2, get3, get4, get5, get6, get7, get8, Nat.reduceLT, bind_of, List.getElem?_cons_zero, List.getElem?_cons_succ, oInt_int, oBool_bool, oStr_str, oSl_slc, oAgg_agg, oTup_tup, oCons_cons, oNil_nil, sl_cells]
theorem ar_eq {n : Int} (hn : 0 ≤ n) (h : n.toNat < l.length) : (l[n.toNat]).arity = (ar l n : Nat) := by
  have := ok.arity l[n.toNat] (List.getElem_mem h)
  unfold ar
  rw [if_neg (by omega), List.getElem?_eq_getElem h]
  simp; omega
theorem impl_arityOf (n : Int) (h : nodeOk l n = true) : Call F.impl_arityOf [.agg [slc l], .int .i64 n] (.int .i64 (ar l n : Nat)) := by
  refine call_of rfl 0 ((impl_arityOf.ev _ _ _).trans ?_)
  rw [nodeOk_iff] at h
  by_cases hn : n < 0
  · simp [hn, ar]
  · obtain ⟨m, rfl⟩ : ∃ m : Nat, n = m := ⟨n.toNat, by omega⟩
    have hm : m < l.length := by omega
    have e := ar_eq ok (n := m) (by omega) (by simpa using hm)
    have hl : l[m]? = some l[m] := List.getElem?_eq_getElem hm
    have hn' : ¬ ((m : Int) < 0) := by omega
    simp only [Int.ofNat_lt, str_inj, beq_dec, bne_dec, cond_dec, cond_nt, if_true, if_false, decide_true, decide_false, cond_true, cond_false, u8_inj, cells_div, szs, sz_list, inB_nat, Int.toNat_natCast, get0, get1, get2, get3, get4, get5, get6, get7, get8, Nat.reduceLT, bind_of, List.getElem?_cons_zero, List.getElem?_cons_succ, oInt_int, oBool_bool, oStr_str, oSl_slc, oAgg_agg, oTup_tup, oCons_cons, oNil_nil, sl_cells, hn', hm, hl, enc_Symbol]
    simp at e
    rw [e]
def endRes (none' : Int) (t : List Int) (r : Option (List Int)) : Int := match r with
  | some r => ((t.length - r.length : Nat) : Int)
  | none => none'
theorem impl_endOf (t : List Int) (ht : ∀ n ∈ t, nodeOk l n = true) (hl : t.length ≤ 4294967296) (e : Nat) (he : e ≤ t.length) :
    Call F.impl_endOf [.agg [slc l], slc t, .int .i64 e] (.int .i64 (endRes (t.length + 1) t (skip (ar l) 1 (t.drop e)))) := by
  have loop : ∀ m k o, k ≤ t.length → t.length + 1 < m + k → o ≤ 2 * k + 1 →
      impl_endOf.at0 (t.length + 2) m (impl_endOf.st0 (cells t) (k : Nat) (o : Nat) (cells l)) = some (.int .i64 (endRes (t.length + 1) t (skip (ar l) o (t.drop k))), []) := by
    intro m
    induction m with
    | zero => intros; omega
    | succ m ih =>
      intro k o hk hm ho
      simp only [impl_endOf.next0, impl_endOf.round0, Int.ofNat_lt, str_inj, beq_dec, bne_dec, cond_dec, cond_nt, if_true, if_false, decide_true, decide_false, cond_true, cond_false, u8_inj, cells_div, szs, sz_list, inB_nat, Int.toNat_natCast, get0, get1, get2, get3, get4, get5, get6, get7, get8, Nat.reduceLT, bind_of, List.getElem?_cons_zero, List.getElem?_cons_succ, oInt_int, oBool_bool, oStr_str, oSl_slc, oAgg_agg, oTup_tup, oCons_cons, oNil_nil, sl_cells, gt_iff_lt, ge_iff_le]
      cases o with
      | zero =>
        rw [if_neg (by omega), skip_zero]
        simp only [endRes, List.length_drop]
        congr 3; omega
      | succ o =>
        rw [if_pos (by omega)]
        by_cases h : k < t.length
        · have hk' : t[k]? = some t[k] := List.getElem?_eq_getElem h
          have hn := ht t[k] (List.getElem_mem h)
          have h2 := ar_le ok t[k]
          rw [if_neg (by omega)]
          simp only [h, hk', Int.ofNat_lt, str_inj, beq_dec, bne_dec, cond_dec, cond_nt, if_true, if_false, decide_true, decide_false, cond_true, cond_false, u8_inj, cells_div, szs, sz_list, inB_nat, Int.toNat_natCast, get0, get1, get2, get3, get4, get5, get6, get7, get8, Nat.reduceLT, bind_of, List.getElem?_cons_zero, List.getElem?_cons_succ, oInt_int, oBool_bool, oStr_str, oSl_slc, oAgg_agg, oTup_tup, oCons_cons, oNil_nil, sl_cells, enc_int, (impl_arityOf ok t[k] hn).eq]
          rw [wrap_succ (by omega), wrap64 (x := ((ar l t[k] : Nat) : Int) - 1) (by omega), wrap64 (by omega)]
          rw [show ((o + 1 : Nat) : Int) + (((ar l t[k] : Nat) : Int) - 1) = ((o + ar l t[k] : Nat) : Int) by omega]
          rw [ih (k + 1) (o + ar l t[k]) (by omega) (by omega) (by omega), List.drop_eq_getElem_cons h]
          rfl
        · obtain rfl : k = t.length := by omega
          rw [if_pos (by omega), wrap64 (by omega), List.drop_of_length_le (Nat.le_refl _)]
          rfl
  refine call_of rfl (t.length + 2) ((impl_endOf.ev _ _ _ _).trans ?_)
  have := loop (t.length + 2) e 1 he (by omega) (by omega)
  exact this
theorem spec_l3End (t : List Int) (ht : ∀ n ∈ t, nodeOk l n = true) (hl : t.length ≤ 4294967296) (e : Nat) (he : e ≤ t.length) :
    Call F.spec_l3End [.rref [slc l] 0, slc t, .int .i64 e] (.int .i64 (endRes (-1) t (skip (ar l) 1 (t.drop e)))) := by
  obtain ⟨d, hd⟩ : ∃ d, d = t.length - e := ⟨_, rfl⟩
  induction d using Nat.strongRecOn generalizing e with
  | ind d ih =>
  refine call_of rfl 4 ((spec_l3End.ev _ _ _ _).trans ?_)
  simp only [Int.ofNat_lt, str_inj, beq_dec, bne_dec, cond_dec, cond_nt, if_true, if_false, decide_true, decide_false, cond_true, cond_false, u8_inj, cells_div, szs, sz_list, inB_nat, Int.toNat_natCast, get0, get1, get2, get3, get4, get5, get6, get7, get8, Nat.reduceLT, bind_of, List.getElem?_cons_zero, List.getElem?_cons_succ, oInt_int, oBool_bool, oStr_str, oSl_slc, oAgg_agg, oTup_tup, oCons_cons, oNil_nil, sl_cells, ge_iff_le]
  by_cases h : e < t.length
  case neg =>
    obtain rfl : e = t.length := by omega
    rw [if_pos (by omega), List.drop_of_length_le (Nat.le_refl _)]
    rfl
  have hk' : t[e]? = some t[e] := List.getElem?_eq_getElem h
  have hn := ht t[e] (List.getElem_mem h)
  have h2 := ar_le ok t[e]
  rw [if_neg (by omega)]
  simp only [h, hk', Int.ofNat_lt, str_inj, beq_dec, bne_dec, cond_dec, cond_nt, if_true, if_false, decide_true, decide_false, cond_true, cond_false, u8_inj, cells_div, szs, sz_list, inB_nat, Int.toNat_natCast, get0, get1, get2, get3, get4, get5, get6, get7, get8, Nat.reduceLT, bind_of, List.getElem?_cons_zero, List.getElem?_cons_succ, oInt_int, oBool_bool, oStr_str, oSl_slc, oAgg_agg, oTup_tup, oCons_cons, oNil_nil, sl_cells, enc_int]
  rw [List.drop_eq_getElem_cons h]
  show _ = some (T.int .i64 (endRes (-1) t (skip (ar l) (0 + ar l t[e]) (t.drop (e + 1)))), [])
  rw [Nat.zero_add, wrap_succ (by omega)]
  by_cases hneg : t[e] < 0
  · rw [if_pos hneg]
    have : ar l t[e] = 0 := by unfold ar; rw [if_pos hneg]
    rw [this, skip_zero]
    simp only [endRes, List.length_drop]
    congr 3; omega
  rw [if_neg hneg]
  rw [nodeOk_iff] at hn
  obtain ⟨y, hy⟩ : ∃ y : Nat, t[e] = y := ⟨t[e].toNat, by omega⟩
  have hym : y < l.length := by omega
  have hyl : l[y]? = some l[y] := List.getElem?_eq_getElem hym
  have hya : l[y].arity = (ar l t[e] : Nat) := by
    have := ar_eq ok (n := t[e]) (by omega) (by omega)
    simpa [hy] using this
  have loop : ∀ m i k, e < k → k ≤ t.length → i ≤ ar l t[e] → ar l t[e] < m + i →
      spec_l3End.at0 4 m (spec_l3End.st0 (cells l) (cells t) e (k : Nat) (i : Nat)) = some (.int .i64 (endRes (-1) t (skip (ar l) (ar l t[e] - i) (t.drop k))), []) := by
    intro m
    induction m with
    | zero => intros; omega
    | succ m ihm =>
      intro i k hk1 hk2 hi hm
      simp only [spec_l3End.next0, spec_l3End.round0, Int.ofNat_lt, str_inj, beq_dec, bne_dec, cond_dec, cond_nt, if_true, if_false, decide_true, decide_false, cond_true, cond_false, u8_inj, cells_div, szs, sz_list, inB_nat, Int.toNat_natCast, get0, get1, get2, get3, get4, get5, get6, get7, get8, Nat.reduceLT, bind_of, List.getElem?_cons_zero, List.getElem?_cons_succ, oInt_int, oBool_bool, oStr_str, oSl_slc, oAgg_agg, oTup_tup, oCons_cons, oNil_nil, sl_cells, h, hk', enc_int]
      simp only [hy, Int.ofNat_lt, str_inj, beq_dec, bne_dec, cond_dec, cond_nt, if_true, if_false, decide_true, decide_false, cond_true, cond_false, u8_inj, cells_div, szs, sz_list, inB_nat, Int.toNat_natCast, get0, get1, get2, get3, get4, get5, get6, get7, get8, Nat.reduceLT, bind_of, List.getElem?_cons_zero, List.getElem?_cons_succ, oInt_int, oBool_bool, oStr_str, oSl_slc, oAgg_agg, oTup_tup, oCons_cons, oNil_nil, sl_cells, hym, hyl, enc_Symbol, hya]
      by_cases hia : i < ar l t[e]
      · rw [hy] at hia
        rw [if_pos hia, (ih (t.length - k) (by omega) k hk2 rfl).eq]
        simp only [Int.ofNat_lt, str_inj, beq_dec, bne_dec, cond_dec, cond_nt, if_true, if_false, decide_true, decide_false, cond_true, cond_false, u8_inj, cells_div, szs, sz_list, inB_nat, Int.toNat_natCast, get0, get1, get2, get3, get4, get5, get6, get7, get8, Nat.reduceLT, bind_of, List.getElem?_cons_zero, List.getElem?_cons_succ, oInt_int, oBool_bool, oStr_str, oSl_slc, oAgg_agg, oTup_tup, oCons_cons, oNil_nil, sl_cells]
        rw [← hy] at hia
        rw [show ar l ((y : Nat) : Int) - i = 1 + (ar l t[e] - (i + 1)) by rw [hy]; rw [hy] at hia; omega, skip_add]
        cases hs : skip (ar l) 1 (t.drop k) with
        | none => rfl
        | some r =>
          obtain ⟨hr1, hr2, hr3⟩ := skip_at hs
          have hr4 := hr3 (by omega)
          have hnn : ¬ endRes (-1) t (some r) < 0 := by show ¬ ((t.length - r.length : Nat) : Int) < 0; omega
          rw [if_neg hnn, wrap_succ (by omega), show endRes (-1) t (some r) = ((t.length - r.length : Nat) : Int) from rfl, ihm (i + 1) (t.length - r.length) (by omega) (by omega) (by omega) (by omega), ← hr1]
          rfl
      · have : i = ar l t[e] := by omega
        rw [if_neg (by rw [← hy]; exact hia), show ar l ((y : Nat) : Int) - i = 0 by rw [← hy]; omega, skip_zero]
        simp only [endRes, List.length_drop]
        congr 3; omega
  have := loop 4 0 (e + 1) (by omega) (by omega) (by omega) (by omega)
  exact this
end
theorem any_nodes {l : List Symbol} {t : List Int} : (t.any fun n => !nodeOk l n) = false ↔ ∀ n ∈ t, nodeOk l n = true := by
  rw [List.any_eq_false]; simp
theorem skip_whole {a : Int → Nat} {t : List Int} : (endRes (t.length + 1) t (skip a 1 t) = t.length ↔ skip a 1 t = some []) ∧ (endRes (-1) t (skip a 1 t) = t.length ↔ skip a 1 t = some []) := by
  cases h : skip a 1 t with
  | none => simp [endRes]; omega
  | some r =>
    obtain ⟨p, hp, _⟩ := skip_suffix h
    have : r.length ≤ t.length := by rw [hp]; simp
    cases r with
    | nil => simp [endRes]
    | cons x r =>
      simp only [List.length_cons] at this
      refine ⟨⟨fun h => ?_, fun h => by cases h⟩, ⟨fun h => ?_, fun h => by cases h⟩⟩ <;> (simp only [endRes, List.length_cons] at h; omega)
theorem slices_ContainsFunc_Sint64_at1_impl_TermFault_1 (l : List Symbol) (ok : SigOk ⟨l⟩) (t : List Int) (hs : t.length ≤ 4294967296) :
    Call F.slices_ContainsFunc_Sint64 [slc t, .clo F.impl_TermFault_1 [.rref [slc l] 0]] (.bool (t.any fun n => !nodeOk l n)) := by
  have hi : Call F.slices_IndexFunc_Sint64 [slc t, .clo F.impl_TermFault_1 [.rref [slc l] 0]] (.int .i64 (idx (fun n => !nodeOk l n) t)) := by
    refine call_of rfl (t.length + 1) ((slices_IndexFunc_Sint64_at1_impl_TermFault_1.ev _ _ _).trans ?_)
    refine idx_loop (S := fun m k => slices_IndexFunc_Sint64_at1_impl_TermFault_1.at0 (t.length + 1) m (slices_IndexFunc_Sint64_at1_impl_TermFault_1.st0 (cells t) _ _ (k : Nat))) (fun m k h => ?_) (fun m => ?_) (Nat.lt_succ_self _)
    · have hlk : t[k]? = some t[k] := List.getElem?_eq_getElem h
      have hc : Call F.impl_TermFault_1 [.int .i64 t[k], .rref [slc l] 0] (.bool (!nodeOk l t[k])) := by
        refine call_of rfl 0 ((impl_TermFault_1.ev _ _ _).trans ?_)
        simp only [Int.ofNat_lt, str_inj, beq_dec, bne_dec, cond_dec, cond_nt, if_true, if_false, decide_true, decide_false, cond_true, cond_false, u8_inj, cells_div, szs, sz_list, inB_nat, Int.toNat_natCast, get0, get1, get2, get3, get4, get5, get6, get7, get8, Nat.reduceLT, bind_of, List.getElem?_cons_zero, List.getElem?_cons_succ, oInt_int, oBool_bool, oStr_str, oSl_slc, oAgg_agg, oTup_tup, oCons_cons, oNil_nil, sl_cells, (impl_isNode ok _).eq]
      simp only [slices_IndexFunc_Sint64_at1_impl_TermFault_1.next0, slices_IndexFunc_Sint64_at1_impl_TermFault_1.round0, Int.ofNat_lt, str_inj, beq_dec, bne_dec, cond_dec, cond_nt, if_true, if_false, decide_true, decide_false, cond_true, cond_false, u8_inj, cells_div, szs, sz_list, inB_nat, Int.toNat_natCast, get0, get1, get2, get3, get4, get5, get6, get7, get8, Nat.reduceLT, bind_of, List.getElem?_cons_zero, List.getElem?_cons_succ, oInt_int, oBool_bool, oStr_str, oSl_slc, oAgg_agg, oTup_tup, oCons_cons, oNil_nil, sl_cells, h, hlk, enc_int, hc.eq]
      rw [wrap_succ (by omega)]
      cases nodeOk l t[k] <;> rfl
    · simp only [slices_IndexFunc_Sint64_at1_impl_TermFault_1.next0, slices_IndexFunc_Sint64_at1_impl_TermFault_1.round0, Int.ofNat_lt, str_inj, beq_dec, bne_dec, cond_dec, cond_nt, if_true, if_false, decide_true, decide_false, cond_true, cond_false, u8_inj, cells_div, szs, sz_list, inB_nat, Int.toNat_natCast, get0, get1, get2, get3, get4, get5, get6, get7, get8, Nat.reduceLT, bind_of, List.getElem?_cons_zero, List.getElem?_cons_succ, oInt_int, oBool_bool, oStr_str, oSl_slc, oAgg_agg, oTup_tup, oCons_cons, oNil_nil, sl_cells, Nat.lt_irrefl]
  refine call_of rfl 0 ((slices_ContainsFunc_Sint64_at1_impl_TermFault_1.ev _ _ _).trans ?_)
  simp only [Int.ofNat_lt, str_inj, beq_dec, bne_dec, cond_dec, cond_nt, if_true, if_false, decide_true, decide_false, cond_true, cond_false, u8_inj, cells_div, szs, sz_list, inB_nat, Int.toNat_natCast, get0, get1, get2, get3, get4, get5, get6, get7, get8, Nat.reduceLT, bind_of, List.getElem?_cons_zero, List.getElem?_cons_succ, oInt_int, oBool_bool, oStr_str, oSl_slc, oAgg_agg, oTup_tup, oCons_cons, oNil_nil, sl_cells, hi.eq, idx_nonneg]
theorem impl_TermFault (l : List Symbol) (hs : l.length ≤ 4294967296) (t : List Int) (ht : t.length ≤ 4294967296) : Call F.impl_TermFault [.agg [slc l], slc t] (.int .i64 (termFault ⟨l⟩ t)) := by
  refine call_of rfl 0 ((impl_TermFault.ev _ _ _).trans ?_)
  simp only [Int.ofNat_lt, str_inj, beq_dec, bne_dec, cond_dec, cond_nt, if_true, if_false, decide_true, decide_false, cond_true, cond_false, u8_inj, cells_div, szs, sz_list, inB_nat, Int.toNat_natCast, get0, get1, get2, get3, get4, get5, get6, get7, get8, Nat.reduceLT, bind_of, List.getElem?_cons_zero, List.getElem?_cons_succ, oInt_int, oBool_bool, oStr_str, oSl_slc, oAgg_agg, oTup_tup, oCons_cons, oNil_nil, sl_cells, (impl_SignatureFault l hs).eq, termFault, termFault0, gt_iff_lt]
  by_cases h1 : sigFault ⟨l⟩ = 0
  case neg => simp only [h1, Int.ofNat_lt, str_inj, beq_dec, bne_dec, cond_dec, cond_nt, if_true, if_false, decide_true, decide_false, cond_true, cond_false, u8_inj, cells_div, szs, sz_list, inB_nat, Int.toNat_natCast, get0, get1, get2, get3, get4, get5, get6, get7, get8, Nat.reduceLT, bind_of, List.getElem?_cons_zero, List.getElem?_cons_succ, oInt_int, oBool_bool, oStr_str, oSl_slc, oAgg_agg, oTup_tup, oCons_cons, oNil_nil, sl_cells, ne_eq, not_false_eq_true]
  have ok := (sigOk_iff _).1 h1
  simp only [h1, Int.ofNat_lt, str_inj, beq_dec, bne_dec, cond_dec, cond_nt, if_true, if_false, decide_true, decide_false, cond_true, cond_false, u8_inj, cells_div, szs, sz_list, inB_nat, Int.toNat_natCast, get0, get1, get2, get3, get4, get5, get6, get7, get8, Nat.reduceLT, bind_of, List.getElem?_cons_zero, List.getElem?_cons_succ, oInt_int, oBool_bool, oStr_str, oSl_slc, oAgg_agg, oTup_tup, oCons_cons, oNil_nil, sl_cells, ne_eq, not_true_eq_false]
  by_cases h2 : t.length < 1
  · have h2' : (t.length : Int) < 1 := by omega
    simp only [h2, h2', Int.ofNat_lt, str_inj, beq_dec, bne_dec, cond_dec, cond_nt, if_true, if_false, decide_true, decide_false, cond_true, cond_false, u8_inj, cells_div, szs, sz_list, inB_nat, Int.toNat_natCast, get0, get1, get2, get3, get4, get5, get6, get7, get8, Nat.reduceLT, bind_of, List.getElem?_cons_zero, List.getElem?_cons_succ, oInt_int, oBool_bool, oStr_str, oSl_slc, oAgg_agg, oTup_tup, oCons_cons, oNil_nil, sl_cells, true_or]
  by_cases h3 : 24 < t.length
  · have h2' : ¬ (t.length : Int) < 1 := by omega
    have h3' : (24 : Int) < t.length := by omega
    simp only [h2, h2', h3, h3', Int.ofNat_lt, str_inj, beq_dec, bne_dec, cond_dec, cond_nt, if_true, if_false, decide_true, decide_false, cond_true, cond_false, u8_inj, cells_div, szs, sz_list, inB_nat, Int.toNat_natCast, get0, get1, get2, get3, get4, get5, get6, get7, get8, Nat.reduceLT, bind_of, List.getElem?_cons_zero, List.getElem?_cons_succ, oInt_int, oBool_bool, oStr_str, oSl_slc, oAgg_agg, oTup_tup, oCons_cons, oNil_nil, sl_cells, or_true]
  have h2' : ¬ (t.length : Int) < 1 := by omega
  have h3' : ¬ (24 : Int) < t.length := by omega
  simp only [h2, h2', h3, h3', Int.ofNat_lt, str_inj, beq_dec, bne_dec, cond_dec, cond_nt, if_true, if_false, decide_true, decide_false, cond_true, cond_false, u8_inj, cells_div, szs, sz_list, inB_nat, Int.toNat_natCast, get0, get1, get2, get3, get4, get5, get6, get7, get8, Nat.reduceLT, bind_of, List.getElem?_cons_zero, List.getElem?_cons_succ, oInt_int, oBool_bool, oStr_str, oSl_slc, oAgg_agg, oTup_tup, oCons_cons, oNil_nil, sl_cells, or_self, (slices_ContainsFunc_Sint64_at1_impl_TermFault_1 l ok t ht).eq]
  cases h4 : t.any fun n => !nodeOk l n with
  | true => simp only [Int.ofNat_lt, str_inj, beq_dec, bne_dec, cond_dec, cond_nt, if_true, if_false, decide_true, decide_false, cond_true, cond_false, u8_inj, cells_div, szs, sz_list, inB_nat, Int.toNat_natCast, get0, get1, get2, get3, get4, get5, get6, get7, get8, Nat.reduceLT, bind_of, List.getElem?_cons_zero, List.getElem?_cons_succ, oInt_int, oBool_bool, oStr_str, oSl_slc, oAgg_agg, oTup_tup, oCons_cons, oNil_nil, sl_cells]
  | false =>
    have hn := any_nodes.1 h4
    have he := impl_endOf ok t hn ht 0 (by omega)
    simp only [Int.ofNat_lt, str_inj, beq_dec, bne_dec, cond_dec, cond_nt, if_true, if_false, decide_true, decide_false, cond_true, cond_false, u8_inj, cells_div, szs, sz_list, inB_nat, Int.toNat_natCast, get0, get1, get2, get3, get4, get5, get6, get7, get8, Nat.reduceLT, bind_of, List.getElem?_cons_zero, List.getElem?_cons_succ, oInt_int, oBool_bool, oStr_str, oSl_slc, oAgg_agg, oTup_tup, oCons_cons, oNil_nil, sl_cells, Bool.false_eq_true, show LIM F.impl_endOf [.agg [slc l], slc t, .int .i64 0] = _ from he, List.drop_zero]
    by_cases h5 : skip (ar l) 1 t = some []
    · rw [if_pos (skip_whole.1.2 h5), if_pos h5]
    · rw [if_neg fun h => h5 (skip_whole.1.1 h), if_neg h5]
theorem spec_l3Fault (l : List Symbol) (ok : SigOk ⟨l⟩) (t : List Int) (ht : t.length ≤ 4294967296) : Call F.spec_l3Fault [.rref [slc l] 0, slc t] (.int .i64 (termFault0 l t)) := by
  refine call_of rfl (t.length + 1) ((spec_l3Fault.ev _ _ _).trans ?_)
  simp only [Int.ofNat_lt, str_inj, beq_dec, bne_dec, cond_dec, cond_nt, if_true, if_false, decide_true, decide_false, cond_true, cond_false, u8_inj, cells_div, szs, sz_list, inB_nat, Int.toNat_natCast, get0, get1, get2, get3, get4, get5, get6, get7, get8, Nat.reduceLT, bind_of, List.getElem?_cons_zero, List.getElem?_cons_succ, oInt_int, oBool_bool, oStr_str, oSl_slc, oAgg_agg, oTup_tup, oCons_cons, oNil_nil, sl_cells, termFault0, gt_iff_lt]
  by_cases h2 : t.length < 1
  · have h2' : (t.length : Int) < 1 := by omega
    simp only [h2, h2', Int.ofNat_lt, str_inj, beq_dec, bne_dec, cond_dec, cond_nt, if_true, if_false, decide_true, decide_false, cond_true, cond_false, u8_inj, cells_div, szs, sz_list, inB_nat, Int.toNat_natCast, get0, get1, get2, get3, get4, get5, get6, get7, get8, Nat.reduceLT, bind_of, List.getElem?_cons_zero, List.getElem?_cons_succ, oInt_int, oBool_bool, oStr_str, oSl_slc, oAgg_agg, oTup_tup, oCons_cons, oNil_nil, sl_cells, true_or]
  by_cases h3 : 24 < t.length
  · have h2' : ¬ (t.length : Int) < 1 := by omega
    have h3' : (24 : Int) < t.length := by omega
    simp only [h2, h2', h3, h3', Int.ofNat_lt, str_inj, beq_dec, bne_dec, cond_dec, cond_nt, if_true, if_false, decide_true, decide_false, cond_true, cond_false, u8_inj, cells_div, szs, sz_list, inB_nat, Int.toNat_natCast, get0, get1, get2, get3, get4, get5, get6, get7, get8, Nat.reduceLT, bind_of, List.getElem?_cons_zero, List.getElem?_cons_succ, oInt_int, oBool_bool, oStr_str, oSl_slc, oAgg_agg, oTup_tup, oCons_cons, oNil_nil, sl_cells, or_true]
  have h2' : ¬ (t.length : Int) < 1 := by omega
  have h3' : ¬ (24 : Int) < t.length := by omega
  simp only [h2, h2', h3, h3', Int.ofNat_lt, str_inj, beq_dec, bne_dec, cond_dec, cond_nt, if_true, if_false, decide_true, decide_false, cond_true, cond_false, u8_inj, cells_div, szs, sz_list, inB_nat, Int.toNat_natCast, get0, get1, get2, get3, get4, get5, get6, get7, get8, Nat.reduceLT, bind_of, List.getElem?_cons_zero, List.getElem?_cons_succ, oInt_int, oBool_bool, oStr_str, oSl_slc, oAgg_agg, oTup_tup, oCons_cons, oNil_nil, sl_cells, or_self]
  have step : ∀ m k (h : k < t.length), spec_l3Fault.at0 (t.length + 1) (m + 1) (spec_l3Fault.st0 (cells l) (cells t) (k : Nat)) =
      if (fun n => !nodeOk l n) t[k] = true then some (.int .i64 3, []) else spec_l3Fault.at0 (t.length + 1) m (spec_l3Fault.st0 (cells l) (cells t) ((k + 1 : Nat) : Int)) := fun m k h => by
    have hlk : t[k]? = some t[k] := List.getElem?_eq_getElem h
    simp only [spec_l3Fault.next0, spec_l3Fault.round0, Int.ofNat_lt, str_inj, beq_dec, bne_dec, cond_dec, cond_nt, if_true, if_false, decide_true, decide_false, cond_true, cond_false, u8_inj, cells_div, szs, sz_list, inB_nat, Int.toNat_natCast, get0, get1, get2, get3, get4, get5, get6, get7, get8, Nat.reduceLT, bind_of, List.getElem?_cons_zero, List.getElem?_cons_succ, oInt_int, oBool_bool, oStr_str, oSl_slc, oAgg_agg, oTup_tup, oCons_cons, oNil_nil, sl_cells, h, hlk, enc_int, (spec_l3Node ok _).eq]
    rw [wrap_succ (by omega)]
    by_cases hb : nodeOk l t[k] = true <;> simp [hb]
  cases h4 : t.any fun n => !nodeOk l n with
  | true =>
    refine (hit_loop (p := fun n => !nodeOk l n) (r := some (.int .i64 3, [])) (S := fun m k => spec_l3Fault.at0 (t.length + 1) m (spec_l3Fault.st0 (cells l) (cells t) (k : Nat))) step h4 (Nat.lt_succ_self _)).trans ?_
    simp only [Int.ofNat_lt, str_inj, beq_dec, bne_dec, cond_dec, cond_nt, if_true, if_false, decide_true, decide_false, cond_true, cond_false, u8_inj, cells_div, szs, sz_list, inB_nat, Int.toNat_natCast, get0, get1, get2, get3, get4, get5, get6, get7, get8, Nat.reduceLT, bind_of, List.getElem?_cons_zero, List.getElem?_cons_succ, oInt_int, oBool_bool, oStr_str, oSl_slc, oAgg_agg, oTup_tup, oCons_cons, oNil_nil, sl_cells]
  | false =>
    have hn := any_nodes.1 h4
    have he := spec_l3End ok t hn ht 0 (by omega)
    refine (any_loopL (p := fun n => !nodeOk l n) (r := some (.int .i64 3, [])) (S := fun m k => spec_l3Fault.at0 (t.length + 1) m (spec_l3Fault.st0 (cells l) (cells t) (k : Nat))) (z := if skip (ar l) 1 t = some [] then some (.int .i64 0, []) else some (.int .i64 1, [])) step (fun m => ?_) (Nat.lt_succ_self _)).trans ?_
    · simp only [spec_l3Fault.next0, spec_l3Fault.round0, Int.ofNat_lt, str_inj, beq_dec, bne_dec, cond_dec, cond_nt, if_true, if_false, decide_true, decide_false, cond_true, cond_false, u8_inj, cells_div, szs, sz_list, inB_nat, Int.toNat_natCast, get0, get1, get2, get3, get4, get5, get6, get7, get8, Nat.reduceLT, bind_of, List.getElem?_cons_zero, List.getElem?_cons_succ, oInt_int, oBool_bool, oStr_str, oSl_slc, oAgg_agg, oTup_tup, oCons_cons, oNil_nil, sl_cells, Nat.lt_irrefl, show LIM F.spec_l3End [.rref [slc l] 0, slc t, .int .i64 0] = _ from he, List.drop_zero]
      by_cases h5 : skip (ar l) 1 t = some []
      · rw [if_pos (skip_whole.2.2 h5), if_pos h5]
      · rw [if_neg fun h => h5 (skip_whole.2.1 h), if_neg h5]
    · rw [h4]
      simp only [Int.ofNat_lt, str_inj, beq_dec, bne_dec, cond_dec, cond_nt, if_true, if_false, decide_true, decide_false, cond_true, cond_false, u8_inj, cells_div, szs, sz_list, inB_nat, Int.toNat_natCast, get0, get1, get2, get3, get4, get5, get6, get7, get8, Nat.reduceLT, bind_of, List.getElem?_cons_zero, List.getElem?_cons_succ, oInt_int, oBool_bool, oStr_str, oSl_slc, oAgg_agg, oTup_tup, oCons_cons, oNil_nil, sl_cells, Bool.false_eq_true]
      by_cases h5 : skip (ar l) 1 t = some [] <;> simp only [h5, if_true, if_false]
end Ev.Ty
end

section
namespace Ev.Ty
open Go Ev
set_option linter.unusedSimpArgs false
set_option linter.unusedVariables false
inductive Tm where
  | v (n : Int)
  | k (n : Int)
  | u (n : Int) (x : Tm)
  | b (n : Int) (x y : Tm)
  deriving DecidableEq
namespace Tm
def flat : Tm → List Int
  | v n => [n]
  | k n => [n]
  | u n x => n :: x.flat
  | b n x y => n :: (x.flat ++ y.flat)
def ok (a : Int → Nat) : Tm → Prop
  | v n => n < 0
  | k n => 0 ≤ n ∧ a n = 0
  | u n x => 0 ≤ n ∧ a n = 1 ∧ x.ok a
  | b n x y => 0 ≤ n ∧ a n = 2 ∧ x.ok a ∧ y.ok a
variable {a : Int → Nat}
end Tm
structure TermOk (l : List Symbol) (t : List Int) : Prop where
  pos : 1 ≤ t.length
  le : t.length ≤ 24
  node : ∀ n ∈ t, nodeOk l n = true
  skip : skip (ar l) 1 t = some []
theorem termOk_iff (l : List Symbol) (t : List Int) : termFault0 l t = 0 ↔ TermOk l t := by
  unfold termFault0
  constructor
  · intro h
    split at h
    · cases h
    · split at h
      · cases h
      · rename_i h1 h2
        split at h
        · rename_i h3
          exact ⟨by omega, by omega, any_nodes.1 (by simpa using h2), h3⟩
        · cases h
  · intro h
    have := h.pos; have := h.le
    rw [if_neg (by omega), if_neg (by rw [any_nodes.2 h.node]; simp), if_pos h.skip]
end Ev.Ty
end

section
namespace Ev.Ty
open Go Ev
open Enc (enc)
open Sm (sm)
set_option linter.unusedSimpArgs false
set_option linter.unusedVariables false
structure AlgOk (l : List Symbol) (z : Int) (tb : List (List Int)) : Prop where
  sig : SigOk ⟨l⟩
  size : 1 ≤ z ∧ z ≤ 3
  len : tb.length = l.length
  rows : ∀ (k : Nat) (h : k < l.length) (h' : k < tb.length), tb[k].length = z.toNat ^ (l[k]).arity.toNat ∧ ∀ n ∈ tb[k], 0 ≤ n ∧ n ≤ z - 1
def Tm.eval (z : Int) (tb : List (List Int)) (vs : List Int) : Tm → Int
  | v n => vs.getD (-1 - n).toNat 0
  | k n => (tb.getD n.toNat []).getD 0 0
  | u n x => (tb.getD n.toNat []).getD (x.eval z tb vs).toNat 0
  | b n x y => (tb.getD n.toNat []).getD (x.eval z tb vs * z + y.eval z tb vs).toNat 0
section
variable {l : List Symbol} {z : Int} {tb : List (List Int)} (al : AlgOk l z tb) {vs : List Int} (hv : vs.length = 6) (hr : ∀ n ∈ vs, 0 ≤ n ∧ n ≤ z - 1)
include al
include hv hr
end
end Ev.Ty
end

section
namespace Ev.Ty
open Go Ev
open Enc (enc)
open Sm (sm)
set_option linter.unusedSimpArgs false
set_option linter.unusedVariables false
theorem getD_of {α : Type} {v : List α} {i : Nat} {d : α} (h : i < v.length) : v.getD i d = v[i] := by simp [h]
section
variable {l : List Symbol} {z : Int} {tb : List (List Int)} (al : AlgOk l z tb) {vs : List Int} (hv : vs.length = 6) (hr : ∀ n ∈ vs, 0 ≤ n ∧ n ≤ z - 1)
include al hv hr
end
end Ev.Ty
end

section
namespace Ev.Ty
open Go Ev
open Enc (enc)
open Sm (sm)
set_option linter.unusedSimpArgs false
set_option linter.unusedVariables false
theorem cmp_Or_int64 (l : List Int) (hl : l.length ≤ 4294967296) : Call F.cmp_Or_int64 [slc l] (.int .i64 ((l.find? fun n => decide (n ≠ 0)).getD 0)) := by
  refine call_of rfl (l.length + 1) ((cmp_Or_int64.ev _ _).trans ?_)
  have := scan_loop (l := l) (g := fun n => if n ≠ 0 then some (some (.int .i64 n, [])) else none) (z := some (.int .i64 0, [])) (S := fun m k => cmp_Or_int64.at0 (l.length + 1) m (cmp_Or_int64.st0 0 (cells l) l.length (k : Nat)))
    (fun m k h => by
      have hlk : l[k]? = some l[k] := List.getElem?_eq_getElem h
      simp only [cmp_Or_int64.next0, cmp_Or_int64.round0, Int.ofNat_lt, str_inj, beq_dec, bne_dec, cond_dec, cond_nt, if_true, if_false, decide_true, decide_false, cond_true, cond_false, u8_inj, cells_div, szs, sz_list, inB_nat, Int.toNat_natCast, get0, get1, get2, get3, get4, get5, get6, get7, get8, Nat.reduceLT, bind_of, List.getElem?_cons_zero, List.getElem?_cons_succ, oInt_int, oBool_bool, oStr_str, oSl_slc, oAgg_agg, oTup_tup, oCons_cons, oNil_nil, sl_cells, h, hlk, enc_int]
      rw [wrap_succ (by omega)]
      by_cases e : l[k] = 0 <;> simp [e])
    (fun m => by simp only [cmp_Or_int64.next0, cmp_Or_int64.round0, Int.ofNat_lt, str_inj, beq_dec, bne_dec, cond_dec, cond_nt, if_true, if_false, decide_true, decide_false, cond_true, cond_false, u8_inj, cells_div, szs, sz_list, inB_nat, Int.toNat_natCast, get0, get1, get2, get3, get4, get5, get6, get7, get8, Nat.reduceLT, bind_of, List.getElem?_cons_zero, List.getElem?_cons_succ, oInt_int, oBool_bool, oStr_str, oSl_slc, oAgg_agg, oTup_tup, oCons_cons, oNil_nil, sl_cells, Nat.lt_irrefl]) (Nat.lt_succ_self _)
  simp only [cells_div, sz_int]
  refine this.trans ?_
  clear this
  induction l with
  | nil => rfl
  | cons x l ih =>
    rw [List.findSome?_cons, List.find?_cons]
    by_cases e : x = 0
    · simpa [e] using ih (by simp at hl; omega)
    · simp [e]
theorem impl_firstCode2 (a b : Int) : Call F.impl_firstCode [.sl 1 [.int .i64 a, .int .i64 b]] (.int .i64 (if a = 0 then b else a)) := by
  refine call_of rfl 0 ((impl_firstCode.ev _ _).trans ?_)
  have := cmp_Or_int64 [a, b] (by simp)
  simp only [Int.ofNat_lt, str_inj, beq_dec, bne_dec, cond_dec, cond_nt, if_true, if_false, decide_true, decide_false, cond_true, cond_false, u8_inj, cells_div, szs, sz_list, inB_nat, Int.toNat_natCast, get0, get1, get2, get3, get4, get5, get6, get7, get8, Nat.reduceLT, bind_of, List.getElem?_cons_zero, List.getElem?_cons_succ, oInt_int, oBool_bool, oStr_str, oSl_slc, oAgg_agg, oTup_tup, oCons_cons, oNil_nil, sl_cells, show LIM F.cmp_Or_int64 [.sl 1 [.int .i64 a, .int .i64 b]] = _ from this]
  by_cases h : a = 0
  · by_cases h' : b = 0 <;> simp [h, h']
  · simp [h]
theorem impl_firstCode3 (a b c : Int) : Call F.impl_firstCode [.sl 1 [.int .i64 a, .int .i64 b, .int .i64 c]] (.int .i64 (if a = 0 then if b = 0 then c else b else a)) := by
  refine call_of rfl 0 ((impl_firstCode.ev _ _).trans ?_)
  have := cmp_Or_int64 [a, b, c] (by simp)
  simp only [Int.ofNat_lt, str_inj, beq_dec, bne_dec, cond_dec, cond_nt, if_true, if_false, decide_true, decide_false, cond_true, cond_false, u8_inj, cells_div, szs, sz_list, inB_nat, Int.toNat_natCast, get0, get1, get2, get3, get4, get5, get6, get7, get8, Nat.reduceLT, bind_of, List.getElem?_cons_zero, List.getElem?_cons_succ, oInt_int, oBool_bool, oStr_str, oSl_slc, oAgg_agg, oTup_tup, oCons_cons, oNil_nil, sl_cells, show LIM F.cmp_Or_int64 [.sl 1 [.int .i64 a, .int .i64 b, .int .i64 c]] = _ from this]
  by_cases h : a = 0
  · by_cases h' : b = 0
    · by_cases h'' : c = 0 <;> simp [h, h', h'']
    · simp [h, h']
  · simp [h]
theorem spec_l4Low (t : List Int) (hl : t.length ≤ 4294967296) : Call F.spec_l4Low [slc t] (.bool (!t.any fun n => decide (n < -6))) := by
  refine call_of rfl (t.length + 1) ((spec_l4Low.ev _ _).trans ?_)
  refine (any_loopL (l := t) (p := fun n => decide (n < -6)) (r := some (.bool false, [])) (z := some (.bool true, [])) (S := fun m k => spec_l4Low.at0 (t.length + 1) m (spec_l4Low.st0 (cells t) (k : Nat))) (fun m k h => ?_) (fun m => ?_) (Nat.lt_succ_self _)).trans ?_
  · have hlk : t[k]? = some t[k] := List.getElem?_eq_getElem h
    simp only [spec_l4Low.next0, spec_l4Low.round0, Int.ofNat_lt, str_inj, beq_dec, bne_dec, cond_dec, cond_nt, if_true, if_false, decide_true, decide_false, cond_true, cond_false, u8_inj, cells_div, szs, sz_list, inB_nat, Int.toNat_natCast, get0, get1, get2, get3, get4, get5, get6, get7, get8, Nat.reduceLT, bind_of, List.getElem?_cons_zero, List.getElem?_cons_succ, oInt_int, oBool_bool, oStr_str, oSl_slc, oAgg_agg, oTup_tup, oCons_cons, oNil_nil, sl_cells, h, hlk, enc_int]
    rw [wrap_succ (by omega)]
    simp only [decide_eq_true_eq]
  · simp only [spec_l4Low.next0, spec_l4Low.round0, Int.ofNat_lt, str_inj, beq_dec, bne_dec, cond_dec, cond_nt, if_true, if_false, decide_true, decide_false, cond_true, cond_false, u8_inj, cells_div, szs, sz_list, inB_nat, Int.toNat_natCast, get0, get1, get2, get3, get4, get5, get6, get7, get8, Nat.reduceLT, bind_of, List.getElem?_cons_zero, List.getElem?_cons_succ, oInt_int, oBool_bool, oStr_str, oSl_slc, oAgg_agg, oTup_tup, oCons_cons, oNil_nil, sl_cells, Nat.lt_irrefl]
  · cases t.any fun n => decide (n < -6) <;> rfl
open Classical in
section
variable (l : List Symbol) (z : Int) (tb : List (List Int)) (vs t : List Int) (hs : l.length ≤ 4294967296) (ht : sm 4294967296 tb) (hl : t.length ≤ 4294967296)
include hs ht hl
end
end Ev.Ty
end

section
namespace Ev.Ty
open Go Ev
open Enc (enc)
open Sm (sm)
set_option linter.unusedSimpArgs false
set_option linter.unusedVariables false
theorem intsT_cells : ∀ l : List Int, intsT l = cells l
  | [] => rfl
  | x :: l => by rw [cells_cons, ← intsT_cells l]; rfl
def sorted (l : List Int) : List Int := l.mergeSort fun x y => decide (x ≤ y)
theorem slices_Sort_Sint64 (l : List Int) (h : l.length ≤ 4294967296) : LIM F.slices_Sort_Sint64 [slc l] = some (.tup [], [slc (sorted l)]) := by
  refine lim_ext (e := sortE) rfl (Ev.of fun m => ?_)
  show ((intsOf (cells l)).bind fun zs => bif decide (zs.length < 4611686018427387904) then some (T.tup [], [T.sl 1 (intsT (zs.mergeSort fun x y => decide (x ≤ y)))]) else none) = _
  rw [← intsT_cells, intsOf_intsT, Option.bind_some, decide_eq_true (by omega), cond_true, intsT_cells]
  rfl
theorem slices_Compact_Sint64 (l : List Int) (h : l.length ≤ 4294967296) : Call F.slices_Compact_Sint64 [slc l] (slc (Lib.compact l)) := by
  refine lim_ext (e := compactE) rfl (Ev.of fun m => ?_)
  show ((intsOf (cells l)).bind fun zs => bif decide (zs.length < 4611686018427387904) then some (T.sl 1 (intsT (Lib.compact zs)), []) else none) = _
  rw [← intsT_cells, intsOf_intsT, Option.bind_some, decide_eq_true (by omega), cond_true, intsT_cells]
  rfl
theorem mem_compact {l : List Int} {x : Int} : x ∈ Lib.compact l ↔ x ∈ l := by
  unfold Lib.compact Lib.compactUpTo
  simp only [List.mem_map, List.mem_filter, List.mem_range]
  constructor
  · rintro ⟨j, ⟨hj, _⟩, rfl⟩
    rw [getElem!_pos _ j (by simpa using hj)]
    simp
  · intro h
    obtain ⟨i, hi, rfl⟩ := List.mem_iff_getElem.1 h
    have : ∀ j, (hj : j < l.length) → ∃ k, (k < l.length ∧ Lib.keeps l.toArray k = true) ∧ l.toArray[k]! = l[j] := by
      intro j
      induction j with
      | zero => intro hj; exact ⟨0, ⟨hj, by simp [Lib.keeps]⟩, by simp [hj]⟩
      | succ j ih =>
        intro hj
        by_cases e : l[j + 1] = l[j]
        · obtain ⟨k, hk, he⟩ := ih (by omega)
          exact ⟨k, hk, by rw [he, e]⟩
        · refine ⟨j + 1, ⟨hj, ?_⟩, by simp [hj]⟩
          have hj' : j < l.length := by omega
          simp [Lib.keeps, hj, hj', e]
    exact this i hi
theorem compact_length (l : List Int) : (Lib.compact l).length ≤ l.length := compact_len l
def vars (t : List Int) : List Int := (t.filter fun n => decide (n < 0)).map fun n => -1 - n
theorem mem_vars {t : List Int} {v : Int} : v ∈ vars t ↔ 0 ≤ v ∧ (-1 - v) ∈ t := by
  unfold vars
  simp only [List.mem_map, List.mem_filter, decide_eq_true_eq]
  constructor
  · rintro ⟨n, ⟨hn, h0⟩, rfl⟩
    exact ⟨by omega, by rw [show -1 - (-1 - n) = n by omega]; exact hn⟩
  · rintro ⟨h0, h⟩
    exact ⟨-1 - v, ⟨h, by omega⟩, by omega⟩
theorem vars_length (t : List Int) : (vars t).length ≤ t.length := by
  unfold vars
  rw [List.length_map]; exact List.length_filter_le _ _
def varsOf (l : List (List Int)) : List Int := Lib.compact (sorted (l.flatMap vars))
theorem mem_varsOf {l : List (List Int)} {v : Int} : v ∈ varsOf l ↔ 0 ≤ v ∧ ∃ t ∈ l, (-1 - v) ∈ t := by
  unfold varsOf sorted
  rw [mem_compact, List.mem_mergeSort, List.mem_flatMap]
  constructor
  · rintro ⟨t, ht, h⟩
    obtain ⟨h0, h1⟩ := mem_vars.1 h
    exact ⟨h0, t, ht, h1⟩
  · rintro ⟨h0, t, ht, h1⟩
    exact ⟨t, ht, mem_vars.2 ⟨h0, h1⟩⟩
theorem flat_vars_length : ∀ l : List (List Int), (l.flatMap vars).length ≤ (l.map List.length).sum
  | [] => by simp
  | t :: l => by
    rw [List.flatMap_cons, List.length_append, List.map_cons, List.sum_cons]
    have := vars_length t
    have := flat_vars_length l
    omega
theorem varsOf_length (l : List (List Int)) : (varsOf l).length ≤ (l.map List.length).sum := by
  unfold varsOf
  refine Nat.le_trans (compact_length _) ?_
  unfold sorted
  rw [List.length_mergeSort]
  exact flat_vars_length l
theorem impl_varsOf (l : List (List Int)) (hl : l.length ≤ 24) (ht : ∀ t ∈ l, t.length ≤ 4294967296 ∧ ∀ n ∈ t, -12 ≤ n) (hsum : (l.map List.length).sum ≤ 4294967296) : Call F.impl_varsOf [slc l] (slc (varsOf l)) := by
  obtain ⟨N, hN⟩ : ∃ N, N = 4294967297 := ⟨_, rfl⟩
  have inner : ∀ (L0 : St → R) (x0 : List T) (x1 x2 : Int) (t : List Int), (∀ n ∈ t, -12 ≤ n) → ∀ m k (acc : List Int), k ≤ t.length → t.length < m + k → acc.length + t.length ≤ k + 4294967296 → t.length ≤ 4294967296 →
      impl_varsOf.at2 N L0 m (impl_varsOf.st2 x0 x1 x2 (cells t) t.length (k : Nat) (cells acc)) = L0 (impl_varsOf.st0 x0 x1 (IntKind.wrap .i64 (x2 + 1)) (cells (acc ++ vars (t.drop k)))) := by
    intro L0 x0 x1 x2 t hn m
    induction m with
    | zero => intros; omega
    | succ m ih =>
      intro k acc hk hm hacc htl
      by_cases h : k < t.length
      · have hlk : t[k]? = some t[k] := List.getElem?_eq_getElem h
        simp only [impl_varsOf.next2, impl_varsOf.round2, Int.ofNat_lt, str_inj, beq_dec, bne_dec, cond_dec, cond_nt, if_true, if_false, decide_true, decide_false, cond_true, cond_false, u8_inj, cells_div, szs, sz_list, inB_nat, Int.toNat_natCast, get0, get1, get2, get3, get4, get5, get6, get7, get8, Nat.reduceLT, bind_of, List.getElem?_cons_zero, List.getElem?_cons_succ, oInt_int, oBool_bool, oStr_str, oSl_slc, oAgg_agg, oTup_tup, oCons_cons, oNil_nil, sl_cells, h, hlk, enc_int]
        rw [wrap_succ (by omega), List.drop_eq_getElem_cons h]
        have hge := hn t[k] (List.getElem_mem h)
        by_cases h0 : t[k] < 0
        · have hble : Nat.ble (((cells acc).length + 1) * 8) (140737488355328 * 1) = true := by
            rw [Nat.ble_eq, cells_length, sz_int]; omega
          rw [wrap64 (by omega), cells_snoc_int, hble, ih (k + 1) (acc ++ [-1 - t[k]]) (by omega) (by omega) (by rw [List.length_append]; simp; omega) htl]
          simp only [h0, Int.ofNat_lt, str_inj, beq_dec, bne_dec, cond_dec, cond_nt, if_true, if_false, decide_true, decide_false, cond_true, cond_false, u8_inj, cells_div, szs, sz_list, inB_nat, Int.toNat_natCast, get0, get1, get2, get3, get4, get5, get6, get7, get8, Nat.reduceLT, bind_of, List.getElem?_cons_zero, List.getElem?_cons_succ, oInt_int, oBool_bool, oStr_str, oSl_slc, oAgg_agg, oTup_tup, oCons_cons, oNil_nil, sl_cells, vars, List.filter_cons, List.map_cons, List.append_assoc, List.singleton_append]
        · rw [ih (k + 1) acc (by omega) (by omega) (by omega) htl]
          simp only [h0, Int.ofNat_lt, str_inj, beq_dec, bne_dec, cond_dec, cond_nt, if_true, if_false, decide_true, decide_false, cond_true, cond_false, u8_inj, cells_div, szs, sz_list, inB_nat, Int.toNat_natCast, get0, get1, get2, get3, get4, get5, get6, get7, get8, Nat.reduceLT, bind_of, List.getElem?_cons_zero, List.getElem?_cons_succ, oInt_int, oBool_bool, oStr_str, oSl_slc, oAgg_agg, oTup_tup, oCons_cons, oNil_nil, sl_cells, vars, List.filter_cons, Bool.false_eq_true]
      · obtain rfl : k = t.length := by omega
        simp only [impl_varsOf.next2, impl_varsOf.round2, Int.ofNat_lt, str_inj, beq_dec, bne_dec, cond_dec, cond_nt, if_true, if_false, decide_true, decide_false, cond_true, cond_false, u8_inj, cells_div, szs, sz_list, inB_nat, Int.toNat_natCast, get0, get1, get2, get3, get4, get5, get6, get7, get8, Nat.reduceLT, bind_of, List.getElem?_cons_zero, List.getElem?_cons_succ, oInt_int, oBool_bool, oStr_str, oSl_slc, oAgg_agg, oTup_tup, oCons_cons, oNil_nil, sl_cells, Nat.lt_irrefl, List.drop_length, vars, List.filter_nil, List.map_nil, List.append_nil]
  have outer : ∀ m k (acc : List Int), k ≤ l.length → l.length < m + k → acc.length + ((l.drop k).map List.length).sum ≤ 4294967296 →
      impl_varsOf.at0 N m (impl_varsOf.st0 (cells l) l.length (k : Nat) (cells acc)) = some (slc (Lib.compact (sorted (acc ++ (l.drop k).flatMap vars))), []) := by
    intro m
    induction m with
    | zero => intros; omega
    | succ m ih =>
      intro k acc hk hm hacc
      by_cases h : k < l.length
      · have hlk : l[k]? = some l[k] := List.getElem?_eq_getElem h
        obtain ⟨q1, q2⟩ := ht l[k] (List.getElem_mem h)
        rw [List.drop_eq_getElem_cons h, List.map_cons, List.sum_cons] at hacc
        simp only [impl_varsOf.next0, impl_varsOf.round0, Int.ofNat_lt, str_inj, beq_dec, bne_dec, cond_dec, cond_nt, if_true, if_false, decide_true, decide_false, cond_true, cond_false, u8_inj, cells_div, szs, sz_list, inB_nat, Int.toNat_natCast, get0, get1, get2, get3, get4, get5, get6, get7, get8, Nat.reduceLT, bind_of, List.getElem?_cons_zero, List.getElem?_cons_succ, oInt_int, oBool_bool, oStr_str, oSl_slc, oAgg_agg, oTup_tup, oCons_cons, oNil_nil, sl_cells, h, hlk, enc_list]
        have hin := inner (impl_varsOf.at0 N m) (cells l) l.length (k : Nat) l[k] q2 N 0 acc (by omega) (by omega) (by omega) q1
        rw [List.drop_zero, wrap_succ (by omega)] at hin
        refine Eq.trans hin ?_
        have := vars_length l[k]
        rw [ih (k + 1) (acc ++ vars l[k]) (by omega) (by omega) (by rw [List.length_append]; omega), List.drop_eq_getElem_cons h, List.flatMap_cons, List.append_assoc]
      · obtain rfl : k = l.length := by omega
        rw [List.drop_length] at hacc ⊢
        have hs := slices_Sort_Sint64 acc (by simpa using hacc)
        have hc := slices_Compact_Sint64 (sorted acc) (by unfold sorted; rw [List.length_mergeSort]; simpa using hacc)
        simp only [impl_varsOf.next0, impl_varsOf.round0, Int.ofNat_lt, str_inj, beq_dec, bne_dec, cond_dec, cond_nt, if_true, if_false, decide_true, decide_false, cond_true, cond_false, u8_inj, cells_div, szs, sz_list, inB_nat, Int.toNat_natCast, get0, get1, get2, get3, get4, get5, get6, get7, get8, Nat.reduceLT, bind_of, List.getElem?_cons_zero, List.getElem?_cons_succ, oInt_int, oBool_bool, oStr_str, oSl_slc, oAgg_agg, oTup_tup, oCons_cons, oNil_nil, sl_cells, Nat.lt_irrefl, List.flatMap_nil, List.append_nil]
        simp only [hs, hc.eq, Int.ofNat_lt, str_inj, beq_dec, bne_dec, cond_dec, cond_nt, if_true, if_false, decide_true, decide_false, cond_true, cond_false, u8_inj, cells_div, szs, sz_list, inB_nat, Int.toNat_natCast, get0, get1, get2, get3, get4, get5, get6, get7, get8, Nat.reduceLT, bind_of, List.getElem?_cons_zero, List.getElem?_cons_succ, oInt_int, oBool_bool, oStr_str, oSl_slc, oAgg_agg, oTup_tup, oCons_cons, oNil_nil, sl_cells]
  refine call_of rfl N ((impl_varsOf.ev _ _).trans ?_)
  have := outer N 0 [] (by omega) (by omega) (by simpa using hsum)
  rw [List.drop_zero, List.nil_append] at this
  simp only [cells_div, sz_list]
  exact this
end Ev.Ty
end

section
namespace Ev.Ty
open Go Ev
open Enc (enc)
open Sm (sm)
set_option linter.unusedSimpArgs false
set_option linter.unusedVariables false
def low6 (t : List Int) : Bool := !t.any fun n => decide (n < -6)
theorem low6_iff {t : List Int} : low6 t = true ↔ ∀ n ∈ t, -6 ≤ n := by
  unfold low6
  rw [Bool.not_eq_true', List.any_eq_false]
  constructor
  · intro h n hn; have := h n hn; simpa using this
  · intro h n hn; simpa using h n hn
def eqFault (l : List Symbol) (e : Equation) : Int :=
  if termFault0 l e.left ≠ 0 then termFault0 l e.left else if termFault0 l e.right ≠ 0 then termFault0 l e.right else if low6 e.left = true then (if low6 e.right = true then 0 else 3) else 3
def eqsFault (l : List Symbol) (es : List Equation) : Int :=
  if 12 < es.length then 2 else (es.findSome? fun e => if eqFault l e ≠ 0 then some (eqFault l e) else none).getD 0
def ruleOk (e : Equation) : Bool := decide (0 ≤ e.left.headD 0) && !e.right.any fun n => decide (n < 0 ∧ n ∉ e.left)
def rulesFault0 (l : List Symbol) (es : List Equation) : Int := if eqsFault l es ≠ 0 then eqsFault l es else if (es.any fun e => !ruleOk e) = true then 1 else 0
def rulesFault (s : Signature) (es : List Equation) : Int := if sigFault s ≠ 0 then sigFault s else rulesFault0 s.symbols es
structure EqOk (l : List Symbol) (e : Equation) : Prop where
  left : TermOk l e.left
  right : TermOk l e.right
  lowL : ∀ n ∈ e.left, -6 ≤ n
  lowR : ∀ n ∈ e.right, -6 ≤ n
theorem eqOk_iff {l : List Symbol} {e : Equation} : eqFault l e = 0 ↔ EqOk l e := by
  unfold eqFault
  constructor
  · intro h
    by_cases h1 : termFault0 l e.left = 0
    · by_cases h2 : termFault0 l e.right = 0
      · by_cases h3 : low6 e.left = true
        · by_cases h4 : low6 e.right = true
          · exact ⟨(termOk_iff _ _).1 h1, (termOk_iff _ _).1 h2, low6_iff.1 h3, low6_iff.1 h4⟩
          · simp [h1, h2, h3, h4] at h
        · simp [h1, h2, h3] at h
      · simp [h1, h2] at h
    · simp [h1] at h
  · intro h
    simp [(termOk_iff _ _).2 h.left, (termOk_iff _ _).2 h.right, low6_iff.2 h.lowL, low6_iff.2 h.lowR]
theorem eqsOk_iff {l : List Symbol} {es : List Equation} : eqsFault l es = 0 ↔ es.length ≤ 12 ∧ ∀ e ∈ es, EqOk l e := by
  unfold eqsFault
  by_cases h : 12 < es.length
  · rw [if_pos h]
    constructor
    · intro h; cases h
    · intro h'; omega
  · rw [if_neg h]
    have : (es.findSome? fun e => if eqFault l e ≠ 0 then some (eqFault l e) else none).getD 0 = 0 ↔ ∀ e ∈ es, eqFault l e = 0 := by
      cases hf : es.findSome? fun e => if eqFault l e ≠ 0 then some (eqFault l e) else none with
      | none =>
        rw [findSome_none] at hf
        refine ⟨fun _ e he => ?_, fun _ => rfl⟩
        have := hf e he
        by_cases h : eqFault l e = 0
        · exact h
        · simp [h] at this
      | some c =>
        obtain ⟨e, he, h1⟩ := List.exists_of_findSome?_eq_some hf
        by_cases h : eqFault l e = 0
        · simp [h] at h1
        · simp [h] at h1
          subst h1
          exact ⟨fun h' => absurd h' h, fun h' => absurd (h' e he) h⟩
    rw [this]
    constructor
    · intro h'; exact ⟨by omega, fun e he => eqOk_iff.1 (h' e he)⟩
    · intro h' e he; exact eqOk_iff.2 (h'.2 e he)
theorem TermOk.ge {l : List Symbol} {t : List Int} (h : TermOk l t) : ∀ n ∈ t, -12 ≤ n := fun n hn => by
  rcases nodeOk_iff.1 (h.node n hn) with h | h <;> omega
theorem slices_Contains_Sint64 (l : List Int) (x : Int) (hl : l.length ≤ 4294967296) : Call F.slices_Contains_Sint64 [slc l, .int .i64 x] (.bool (decide (x ∈ l))) := by
  have hi : Call F.slices_Index_Sint64 [slc l, .int .i64 x] (.int .i64 (idx (fun y => decide (x = y)) l)) := by
    refine call_of rfl (l.length + 1) ((slices_Index_Sint64.ev _ _ _).trans ?_)
    simp only [Int.ofNat_lt, str_inj, beq_dec, bne_dec, cond_dec, cond_nt, if_true, if_false, decide_true, decide_false, cond_true, cond_false, u8_inj, cells_div, szs, sz_list, inB_nat, Int.toNat_natCast, get0, get1, get2, get3, get4, get5, get6, get7, get8, Nat.reduceLT, bind_of, List.getElem?_cons_zero, List.getElem?_cons_succ, oInt_int, oBool_bool, oStr_str, oSl_slc, oAgg_agg, oTup_tup, oCons_cons, oNil_nil, sl_cells]
    refine idx_loop (S := fun m k => slices_Index_Sint64.at0 (l.length + 1) m (slices_Index_Sint64.st0 (cells l) x l.length (k : Nat))) (fun m k h => ?_) (fun m => ?_) (Nat.lt_succ_self _)
    · have hlk : l[k]? = some l[k] := List.getElem?_eq_getElem h
      simp only [slices_Index_Sint64.next0, slices_Index_Sint64.round0, Int.ofNat_lt, str_inj, beq_dec, bne_dec, cond_dec, cond_nt, if_true, if_false, decide_true, decide_false, cond_true, cond_false, u8_inj, cells_div, szs, sz_list, inB_nat, Int.toNat_natCast, get0, get1, get2, get3, get4, get5, get6, get7, get8, Nat.reduceLT, bind_of, List.getElem?_cons_zero, List.getElem?_cons_succ, oInt_int, oBool_bool, oStr_str, oSl_slc, oAgg_agg, oTup_tup, oCons_cons, oNil_nil, sl_cells, h, hlk, enc_int]
      rw [wrap_succ (by omega)]
      by_cases e : x = l[k] <;> simp [e]
    · simp only [slices_Index_Sint64.next0, slices_Index_Sint64.round0, Int.ofNat_lt, str_inj, beq_dec, bne_dec, cond_dec, cond_nt, if_true, if_false, decide_true, decide_false, cond_true, cond_false, u8_inj, cells_div, szs, sz_list, inB_nat, Int.toNat_natCast, get0, get1, get2, get3, get4, get5, get6, get7, get8, Nat.reduceLT, bind_of, List.getElem?_cons_zero, List.getElem?_cons_succ, oInt_int, oBool_bool, oStr_str, oSl_slc, oAgg_agg, oTup_tup, oCons_cons, oNil_nil, sl_cells, Nat.lt_irrefl]
  refine call_of rfl 0 ((slices_Contains_Sint64.ev _ _ _).trans ?_)
  simp only [Int.ofNat_lt, str_inj, beq_dec, bne_dec, cond_dec, cond_nt, if_true, if_false, decide_true, decide_false, cond_true, cond_false, u8_inj, cells_div, szs, sz_list, inB_nat, Int.toNat_natCast, get0, get1, get2, get3, get4, get5, get6, get7, get8, Nat.reduceLT, bind_of, List.getElem?_cons_zero, List.getElem?_cons_succ, oInt_int, oBool_bool, oStr_str, oSl_slc, oAgg_agg, oTup_tup, oCons_cons, oNil_nil, sl_cells, hi.eq, idx_nonneg]
  have : (l.any fun y => decide (x = y)) = decide (x ∈ l) := by
    rw [Bool.eq_iff_iff, List.any_eq_true, decide_eq_true_eq]
    constructor
    · rintro ⟨y, hy, h⟩; rw [decide_eq_true_eq] at h; rw [h]; exact hy
    · intro h; exact ⟨x, h, by simp⟩
  rw [this]
theorem slices_ContainsFunc_Sint64_at1_impl_EquationFault_1 (t : List Int) (hs : t.length ≤ 4294967296) :
    Call F.slices_ContainsFunc_Sint64 [slc t, .clo F.impl_EquationFault_1 []] (.bool (t.any fun n => decide (n ≥ 6))) := by
  have hi : Call F.slices_IndexFunc_Sint64 [slc t, .clo F.impl_EquationFault_1 []] (.int .i64 (idx (fun n => decide (n ≥ 6)) t)) := by
    refine call_of rfl (t.length + 1) ((slices_IndexFunc_Sint64_at1_impl_EquationFault_1.ev _ _).trans ?_)
    refine idx_loop (S := fun m k => slices_IndexFunc_Sint64_at1_impl_EquationFault_1.at0 (t.length + 1) m (slices_IndexFunc_Sint64_at1_impl_EquationFault_1.st0 (cells t) _ (k : Nat))) (fun m k h => ?_) (fun m => ?_) (Nat.lt_succ_self _)
    · have hlk : t[k]? = some t[k] := List.getElem?_eq_getElem h
      have hc : Call F.impl_EquationFault_1 [.int .i64 t[k]] (.bool (decide (t[k] ≥ 6))) := call_of rfl 0 (impl_EquationFault_1.ev _ _)
      simp only [slices_IndexFunc_Sint64_at1_impl_EquationFault_1.next0, slices_IndexFunc_Sint64_at1_impl_EquationFault_1.round0, Int.ofNat_lt, str_inj, beq_dec, bne_dec, cond_dec, cond_nt, if_true, if_false, decide_true, decide_false, cond_true, cond_false, u8_inj, cells_div, szs, sz_list, inB_nat, Int.toNat_natCast, get0, get1, get2, get3, get4, get5, get6, get7, get8, Nat.reduceLT, bind_of, List.getElem?_cons_zero, List.getElem?_cons_succ, oInt_int, oBool_bool, oStr_str, oSl_slc, oAgg_agg, oTup_tup, oCons_cons, oNil_nil, sl_cells, h, hlk, enc_int, hc.eq]
      rw [wrap_succ (by omega)]
      by_cases e : t[k] ≥ 6 <;> simp [e]
    · simp only [slices_IndexFunc_Sint64_at1_impl_EquationFault_1.next0, slices_IndexFunc_Sint64_at1_impl_EquationFault_1.round0, Int.ofNat_lt, str_inj, beq_dec, bne_dec, cond_dec, cond_nt, if_true, if_false, decide_true, decide_false, cond_true, cond_false, u8_inj, cells_div, szs, sz_list, inB_nat, Int.toNat_natCast, get0, get1, get2, get3, get4, get5, get6, get7, get8, Nat.reduceLT, bind_of, List.getElem?_cons_zero, List.getElem?_cons_succ, oInt_int, oBool_bool, oStr_str, oSl_slc, oAgg_agg, oTup_tup, oCons_cons, oNil_nil, sl_cells, Nat.lt_irrefl]
  refine call_of rfl 0 ((slices_ContainsFunc_Sint64_at1_impl_EquationFault_1.ev _ _).trans ?_)
  simp only [Int.ofNat_lt, str_inj, beq_dec, bne_dec, cond_dec, cond_nt, if_true, if_false, decide_true, decide_false, cond_true, cond_false, u8_inj, cells_div, szs, sz_list, inB_nat, Int.toNat_natCast, get0, get1, get2, get3, get4, get5, get6, get7, get8, Nat.reduceLT, bind_of, List.getElem?_cons_zero, List.getElem?_cons_succ, oInt_int, oBool_bool, oStr_str, oSl_slc, oAgg_agg, oTup_tup, oCons_cons, oNil_nil, sl_cells, hi.eq, idx_nonneg]
theorem impl_EquationFault (l : List Symbol) (hs : l.length ≤ 4294967296) (a b : List Int) (ha : a.length ≤ 4294967296) (hb : b.length ≤ 4294967296) :
    Call F.impl_EquationFault [.agg [slc l], .agg [slc a, slc b]] (.int .i64 (if sigFault ⟨l⟩ ≠ 0 then sigFault ⟨l⟩ else eqFault l ⟨a, b⟩)) := by
  refine call_of rfl 0 ((impl_EquationFault.ev _ _ _ _).trans ?_)
  simp only [Int.ofNat_lt, str_inj, beq_dec, bne_dec, cond_dec, cond_nt, if_true, if_false, decide_true, decide_false, cond_true, cond_false, u8_inj, cells_div, szs, sz_list, inB_nat, Int.toNat_natCast, get0, get1, get2, get3, get4, get5, get6, get7, get8, Nat.reduceLT, bind_of, List.getElem?_cons_zero, List.getElem?_cons_succ, oInt_int, oBool_bool, oStr_str, oSl_slc, oAgg_agg, oTup_tup, oCons_cons, oNil_nil, sl_cells, (impl_TermFault l hs a ha).eq, (impl_TermFault l hs b hb).eq, (impl_firstCode2 _ _).eq, termFault, eqFault]
  by_cases h1 : sigFault ⟨l⟩ = 0
  case neg => simp only [h1, Int.ofNat_lt, str_inj, beq_dec, bne_dec, cond_dec, cond_nt, if_true, if_false, decide_true, decide_false, cond_true, cond_false, u8_inj, cells_div, szs, sz_list, inB_nat, Int.toNat_natCast, get0, get1, get2, get3, get4, get5, get6, get7, get8, Nat.reduceLT, bind_of, List.getElem?_cons_zero, List.getElem?_cons_succ, oInt_int, oBool_bool, oStr_str, oSl_slc, oAgg_agg, oTup_tup, oCons_cons, oNil_nil, sl_cells, ne_eq, not_false_eq_true]
  simp only [h1, Int.ofNat_lt, str_inj, beq_dec, bne_dec, cond_dec, cond_nt, if_true, if_false, decide_true, decide_false, cond_true, cond_false, u8_inj, cells_div, szs, sz_list, inB_nat, Int.toNat_natCast, get0, get1, get2, get3, get4, get5, get6, get7, get8, Nat.reduceLT, bind_of, List.getElem?_cons_zero, List.getElem?_cons_succ, oInt_int, oBool_bool, oStr_str, oSl_slc, oAgg_agg, oTup_tup, oCons_cons, oNil_nil, sl_cells, ne_eq, not_true_eq_false]
  by_cases h2 : termFault0 l a = 0
  case neg => simp only [h2, Int.ofNat_lt, str_inj, beq_dec, bne_dec, cond_dec, cond_nt, if_true, if_false, decide_true, decide_false, cond_true, cond_false, u8_inj, cells_div, szs, sz_list, inB_nat, Int.toNat_natCast, get0, get1, get2, get3, get4, get5, get6, get7, get8, Nat.reduceLT, bind_of, List.getElem?_cons_zero, List.getElem?_cons_succ, oInt_int, oBool_bool, oStr_str, oSl_slc, oAgg_agg, oTup_tup, oCons_cons, oNil_nil, sl_cells, not_false_eq_true]
  by_cases h3 : termFault0 l b = 0
  case neg => simp only [h2, h3, Int.ofNat_lt, str_inj, beq_dec, bne_dec, cond_dec, cond_nt, if_true, if_false, decide_true, decide_false, cond_true, cond_false, u8_inj, cells_div, szs, sz_list, inB_nat, Int.toNat_natCast, get0, get1, get2, get3, get4, get5, get6, get7, get8, Nat.reduceLT, bind_of, List.getElem?_cons_zero, List.getElem?_cons_succ, oInt_int, oBool_bool, oStr_str, oSl_slc, oAgg_agg, oTup_tup, oCons_cons, oNil_nil, sl_cells, not_true_eq_false, not_false_eq_true]
  have ta := (termOk_iff l a).1 h2
  have tb := (termOk_iff l b).1 h3
  have hal := ta.le
  have hbl := tb.le
  have hv := impl_varsOf [a, b] (by simp) (fun t ht => by
    simp only [List.mem_cons, List.not_mem_nil, or_false] at ht
    rcases ht with rfl | rfl
    · exact ⟨ha, ta.ge⟩
    · exact ⟨hb, tb.ge⟩) (by simp; omega)
  have hvl := varsOf_length [a, b]
  have hc := slices_ContainsFunc_Sint64_at1_impl_EquationFault_1 (varsOf [a, b]) (by simp at hvl; omega)
  simp only [h2, h3, Int.ofNat_lt, str_inj, beq_dec, bne_dec, cond_dec, cond_nt, if_true, if_false, decide_true, decide_false, cond_true, cond_false, u8_inj, cells_div, szs, sz_list, inB_nat, Int.toNat_natCast, get0, get1, get2, get3, get4, get5, get6, get7, get8, Nat.reduceLT, bind_of, List.getElem?_cons_zero, List.getElem?_cons_succ, oInt_int, oBool_bool, oStr_str, oSl_slc, oAgg_agg, oTup_tup, oCons_cons, oNil_nil, sl_cells, not_true_eq_false, show LIM F.impl_varsOf [.sl 1 [slc a, slc b]] = _ from hv, hc.eq]
  have e1 : ((varsOf [a, b]).any fun n => decide (n ≥ 6)) = !(low6 a && low6 b) := by
    rw [Bool.eq_iff_iff, List.any_eq_true, Bool.not_eq_true', Bool.eq_false_iff, ne_eq, Bool.and_eq_true, low6_iff, low6_iff]
    constructor
    · rintro ⟨v, hv, h6⟩ ⟨q1, q2⟩
      rw [decide_eq_true_eq] at h6
      obtain ⟨_, t, ht, hm⟩ := mem_varsOf.1 hv
      simp only [List.mem_cons, List.not_mem_nil, or_false] at ht
      rcases ht with rfl | rfl
      · have := q1 _ hm; omega
      · have := q2 _ hm; omega
    · intro h
      by_cases q1 : ∀ n ∈ a, -6 ≤ n
      · have q2 : ¬ ∀ n ∈ b, -6 ≤ n := fun q2 => h ⟨q1, q2⟩
        simp only [Classical.not_forall] at q2
        obtain ⟨n, hn, hlt⟩ := q2
        exact ⟨-1 - n, mem_varsOf.2 ⟨by omega, b, by simp, by rw [show -1 - (-1 - n) = n by omega]; exact hn⟩, by simp; omega⟩
      · simp only [Classical.not_forall] at q1
        obtain ⟨n, hn, hlt⟩ := q1
        exact ⟨-1 - n, mem_varsOf.2 ⟨by omega, a, by simp, by rw [show -1 - (-1 - n) = n by omega]; exact hn⟩, by simp; omega⟩
  rw [e1]
  cases low6 a <;> cases low6 b <;> rfl
theorem spec_l4Fault (l : List Symbol) (ok : SigOk ⟨l⟩) (a b : List Int) (ha : a.length ≤ 4294967296) (hb : b.length ≤ 4294967296) :
    Call F.spec_l4Fault [.rref [slc l] 0, .rref [slc a, slc b] 0] (.int .i64 (eqFault l ⟨a, b⟩)) := by
  have la : Call F.spec_l4Low [slc a] (.bool (low6 a)) := spec_l4Low a ha
  have lb : Call F.spec_l4Low [slc b] (.bool (low6 b)) := spec_l4Low b hb
  refine call_of rfl 0 ((spec_l4Fault.ev _ _ _ _).trans ?_)
  simp only [Int.ofNat_lt, str_inj, beq_dec, bne_dec, cond_dec, cond_nt, if_true, if_false, decide_true, decide_false, cond_true, cond_false, u8_inj, cells_div, szs, sz_list, inB_nat, Int.toNat_natCast, get0, get1, get2, get3, get4, get5, get6, get7, get8, Nat.reduceLT, bind_of, List.getElem?_cons_zero, List.getElem?_cons_succ, oInt_int, oBool_bool, oStr_str, oSl_slc, oAgg_agg, oTup_tup, oCons_cons, oNil_nil, sl_cells, (spec_l3Fault l ok a ha).eq, (spec_l3Fault l ok b hb).eq, la.eq, lb.eq, eqFault]
  by_cases h2 : termFault0 l a = 0
  case neg => simp only [h2, Int.ofNat_lt, str_inj, beq_dec, bne_dec, cond_dec, cond_nt, if_true, if_false, decide_true, decide_false, cond_true, cond_false, u8_inj, cells_div, szs, sz_list, inB_nat, Int.toNat_natCast, get0, get1, get2, get3, get4, get5, get6, get7, get8, Nat.reduceLT, bind_of, List.getElem?_cons_zero, List.getElem?_cons_succ, oInt_int, oBool_bool, oStr_str, oSl_slc, oAgg_agg, oTup_tup, oCons_cons, oNil_nil, sl_cells, ne_eq, not_false_eq_true]
  by_cases h3 : termFault0 l b = 0
  case neg => simp only [h2, h3, Int.ofNat_lt, str_inj, beq_dec, bne_dec, cond_dec, cond_nt, if_true, if_false, decide_true, decide_false, cond_true, cond_false, u8_inj, cells_div, szs, sz_list, inB_nat, Int.toNat_natCast, get0, get1, get2, get3, get4, get5, get6, get7, get8, Nat.reduceLT, bind_of, List.getElem?_cons_zero, List.getElem?_cons_succ, oInt_int, oBool_bool, oStr_str, oSl_slc, oAgg_agg, oTup_tup, oCons_cons, oNil_nil, sl_cells, ne_eq, not_true_eq_false, not_false_eq_true]
  simp only [h2, h3, Int.ofNat_lt, str_inj, beq_dec, bne_dec, cond_dec, cond_nt, if_true, if_false, decide_true, decide_false, cond_true, cond_false, u8_inj, cells_div, szs, sz_list, inB_nat, Int.toNat_natCast, get0, get1, get2, get3, get4, get5, get6, get7, get8, Nat.reduceLT, bind_of, List.getElem?_cons_zero, List.getElem?_cons_succ, oInt_int, oBool_bool, oStr_str, oSl_slc, oAgg_agg, oTup_tup, oCons_cons, oNil_nil, sl_cells, ne_eq, not_true_eq_false]
  cases low6 a <;> cases low6 b <;> rfl
theorem eqs_sm {es : List Equation} {k : Nat} (he : sm 4294967296 es) (h : k < es.length) : es[k].left.length ≤ 4294967296 ∧ es[k].right.length ≤ 4294967296 := by
  have := he.2 es[k] (List.getElem_mem h)
  exact ⟨this.1.1, this.2.1⟩
theorem impl_EquationsFault (l : List Symbol) (hs : l.length ≤ 4294967296) (es : List Equation) (he : sm 4294967296 es) :
    Call F.impl_EquationsFault [.agg [slc l], slc es] (.int .i64 (if sigFault ⟨l⟩ ≠ 0 then sigFault ⟨l⟩ else eqsFault l es)) := by
  refine call_of rfl (es.length + 1) ((impl_EquationsFault.ev _ _ _).trans ?_)
  simp only [Int.ofNat_lt, str_inj, beq_dec, bne_dec, cond_dec, cond_nt, if_true, if_false, decide_true, decide_false, cond_true, cond_false, u8_inj, cells_div, szs, sz_list, inB_nat, Int.toNat_natCast, get0, get1, get2, get3, get4, get5, get6, get7, get8, Nat.reduceLT, bind_of, List.getElem?_cons_zero, List.getElem?_cons_succ, oInt_int, oBool_bool, oStr_str, oSl_slc, oAgg_agg, oTup_tup, oCons_cons, oNil_nil, sl_cells, (impl_SignatureFault l hs).eq, eqsFault, gt_iff_lt]
  by_cases h1 : sigFault ⟨l⟩ = 0
  case neg => simp only [h1, Int.ofNat_lt, str_inj, beq_dec, bne_dec, cond_dec, cond_nt, if_true, if_false, decide_true, decide_false, cond_true, cond_false, u8_inj, cells_div, szs, sz_list, inB_nat, Int.toNat_natCast, get0, get1, get2, get3, get4, get5, get6, get7, get8, Nat.reduceLT, bind_of, List.getElem?_cons_zero, List.getElem?_cons_succ, oInt_int, oBool_bool, oStr_str, oSl_slc, oAgg_agg, oTup_tup, oCons_cons, oNil_nil, sl_cells, ne_eq, not_false_eq_true]
  by_cases h2 : 12 < es.length
  · have h2' : (12 : Int) < es.length := by omega
    simp only [h1, h2, h2', Int.ofNat_lt, str_inj, beq_dec, bne_dec, cond_dec, cond_nt, if_true, if_false, decide_true, decide_false, cond_true, cond_false, u8_inj, cells_div, szs, sz_list, inB_nat, Int.toNat_natCast, get0, get1, get2, get3, get4, get5, get6, get7, get8, Nat.reduceLT, bind_of, List.getElem?_cons_zero, List.getElem?_cons_succ, oInt_int, oBool_bool, oStr_str, oSl_slc, oAgg_agg, oTup_tup, oCons_cons, oNil_nil, sl_cells, ne_eq, not_true_eq_false]
  have h2' : ¬ (12 : Int) < es.length := by omega
  simp only [h1, h2, h2', Int.ofNat_lt, str_inj, beq_dec, bne_dec, cond_dec, cond_nt, if_true, if_false, decide_true, decide_false, cond_true, cond_false, u8_inj, cells_div, szs, sz_list, inB_nat, Int.toNat_natCast, get0, get1, get2, get3, get4, get5, get6, get7, get8, Nat.reduceLT, bind_of, List.getElem?_cons_zero, List.getElem?_cons_succ, oInt_int, oBool_bool, oStr_str, oSl_slc, oAgg_agg, oTup_tup, oCons_cons, oNil_nil, sl_cells, ne_eq, not_true_eq_false]
  refine (scan_loop (l := es) (g := fun e => if eqFault l e ≠ 0 then some (some (.int .i64 (eqFault l e), [])) else none) (z := some (.int .i64 0, [])) (S := fun m k => impl_EquationsFault.at0 (es.length + 1) m (impl_EquationsFault.st0 (cells es) es.length (k : Nat) (cells l)))
    (fun m k h => ?_) (fun m => ?_) (Nat.lt_succ_self _)).trans ?_
  · have hlk : es[k]? = some es[k] := List.getElem?_eq_getElem h
    obtain ⟨q1, q2⟩ := eqs_sm he h
    have hc := impl_EquationFault l hs es[k].left es[k].right q1 q2
    rw [if_neg (by simpa using h1)] at hc
    simp only [impl_EquationsFault.next0, impl_EquationsFault.round0, Int.ofNat_lt, str_inj, beq_dec, bne_dec, cond_dec, cond_nt, if_true, if_false, decide_true, decide_false, cond_true, cond_false, u8_inj, cells_div, szs, sz_list, inB_nat, Int.toNat_natCast, get0, get1, get2, get3, get4, get5, get6, get7, get8, Nat.reduceLT, bind_of, List.getElem?_cons_zero, List.getElem?_cons_succ, oInt_int, oBool_bool, oStr_str, oSl_slc, oAgg_agg, oTup_tup, oCons_cons, oNil_nil, sl_cells, h, hlk, enc_Equation, hc.eq]
    rw [wrap_succ (by omega)]
    by_cases e : eqFault l es[k] = 0
    · simp [e]
    · simp [e]
  · simp only [impl_EquationsFault.next0, impl_EquationsFault.round0, Int.ofNat_lt, str_inj, beq_dec, bne_dec, cond_dec, cond_nt, if_true, if_false, decide_true, decide_false, cond_true, cond_false, u8_inj, cells_div, szs, sz_list, inB_nat, Int.toNat_natCast, get0, get1, get2, get3, get4, get5, get6, get7, get8, Nat.reduceLT, bind_of, List.getElem?_cons_zero, List.getElem?_cons_succ, oInt_int, oBool_bool, oStr_str, oSl_slc, oAgg_agg, oTup_tup, oCons_cons, oNil_nil, sl_cells, Nat.lt_irrefl]
  · have := findSome_map (fun e => if eqFault l e ≠ 0 then some (eqFault l e) else none) (fun n => (some (T.int .i64 n, []) : R)) es
    rw [show (fun e => (if eqFault l e ≠ 0 then some (eqFault l e) else none).map fun n => (some (T.int .i64 n, []) : R)) = fun e => if eqFault l e ≠ 0 then some (some (T.int .i64 (eqFault l e), [])) else none from funext fun e => by by_cases h : eqFault l e = 0 <;> simp [h]] at this
    rw [this]
    cases es.findSome? fun e => if eqFault l e ≠ 0 then some (eqFault l e) else none <;> rfl
theorem spec_l5Fault (l : List Symbol) (ok : SigOk ⟨l⟩) (es : List Equation) (he : sm 4294967296 es) : Call F.spec_l5Fault [.rref [slc l] 0, slc es] (.int .i64 (eqsFault l es)) := by
  refine call_of rfl (es.length + 1) ((spec_l5Fault.ev _ _ _).trans ?_)
  simp only [Int.ofNat_lt, str_inj, beq_dec, bne_dec, cond_dec, cond_nt, if_true, if_false, decide_true, decide_false, cond_true, cond_false, u8_inj, cells_div, szs, sz_list, inB_nat, Int.toNat_natCast, get0, get1, get2, get3, get4, get5, get6, get7, get8, Nat.reduceLT, bind_of, List.getElem?_cons_zero, List.getElem?_cons_succ, oInt_int, oBool_bool, oStr_str, oSl_slc, oAgg_agg, oTup_tup, oCons_cons, oNil_nil, sl_cells, eqsFault, gt_iff_lt]
  by_cases h2 : 12 < es.length
  · have h2' : (12 : Int) < es.length := by omega
    simp only [h2, h2', Int.ofNat_lt, str_inj, beq_dec, bne_dec, cond_dec, cond_nt, if_true, if_false, decide_true, decide_false, cond_true, cond_false, u8_inj, cells_div, szs, sz_list, inB_nat, Int.toNat_natCast, get0, get1, get2, get3, get4, get5, get6, get7, get8, Nat.reduceLT, bind_of, List.getElem?_cons_zero, List.getElem?_cons_succ, oInt_int, oBool_bool, oStr_str, oSl_slc, oAgg_agg, oTup_tup, oCons_cons, oNil_nil, sl_cells]
  have h2' : ¬ (12 : Int) < es.length := by omega
  simp only [h2, h2', Int.ofNat_lt, str_inj, beq_dec, bne_dec, cond_dec, cond_nt, if_true, if_false, decide_true, decide_false, cond_true, cond_false, u8_inj, cells_div, szs, sz_list, inB_nat, Int.toNat_natCast, get0, get1, get2, get3, get4, get5, get6, get7, get8, Nat.reduceLT, bind_of, List.getElem?_cons_zero, List.getElem?_cons_succ, oInt_int, oBool_bool, oStr_str, oSl_slc, oAgg_agg, oTup_tup, oCons_cons, oNil_nil, sl_cells]
  refine (scan_loop (l := es) (g := fun e => if eqFault l e ≠ 0 then some (some (.int .i64 (eqFault l e), [])) else none) (z := some (.int .i64 0, [])) (S := fun m k => spec_l5Fault.at0 (es.length + 1) m (spec_l5Fault.st0 (cells l) (cells es) (k : Nat)))
    (fun m k h => ?_) (fun m => ?_) (Nat.lt_succ_self _)).trans ?_
  · have hlk : es[k]? = some es[k] := List.getElem?_eq_getElem h
    obtain ⟨q1, q2⟩ := eqs_sm he h
    have hc := spec_l4Fault l ok es[k].left es[k].right q1 q2
    simp only [spec_l5Fault.next0, spec_l5Fault.round0, Int.ofNat_lt, str_inj, beq_dec, bne_dec, cond_dec, cond_nt, if_true, if_false, decide_true, decide_false, cond_true, cond_false, u8_inj, cells_div, szs, sz_list, inB_nat, Int.toNat_natCast, get0, get1, get2, get3, get4, get5, get6, get7, get8, Nat.reduceLT, bind_of, List.getElem?_cons_zero, List.getElem?_cons_succ, oInt_int, oBool_bool, oStr_str, oSl_slc, oAgg_agg, oTup_tup, oCons_cons, oNil_nil, sl_cells, h, hlk, cells_window sz_Equation hlk, enc_Equation, hc.eq]
    rw [wrap_succ (by omega)]
    by_cases e : eqFault l es[k] = 0
    · simp [e]
    · simp [e]
  · simp only [spec_l5Fault.next0, spec_l5Fault.round0, Int.ofNat_lt, str_inj, beq_dec, bne_dec, cond_dec, cond_nt, if_true, if_false, decide_true, decide_false, cond_true, cond_false, u8_inj, cells_div, szs, sz_list, inB_nat, Int.toNat_natCast, get0, get1, get2, get3, get4, get5, get6, get7, get8, Nat.reduceLT, bind_of, List.getElem?_cons_zero, List.getElem?_cons_succ, oInt_int, oBool_bool, oStr_str, oSl_slc, oAgg_agg, oTup_tup, oCons_cons, oNil_nil, sl_cells, Nat.lt_irrefl]
  · have := findSome_map (fun e => if eqFault l e ≠ 0 then some (eqFault l e) else none) (fun n => (some (T.int .i64 n, []) : R)) es
    rw [show (fun e => (if eqFault l e ≠ 0 then some (eqFault l e) else none).map fun n => (some (T.int .i64 n, []) : R)) = fun e => if eqFault l e ≠ 0 then some (some (T.int .i64 (eqFault l e), [])) else none from funext fun e => by by_cases h : eqFault l e = 0 <;> simp [h]] at this
    rw [this]
    cases es.findSome? fun e => if eqFault l e ≠ 0 then some (eqFault l e) else none <;> rfl
end Ev.Ty
end

section
namespace Ev.Ty
open Go Ev
open Enc (enc)
open Sm (sm)
set_option linter.unusedVariables false
set_option linter.unusedSimpArgs false
theorem spec_l1Same (l r : List Int) (hs : sm 4294967296 l) : Call F.spec_l1Same [slc l, slc r] (.bool (decide (l = r))) := by
  refine call_of rfl (l.length + 1) ((spec_l1Same.ev _ _ _).trans ?_)
  simp only [cells_div, sz_int]
  by_cases hl : l.length = r.length
  · have loop := eq_loop hl (S := fun m k => spec_l1Same.at0 (l.length + 1) m (spec_l1Same.st0 (cells l) (cells r) (k : Nat)))
      (fun m k h h' => by
        have hlk : l[k]? = some l[k] := List.getElem?_eq_getElem h
        have hrk : r[k]? = some r[k] := List.getElem?_eq_getElem h'
        simp only [spec_l1Same.next0, spec_l1Same.round0, Int.ofNat_lt, str_inj, beq_dec, bne_dec, cond_dec, cond_nt, if_true, if_false, decide_true, decide_false, cond_true, cond_false, u8_inj, cells_div, szs, sz_list, inB_nat, Int.toNat_natCast, get0, get1, get2, get3, get4, get5, get6, get7, get8, Nat.reduceLT, bind_of, List.getElem?_cons_zero, List.getElem?_cons_succ, oInt_int, oBool_bool, oStr_str, oSl_slc, oAgg_agg, oTup_tup, oCons_cons, oNil_nil, sl_cells, h, h', hlk, hrk, cells_window (l := l) sz_int hlk, cells_window (l := r) sz_int hrk, enc_int, enc_u8]
        rw [wrap_succ (by have := hs.1; omega)])
      (fun m => by
        simp only [spec_l1Same.next0, spec_l1Same.round0, Int.ofNat_lt, str_inj, beq_dec, bne_dec, cond_dec, cond_nt, if_true, if_false, decide_true, decide_false, cond_true, cond_false, u8_inj, cells_div, szs, sz_list, inB_nat, Int.toNat_natCast, get0, get1, get2, get3, get4, get5, get6, get7, get8, Nat.reduceLT, bind_of, List.getElem?_cons_zero, List.getElem?_cons_succ, oInt_int, oBool_bool, oStr_str, oSl_slc, oAgg_agg, oTup_tup, oCons_cons, oNil_nil, sl_cells, Nat.lt_irrefl])
    rw [cond_neg (by rw [hl]; exact bne_self_eq_false _)]
    exact loop
  · rw [cond_pos (by simp; omega)]
    simp only [show (l = r) = False from eq_false fun e => hl (e ▸ rfl), decide_false]
theorem slices_Equal_Sint64 (l r : List Int) (hs : sm 4294967296 l) : Call F.slices_Equal_Sint64 [slc l, slc r] (.bool (decide (l = r))) := by
  refine call_of rfl (l.length + 1) ((slices_Equal_Sint64.ev _ _ _).trans ?_)
  simp only [cells_div, sz_int]
  by_cases hl : l.length = r.length
  · have loop := eq_loop hl (S := fun m k => slices_Equal_Sint64.at0 (l.length + 1) m (slices_Equal_Sint64.st0 (cells l) (cells r) l.length (k : Nat)))
      (fun m k h h' => by
        have hlk : l[k]? = some l[k] := List.getElem?_eq_getElem h
        have hrk : r[k]? = some r[k] := List.getElem?_eq_getElem h'
        simp only [slices_Equal_Sint64.next0, slices_Equal_Sint64.round0, Int.ofNat_lt, str_inj, beq_dec, bne_dec, cond_dec, cond_nt, if_true, if_false, decide_true, decide_false, cond_true, cond_false, u8_inj, cells_div, szs, sz_list, inB_nat, Int.toNat_natCast, get0, get1, get2, get3, get4, get5, get6, get7, get8, Nat.reduceLT, bind_of, List.getElem?_cons_zero, List.getElem?_cons_succ, oInt_int, oBool_bool, oStr_str, oSl_slc, oAgg_agg, oTup_tup, oCons_cons, oNil_nil, sl_cells, h, h', hlk, hrk, cells_window (l := l) sz_int hlk, cells_window (l := r) sz_int hrk, enc_int, enc_u8]
        rw [wrap_succ (by have := hs.1; omega)])
      (fun m => by
        simp only [slices_Equal_Sint64.next0, slices_Equal_Sint64.round0, Int.ofNat_lt, str_inj, beq_dec, bne_dec, cond_dec, cond_nt, if_true, if_false, decide_true, decide_false, cond_true, cond_false, u8_inj, cells_div, szs, sz_list, inB_nat, Int.toNat_natCast, get0, get1, get2, get3, get4, get5, get6, get7, get8, Nat.reduceLT, bind_of, List.getElem?_cons_zero, List.getElem?_cons_succ, oInt_int, oBool_bool, oStr_str, oSl_slc, oAgg_agg, oTup_tup, oCons_cons, oNil_nil, sl_cells, Nat.lt_irrefl])
    rw [cond_neg (by rw [hl]; exact bne_self_eq_false _)]
    exact loop
  · rw [cond_pos (by simp; omega)]
    simp only [show (l = r) = False from eq_false fun e => hl (e ▸ rfl), decide_false]
end Ev.Ty
end

section
namespace Ev.Ty
open Go Ev
open Enc (enc)
open Sm (sm)
set_option linter.unusedSimpArgs false
set_option linter.unusedVariables false
theorem skip_inner {a : Int → Nat} : ∀ {t r : List Int} {k p : Nat}, skip a k t = some r → p + r.length < t.length → ∃ q, skip a 1 (t.drop p) = some q
  | [], r, k, p, h, hp => by simp at hp
  | n :: t, r, 0, p, h, hp => by
    rw [skip_zero] at h; cases h; omega
  | n :: t, r, k + 1, 0, h, hp => by
    rw [show k + 1 = 1 + k by omega, skip_add] at h
    cases h1 : skip a 1 (n :: t) with
    | none => rw [h1] at h; cases h
    | some q => exact ⟨q, by simpa using h1⟩
  | n :: t, r, k + 1, p + 1, h, hp => by
    rw [skip] at h
    obtain ⟨q, hq⟩ := skip_inner (p := p) h (by simp at hp; omega)
    exact ⟨q, by simpa using hq⟩
def endAt (l : List Symbol) (t : List Int) (p : Nat) : Nat := match skip (ar l) 1 (t.drop p) with
  | some r => t.length - r.length
  | none => t.length
theorem endAt_spec {l : List Symbol} {t : List Int} (ok : TermOk l t) {p : Nat} (hp : p < t.length) :
    p < endAt l t p ∧ endAt l t p ≤ t.length ∧ ∀ z, endRes z t (skip (ar l) 1 (t.drop p)) = (endAt l t p : Nat) := by
  obtain ⟨q, hq⟩ := skip_inner (p := p) ok.skip (by simpa using hp)
  have h := skip_at hq
  unfold endAt
  rw [hq]
  refine ⟨?_, by simp only; omega, fun z => rfl⟩
  have := h.2.2 (by omega)
  simp only
  omega
section
variable {l : List Symbol} (ok : SigOk ⟨l⟩)
include ok
theorem endOf_at {t : List Int} (ht : TermOk l t) {p : Nat} (hp : p < t.length) : Call F.impl_endOf [.agg [slc l], slc t, .int .i64 p] (.int .i64 (endAt l t p : Nat)) := by
  have h := impl_endOf ok t ht.node (by have := ht.le; omega) p (Nat.le_of_lt hp)
  rwa [(endAt_spec ht hp).2.2] at h
theorem l3End_at {t : List Int} (ht : TermOk l t) {p : Nat} (hp : p < t.length) : Call F.spec_l3End [.rref [slc l] 0, slc t, .int .i64 p] (.int .i64 (endAt l t p : Nat)) := by
  have h := spec_l3End ok t ht.node (by have := ht.le; omega) p (Nat.le_of_lt hp)
  rwa [(endAt_spec ht hp).2.2] at h
end
theorem cells_cut (t : List Int) (i j : Nat) : ((cells t).take (j * 1)).drop (i * 1) = cells ((t.take j).drop i) := by
  rw [cells_take t 1 j rfl, cells_drop _ 1 i rfl]
def subAt (l : List Symbol) (t : List Int) (p : Nat) : List Int := (t.take (endAt l t p)).drop p
theorem slc_cut (t : List Int) (i j : Nat) : T.sl 1 (((cells t).take (j * 1)).drop (i * 1)) = slc ((t.take j).drop i) := by rw [cells_cut]; rfl
theorem spec_l1Ints' (l : List Int) (h : l.length ≤ 4294967296) : Call F.spec_l1Ints [slc l] (slc l) := by
  refine call_of rfl 0 ((spec_l1Ints.ev _ _).trans ?_)
  rw [scalars_int, cond_pos rfl, cond_pos (ble_ok (by rw [cells_length, sz_int]; omega))]
  rfl
theorem slices_Clone_Sint64 (l : List Int) (h : l.length ≤ 4294967296) : Call F.slices_Clone_Sint64 [slc l] (slc l) := by
  refine lim_ext (e := cloneE) rfl (Ev.of fun m => ?_)
  show (intsOf (cells l)).bind _ = _
  rw [← intsT_cells, intsOf_intsT]
  show (bif _ then _ else _) = _
  rw [cond_pos (by rw [decide_eq_true_iff]; omega), intsT_cells]
  rfl
section
variable {l : List Symbol} (ok : SigOk ⟨l⟩)
include ok
theorem impl_subterm {t : List Int} (ht : TermOk l t) {p : Nat} (hp : p < t.length) : Call F.impl_subterm [.agg [slc l], slc t, .int .i64 p] (slc (subAt l t p)) := by
  refine call_of rfl 0 ((impl_subterm.ev _ _ _ _).trans ?_)
  obtain ⟨h1, h2, _⟩ := endAt_spec ht hp
  simp only [Int.ofNat_lt, str_inj, beq_dec, bne_dec, cond_dec, cond_nt, if_true, if_false, decide_true, decide_false, cond_true, cond_false, u8_inj, cells_div, szs, sz_list, inB_nat, Int.toNat_natCast, get0, get1, get2, get3, get4, get5, get6, get7, get8, Nat.reduceLT, bind_of, List.getElem?_cons_zero, List.getElem?_cons_succ, oInt_int, oBool_bool, oStr_str, oSl_slc, oAgg_agg, oTup_tup, oCons_cons, oNil_nil, sl_cells, (endOf_at ok ht hp).eq]
  rw [cond_pos (by simp; omega), slc_cut]
  rfl
theorem spec_l3Sub {t : List Int} (ht : TermOk l t) {p : Nat} (hp : p < t.length) : Call F.spec_l3Sub [.rref [slc l] 0, slc t, .int .i64 p] (slc (subAt l t p)) := by
  refine call_of rfl 0 ((spec_l3Sub.ev _ _ _ _).trans ?_)
  obtain ⟨h1, h2, _⟩ := endAt_spec ht hp
  have hle := ht.le
  simp only [Int.ofNat_lt, str_inj, beq_dec, bne_dec, cond_dec, cond_nt, if_true, if_false, decide_true, decide_false, cond_true, cond_false, u8_inj, cells_div, szs, sz_list, inB_nat, Int.toNat_natCast, get0, get1, get2, get3, get4, get5, get6, get7, get8, Nat.reduceLT, bind_of, List.getElem?_cons_zero, List.getElem?_cons_succ, oInt_int, oBool_bool, oStr_str, oSl_slc, oAgg_agg, oTup_tup, oCons_cons, oNil_nil, sl_cells, (l3End_at ok ht hp).eq]
  rw [cond_pos (by simp; omega), slc_cut, (spec_l1Ints' _ (by simp; omega)).eq]
  simp only [Int.ofNat_lt, str_inj, beq_dec, bne_dec, cond_dec, cond_nt, if_true, if_false, decide_true, decide_false, cond_true, cond_false, u8_inj, cells_div, szs, sz_list, inB_nat, Int.toNat_natCast, get0, get1, get2, get3, get4, get5, get6, get7, get8, Nat.reduceLT, bind_of, List.getElem?_cons_zero, List.getElem?_cons_succ, oInt_int, oBool_bool, oStr_str, oSl_slc, oAgg_agg, oTup_tup, oCons_cons, oNil_nil, sl_cells]
  rfl
def replAt (l : List Symbol) (t : List Int) (p : Nat) (by_ : List Int) : List Int := (t.take p ++ by_) ++ t.drop (endAt l t p)
theorem impl_replaced {t : List Int} (ht : TermOk l t) {p : Nat} (hp : p < t.length) (by_ : List Int) (hb : by_.length ≤ 1048576) : Call F.impl_replaced [.agg [slc l], slc t, .int .i64 p, slc by_] (slc (replAt l t p by_)) := by
  refine call_of rfl 0 ((impl_replaced.ev _ _ _ _ _).trans ?_)
  obtain ⟨h1, h2, _⟩ := endAt_spec ht hp
  have hle := ht.le
  simp only [cells_div, sz_int, Int.toNat_natCast]
  rw [cond_pos (by simp; omega), slc_cut, (slices_Clone_Sint64 _ (by simp; omega)).eq]
  simp only [Int.ofNat_lt, str_inj, beq_dec, bne_dec, cond_dec, cond_nt, if_true, if_false, decide_true, decide_false, cond_true, cond_false, u8_inj, cells_div, szs, sz_list, inB_nat, Int.toNat_natCast, get0, get1, get2, get3, get4, get5, get6, get7, get8, Nat.reduceLT, bind_of, List.getElem?_cons_zero, List.getElem?_cons_succ, oInt_int, oBool_bool, oStr_str, oSl_slc, oAgg_agg, oTup_tup, oCons_cons, oNil_nil, sl_cells, scalars_int, (endOf_at ok ht hp).eq, cells_cut, ← cells_append, cells_div, sz_int, Int.toNat_natCast]
  rw [cond_pos (ble_ok (by rw [cells_length, cells_length, sz_int]; simp; omega)), cond_pos (by simp; omega), cond_pos (ble_ok (by rw [cells_length, cells_length, sz_int]; simp; omega))]
  simp [replAt, slc]
theorem spec_l3Replace {t : List Int} (ht : TermOk l t) {p : Nat} (hp : p < t.length) (by_ : List Int) (hb : by_.length ≤ 1048576) : Call F.spec_l3Replace [.rref [slc l] 0, slc t, .int .i64 p, slc by_] (slc (replAt l t p by_)) := by
  refine call_of rfl 0 ((spec_l3Replace.ev _ _ _ _ _).trans ?_)
  obtain ⟨h1, h2, _⟩ := endAt_spec ht hp
  have hle := ht.le
  simp only [cells_div, sz_int, Int.toNat_natCast]
  rw [cond_pos (by simp; omega), slc_cut, (spec_l1Ints' _ (by simp; omega)).eq]
  simp only [Int.ofNat_lt, str_inj, beq_dec, bne_dec, cond_dec, cond_nt, if_true, if_false, decide_true, decide_false, cond_true, cond_false, u8_inj, cells_div, szs, sz_list, inB_nat, Int.toNat_natCast, get0, get1, get2, get3, get4, get5, get6, get7, get8, Nat.reduceLT, bind_of, List.getElem?_cons_zero, List.getElem?_cons_succ, oInt_int, oBool_bool, oStr_str, oSl_slc, oAgg_agg, oTup_tup, oCons_cons, oNil_nil, sl_cells, scalars_int, (l3End_at ok ht hp).eq, cells_cut, ← cells_append, cells_div, sz_int, Int.toNat_natCast]
  rw [cond_pos (ble_ok (by rw [cells_length, cells_length, sz_int]; simp; omega)), cond_pos (by simp; omega), cond_pos (ble_ok (by rw [cells_length, cells_length, sz_int]; simp; omega))]
  simp [replAt, slc]
end
def bindOf (vs : List Int) (ts : List (List Int)) (v : Int) : Option (List Int) := if idx (fun x => decide (x = v)) vs < 0 then none else ts[(idx (fun x => decide (x = v)) vs).toNat]?
theorem slices_Index_Sint64 (l : List Int) (x : Int) (hl : l.length ≤ 4294967296) : Call F.slices_Index_Sint64 [slc l, .int .i64 x] (.int .i64 (idx (fun y => decide (y = x)) l)) := by
  refine call_of rfl (l.length + 1) ((slices_Index_Sint64.ev _ _ _).trans ?_)
  simp only [Int.ofNat_lt, str_inj, beq_dec, bne_dec, cond_dec, cond_nt, if_true, if_false, decide_true, decide_false, cond_true, cond_false, u8_inj, cells_div, szs, sz_list, inB_nat, Int.toNat_natCast, get0, get1, get2, get3, get4, get5, get6, get7, get8, Nat.reduceLT, bind_of, List.getElem?_cons_zero, List.getElem?_cons_succ, oInt_int, oBool_bool, oStr_str, oSl_slc, oAgg_agg, oTup_tup, oCons_cons, oNil_nil, sl_cells]
  refine idx_loop (S := fun m k => slices_Index_Sint64.at0 (l.length + 1) m (slices_Index_Sint64.st0 (cells l) x l.length (k : Nat))) (fun m k h => ?_) (fun m => ?_) (Nat.lt_succ_self _)
  · have hlk : l[k]? = some l[k] := List.getElem?_eq_getElem h
    simp only [slices_Index_Sint64.next0, slices_Index_Sint64.round0, Int.ofNat_lt, str_inj, beq_dec, bne_dec, cond_dec, cond_nt, if_true, if_false, decide_true, decide_false, cond_true, cond_false, u8_inj, cells_div, szs, sz_list, inB_nat, Int.toNat_natCast, get0, get1, get2, get3, get4, get5, get6, get7, get8, Nat.reduceLT, bind_of, List.getElem?_cons_zero, List.getElem?_cons_succ, oInt_int, oBool_bool, oStr_str, oSl_slc, oAgg_agg, oTup_tup, oCons_cons, oNil_nil, sl_cells, h, hlk, enc_int]
    rw [wrap_succ (by omega)]
    by_cases e : x = l[k]
    · simp [e]
    · have e' : ¬ l[k] = x := fun h => e h.symm
      simp [e, e']
  · simp only [slices_Index_Sint64.next0, slices_Index_Sint64.round0, Int.ofNat_lt, str_inj, beq_dec, bne_dec, cond_dec, cond_nt, if_true, if_false, decide_true, decide_false, cond_true, cond_false, u8_inj, cells_div, szs, sz_list, inB_nat, Int.toNat_natCast, get0, get1, get2, get3, get4, get5, get6, get7, get8, Nat.reduceLT, bind_of, List.getElem?_cons_zero, List.getElem?_cons_succ, oInt_int, oBool_bool, oStr_str, oSl_slc, oAgg_agg, oTup_tup, oCons_cons, oNil_nil, sl_cells, Nat.lt_irrefl]
def ofT : Option (List Int) → T
  | some t => .tup [slc t, .bool true]
  | none => .tup [slc ([] : List Int), .bool false]
theorem impl_Binding_of (vs : List Int) (ts : List (List Int)) (v : Int) (hl : vs.length = ts.length) (hs : vs.length ≤ 4294967296) : Call F.impl_Binding_of [.agg [slc vs, slc ts], .int .i64 v] (ofT (bindOf vs ts v)) := by
  refine call_of rfl 0 ((impl_Binding_of.ev _ _ _ _).trans ?_)
  simp only [Int.ofNat_lt, str_inj, beq_dec, bne_dec, cond_dec, cond_nt, if_true, if_false, decide_true, decide_false, cond_true, cond_false, u8_inj, cells_div, szs, sz_list, inB_nat, Int.toNat_natCast, get0, get1, get2, get3, get4, get5, get6, get7, get8, Nat.reduceLT, bind_of, List.getElem?_cons_zero, List.getElem?_cons_succ, oInt_int, oBool_bool, oStr_str, oSl_slc, oAgg_agg, oTup_tup, oCons_cons, oNil_nil, sl_cells, (slices_Index_Sint64 vs v hs).eq, bindOf]
  rcases idx_spec (fun x : Int => decide (x = v)) vs with ⟨h, _⟩ | ⟨i, hi, h, _, _⟩
  · simp only [h, Int.ofNat_lt, str_inj, beq_dec, bne_dec, cond_dec, cond_nt, if_true, if_false, decide_true, decide_false, cond_true, cond_false, u8_inj, cells_div, szs, sz_list, inB_nat, Int.toNat_natCast, get0, get1, get2, get3, get4, get5, get6, get7, get8, Nat.reduceLT, bind_of, List.getElem?_cons_zero, List.getElem?_cons_succ, oInt_int, oBool_bool, oStr_str, oSl_slc, oAgg_agg, oTup_tup, oCons_cons, oNil_nil, sl_cells, ofT, slc_nil, show ((-1 : Int) < 0) = True from by simp]
  · have hn : ¬ ((i : Nat) : Int) < 0 := by omega
    have hit : i < ts.length := by omega
    simp only [h, hn, Int.ofNat_lt, str_inj, beq_dec, bne_dec, cond_dec, cond_nt, if_true, if_false, decide_true, decide_false, cond_true, cond_false, u8_inj, cells_div, szs, sz_list, inB_nat, Int.toNat_natCast, get0, get1, get2, get3, get4, get5, get6, get7, get8, Nat.reduceLT, bind_of, List.getElem?_cons_zero, List.getElem?_cons_succ, oInt_int, oBool_bool, oStr_str, oSl_slc, oAgg_agg, oTup_tup, oCons_cons, oNil_nil, sl_cells, hit, List.getElem?_eq_getElem, enc_list, ofT]
theorem spec_l6Term (vs : List Int) (ts : List (List Int)) (v : Int) (hl : vs.length = ts.length) (hs : vs.length ≤ 4294967296) : Call F.spec_l6Term [.rref [slc vs, slc ts] 0, .int .i64 v] (slc ((bindOf vs ts v).getD [])) := by
  refine call_of rfl (vs.length + 1) ((spec_l6Term.ev _ _ _ _).trans ?_)
  have loop := scan_loop (l := List.range vs.length) (g := fun k => if vs[k]? = some v then some (some (slc (ts[k]?.getD []), [])) else none) (z := some (slc ([] : List Int), []))
    (S := fun m k => spec_l6Term.at0 (vs.length + 1) m (spec_l6Term.st0 (cells vs) (cells ts) v (k : Nat))) (fun m k h => ?_) (fun m => ?_) (f := vs.length + 1) (by simp)
  · refine loop.trans ?_
    unfold bindOf
    rcases idx_spec (fun x : Int => decide (x = v)) vs with ⟨h, hno⟩ | ⟨i, hi, h, hyes, hno⟩
    · rw [h, if_pos (by omega)]
      have : (List.range vs.length).findSome? (fun k => if vs[k]? = some v then some ((some (slc (ts[k]?.getD []), []) : R)) else none) = none := by
        rw [List.findSome?_eq_none_iff]
        intro k hk
        rw [List.mem_range] at hk
        rw [if_neg]
        rw [List.getElem?_eq_getElem hk]
        intro e
        have := hno _ (List.getElem_mem hk)
        simp at this e
        exact this e
      rw [this]; rfl
    · rw [h, if_neg (by omega)]
      have hit : i < ts.length := by omega
      have : (List.range vs.length).findSome? (fun k => if vs[k]? = some v then some ((some (slc (ts[k]?.getD []), []) : R)) else none) = some (some (slc ts[i], [])) := by
        rw [List.findSome?_eq_some_iff]
        refine ⟨List.range i, i, (List.range' (i + 1) (vs.length - i - 1)), ?_, ?_, ?_⟩
        · rw [List.range_eq_range', List.range_eq_range', ← List.range'_succ, show vs.length - i - 1 + 1 = vs.length - i by omega]
          have := List.range'_append (s := 0) (m := i) (n := vs.length - i) (step := 1)
          simp only [Nat.one_mul, Nat.zero_add] at this
          rw [this, Nat.add_sub_cancel' (Nat.le_of_lt hi)]
        · have e1 : vs[i]? = some v := (List.getElem?_eq_getElem hi).trans (congrArg some (of_decide_eq_true hyes))
          have e2 : ts[i]? = some ts[i] := List.getElem?_eq_getElem hit
          simp only [e1, e2, if_true, Option.getD_some]
        · intro k hk
          rw [List.mem_range] at hk
          rw [if_neg]
          rw [List.getElem?_eq_getElem (by omega)]
          intro e
          have := hno k hk
          simp at this e
          exact this e
      rw [this, Int.toNat_natCast, List.getElem?_eq_getElem hit]; rfl
  · rw [List.length_range] at h
    have hlk : vs[k]? = some vs[k] := List.getElem?_eq_getElem h
    have hkt : k < ts.length := by omega
    simp only [spec_l6Term.next0, spec_l6Term.round0, Int.ofNat_lt, str_inj, beq_dec, bne_dec, cond_dec, cond_nt, if_true, if_false, decide_true, decide_false, cond_true, cond_false, u8_inj, cells_div, szs, sz_list, inB_nat, Int.toNat_natCast, get0, get1, get2, get3, get4, get5, get6, get7, get8, Nat.reduceLT, bind_of, List.getElem?_cons_zero, List.getElem?_cons_succ, oInt_int, oBool_bool, oStr_str, oSl_slc, oAgg_agg, oTup_tup, oCons_cons, oNil_nil, sl_cells, h, hkt, hlk, List.getElem?_eq_getElem, enc_int, enc_list, List.getElem_range, Option.getD_some, Option.some.injEq]
    rw [wrap_succ (by omega)]
    by_cases e : vs[k] = v <;> simp [e]
  · rw [List.length_range]
    simp only [spec_l6Term.next0, spec_l6Term.round0, Int.ofNat_lt, str_inj, beq_dec, bne_dec, cond_dec, cond_nt, if_true, if_false, decide_true, decide_false, cond_true, cond_false, u8_inj, cells_div, szs, sz_list, inB_nat, Int.toNat_natCast, get0, get1, get2, get3, get4, get5, get6, get7, get8, Nat.reduceLT, bind_of, List.getElem?_cons_zero, List.getElem?_cons_succ, oInt_int, oBool_bool, oStr_str, oSl_slc, oAgg_agg, oTup_tup, oCons_cons, oNil_nil, sl_cells, Nat.lt_irrefl, slc_nil]
def applied (vs : List Int) (ts : List (List Int)) (t : List Int) : List Int := t.flatMap fun n => (bindOf vs ts (-1 - n)).getD [n]
structure BindOk (vs : List Int) (ts : List (List Int)) : Prop where
  len : vs.length = ts.length
  le : vs.length ≤ 1000
  nn : ∀ v ∈ vs, 0 ≤ v
  tm : ∀ t ∈ ts, 1 ≤ t.length ∧ t.length ≤ 4096
theorem bindOf_neg {vs : List Int} {ts : List (List Int)} (ok : BindOk vs ts) {v : Int} (hv : v < 0) : bindOf vs ts v = none := by
  unfold bindOf
  rcases idx_spec (fun x : Int => decide (x = v)) vs with ⟨h, _⟩ | ⟨i, hi, h, hy, _⟩
  · rw [if_pos (by omega)]
  · have := ok.nn _ (List.getElem_mem hi)
    simp at hy; omega
theorem bindOf_mem {vs : List Int} {ts : List (List Int)} {v : Int} {t : List Int} (h : bindOf vs ts v = some t) : t ∈ ts := by
  unfold bindOf at h
  split at h
  · cases h
  · exact List.mem_of_getElem? h
def appStep (vs : List Int) (ts : List (List Int)) (o : List Int) (n : Int) : List Int := o ++ (bindOf vs ts (-1 - n)).getD [n]
theorem app_fold (vs : List Int) (ts : List (List Int)) : ∀ (t o : List Int), t.foldl (appStep vs ts) o = o ++ applied vs ts t
  | [], o => by simp [applied]
  | n :: t, o => by
    rw [List.foldl_cons, app_fold vs ts t]
    simp [appStep, applied]
def appI (k : Nat) (o : List Int) : Prop := o.length ≤ k * 4096
theorem appI_step {vs : List Int} {ts : List (List Int)} (ok : BindOk vs ts) {k : Nat} {o : List Int} {n : Int} (h : appI k o) : appI (k + 1) (appStep vs ts o n) := by
  unfold appI appStep at *
  rw [List.length_append]
  cases hb : bindOf vs ts (-1 - n) with
  | none => simp; omega
  | some t => have := (ok.tm t (bindOf_mem hb)).2; simp; omega
theorem impl_Binding_applied (vs : List Int) (ts : List (List Int)) (ok : BindOk vs ts) (t : List Int) (ht : t.length ≤ 4096) (hr : ∀ n ∈ t, -4611686018427387904 ≤ n ∧ n ≤ 4611686018427387904) : Call F.impl_Binding_applied [.agg [slc vs, slc ts], slc t] (slc (applied vs ts t)) := by
  have hle := ok.le
  refine call_of rfl (t.length + 1) ((impl_Binding_applied.ev _ _ _ _).trans ?_)
  simp only [cells_div, sz_int]
  have key := fold_loop (l := t) (f := t.length + 1) (S := fun m k (o : List Int) => impl_Binding_applied.at0 (t.length + 1) m (impl_Binding_applied.st0 (cells t) t.length (k : Nat) (cells vs) (cells ts) (cells o))) (g := appStep vs ts) (z := fun (o : List Int) => some (slc o, [])) appI
    (fun m k o h ho => ?_) (fun k o h ho => appI_step ok ho) (fun m o ho => ?_) [] (by simp [appI]) (by omega)
  · rw [app_fold] at key; exact key
  · have hn := hr _ (List.getElem_mem h)
    have ho : o.length ≤ k * 4096 := ho
    simp only [impl_Binding_applied.next0, impl_Binding_applied.round0, Int.ofNat_lt, str_inj, beq_dec, bne_dec, cond_dec, cond_nt, if_true, if_false, decide_true, decide_false, cond_true, cond_false, u8_inj, cells_div, szs, sz_list, inB_nat, Int.toNat_natCast, get0, get1, get2, get3, get4, get5, get6, get7, get8, Nat.reduceLT, bind_of, List.getElem?_cons_zero, List.getElem?_cons_succ, oInt_int, oBool_bool, oStr_str, oSl_slc, oAgg_agg, oTup_tup, oCons_cons, oNil_nil, sl_cells, h, List.getElem?_eq_getElem, enc_int, wrap64 (x := -1 - t[k]) (by omega), (impl_Binding_of vs ts (-1 - t[k]) ok.len (by omega)).eq, appStep]
    cases hb : bindOf vs ts (-1 - t[k]) with
    | none =>
      simp only [ofT, Int.ofNat_lt, str_inj, beq_dec, bne_dec, cond_dec, cond_nt, if_true, if_false, decide_true, decide_false, cond_true, cond_false, u8_inj, cells_div, szs, sz_list, inB_nat, Int.toNat_natCast, get0, get1, get2, get3, get4, get5, get6, get7, get8, Nat.reduceLT, bind_of, List.getElem?_cons_zero, List.getElem?_cons_succ, oInt_int, oBool_bool, oStr_str, oSl_slc, oAgg_agg, oTup_tup, oCons_cons, oNil_nil, sl_cells, scalars_int, Option.getD_none, ← cells_append]
      rw [cond_pos (ble_ok (by rw [cells_length, sz_int]; omega)), cells_snoc_int, wrap_succ (by omega)]
    | some x =>
      have hx := (ok.tm x (bindOf_mem hb)).2
      simp only [ofT, Int.ofNat_lt, str_inj, beq_dec, bne_dec, cond_dec, cond_nt, if_true, if_false, decide_true, decide_false, cond_true, cond_false, u8_inj, cells_div, szs, sz_list, inB_nat, Int.toNat_natCast, get0, get1, get2, get3, get4, get5, get6, get7, get8, Nat.reduceLT, bind_of, List.getElem?_cons_zero, List.getElem?_cons_succ, oInt_int, oBool_bool, oStr_str, oSl_slc, oAgg_agg, oTup_tup, oCons_cons, oNil_nil, sl_cells, scalars_int, Option.getD_some, ← cells_append]
      rw [cond_pos (ble_ok (by rw [cells_length, cells_length, sz_int]; omega)), wrap_succ (by omega)]
  · simp only [impl_Binding_applied.next0, impl_Binding_applied.round0, Int.ofNat_lt, str_inj, beq_dec, bne_dec, cond_dec, cond_nt, if_true, if_false, decide_true, decide_false, cond_true, cond_false, u8_inj, cells_div, szs, sz_list, inB_nat, Int.toNat_natCast, get0, get1, get2, get3, get4, get5, get6, get7, get8, Nat.reduceLT, bind_of, List.getElem?_cons_zero, List.getElem?_cons_succ, oInt_int, oBool_bool, oStr_str, oSl_slc, oAgg_agg, oTup_tup, oCons_cons, oNil_nil, sl_cells, Nat.lt_irrefl]
theorem spec_l6Apply (vs : List Int) (ts : List (List Int)) (ok : BindOk vs ts) (t : List Int) (ht : t.length ≤ 4096) (hr : ∀ n ∈ t, -4611686018427387904 ≤ n ∧ n ≤ 4611686018427387904) : Call F.spec_l6Apply [.rref [slc vs, slc ts] 0, slc t] (slc (applied vs ts t)) := by
  have hle := ok.le
  refine call_of rfl (t.length + 1) ((spec_l6Apply.ev _ _ _ _).trans ?_)
  have key := fold_loop (l := t) (f := t.length + 1) (S := fun m k (o : List Int) => spec_l6Apply.at0 (t.length + 1) m (spec_l6Apply.st0 (cells vs) (cells ts) (cells t) (k : Nat) (cells o))) (g := appStep vs ts) (z := fun (o : List Int) => some (slc o, [])) appI
    (fun m k o h ho => ?_) (fun k o h ho => appI_step ok ho) (fun m o ho => ?_) [] (by simp [appI]) (by omega)
  · rw [app_fold] at key; exact key
  · have hn := hr _ (List.getElem_mem h)
    have ho : o.length ≤ k * 4096 := ho
    by_cases hneg : t[k] < 0
    · simp only [spec_l6Apply.next0, spec_l6Apply.round0, Int.ofNat_lt, str_inj, beq_dec, bne_dec, cond_dec, cond_nt, if_true, if_false, decide_true, decide_false, cond_true, cond_false, u8_inj, cells_div, szs, sz_list, inB_nat, Int.toNat_natCast, get0, get1, get2, get3, get4, get5, get6, get7, get8, Nat.reduceLT, bind_of, List.getElem?_cons_zero, List.getElem?_cons_succ, oInt_int, oBool_bool, oStr_str, oSl_slc, oAgg_agg, oTup_tup, oCons_cons, oNil_nil, sl_cells, h, List.getElem?_eq_getElem, enc_int, hneg, wrap64 (x := -1 - t[k]) (by omega), (spec_l6Term vs ts (-1 - t[k]) ok.len (by omega)).eq, appStep]
      cases hb : bindOf vs ts (-1 - t[k]) with
      | none =>
        simp only [slc_nil, Int.ofNat_lt, str_inj, beq_dec, bne_dec, cond_dec, cond_nt, if_true, if_false, decide_true, decide_false, cond_true, cond_false, u8_inj, cells_div, szs, sz_list, inB_nat, Int.toNat_natCast, get0, get1, get2, get3, get4, get5, get6, get7, get8, Nat.reduceLT, bind_of, List.getElem?_cons_zero, List.getElem?_cons_succ, oInt_int, oBool_bool, oStr_str, oSl_slc, oAgg_agg, oTup_tup, oCons_cons, oNil_nil, sl_cells, List.all_nil, Option.getD_none, cells_nil, List.length_nil, ← cells_append, Int.natCast_zero, Nat.zero_div, Int.ofNat_zero]
        rw [cond_pos (ble_ok (by rw [cells_length, sz_int]; omega)), cells_snoc_int, wrap_succ (by omega)]
      | some x =>
        have hx := ok.tm x (bindOf_mem hb)
        have hx0 : ¬ ((x.length : Int) = 0) := by omega
        simp only [Int.ofNat_lt, str_inj, beq_dec, bne_dec, cond_dec, cond_nt, if_true, if_false, decide_true, decide_false, cond_true, cond_false, u8_inj, cells_div, szs, sz_list, inB_nat, Int.toNat_natCast, get0, get1, get2, get3, get4, get5, get6, get7, get8, Nat.reduceLT, bind_of, List.getElem?_cons_zero, List.getElem?_cons_succ, oInt_int, oBool_bool, oStr_str, oSl_slc, oAgg_agg, oTup_tup, oCons_cons, oNil_nil, sl_cells, scalars_int, Option.getD_some, hx0, ← cells_append]
        rw [cond_pos (ble_ok (by rw [cells_length, cells_length, sz_int]; omega)), wrap_succ (by omega)]
    · simp only [spec_l6Apply.next0, spec_l6Apply.round0, Int.ofNat_lt, str_inj, beq_dec, bne_dec, cond_dec, cond_nt, if_true, if_false, decide_true, decide_false, cond_true, cond_false, u8_inj, cells_div, szs, sz_list, inB_nat, Int.toNat_natCast, get0, get1, get2, get3, get4, get5, get6, get7, get8, Nat.reduceLT, bind_of, List.getElem?_cons_zero, List.getElem?_cons_succ, oInt_int, oBool_bool, oStr_str, oSl_slc, oAgg_agg, oTup_tup, oCons_cons, oNil_nil, sl_cells, h, List.getElem?_eq_getElem, enc_int, hneg, appStep, bindOf_neg ok (v := -1 - t[k]) (by omega), Option.getD_none]
      rw [cond_pos (ble_ok (by rw [cells_length, sz_int]; omega)), cells_snoc_int, wrap_succ (by omega)]
  · simp only [spec_l6Apply.next0, spec_l6Apply.round0, Int.ofNat_lt, str_inj, beq_dec, bne_dec, cond_dec, cond_nt, if_true, if_false, decide_true, decide_false, cond_true, cond_false, u8_inj, cells_div, szs, sz_list, inB_nat, Int.toNat_natCast, get0, get1, get2, get3, get4, get5, get6, get7, get8, Nat.reduceLT, bind_of, List.getElem?_cons_zero, List.getElem?_cons_succ, oInt_int, oBool_bool, oStr_str, oSl_slc, oAgg_agg, oTup_tup, oCons_cons, oNil_nil, sl_cells, Nat.lt_irrefl]
theorem getD_at {vs : List Int} {k : Nat} (h : k < vs.length) : vs.getD k 0 = vs[k] := by rw [List.getD_eq_getElem?_getD, List.getElem?_eq_getElem h]; rfl
end Ev.Ty
end

section
namespace Ev.Ty
open Go Ev
open Enc (enc)
open Sm (sm)
set_option linter.unusedSimpArgs false
set_option linter.unusedVariables false
theorem slices_ContainsFunc_Sint64_at1_impl_isRule_1 (t v : List Int) (hs : t.length ≤ 4294967296) (hv : v.length ≤ 4294967296) :
    Call F.slices_ContainsFunc_Sint64 [slc t, .clo F.impl_isRule_1 [.rref [slc v] 0]] (.bool (t.any fun n => decide (n ∉ v))) := by
  have hi : Call F.slices_IndexFunc_Sint64 [slc t, .clo F.impl_isRule_1 [.rref [slc v] 0]] (.int .i64 (idx (fun n => decide (n ∉ v)) t)) := by
    refine call_of rfl (t.length + 1) ((slices_IndexFunc_Sint64_at1_impl_isRule_1.ev _ _ _).trans ?_)
    refine idx_loop (S := fun m k => slices_IndexFunc_Sint64_at1_impl_isRule_1.at0 (t.length + 1) m (slices_IndexFunc_Sint64_at1_impl_isRule_1.st0 (cells t) _ _ (k : Nat))) (fun m k h => ?_) (fun m => ?_) (Nat.lt_succ_self _)
    · have hlk : t[k]? = some t[k] := List.getElem?_eq_getElem h
      have hc : Call F.impl_isRule_1 [.int .i64 t[k], .rref [slc v] 0] (.bool (decide (t[k] ∉ v))) := by
        refine call_of rfl 0 ((impl_isRule_1.ev _ _ _).trans ?_)
        simp only [Int.ofNat_lt, str_inj, beq_dec, bne_dec, cond_dec, cond_nt, if_true, if_false, decide_true, decide_false, cond_true, cond_false, u8_inj, cells_div, szs, sz_list, inB_nat, Int.toNat_natCast, get0, get1, get2, get3, get4, get5, get6, get7, get8, Nat.reduceLT, bind_of, List.getElem?_cons_zero, List.getElem?_cons_succ, oInt_int, oBool_bool, oStr_str, oSl_slc, oAgg_agg, oTup_tup, oCons_cons, oNil_nil, sl_cells, (slices_Contains_Sint64 v t[k] hv).eq, decide_not]
      simp only [slices_IndexFunc_Sint64_at1_impl_isRule_1.next0, slices_IndexFunc_Sint64_at1_impl_isRule_1.round0, Int.ofNat_lt, str_inj, beq_dec, bne_dec, cond_dec, cond_nt, if_true, if_false, decide_true, decide_false, cond_true, cond_false, u8_inj, cells_div, szs, sz_list, inB_nat, Int.toNat_natCast, get0, get1, get2, get3, get4, get5, get6, get7, get8, Nat.reduceLT, bind_of, List.getElem?_cons_zero, List.getElem?_cons_succ, oInt_int, oBool_bool, oStr_str, oSl_slc, oAgg_agg, oTup_tup, oCons_cons, oNil_nil, sl_cells, h, hlk, enc_int, hc.eq]
      rw [wrap_succ (by omega)]
      by_cases e : t[k] ∈ v <;> simp [e]
    · simp only [slices_IndexFunc_Sint64_at1_impl_isRule_1.next0, slices_IndexFunc_Sint64_at1_impl_isRule_1.round0, Int.ofNat_lt, str_inj, beq_dec, bne_dec, cond_dec, cond_nt, if_true, if_false, decide_true, decide_false, cond_true, cond_false, u8_inj, cells_div, szs, sz_list, inB_nat, Int.toNat_natCast, get0, get1, get2, get3, get4, get5, get6, get7, get8, Nat.reduceLT, bind_of, List.getElem?_cons_zero, List.getElem?_cons_succ, oInt_int, oBool_bool, oStr_str, oSl_slc, oAgg_agg, oTup_tup, oCons_cons, oNil_nil, sl_cells, Nat.lt_irrefl]
  refine call_of rfl 0 ((slices_ContainsFunc_Sint64_at1_impl_isRule_1.ev _ _ _).trans ?_)
  simp only [Int.ofNat_lt, str_inj, beq_dec, bne_dec, cond_dec, cond_nt, if_true, if_false, decide_true, decide_false, cond_true, cond_false, u8_inj, cells_div, szs, sz_list, inB_nat, Int.toNat_natCast, get0, get1, get2, get3, get4, get5, get6, get7, get8, Nat.reduceLT, bind_of, List.getElem?_cons_zero, List.getElem?_cons_succ, oInt_int, oBool_bool, oStr_str, oSl_slc, oAgg_agg, oTup_tup, oCons_cons, oNil_nil, sl_cells, hi.eq, idx_nonneg]
theorem varsOf_term {l : List Symbol} {t : List Int} (h : TermOk l t) : Call F.impl_varsOf [.sl 1 [slc t]] (slc (varsOf [t])) ∧ (varsOf [t]).length ≤ 24 := by
  have hle := h.le
  have hvl := varsOf_length [t]
  refine ⟨impl_varsOf [t] (by simp) (fun x hx => ?_) (by simp; omega), by simp at hvl; omega⟩
  simp only [List.mem_cons, List.not_mem_nil, or_false] at hx
  subst hx
  exact ⟨by omega, h.ge⟩
theorem head0 {l : List Symbol} {t : List Int} (h : TermOk l t) : t[0]? = some (t.headD 0) := by
  have := h.pos
  cases t with
  | nil => simp at this
  | cons x r => rfl
theorem impl_isRule {l : List Symbol} {a b : List Int} (ha : TermOk l a) (hb : TermOk l b) : Call F.impl_isRule [.agg [slc a, slc b]] (.bool (ruleOk ⟨a, b⟩)) := by
  refine call_of rfl 0 ((impl_isRule.ev _ _ _).trans ?_)
  obtain ⟨ca, la⟩ := varsOf_term ha
  obtain ⟨cb, lb⟩ := varsOf_term hb
  have h0 : (cells a)[0]? = some (.int .i64 (a.headD 0)) := by
    have := get0 (l := a) (k := 1) (i := 0) sz_int
    rw [Nat.zero_mul] at this
    rw [this, head0 ha]; rfl
  have hin : inB 0 ((cells a).length / 1) = true := by
    rw [cells_div sz_int]
    have := inB_nat 0 a.length
    have hp := ha.pos
    rw [show (0 : Int) = ((0 : Nat) : Int) from rfl, this]
    exact decide_eq_true hp
  have hc := slices_ContainsFunc_Sint64_at1_impl_isRule_1 (varsOf [b]) (varsOf [a]) (by omega) (by omega)
  rw [hin, cond_true, h0]
  simp only [Int.ofNat_lt, str_inj, beq_dec, bne_dec, cond_dec, cond_nt, if_true, if_false, decide_true, decide_false, cond_true, cond_false, u8_inj, cells_div, szs, sz_list, inB_nat, Int.toNat_natCast, get0, get1, get2, get3, get4, get5, get6, get7, get8, Nat.reduceLT, bind_of, List.getElem?_cons_zero, List.getElem?_cons_succ, oInt_int, oBool_bool, oStr_str, oSl_slc, oAgg_agg, oTup_tup, oCons_cons, oNil_nil, sl_cells, ruleOk]
  have e : ((varsOf [b]).any fun n => decide (n ∉ varsOf [a])) = b.any fun n => decide (n < 0 ∧ n ∉ a) := by
    rw [Bool.eq_iff_iff, List.any_eq_true, List.any_eq_true]
    constructor
    · rintro ⟨v, hv, h⟩
      rw [decide_eq_true_eq] at h
      obtain ⟨v0, t, ht, hm⟩ := mem_varsOf.1 hv
      simp only [List.mem_cons, List.not_mem_nil, or_false] at ht
      subst ht
      refine ⟨-1 - v, hm, ?_⟩
      rw [decide_eq_true_eq]
      exact ⟨by omega, fun hn => h (mem_varsOf.2 ⟨v0, a, by simp, hn⟩)⟩
    · rintro ⟨n, hn, h⟩
      rw [decide_eq_true_eq] at h
      refine ⟨-1 - n, mem_varsOf.2 ⟨by omega, b, by simp, by rw [show -1 - (-1 - n) = n by omega]; exact hn⟩, ?_⟩
      rw [decide_eq_true_eq]
      intro hm
      obtain ⟨_, t, ht, hm'⟩ := mem_varsOf.1 hm
      simp only [List.mem_cons, List.not_mem_nil, or_false] at ht
      subst ht
      rw [show -1 - (-1 - n) = n by omega] at hm'
      exact h.2 hm'
  by_cases h1 : a.headD 0 < 0
  · have h2 : ¬ 0 ≤ a.headD 0 := by omega
    simp only [h1, h2, Int.ofNat_lt, str_inj, beq_dec, bne_dec, cond_dec, cond_nt, if_true, if_false, decide_true, decide_false, cond_true, cond_false, u8_inj, cells_div, szs, sz_list, inB_nat, Int.toNat_natCast, get0, get1, get2, get3, get4, get5, get6, get7, get8, Nat.reduceLT, bind_of, List.getElem?_cons_zero, List.getElem?_cons_succ, oInt_int, oBool_bool, oStr_str, oSl_slc, oAgg_agg, oTup_tup, oCons_cons, oNil_nil, sl_cells, Bool.false_and]
  · have h2 : 0 ≤ a.headD 0 := by omega
    simp only [h1, h2, Int.ofNat_lt, str_inj, beq_dec, bne_dec, cond_dec, cond_nt, if_true, if_false, decide_true, decide_false, cond_true, cond_false, u8_inj, cells_div, szs, sz_list, inB_nat, Int.toNat_natCast, get0, get1, get2, get3, get4, get5, get6, get7, get8, Nat.reduceLT, bind_of, List.getElem?_cons_zero, List.getElem?_cons_succ, oInt_int, oBool_bool, oStr_str, oSl_slc, oAgg_agg, oTup_tup, oCons_cons, oNil_nil, sl_cells, ca.eq, cb.eq, hc.eq, e, Bool.true_and]
theorem impl_RulesFault (l : List Symbol) (hs : l.length ≤ 4294967296) (es : List Equation) (he : sm 4294967296 es) : Call F.impl_RulesFault [.agg [slc l], slc es] (.int .i64 (rulesFault ⟨l⟩ es)) := by
  refine call_of rfl 0 ((impl_RulesFault.ev _ _ _).trans ?_)
  simp only [Int.ofNat_lt, str_inj, beq_dec, bne_dec, cond_dec, cond_nt, if_true, if_false, decide_true, decide_false, cond_true, cond_false, u8_inj, cells_div, szs, sz_list, inB_nat, Int.toNat_natCast, get0, get1, get2, get3, get4, get5, get6, get7, get8, Nat.reduceLT, bind_of, List.getElem?_cons_zero, List.getElem?_cons_succ, oInt_int, oBool_bool, oStr_str, oSl_slc, oAgg_agg, oTup_tup, oCons_cons, oNil_nil, sl_cells, (impl_EquationsFault l hs es he).eq, rulesFault, rulesFault0]
  by_cases h1 : sigFault ⟨l⟩ = 0
  case neg => simp only [h1, Int.ofNat_lt, str_inj, beq_dec, bne_dec, cond_dec, cond_nt, if_true, if_false, decide_true, decide_false, cond_true, cond_false, u8_inj, cells_div, szs, sz_list, inB_nat, Int.toNat_natCast, get0, get1, get2, get3, get4, get5, get6, get7, get8, Nat.reduceLT, bind_of, List.getElem?_cons_zero, List.getElem?_cons_succ, oInt_int, oBool_bool, oStr_str, oSl_slc, oAgg_agg, oTup_tup, oCons_cons, oNil_nil, sl_cells, ne_eq, not_false_eq_true]
  simp only [h1, Int.ofNat_lt, str_inj, beq_dec, bne_dec, cond_dec, cond_nt, if_true, if_false, decide_true, decide_false, cond_true, cond_false, u8_inj, cells_div, szs, sz_list, inB_nat, Int.toNat_natCast, get0, get1, get2, get3, get4, get5, get6, get7, get8, Nat.reduceLT, bind_of, List.getElem?_cons_zero, List.getElem?_cons_succ, oInt_int, oBool_bool, oStr_str, oSl_slc, oAgg_agg, oTup_tup, oCons_cons, oNil_nil, sl_cells, ne_eq, not_true_eq_false]
  by_cases h2 : eqsFault l es = 0
  case neg => simp only [h2, Int.ofNat_lt, str_inj, beq_dec, bne_dec, cond_dec, cond_nt, if_true, if_false, decide_true, decide_false, cond_true, cond_false, u8_inj, cells_div, szs, sz_list, inB_nat, Int.toNat_natCast, get0, get1, get2, get3, get4, get5, get6, get7, get8, Nat.reduceLT, bind_of, List.getElem?_cons_zero, List.getElem?_cons_succ, oInt_int, oBool_bool, oStr_str, oSl_slc, oAgg_agg, oTup_tup, oCons_cons, oNil_nil, sl_cells, not_false_eq_true]
  obtain ⟨hlen, hok⟩ := eqsOk_iff.1 h2
  have hi : Call F.slices_IndexFunc_SEquation [slc es, .clo F.impl_RulesFault_1 []] (.int .i64 (idx (fun e => !ruleOk e) es)) := by
    refine call_of rfl (es.length + 1) ((slices_IndexFunc_SEquation_at1_impl_RulesFault_1.ev _ _).trans ?_)
    simp only [Int.ofNat_lt, str_inj, beq_dec, bne_dec, cond_dec, cond_nt, if_true, if_false, decide_true, decide_false, cond_true, cond_false, u8_inj, cells_div, szs, sz_list, inB_nat, Int.toNat_natCast, get0, get1, get2, get3, get4, get5, get6, get7, get8, Nat.reduceLT, bind_of, List.getElem?_cons_zero, List.getElem?_cons_succ, oInt_int, oBool_bool, oStr_str, oSl_slc, oAgg_agg, oTup_tup, oCons_cons, oNil_nil, sl_cells]
    refine idx_loop (S := fun m k => slices_IndexFunc_SEquation_at1_impl_RulesFault_1.at0 (es.length + 1) m (slices_IndexFunc_SEquation_at1_impl_RulesFault_1.st0 (cells es) es.length (k : Nat))) (fun m k h => ?_) (fun m => ?_) (Nat.lt_succ_self _)
    · have hlk : es[k]? = some es[k] := List.getElem?_eq_getElem h
      have ho := hok es[k] (List.getElem_mem h)
      have hc : Call F.impl_RulesFault_1 [.agg [slc es[k].left, slc es[k].right]] (.bool (!ruleOk es[k])) := by
        refine call_of rfl 0 ((impl_RulesFault_1.ev _ _ _).trans ?_)
        simp only [Int.ofNat_lt, str_inj, beq_dec, bne_dec, cond_dec, cond_nt, if_true, if_false, decide_true, decide_false, cond_true, cond_false, u8_inj, cells_div, szs, sz_list, inB_nat, Int.toNat_natCast, get0, get1, get2, get3, get4, get5, get6, get7, get8, Nat.reduceLT, bind_of, List.getElem?_cons_zero, List.getElem?_cons_succ, oInt_int, oBool_bool, oStr_str, oSl_slc, oAgg_agg, oTup_tup, oCons_cons, oNil_nil, sl_cells, (impl_isRule ho.left ho.right).eq]
      simp only [slices_IndexFunc_SEquation_at1_impl_RulesFault_1.next0, slices_IndexFunc_SEquation_at1_impl_RulesFault_1.round0, Int.ofNat_lt, str_inj, beq_dec, bne_dec, cond_dec, cond_nt, if_true, if_false, decide_true, decide_false, cond_true, cond_false, u8_inj, cells_div, szs, sz_list, inB_nat, Int.toNat_natCast, get0, get1, get2, get3, get4, get5, get6, get7, get8, Nat.reduceLT, bind_of, List.getElem?_cons_zero, List.getElem?_cons_succ, oInt_int, oBool_bool, oStr_str, oSl_slc, oAgg_agg, oTup_tup, oCons_cons, oNil_nil, sl_cells, h, hlk, enc_Equation, hc.eq]
      rw [wrap_succ (by omega)]
      cases ruleOk es[k] <;> rfl
    · simp only [slices_IndexFunc_SEquation_at1_impl_RulesFault_1.next0, slices_IndexFunc_SEquation_at1_impl_RulesFault_1.round0, Int.ofNat_lt, str_inj, beq_dec, bne_dec, cond_dec, cond_nt, if_true, if_false, decide_true, decide_false, cond_true, cond_false, u8_inj, cells_div, szs, sz_list, inB_nat, Int.toNat_natCast, get0, get1, get2, get3, get4, get5, get6, get7, get8, Nat.reduceLT, bind_of, List.getElem?_cons_zero, List.getElem?_cons_succ, oInt_int, oBool_bool, oStr_str, oSl_slc, oAgg_agg, oTup_tup, oCons_cons, oNil_nil, sl_cells, Nat.lt_irrefl]
  have hc : Call F.slices_ContainsFunc_SEquation [slc es, .clo F.impl_RulesFault_1 []] (.bool (es.any fun e => !ruleOk e)) := by
    refine call_of rfl 0 ((slices_ContainsFunc_SEquation_at1_impl_RulesFault_1.ev _ _).trans ?_)
    simp only [Int.ofNat_lt, str_inj, beq_dec, bne_dec, cond_dec, cond_nt, if_true, if_false, decide_true, decide_false, cond_true, cond_false, u8_inj, cells_div, szs, sz_list, inB_nat, Int.toNat_natCast, get0, get1, get2, get3, get4, get5, get6, get7, get8, Nat.reduceLT, bind_of, List.getElem?_cons_zero, List.getElem?_cons_succ, oInt_int, oBool_bool, oStr_str, oSl_slc, oAgg_agg, oTup_tup, oCons_cons, oNil_nil, sl_cells, hi.eq, idx_nonneg]
  simp only [h2, Int.ofNat_lt, str_inj, beq_dec, bne_dec, cond_dec, cond_nt, if_true, if_false, decide_true, decide_false, cond_true, cond_false, u8_inj, cells_div, szs, sz_list, inB_nat, Int.toNat_natCast, get0, get1, get2, get3, get4, get5, get6, get7, get8, Nat.reduceLT, bind_of, List.getElem?_cons_zero, List.getElem?_cons_succ, oInt_int, oBool_bool, oStr_str, oSl_slc, oAgg_agg, oTup_tup, oCons_cons, oNil_nil, sl_cells, not_true_eq_false, hc.eq]
  cases es.any fun e => !ruleOk e <;> rfl
theorem spec_l3Count (t : List Int) (x : Int) (hl : t.length ≤ 4294967296) : Call F.spec_l3Count [slc t, .int .i64 x] (.int .i64 (t.count x : Nat)) := by
  have loop : ∀ m k (c : Nat), k ≤ t.length → t.length < m + k → c ≤ k →
      spec_l3Count.at0 (t.length + 1) m (spec_l3Count.st0 (cells t) x (c : Nat) (k : Nat)) = some (.int .i64 ((c + (t.drop k).count x : Nat) : Int), []) := by
    intro m
    induction m with
    | zero => intros; omega
    | succ m ih =>
      intro k c hk hm hc
      by_cases h : k < t.length
      · have hlk : t[k]? = some t[k] := List.getElem?_eq_getElem h
        simp only [spec_l3Count.next0, spec_l3Count.round0, Int.ofNat_lt, str_inj, beq_dec, bne_dec, cond_dec, cond_nt, if_true, if_false, decide_true, decide_false, cond_true, cond_false, u8_inj, cells_div, szs, sz_list, inB_nat, Int.toNat_natCast, get0, get1, get2, get3, get4, get5, get6, get7, get8, Nat.reduceLT, bind_of, List.getElem?_cons_zero, List.getElem?_cons_succ, oInt_int, oBool_bool, oStr_str, oSl_slc, oAgg_agg, oTup_tup, oCons_cons, oNil_nil, sl_cells, h, hlk, enc_int]
        rw [wrap_succ (by omega), wrap_succ (by omega), List.drop_eq_getElem_cons h, List.count_cons]
        by_cases e : t[k] = x
        · simp only [e, Int.ofNat_lt, str_inj, beq_dec, bne_dec, cond_dec, cond_nt, if_true, if_false, decide_true, decide_false, cond_true, cond_false, u8_inj, cells_div, szs, sz_list, inB_nat, Int.toNat_natCast, get0, get1, get2, get3, get4, get5, get6, get7, get8, Nat.reduceLT, bind_of, List.getElem?_cons_zero, List.getElem?_cons_succ, oInt_int, oBool_bool, oStr_str, oSl_slc, oAgg_agg, oTup_tup, oCons_cons, oNil_nil, sl_cells]
          rw [ih (k + 1) (c + 1) (by omega) (by omega) (by omega)]
          simp
          omega
        · simp only [e, Int.ofNat_lt, str_inj, beq_dec, bne_dec, cond_dec, cond_nt, if_true, if_false, decide_true, decide_false, cond_true, cond_false, u8_inj, cells_div, szs, sz_list, inB_nat, Int.toNat_natCast, get0, get1, get2, get3, get4, get5, get6, get7, get8, Nat.reduceLT, bind_of, List.getElem?_cons_zero, List.getElem?_cons_succ, oInt_int, oBool_bool, oStr_str, oSl_slc, oAgg_agg, oTup_tup, oCons_cons, oNil_nil, sl_cells]
          rw [ih (k + 1) c (by omega) (by omega) (by omega)]
          simp [e]
      · obtain rfl : k = t.length := by omega
        simp only [spec_l3Count.next0, spec_l3Count.round0, Int.ofNat_lt, str_inj, beq_dec, bne_dec, cond_dec, cond_nt, if_true, if_false, decide_true, decide_false, cond_true, cond_false, u8_inj, cells_div, szs, sz_list, inB_nat, Int.toNat_natCast, get0, get1, get2, get3, get4, get5, get6, get7, get8, Nat.reduceLT, bind_of, List.getElem?_cons_zero, List.getElem?_cons_succ, oInt_int, oBool_bool, oStr_str, oSl_slc, oAgg_agg, oTup_tup, oCons_cons, oNil_nil, sl_cells, Nat.lt_irrefl, List.drop_length, List.count_nil, Nat.add_zero]
  refine call_of rfl (t.length + 1) ((spec_l3Count.ev _ _ _).trans ?_)
  have := loop (t.length + 1) 0 0 (by omega) (by omega) (by omega)
  rw [List.drop_zero, Nat.zero_add] at this
  exact this
theorem spec_l8Fault (l : List Symbol) (ok : SigOk ⟨l⟩) (es : List Equation) (he : sm 4294967296 es) : Call F.spec_l8Fault [.rref [slc l] 0, slc es] (.int .i64 (rulesFault0 l es)) := by
  refine call_of rfl 25 ((spec_l8Fault.ev _ _ _).trans ?_)
  simp only [Int.ofNat_lt, str_inj, beq_dec, bne_dec, cond_dec, cond_nt, if_true, if_false, decide_true, decide_false, cond_true, cond_false, u8_inj, cells_div, szs, sz_list, inB_nat, Int.toNat_natCast, get0, get1, get2, get3, get4, get5, get6, get7, get8, Nat.reduceLT, bind_of, List.getElem?_cons_zero, List.getElem?_cons_succ, oInt_int, oBool_bool, oStr_str, oSl_slc, oAgg_agg, oTup_tup, oCons_cons, oNil_nil, sl_cells, (spec_l5Fault l ok es he).eq, rulesFault0]
  by_cases h2 : eqsFault l es = 0
  case neg => simp only [h2, Int.ofNat_lt, str_inj, beq_dec, bne_dec, cond_dec, cond_nt, if_true, if_false, decide_true, decide_false, cond_true, cond_false, u8_inj, cells_div, szs, sz_list, inB_nat, Int.toNat_natCast, get0, get1, get2, get3, get4, get5, get6, get7, get8, Nat.reduceLT, bind_of, List.getElem?_cons_zero, List.getElem?_cons_succ, oInt_int, oBool_bool, oStr_str, oSl_slc, oAgg_agg, oTup_tup, oCons_cons, oNil_nil, sl_cells, ne_eq, not_false_eq_true]
  obtain ⟨hlen, hok⟩ := eqsOk_iff.1 h2
  simp only [h2, Int.ofNat_lt, str_inj, beq_dec, bne_dec, cond_dec, cond_nt, if_true, if_false, decide_true, decide_false, cond_true, cond_false, u8_inj, cells_div, szs, sz_list, inB_nat, Int.toNat_natCast, get0, get1, get2, get3, get4, get5, get6, get7, get8, Nat.reduceLT, bind_of, List.getElem?_cons_zero, List.getElem?_cons_succ, oInt_int, oBool_bool, oStr_str, oSl_slc, oAgg_agg, oTup_tup, oCons_cons, oNil_nil, sl_cells, ne_eq, not_true_eq_false]
  have inner : ∀ (L0 : St → R) (k : Nat) (h : k < es.length), 
      spec_l8Fault.at2 25 L0 25 (spec_l8Fault.st2 (cells es) (k : Nat) ((0 : Nat) : Int)) = if (es[k].right.any fun n => decide (n < 0 ∧ n ∉ es[k].left)) = true then some (.int .i64 1, []) else L0 (spec_l8Fault.st0 (cells es) ((k + 1 : Nat) : Int)) := fun L0 k h => by
    have hlk : es[k]? = some es[k] := List.getElem?_eq_getElem h
    have ho := hok es[k] (List.getElem_mem h)
    have hle := ho.right.le
    have hle' := ho.left.le
    refine any_loopL (l := es[k].right) (p := fun n => decide (n < 0 ∧ n ∉ es[k].left)) (r := some (.int .i64 1, [])) (S := fun m j => spec_l8Fault.at2 25 L0 m (spec_l8Fault.st2 (cells es) (k : Nat) (j : Nat))) (fun m j hj => ?_) (fun m => ?_) (by omega)
    · have hlj : es[k].right[j]? = some es[k].right[j] := List.getElem?_eq_getElem hj
      simp only [spec_l8Fault.next2, spec_l8Fault.round2, Int.ofNat_lt, str_inj, beq_dec, bne_dec, cond_dec, cond_nt, if_true, if_false, decide_true, decide_false, cond_true, cond_false, u8_inj, cells_div, szs, sz_list, inB_nat, Int.toNat_natCast, get0, get1, get2, get3, get4, get5, get6, get7, get8, Nat.reduceLT, bind_of, List.getElem?_cons_zero, List.getElem?_cons_succ, oInt_int, oBool_bool, oStr_str, oSl_slc, oAgg_agg, oTup_tup, oCons_cons, oNil_nil, sl_cells, h, hlk, hj, hlj, enc_Equation, enc_int, (spec_l3Count es[k].left es[k].right[j] (by omega)).eq]
      rw [wrap_succ (by omega)]
      by_cases q1 : es[k].right[j] < 0
      · by_cases q2 : es[k].right[j] ∈ es[k].left
        · have q3 : 0 < es[k].left.count es[k].right[j] := List.count_pos_iff.2 q2
          have q4 : ¬ ((es[k].left.count es[k].right[j] : Nat) : Int) = 0 := by omega
          simp only [q1, q2, q4, Int.ofNat_lt, str_inj, beq_dec, bne_dec, cond_dec, cond_nt, if_true, if_false, decide_true, decide_false, cond_true, cond_false, u8_inj, cells_div, szs, sz_list, inB_nat, Int.toNat_natCast, get0, get1, get2, get3, get4, get5, get6, get7, get8, Nat.reduceLT, bind_of, List.getElem?_cons_zero, List.getElem?_cons_succ, oInt_int, oBool_bool, oStr_str, oSl_slc, oAgg_agg, oTup_tup, oCons_cons, oNil_nil, sl_cells, not_true_eq_false, and_false, Bool.false_eq_true]
        · have q3 : es[k].left.count es[k].right[j] = 0 := List.count_eq_zero.2 q2
          simp only [q1, q2, q3, Int.ofNat_lt, str_inj, beq_dec, bne_dec, cond_dec, cond_nt, if_true, if_false, decide_true, decide_false, cond_true, cond_false, u8_inj, cells_div, szs, sz_list, inB_nat, Int.toNat_natCast, get0, get1, get2, get3, get4, get5, get6, get7, get8, Nat.reduceLT, bind_of, List.getElem?_cons_zero, List.getElem?_cons_succ, oInt_int, oBool_bool, oStr_str, oSl_slc, oAgg_agg, oTup_tup, oCons_cons, oNil_nil, sl_cells, not_false_eq_true, and_true, Int.natCast_zero]
      · simp only [q1, Int.ofNat_lt, str_inj, beq_dec, bne_dec, cond_dec, cond_nt, if_true, if_false, decide_true, decide_false, cond_true, cond_false, u8_inj, cells_div, szs, sz_list, inB_nat, Int.toNat_natCast, get0, get1, get2, get3, get4, get5, get6, get7, get8, Nat.reduceLT, bind_of, List.getElem?_cons_zero, List.getElem?_cons_succ, oInt_int, oBool_bool, oStr_str, oSl_slc, oAgg_agg, oTup_tup, oCons_cons, oNil_nil, sl_cells, false_and, Bool.false_eq_true]
    · simp only [spec_l8Fault.next2, spec_l8Fault.round2, Int.ofNat_lt, str_inj, beq_dec, bne_dec, cond_dec, cond_nt, if_true, if_false, decide_true, decide_false, cond_true, cond_false, u8_inj, cells_div, szs, sz_list, inB_nat, Int.toNat_natCast, get0, get1, get2, get3, get4, get5, get6, get7, get8, Nat.reduceLT, bind_of, List.getElem?_cons_zero, List.getElem?_cons_succ, oInt_int, oBool_bool, oStr_str, oSl_slc, oAgg_agg, oTup_tup, oCons_cons, oNil_nil, sl_cells, h, hlk, enc_Equation, Nat.lt_irrefl]
      rw [wrap_succ (by omega)]
  refine (any_loopL (l := es) (p := fun e => !ruleOk e) (r := some (.int .i64 1, [])) (z := some (.int .i64 0, [])) (S := fun m k => spec_l8Fault.at0 25 m (spec_l8Fault.st0 (cells es) (k : Nat))) (fun m k h => ?_) (fun m => ?_) (show es.length < 25 by omega)).trans ?_
  · have hlk : es[k]? = some es[k] := List.getElem?_eq_getElem h
    have ho := hok es[k] (List.getElem_mem h)
    have h0 : (cells es[k].left)[0]? = some (.int .i64 (es[k].left.headD 0)) := by
      have := get0 (l := es[k].left) (k := 1) (i := 0) sz_int
      rw [Nat.zero_mul] at this
      rw [this, head0 ho.left]; rfl
    have hin : inB 0 es[k].left.length = true := by
      have := inB_nat 0 es[k].left.length
      have hp := ho.left.pos
      rw [show (0 : Int) = ((0 : Nat) : Int) from rfl, this]
      exact decide_eq_true hp
    simp only [spec_l8Fault.next0, spec_l8Fault.round0, Int.ofNat_lt, str_inj, beq_dec, bne_dec, cond_dec, cond_nt, if_true, if_false, decide_true, decide_false, cond_true, cond_false, u8_inj, cells_div, szs, sz_list, inB_nat, Int.toNat_natCast, get0, get1, get2, get3, get4, get5, get6, get7, get8, Nat.reduceLT, bind_of, List.getElem?_cons_zero, List.getElem?_cons_succ, oInt_int, oBool_bool, oStr_str, oSl_slc, oAgg_agg, oTup_tup, oCons_cons, oNil_nil, sl_cells, h, hlk, enc_Equation, hin, h0, ruleOk]
    by_cases q1 : es[k].left.headD 0 < 0
    · have q2 : ¬ 0 ≤ es[k].left.headD 0 := by omega
      simp only [q1, q2, Int.ofNat_lt, str_inj, beq_dec, bne_dec, cond_dec, cond_nt, if_true, if_false, decide_true, decide_false, cond_true, cond_false, u8_inj, cells_div, szs, sz_list, inB_nat, Int.toNat_natCast, get0, get1, get2, get3, get4, get5, get6, get7, get8, Nat.reduceLT, bind_of, List.getElem?_cons_zero, List.getElem?_cons_succ, oInt_int, oBool_bool, oStr_str, oSl_slc, oAgg_agg, oTup_tup, oCons_cons, oNil_nil, sl_cells, Bool.false_and, Bool.not_false]
    · have q2 : 0 ≤ es[k].left.headD 0 := by omega
      simp only [q1, q2, Int.ofNat_lt, str_inj, beq_dec, bne_dec, cond_dec, cond_nt, if_true, if_false, decide_true, decide_false, cond_true, cond_false, u8_inj, cells_div, szs, sz_list, inB_nat, Int.toNat_natCast, get0, get1, get2, get3, get4, get5, get6, get7, get8, Nat.reduceLT, bind_of, List.getElem?_cons_zero, List.getElem?_cons_succ, oInt_int, oBool_bool, oStr_str, oSl_slc, oAgg_agg, oTup_tup, oCons_cons, oNil_nil, sl_cells, Bool.true_and, Bool.not_not]
      exact inner _ k h
  · simp only [spec_l8Fault.next0, spec_l8Fault.round0, Int.ofNat_lt, str_inj, beq_dec, bne_dec, cond_dec, cond_nt, if_true, if_false, decide_true, decide_false, cond_true, cond_false, u8_inj, cells_div, szs, sz_list, inB_nat, Int.toNat_natCast, get0, get1, get2, get3, get4, get5, get6, get7, get8, Nat.reduceLT, bind_of, List.getElem?_cons_zero, List.getElem?_cons_succ, oInt_int, oBool_bool, oStr_str, oSl_slc, oAgg_agg, oTup_tup, oCons_cons, oNil_nil, sl_cells, Nat.lt_irrefl]
  · cases es.any fun e => !ruleOk e <;> rfl
theorem spec_RulesFault (l : List Symbol) (hs : l.length ≤ 4294967296) (es : List Equation) (he : sm 4294967296 es) : Call F.spec_RulesFault [.agg [slc l], slc es] (.int .i64 (rulesFault ⟨l⟩ es)) := by
  refine call_of rfl 0 ((spec_RulesFault.ev _ _ _).trans ?_)
  simp only [Int.ofNat_lt, str_inj, beq_dec, bne_dec, cond_dec, cond_nt, if_true, if_false, decide_true, decide_false, cond_true, cond_false, u8_inj, cells_div, szs, sz_list, inB_nat, Int.toNat_natCast, get0, get1, get2, get3, get4, get5, get6, get7, get8, Nat.reduceLT, bind_of, List.getElem?_cons_zero, List.getElem?_cons_succ, oInt_int, oBool_bool, oStr_str, oSl_slc, oAgg_agg, oTup_tup, oCons_cons, oNil_nil, sl_cells, (spec_SignatureFault l hs).eq, rulesFault]
  by_cases h1 : sigFault ⟨l⟩ = 0
  case neg => simp only [h1, Int.ofNat_lt, str_inj, beq_dec, bne_dec, cond_dec, cond_nt, if_true, if_false, decide_true, decide_false, cond_true, cond_false, u8_inj, cells_div, szs, sz_list, inB_nat, Int.toNat_natCast, get0, get1, get2, get3, get4, get5, get6, get7, get8, Nat.reduceLT, bind_of, List.getElem?_cons_zero, List.getElem?_cons_succ, oInt_int, oBool_bool, oStr_str, oSl_slc, oAgg_agg, oTup_tup, oCons_cons, oNil_nil, sl_cells, ne_eq, not_false_eq_true]
  have ok := (sigOk_iff _).1 h1
  simp only [h1, Int.ofNat_lt, str_inj, beq_dec, bne_dec, cond_dec, cond_nt, if_true, if_false, decide_true, decide_false, cond_true, cond_false, u8_inj, cells_div, szs, sz_list, inB_nat, Int.toNat_natCast, get0, get1, get2, get3, get4, get5, get6, get7, get8, Nat.reduceLT, bind_of, List.getElem?_cons_zero, List.getElem?_cons_succ, oInt_int, oBool_bool, oStr_str, oSl_slc, oAgg_agg, oTup_tup, oCons_cons, oNil_nil, sl_cells, ne_eq, not_true_eq_false, (spec_l8Fault l ok es he).eq]
end Ev.Ty
end
