/- Steps on the way to RowAreJoined: TyRules, TyMatch, TyNorm, TyNormL, TyLAreJoined. -/
import Derived.Test.YtmcfccgmhinpdaaGreatDoorM4
section
namespace Ev.Ty
open Go Ev
open Enc (enc)
open Sm (sm)
set_option linter.unusedSimpArgs false
set_option linter.unusedVariables false
theorem slices_ContainsFunc_Sint64_at1_impl_isRule_1 (t v : List Int) (hs : t.length ≤ 4294967296) (hv : v.length ≤ 4294967296) :
    Call F.slices_ContainsFunc_Sint64 [slc t, .clo F.impl_isRule_1 [.rref [slc v] 0]] (.bool (t.any fun n => decide (n ∉ v))) := by
  have hi : Call F.slices_IndexFunc_Sint64 [slc t, .clo F.impl_isRule_1 [.rref [slc v] 0]] (.int .i64 (idx (fun n => decide (n ∉ v)) t)) := by
    refine call_of rfl (t.length + 1) ((slices_IndexFunc_Sint64_at1_impl_isRule_1.ev _ _ _).trans ?_)
    refine idx_loop (S := fun m k => slices_IndexFunc_Sint64_at1_impl_isRule_1.at0 (t.length + 1) m (slices_IndexFunc_Sint64_at1_impl_isRule_1.st0 (cells t) _ _ (k : Nat))) (fun m k h => ?_) (fun m => ?_) (Nat.lt_succ_self _)
    · have hlk : t[k]? = some t[k] := List.getElem?_eq_getElem h
      have hc : Call F.impl_isRule_1 [.int .i64 t[k], .rref [slc v] 0] (.bool (decide (t[k] ∉ v))) := by
        refine call_of rfl 0 ((impl_isRule_1.ev _ _ _).trans ?_)
        simp only [Int.ofNat_lt, str_inj, beq_dec, bne_dec, cond_dec, cond_nt, if_true, if_false, decide_true, decide_false, cond_true, cond_false, u8_inj, cells_div, szs, sz_list, inB_nat, Int.toNat_natCast, get0, get1, get2, get3, get4, get5, get6, get7, get8, Nat.reduceLT, bind_of, List.getElem?_cons_zero, List.getElem?_cons_succ, oInt_int, oBool_bool, oStr_str, oSl_slc, oAgg_agg, oTup_tup, oCons_cons, oNil_nil, sl_cells, (slices_Contains_Sint64 v t[k] hv).eq, decide_not]
      simp only [slices_IndexFunc_Sint64_at1_impl_isRule_1.next0, slices_IndexFunc_Sint64_at1_impl_isRule_1.round0, Int.ofNat_lt, str_inj, beq_dec, bne_dec, cond_dec, cond_nt, if_true, if_false, decide_true, decide_false, cond_true, cond_false, u8_inj, cells_div, szs, sz_list, inB_nat, Int.toNat_natCast, get0, get1, get2, get3, get4, get5, get6, get7, get8, Nat.reduceLT, bind_of, List.getElem?_cons_zero, List.getElem?_cons_succ, oInt_int, oBool_bool, oStr_str, oSl_slc, oAgg_agg, oTup_tup, oCons_cons, oNil_nil, sl_cells, h, hlk, enc_int, hc.eq]
      rw [wrap_succ (by omega)]
      by_cases e : t[k] ∈ v <;> simp [e]
    · simp only [slices_IndexFunc_Sint64_at1_impl_isRule_1.next0, slices_IndexFunc_Sint64_at1_impl_isRule_1.round0, Int.ofNat_lt, str_inj, beq_dec, bne_dec, cond_dec, cond_nt, if_true, if_false, decide_true, decide_false, cond_true, cond_false, u8_inj, cells_div, szs, sz_list, inB_nat, Int.toNat_natCast, get0, get1, get2, get3, get4, get5, get6, get7, get8, Nat.reduceLT, bind_of, List.getElem?_cons_zero, List.getElem?_cons_succ, oInt_int, oBool_bool, oStr_str, oSl_slc, oAgg_agg, oTup_tup, oCons_cons, oNil_nil, sl_cells, Nat.lt_irrefl]
  refine call_of rfl 0 ((slices_ContainsFunc_Sint64_at1_impl_isRule_1.ev _ _ _).trans ?_)
  simp only [Int.ofNat_lt, str_inj, beq_dec, bne_dec, cond_dec, cond_nt, if_true, if_false, decide_true, decide_false, cond_true, cond_false, u8_inj, cells_div, szs, sz_list, inB_nat, Int.toNat_natCast, get0, get1, get2, get3, get4, get5, get6, get7, get8, Nat.reduceLT, bind_of, List.getElem?_cons_zero, List.getElem?_cons_succ, oInt_int, oBool_bool, oStr_str, oSl_slc, oAgg_agg, oTup_tup, oCons_cons, oNil_nil, sl_cells, hi.eq, idx_nonneg]
theorem varsOf_term {l : List Symbol} {t : List Int} (h : TermOk l t) : Call F.impl_varsOf [.sl 1 [slc t]] (slc (varsOf [t])) ∧ (varsOf [t]).length ≤ 24 := by
  have hle := h.le
  have hvl := varsOf_length [t]
  refine ⟨impl_varsOf [t] (by simp) (fun x hx => ?_) (by simp; omega), by simp at hvl; omega⟩
  simp only [List.mem_cons, List.not_mem_nil, or_false] at hx
  subst hx
  exact ⟨by omega, h.ge⟩
theorem head0 {l : List Symbol} {t : List Int} (h : TermOk l t) : t[0]? = some (t.headD 0) := by
  have := h.pos
  cases t with
  | nil => simp at this
  | cons x r => rfl
theorem impl_isRule {l : List Symbol} {a b : List Int} (ha : TermOk l a) (hb : TermOk l b) : Call F.impl_isRule [.agg [slc a, slc b]] (.bool (ruleOk ⟨a, b⟩)) := by
  refine call_of rfl 0 ((impl_isRule.ev _ _ _).trans ?_)
  obtain ⟨ca, la⟩ := varsOf_term ha
  obtain ⟨cb, lb⟩ := varsOf_term hb
  have h0 : (cells a)[0]? = some (.int .i64 (a.headD 0)) := by
    have := get0 (l := a) (k := 1) (i := 0) sz_int
    rw [Nat.zero_mul] at this
    rw [this, head0 ha]; rfl
  have hin : inB 0 ((cells a).length / 1) = true := by
    rw [cells_div sz_int]
    have := inB_nat 0 a.length
    have hp := ha.pos
    rw [show (0 : Int) = ((0 : Nat) : Int) from rfl, this]
    exact decide_eq_true hp
  have hc := slices_ContainsFunc_Sint64_at1_impl_isRule_1 (varsOf [b]) (varsOf [a]) (by omega) (by omega)
  rw [hin, cond_true, h0]
  simp only [Int.ofNat_lt, str_inj, beq_dec, bne_dec, cond_dec, cond_nt, if_true, if_false, decide_true, decide_false, cond_true, cond_false, u8_inj, cells_div, szs, sz_list, inB_nat, Int.toNat_natCast, get0, get1, get2, get3, get4, get5, get6, get7, get8, Nat.reduceLT, bind_of, List.getElem?_cons_zero, List.getElem?_cons_succ, oInt_int, oBool_bool, oStr_str, oSl_slc, oAgg_agg, oTup_tup, oCons_cons, oNil_nil, sl_cells, ruleOk]
  have e : ((varsOf [b]).any fun n => decide (n ∉ varsOf [a])) = b.any fun n => decide (n < 0 ∧ n ∉ a) := by
    rw [Bool.eq_iff_iff, List.any_eq_true, List.any_eq_true]
    constructor
    · rintro ⟨v, hv, h⟩
      rw [decide_eq_true_eq] at h
      obtain ⟨v0, t, ht, hm⟩ := mem_varsOf.1 hv
      simp only [List.mem_cons, List.not_mem_nil, or_false] at ht
      subst ht
      refine ⟨-1 - v, hm, ?_⟩
      rw [decide_eq_true_eq]
      exact ⟨by omega, fun hn => h (mem_varsOf.2 ⟨v0, a, by simp, hn⟩)⟩
    · rintro ⟨n, hn, h⟩
      rw [decide_eq_true_eq] at h
      refine ⟨-1 - n, mem_varsOf.2 ⟨by omega, b, by simp, by rw [show -1 - (-1 - n) = n by omega]; exact hn⟩, ?_⟩
      rw [decide_eq_true_eq]
      intro hm
      obtain ⟨_, t, ht, hm'⟩ := mem_varsOf.1 hm
      simp only [List.mem_cons, List.not_mem_nil, or_false] at ht
      subst ht
      rw [show -1 - (-1 - n) = n by omega] at hm'
      exact h.2 hm'
  by_cases h1 : a.headD 0 < 0
  · have h2 : ¬ 0 ≤ a.headD 0 := by omega
    simp only [h1, h2, Int.ofNat_lt, str_inj, beq_dec, bne_dec, cond_dec, cond_nt, if_true, if_false, decide_true, decide_false, cond_true, cond_false, u8_inj, cells_div, szs, sz_list, inB_nat, Int.toNat_natCast, get0, get1, get2, get3, get4, get5, get6, get7, get8, Nat.reduceLT, bind_of, List.getElem?_cons_zero, List.getElem?_cons_succ, oInt_int, oBool_bool, oStr_str, oSl_slc, oAgg_agg, oTup_tup, oCons_cons, oNil_nil, sl_cells, Bool.false_and]
  · have h2 : 0 ≤ a.headD 0 := by omega
    simp only [h1, h2, Int.ofNat_lt, str_inj, beq_dec, bne_dec, cond_dec, cond_nt, if_true, if_false, decide_true, decide_false, cond_true, cond_false, u8_inj, cells_div, szs, sz_list, inB_nat, Int.toNat_natCast, get0, get1, get2, get3, get4, get5, get6, get7, get8, Nat.reduceLT, bind_of, List.getElem?_cons_zero, List.getElem?_cons_succ, oInt_int, oBool_bool, oStr_str, oSl_slc, oAgg_agg, oTup_tup, oCons_cons, oNil_nil, sl_cells, ca.eq, cb.eq, hc.eq, e, Bool.true_and]
theorem impl_RulesFault (l : List Symbol) (hs : l.length ≤ 4294967296) (es : List Equation) (he : sm 4294967296 es) : Call F.impl_RulesFault [.agg [slc l], slc es] (.int .i64 (rulesFault ⟨l⟩ es)) := by
  refine call_of rfl 0 ((impl_RulesFault.ev _ _ _).trans ?_)
  simp only [Int.ofNat_lt, str_inj, beq_dec, bne_dec, cond_dec, cond_nt, if_true, if_false, decide_true, decide_false, cond_true, cond_false, u8_inj, cells_div, szs, sz_list, inB_nat, Int.toNat_natCast, get0, get1, get2, get3, get4, get5, get6, get7, get8, Nat.reduceLT, bind_of, List.getElem?_cons_zero, List.getElem?_cons_succ, oInt_int, oBool_bool, oStr_str, oSl_slc, oAgg_agg, oTup_tup, oCons_cons, oNil_nil, sl_cells, (impl_EquationsFault l hs es he).eq, rulesFault, rulesFault0]
  by_cases h1 : sigFault ⟨l⟩ = 0
  case neg => simp only [h1, Int.ofNat_lt, str_inj, beq_dec, bne_dec, cond_dec, cond_nt, if_true, if_false, decide_true, decide_false, cond_true, cond_false, u8_inj, cells_div, szs, sz_list, inB_nat, Int.toNat_natCast, get0, get1, get2, get3, get4, get5, get6, get7, get8, Nat.reduceLT, bind_of, List.getElem?_cons_zero, List.getElem?_cons_succ, oInt_int, oBool_bool, oStr_str, oSl_slc, oAgg_agg, oTup_tup, oCons_cons, oNil_nil, sl_cells, ne_eq, not_false_eq_true]
  simp only [h1, Int.ofNat_lt, str_inj, beq_dec, bne_dec, cond_dec, cond_nt, if_true, if_false, decide_true, decide_false, cond_true, cond_false, u8_inj, cells_div, szs, sz_list, inB_nat, Int.toNat_natCast, get0, get1, get2, get3, get4, get5, get6, get7, get8, Nat.reduceLT, bind_of, List.getElem?_cons_zero, List.getElem?_cons_succ, oInt_int, oBool_bool, oStr_str, oSl_slc, oAgg_agg, oTup_tup, oCons_cons, oNil_nil, sl_cells, ne_eq, not_true_eq_false]
  by_cases h2 : eqsFault l es = 0
  case neg => simp only [h2, Int.ofNat_lt, str_inj, beq_dec, bne_dec, cond_dec, cond_nt, if_true, if_false, decide_true, decide_false, cond_true, cond_false, u8_inj, cells_div, szs, sz_list, inB_nat, Int.toNat_natCast, get0, get1, get2, get3, get4, get5, get6, get7, get8, Nat.reduceLT, bind_of, List.getElem?_cons_zero, List.getElem?_cons_succ, oInt_int, oBool_bool, oStr_str, oSl_slc, oAgg_agg, oTup_tup, oCons_cons, oNil_nil, sl_cells, not_false_eq_true]
  obtain ⟨hlen, hok⟩ := eqsOk_iff.1 h2
  have hi : Call F.slices_IndexFunc_SEquation [slc es, .clo F.impl_RulesFault_1 []] (.int .i64 (idx (fun e => !ruleOk e) es)) := by
    refine call_of rfl (es.length + 1) ((slices_IndexFunc_SEquation_at1_impl_RulesFault_1.ev _ _).trans ?_)
    simp only [Int.ofNat_lt, str_inj, beq_dec, bne_dec, cond_dec, cond_nt, if_true, if_false, decide_true, decide_false, cond_true, cond_false, u8_inj, cells_div, szs, sz_list, inB_nat, Int.toNat_natCast, get0, get1, get2, get3, get4, get5, get6, get7, get8, Nat.reduceLT, bind_of, List.getElem?_cons_zero, List.getElem?_cons_succ, oInt_int, oBool_bool, oStr_str, oSl_slc, oAgg_agg, oTup_tup, oCons_cons, oNil_nil, sl_cells]
    refine idx_loop (S := fun m k => slices_IndexFunc_SEquation_at1_impl_RulesFault_1.at0 (es.length + 1) m (slices_IndexFunc_SEquation_at1_impl_RulesFault_1.st0 (cells es) es.length (k : Nat))) (fun m k h => ?_) (fun m => ?_) (Nat.lt_succ_self _)
    · have hlk : es[k]? = some es[k] := List.getElem?_eq_getElem h
      have ho := hok es[k] (List.getElem_mem h)
      have hc : Call F.impl_RulesFault_1 [.agg [slc es[k].left, slc es[k].right]] (.bool (!ruleOk es[k])) := by
        refine call_of rfl 0 ((impl_RulesFault_1.ev _ _ _).trans ?_)
        simp only [Int.ofNat_lt, str_inj, beq_dec, bne_dec, cond_dec, cond_nt, if_true, if_false, decide_true, decide_false, cond_true, cond_false, u8_inj, cells_div, szs, sz_list, inB_nat, Int.toNat_natCast, get0, get1, get2, get3, get4, get5, get6, get7, get8, Nat.reduceLT, bind_of, List.getElem?_cons_zero, List.getElem?_cons_succ, oInt_int, oBool_bool, oStr_str, oSl_slc, oAgg_agg, oTup_tup, oCons_cons, oNil_nil, sl_cells, (impl_isRule ho.left ho.right).eq]
      simp only [slices_IndexFunc_SEquation_at1_impl_RulesFault_1.next0, slices_IndexFunc_SEquation_at1_impl_RulesFault_1.round0, Int.ofNat_lt, str_inj, beq_dec, bne_dec, cond_dec, cond_nt, if_true, if_false, decide_true, decide_false, cond_true, cond_false, u8_inj, cells_div, szs, sz_list, inB_nat, Int.toNat_natCast, get0, get1, get2, get3, get4, get5, get6, get7, get8, Nat.reduceLT, bind_of, List.getElem?_cons_zero, List.getElem?_cons_succ, oInt_int, oBool_bool, oStr_str, oSl_slc, oAgg_agg, oTup_tup, oCons_cons, oNil_nil, sl_cells, h, hlk, enc_Equation, hc.eq]
      rw [wrap_succ (by omega)]
      cases ruleOk es[k] <;> rfl
    · simp only [slices_IndexFunc_SEquation_at1_impl_RulesFault_1.next0, slices_IndexFunc_SEquation_at1_impl_RulesFault_1.round0, Int.ofNat_lt, str_inj, beq_dec, bne_dec, cond_dec, cond_nt, if_true, if_false, decide_true, decide_false, cond_true, cond_false, u8_inj, cells_div, szs, sz_list, inB_nat, Int.toNat_natCast, get0, get1, get2, get3, get4, get5, get6, get7, get8, Nat.reduceLT, bind_of, List.getElem?_cons_zero, List.getElem?_cons_succ, oInt_int, oBool_bool, oStr_str, oSl_slc, oAgg_agg, oTup_tup, oCons_cons, oNil_nil, sl_cells, Nat.lt_irrefl]
  have hc : Call F.slices_ContainsFunc_SEquation [slc es, .clo F.impl_RulesFault_1 []] (.bool (es.any fun e => !ruleOk e)) := by
    refine call_of rfl 0 ((slices_ContainsFunc_SEquation_at1_impl_RulesFault_1.ev _ _).trans ?_)
    simp only [Int.ofNat_lt, str_inj, beq_dec, bne_dec, cond_dec, cond_nt, if_true, if_false, decide_true, decide_false, cond_true, cond_false, u8_inj, cells_div, szs, sz_list, inB_nat, Int.toNat_natCast, get0, get1, get2, get3, get4, get5, get6, get7, get8, Nat.reduceLT, bind_of, List.getElem?_cons_zero, List.getElem?_cons_succ, oInt_int, oBool_bool, oStr_str, oSl_slc, oAgg_agg, oTup_tup, oCons_cons, oNil_nil, sl_cells, hi.eq, idx_nonneg]
  simp only [h2, Int.ofNat_lt, str_inj, beq_dec, bne_dec, cond_dec, cond_nt, if_true, if_false, decide_true, decide_false, cond_true, cond_false, u8_inj, cells_div, szs, sz_list, inB_nat, Int.toNat_natCast, get0, get1, get2, get3, get4, get5, get6, get7, get8, Nat.reduceLT, bind_of, List.getElem?_cons_zero, List.getElem?_cons_succ, oInt_int, oBool_bool, oStr_str, oSl_slc, oAgg_agg, oTup_tup, oCons_cons, oNil_nil, sl_cells, not_true_eq_false, hc.eq]
  cases es.any fun e => !ruleOk e <;> rfl
theorem spec_l3Count (t : List Int) (x : Int) (hl : t.length ≤ 4294967296) : Call F.spec_l3Count [slc t, .int .i64 x] (.int .i64 (t.count x : Nat)) := by
  have loop : ∀ m k (c : Nat), k ≤ t.length → t.length < m + k → c ≤ k →
      spec_l3Count.at0 (t.length + 1) m (spec_l3Count.st0 (cells t) x (c : Nat) (k : Nat)) = some (.int .i64 ((c + (t.drop k).count x : Nat) : Int), []) := by
    intro m
    induction m with
    | zero => intros; omega
    | succ m ih =>
      intro k c hk hm hc
      by_cases h : k < t.length
      · have hlk : t[k]? = some t[k] := List.getElem?_eq_getElem h
        simp only [spec_l3Count.next0, spec_l3Count.round0, Int.ofNat_lt, str_inj, beq_dec, bne_dec, cond_dec, cond_nt, if_true, if_false, decide_true, decide_false, cond_true, cond_false, u8_inj, cells_div, szs, sz_list, inB_nat, Int.toNat_natCast, get0, get1, get2, get3, get4, get5, get6, get7, get8, Nat.reduceLT, bind_of, List.getElem?_cons_zero, List.getElem?_cons_succ, oInt_int, oBool_bool, oStr_str, oSl_slc, oAgg_agg, oTup_tup, oCons_cons, oNil_nil, sl_cells, h, hlk, enc_int]
        rw [wrap_succ (by omega), wrap_succ (by omega), List.drop_eq_getElem_cons h, List.count_cons]
        by_cases e : t[k] = x
        · simp only [e, Int.ofNat_lt, str_inj, beq_dec, bne_dec, cond_dec, cond_nt, if_true, if_false, decide_true, decide_false, cond_true, cond_false, u8_inj, cells_div, szs, sz_list, inB_nat, Int.toNat_natCast, get0, get1, get2, get3, get4, get5, get6, get7, get8, Nat.reduceLT, bind_of, List.getElem?_cons_zero, List.getElem?_cons_succ, oInt_int, oBool_bool, oStr_str, oSl_slc, oAgg_agg, oTup_tup, oCons_cons, oNil_nil, sl_cells]
          rw [ih (k + 1) (c + 1) (by omega) (by omega) (by omega)]
          simp
          omega
        · simp only [e, Int.ofNat_lt, str_inj, beq_dec, bne_dec, cond_dec, cond_nt, if_true, if_false, decide_true, decide_false, cond_true, cond_false, u8_inj, cells_div, szs, sz_list, inB_nat, Int.toNat_natCast, get0, get1, get2, get3, get4, get5, get6, get7, get8, Nat.reduceLT, bind_of, List.getElem?_cons_zero, List.getElem?_cons_succ, oInt_int, oBool_bool, oStr_str, oSl_slc, oAgg_agg, oTup_tup, oCons_cons, oNil_nil, sl_cells]
          rw [ih (k + 1) c (by omega) (by omega) (by omega)]
          simp [e]
      · obtain rfl : k = t.length := by omega
        simp only [spec_l3Count.next0, spec_l3Count.round0, Int.ofNat_lt, str_inj, beq_dec, bne_dec, cond_dec, cond_nt, if_true, if_false, decide_true, decide_false, cond_true, cond_false, u8_inj, cells_div, szs, sz_list, inB_nat, Int.toNat_natCast, get0, get1, get2, get3, get4, get5, get6, get7, get8, Nat.reduceLT, bind_of, List.getElem?_cons_zero, List.getElem?_cons_succ, oInt_int, oBool_bool, oStr_str, oSl_slc, oAgg_agg, oTup_tup, oCons_cons, oNil_nil, sl_cells, Nat.lt_irrefl, List.drop_length, List.count_nil, Nat.add_zero]
  refine call_of rfl (t.length + 1) ((spec_l3Count.ev _ _ _).trans ?_)
  have := loop (t.length + 1) 0 0 (by omega) (by omega) (by omega)
  rw [List.drop_zero, Nat.zero_add] at this
  exact this
theorem spec_l8Fault (l : List Symbol) (ok : SigOk ⟨l⟩) (es : List Equation) (he : sm 4294967296 es) : Call F.spec_l8Fault [.rref [slc l] 0, slc es] (.int .i64 (rulesFault0 l es)) := by
  refine call_of rfl 25 ((spec_l8Fault.ev _ _ _).trans ?_)
  simp only [Int.ofNat_lt, str_inj, beq_dec, bne_dec, cond_dec, cond_nt, if_true, if_false, decide_true, decide_false, cond_true, cond_false, u8_inj, cells_div, szs, sz_list, inB_nat, Int.toNat_natCast, get0, get1, get2, get3, get4, get5, get6, get7, get8, Nat.reduceLT, bind_of, List.getElem?_cons_zero, List.getElem?_cons_succ, oInt_int, oBool_bool, oStr_str, oSl_slc, oAgg_agg, oTup_tup, oCons_cons, oNil_nil, sl_cells, (spec_l5Fault l ok es he).eq, rulesFault0]
  by_cases h2 : eqsFault l es = 0
  case neg => simp only [h2, Int.ofNat_lt, str_inj, beq_dec, bne_dec, cond_dec, cond_nt, if_true, if_false, decide_true, decide_false, cond_true, cond_false, u8_inj, cells_div, szs, sz_list, inB_nat, Int.toNat_natCast, get0, get1, get2, get3, get4, get5, get6, get7, get8, Nat.reduceLT, bind_of, List.getElem?_cons_zero, List.getElem?_cons_succ, oInt_int, oBool_bool, oStr_str, oSl_slc, oAgg_agg, oTup_tup, oCons_cons, oNil_nil, sl_cells, ne_eq, not_false_eq_true]
  obtain ⟨hlen, hok⟩ := eqsOk_iff.1 h2
  simp only [h2, Int.ofNat_lt, str_inj, beq_dec, bne_dec, cond_dec, cond_nt, if_true, if_false, decide_true, decide_false, cond_true, cond_false, u8_inj, cells_div, szs, sz_list, inB_nat, Int.toNat_natCast, get0, get1, get2, get3, get4, get5, get6, get7, get8, Nat.reduceLT, bind_of, List.getElem?_cons_zero, List.getElem?_cons_succ, oInt_int, oBool_bool, oStr_str, oSl_slc, oAgg_agg, oTup_tup, oCons_cons, oNil_nil, sl_cells, ne_eq, not_true_eq_false]
  have inner : ∀ (L0 : St → R) (k : Nat) (h : k < es.length), 
      spec_l8Fault.at2 25 L0 25 (spec_l8Fault.st2 (cells es) (k : Nat) ((0 : Nat) : Int)) = if (es[k].right.any fun n => decide (n < 0 ∧ n ∉ es[k].left)) = true then some (.int .i64 1, []) else L0 (spec_l8Fault.st0 (cells es) ((k + 1 : Nat) : Int)) := fun L0 k h => by
    have hlk : es[k]? = some es[k] := List.getElem?_eq_getElem h
    have ho := hok es[k] (List.getElem_mem h)
    have hle := ho.right.le
    have hle' := ho.left.le
    refine any_loopL (l := es[k].right) (p := fun n => decide (n < 0 ∧ n ∉ es[k].left)) (r := some (.int .i64 1, [])) (S := fun m j => spec_l8Fault.at2 25 L0 m (spec_l8Fault.st2 (cells es) (k : Nat) (j : Nat))) (fun m j hj => ?_) (fun m => ?_) (by omega)
    · have hlj : es[k].right[j]? = some es[k].right[j] := List.getElem?_eq_getElem hj
      simp only [spec_l8Fault.next2, spec_l8Fault.round2, Int.ofNat_lt, str_inj, beq_dec, bne_dec, cond_dec, cond_nt, if_true, if_false, decide_true, decide_false, cond_true, cond_false, u8_inj, cells_div, szs, sz_list, inB_nat, Int.toNat_natCast, get0, get1, get2, get3, get4, get5, get6, get7, get8, Nat.reduceLT, bind_of, List.getElem?_cons_zero, List.getElem?_cons_succ, oInt_int, oBool_bool, oStr_str, oSl_slc, oAgg_agg, oTup_tup, oCons_cons, oNil_nil, sl_cells, h, hlk, hj, hlj, enc_Equation, enc_int, (spec_l3Count es[k].left es[k].right[j] (by omega)).eq]
      rw [wrap_succ (by omega)]
      by_cases q1 : es[k].right[j] < 0
      · by_cases q2 : es[k].right[j] ∈ es[k].left
        · have q3 : 0 < es[k].left.count es[k].right[j] := List.count_pos_iff.2 q2
          have q4 : ¬ ((es[k].left.count es[k].right[j] : Nat) : Int) = 0 := by omega
          simp only [q1, q2, q4, Int.ofNat_lt, str_inj, beq_dec, bne_dec, cond_dec, cond_nt, if_true, if_false, decide_true, decide_false, cond_true, cond_false, u8_inj, cells_div, szs, sz_list, inB_nat, Int.toNat_natCast, get0, get1, get2, get3, get4, get5, get6, get7, get8, Nat.reduceLT, bind_of, List.getElem?_cons_zero, List.getElem?_cons_succ, oInt_int, oBool_bool, oStr_str, oSl_slc, oAgg_agg, oTup_tup, oCons_cons, oNil_nil, sl_cells, not_true_eq_false, and_false, Bool.false_eq_true]
        · have q3 : es[k].left.count es[k].right[j] = 0 := List.count_eq_zero.2 q2
          simp only [q1, q2, q3, Int.ofNat_lt, str_inj, beq_dec, bne_dec, cond_dec, cond_nt, if_true, if_false, decide_true, decide_false, cond_true, cond_false, u8_inj, cells_div, szs, sz_list, inB_nat, Int.toNat_natCast, get0, get1, get2, get3, get4, get5, get6, get7, get8, Nat.reduceLT, bind_of, List.getElem?_cons_zero, List.getElem?_cons_succ, oInt_int, oBool_bool, oStr_str, oSl_slc, oAgg_agg, oTup_tup, oCons_cons, oNil_nil, sl_cells, not_false_eq_true, and_true, Int.natCast_zero]
      · simp only [q1, Int.ofNat_lt, str_inj, beq_dec, bne_dec, cond_dec, cond_nt, if_true, if_false, decide_true, decide_false, cond_true, cond_false, u8_inj, cells_div, szs, sz_list, inB_nat, Int.toNat_natCast, get0, get1, get2, get3, get4, get5, get6, get7, get8, Nat.reduceLT, bind_of, List.getElem?_cons_zero, List.getElem?_cons_succ, oInt_int, oBool_bool, oStr_str, oSl_slc, oAgg_agg, oTup_tup, oCons_cons, oNil_nil, sl_cells, false_and, Bool.false_eq_true]
    · simp only [spec_l8Fault.next2, spec_l8Fault.round2, Int.ofNat_lt, str_inj, beq_dec, bne_dec, cond_dec, cond_nt, if_true, if_false, decide_true, decide_false, cond_true, cond_false, u8_inj, cells_div, szs, sz_list, inB_nat, Int.toNat_natCast, get0, get1, get2, get3, get4, get5, get6, get7, get8, Nat.reduceLT, bind_of, List.getElem?_cons_zero, List.getElem?_cons_succ, oInt_int, oBool_bool, oStr_str, oSl_slc, oAgg_agg, oTup_tup, oCons_cons, oNil_nil, sl_cells, h, hlk, enc_Equation, Nat.lt_irrefl]
      rw [wrap_succ (by omega)]
  refine (any_loopL (l := es) (p := fun e => !ruleOk e) (r := some (.int .i64 1, [])) (z := some (.int .i64 0, [])) (S := fun m k => spec_l8Fault.at0 25 m (spec_l8Fault.st0 (cells es) (k : Nat))) (fun m k h => ?_) (fun m => ?_) (show es.length < 25 by omega)).trans ?_
  · have hlk : es[k]? = some es[k] := List.getElem?_eq_getElem h
    have ho := hok es[k] (List.getElem_mem h)
    have h0 : (cells es[k].left)[0]? = some (.int .i64 (es[k].left.headD 0)) := by
      have := get0 (l := es[k].left) (k := 1) (i := 0) sz_int
      rw [Nat.zero_mul] at this
      rw [this, head0 ho.left]; rfl
    have hin : inB 0 es[k].left.length = true := by
      have := inB_nat 0 es[k].left.length
      have hp := ho.left.pos
      rw [show (0 : Int) = ((0 : Nat) : Int) from rfl, this]
      exact decide_eq_true hp
    simp only [spec_l8Fault.next0, spec_l8Fault.round0, Int.ofNat_lt, str_inj, beq_dec, bne_dec, cond_dec, cond_nt, if_true, if_false, decide_true, decide_false, cond_true, cond_false, u8_inj, cells_div, szs, sz_list, inB_nat, Int.toNat_natCast, get0, get1, get2, get3, get4, get5, get6, get7, get8, Nat.reduceLT, bind_of, List.getElem?_cons_zero, List.getElem?_cons_succ, oInt_int, oBool_bool, oStr_str, oSl_slc, oAgg_agg, oTup_tup, oCons_cons, oNil_nil, sl_cells, h, hlk, enc_Equation, hin, h0, ruleOk]
    by_cases q1 : es[k].left.headD 0 < 0
    · have q2 : ¬ 0 ≤ es[k].left.headD 0 := by omega
      simp only [q1, q2, Int.ofNat_lt, str_inj, beq_dec, bne_dec, cond_dec, cond_nt, if_true, if_false, decide_true, decide_false, cond_true, cond_false, u8_inj, cells_div, szs, sz_list, inB_nat, Int.toNat_natCast, get0, get1, get2, get3, get4, get5, get6, get7, get8, Nat.reduceLT, bind_of, List.getElem?_cons_zero, List.getElem?_cons_succ, oInt_int, oBool_bool, oStr_str, oSl_slc, oAgg_agg, oTup_tup, oCons_cons, oNil_nil, sl_cells, Bool.false_and, Bool.not_false]
    · have q2 : 0 ≤ es[k].left.headD 0 := by omega
      simp only [q1, q2, Int.ofNat_lt, str_inj, beq_dec, bne_dec, cond_dec, cond_nt, if_true, if_false, decide_true, decide_false, cond_true, cond_false, u8_inj, cells_div, szs, sz_list, inB_nat, Int.toNat_natCast, get0, get1, get2, get3, get4, get5, get6, get7, get8, Nat.reduceLT, bind_of, List.getElem?_cons_zero, List.getElem?_cons_succ, oInt_int, oBool_bool, oStr_str, oSl_slc, oAgg_agg, oTup_tup, oCons_cons, oNil_nil, sl_cells, Bool.true_and, Bool.not_not]
      exact inner _ k h
  · simp only [spec_l8Fault.next0, spec_l8Fault.round0, Int.ofNat_lt, str_inj, beq_dec, bne_dec, cond_dec, cond_nt, if_true, if_false, decide_true, decide_false, cond_true, cond_false, u8_inj, cells_div, szs, sz_list, inB_nat, Int.toNat_natCast, get0, get1, get2, get3, get4, get5, get6, get7, get8, Nat.reduceLT, bind_of, List.getElem?_cons_zero, List.getElem?_cons_succ, oInt_int, oBool_bool, oStr_str, oSl_slc, oAgg_agg, oTup_tup, oCons_cons, oNil_nil, sl_cells, Nat.lt_irrefl]
  · cases es.any fun e => !ruleOk e <;> rfl
theorem spec_RulesFault (l : List Symbol) (hs : l.length ≤ 4294967296) (es : List Equation) (he : sm 4294967296 es) : Call F.spec_RulesFault [.agg [slc l], slc es] (.int .i64 (rulesFault ⟨l⟩ es)) := by
  refine call_of rfl 0 ((spec_RulesFault.ev _ _ _).trans ?_)
  simp only [Int.ofNat_lt, str_inj, beq_dec, bne_dec, cond_dec, cond_nt, if_true, if_false, decide_true, decide_false, cond_true, cond_false, u8_inj, cells_div, szs, sz_list, inB_nat, Int.toNat_natCast, get0, get1, get2, get3, get4, get5, get6, get7, get8, Nat.reduceLT, bind_of, List.getElem?_cons_zero, List.getElem?_cons_succ, oInt_int, oBool_bool, oStr_str, oSl_slc, oAgg_agg, oTup_tup, oCons_cons, oNil_nil, sl_cells, (spec_SignatureFault l hs).eq, rulesFault]
  by_cases h1 : sigFault ⟨l⟩ = 0
  case neg => simp only [h1, Int.ofNat_lt, str_inj, beq_dec, bne_dec, cond_dec, cond_nt, if_true, if_false, decide_true, decide_false, cond_true, cond_false, u8_inj, cells_div, szs, sz_list, inB_nat, Int.toNat_natCast, get0, get1, get2, get3, get4, get5, get6, get7, get8, Nat.reduceLT, bind_of, List.getElem?_cons_zero, List.getElem?_cons_succ, oInt_int, oBool_bool, oStr_str, oSl_slc, oAgg_agg, oTup_tup, oCons_cons, oNil_nil, sl_cells, ne_eq, not_false_eq_true]
  have ok := (sigOk_iff _).1 h1
  simp only [h1, Int.ofNat_lt, str_inj, beq_dec, bne_dec, cond_dec, cond_nt, if_true, if_false, decide_true, decide_false, cond_true, cond_false, u8_inj, cells_div, szs, sz_list, inB_nat, Int.toNat_natCast, get0, get1, get2, get3, get4, get5, get6, get7, get8, Nat.reduceLT, bind_of, List.getElem?_cons_zero, List.getElem?_cons_succ, oInt_int, oBool_bool, oStr_str, oSl_slc, oAgg_agg, oTup_tup, oCons_cons, oNil_nil, sl_cells, ne_eq, not_true_eq_false, (spec_l8Fault l ok es he).eq]
end Ev.Ty
end

section
namespace Ev.Ty
open Go Ev
open Enc (enc)
open Sm (sm)
set_option linter.unusedSimpArgs false
set_option linter.unusedVariables false
theorem ins_take {α : Type} {l : List α} {i k : Nat} (x : α) (hi : i ≤ k) (hk : k < l.length) : (ins l i x).take (k + 2) = (ins l i x).take (k + 1) ++ [l[k]] := by
  have hlen := ins_length l i x (by omega)
  have h : k + 1 < (ins l i x).length := by omega
  have e : (ins l i x)[k + 1] = l[k] := by
    have := ins_get l x i (by omega) (k + 1)
    rw [if_neg (by omega), if_neg (by omega), Nat.add_sub_cancel, List.getElem?_eq_getElem hk] at this
    have h2 : (ins l i x)[k + 1]? = some l[k] := this
    rw [List.getElem?_eq_getElem h] at h2
    exact Option.some.inj h2
  rw [← e]
  exact (List.take_append_getElem h).symm
theorem ins_take_eq {α : Type} {l : List α} {i : Nat} (x : α) (hi : i ≤ l.length) : (ins l i x).take (i + 1) = l.take i ++ [x] := by
  unfold ins
  rw [List.take_append, List.take_of_length_le (by simp; omega)]
  simp [Nat.min_eq_left hi]
theorem ins_end {α : Type} (l : List α) (x : α) : ins l l.length x = l ++ [x] := by simp [ins]
theorem slices_Insert_Sint64 (vs : List Int) (i : Nat) (v : Int) (hi : i ≤ vs.length) (hl : vs.length < 4294967296) : Call F.slices_Insert_Sint64 [slc vs, .int .i64 i, .sl 1 [.int .i64 v]] (slc (ins vs i v)) := by
  refine lim_ext (e := insE 8) rfl (Ev.of fun m => ?_)
  have hc : (cells vs).length = vs.length := by rw [cells_length, sz_int, Nat.mul_one]
  show (bif _ then _ else _) = _
  rw [cond_pos (by simp [hc, hl, Nat.ble_eq]; omega)]
  have e1 := cells_take vs 1 i rfl
  have e2 := cells_drop vs 1 i rfl
  rw [Nat.mul_one] at e1 e2
  rw [Int.toNat_natCast, e1, e2]
  show some (T.sl 1 (cells (vs.take i) ++ T.int .i64 v :: cells (vs.drop i)), []) = _
  unfold ins slc
  rw [cells_append, cells_cons]
  rfl
theorem slices_Insert_SSint64 (ts : List (List Int)) (i : Nat) (t : List Int) (hi : i ≤ ts.length) (hl : ts.length < 4294967296) : Call F.slices_Insert_SSint64 [slc ts, .int .i64 i, .sl 1 [slc t]] (slc (ins ts i t)) := by
  refine lim_ext (e := insE 24) rfl (Ev.of fun m => ?_)
  have hc : (cells ts).length = ts.length := by rw [cells_length, show Enc.sz (List Int) = 1 from rfl, Nat.mul_one]
  show (bif _ then _ else _) = _
  rw [cond_pos (by simp [hc, hl, Nat.ble_eq]; omega)]
  have e1 := cells_take ts 1 i rfl
  have e2 := cells_drop ts 1 i rfl
  rw [Nat.mul_one] at e1 e2
  rw [Int.toNat_natCast, e1, e2]
  show some (T.sl 1 (cells (ts.take i) ++ slc t :: cells (ts.drop i)), []) = _
  unfold ins
  show _ = some (T.sl 1 (cells (ts.take i ++ t :: ts.drop i)), [])
  rw [cells_append, cells_cons]
  rfl
theorem impl_Binding_bind (vs : List Int) (ts : List (List Int)) (v : Int) (t : List Int) (hl : vs.length = ts.length) (hs : vs.length ≤ 1000) (ht : t.length ≤ 4294967296) :
    LIM F.impl_Binding_bind [.rref [slc vs, slc ts] 0, .int .i64 v, slc t] = some (.tup [], [.agg [slc (bput (vs, ts) v t).1, slc (bput (vs, ts) v t).2]]) := by
  have hi := insAt_le vs v
  refine call2_of rfl 1002 ((impl_Binding_bind.ev _ _ _ _ _).trans ?_)
  have loop : ∀ n k f, k + n = insAt vs v → n < f → impl_Binding_bind.at0 1002 f (impl_Binding_bind.st0 v (cells t) (k : Nat) (cells vs) (cells ts)) = some (.tup [], [.agg [slc (bput (vs, ts) v t).1, slc (bput (vs, ts) v t).2]]) := by
    intro n
    induction n with
    | zero =>
      intro k f hk hf
      obtain ⟨f, rfl⟩ : ∃ x, f = x + 1 := ⟨f - 1, by omega⟩
      obtain rfl : k = insAt vs v := by omega
      have q1 := (slices_Insert_Sint64 vs (insAt vs v) v hi (by omega)).eq
      have q2 := (slices_Insert_SSint64 ts (insAt vs v) t (by omega) (by omega)).eq
      by_cases h : insAt vs v < vs.length
      · have hs := insAt_stop vs v h
        have hlk : vs[insAt vs v]? = some vs[insAt vs v] := List.getElem?_eq_getElem h
        simp only [impl_Binding_bind.next0, impl_Binding_bind.round0, Int.ofNat_lt, str_inj, beq_dec, bne_dec, cond_dec, cond_nt, if_true, if_false, decide_true, decide_false, cond_true, cond_false, u8_inj, cells_div, szs, sz_list, inB_nat, Int.toNat_natCast, get0, get1, get2, get3, get4, get5, get6, get7, get8, Nat.reduceLT, bind_of, List.getElem?_cons_zero, List.getElem?_cons_succ, oInt_int, oBool_bool, oStr_str, oSl_slc, oAgg_agg, oTup_tup, oCons_cons, oNil_nil, sl_cells, h, hlk, enc_int, hs, q1, (slices_Clone_Sint64 t ht).eq, q2]
        rfl
      · simp only [impl_Binding_bind.next0, impl_Binding_bind.round0, Int.ofNat_lt, str_inj, beq_dec, bne_dec, cond_dec, cond_nt, if_true, if_false, decide_true, decide_false, cond_true, cond_false, u8_inj, cells_div, szs, sz_list, inB_nat, Int.toNat_natCast, get0, get1, get2, get3, get4, get5, get6, get7, get8, Nat.reduceLT, bind_of, List.getElem?_cons_zero, List.getElem?_cons_succ, oInt_int, oBool_bool, oStr_str, oSl_slc, oAgg_agg, oTup_tup, oCons_cons, oNil_nil, sl_cells, h, q1, (slices_Clone_Sint64 t ht).eq, q2]
        rfl
    | succ n ih =>
      intro k f hk hf
      obtain ⟨f, rfl⟩ : ∃ x, f = x + 1 := ⟨f - 1, by omega⟩
      have h : k < vs.length := by omega
      have hlt := insAt_lt vs v k (by omega) h
      have hlk : vs[k]? = some vs[k] := List.getElem?_eq_getElem h
      simp only [impl_Binding_bind.next0, impl_Binding_bind.round0, Int.ofNat_lt, str_inj, beq_dec, bne_dec, cond_dec, cond_nt, if_true, if_false, decide_true, decide_false, cond_true, cond_false, u8_inj, cells_div, szs, sz_list, inB_nat, Int.toNat_natCast, get0, get1, get2, get3, get4, get5, get6, get7, get8, Nat.reduceLT, bind_of, List.getElem?_cons_zero, List.getElem?_cons_succ, oInt_int, oBool_bool, oStr_str, oSl_slc, oAgg_agg, oTup_tup, oCons_cons, oNil_nil, sl_cells, h, hlk, enc_int, hlt]
      rw [wrap_succ (by omega)]
      exact ih (k + 1) f (by omega) (by omega)
  exact loop (insAt vs v) 0 1002 (by omega) (by omega)
def withSt (vs : List Int) (ts : List (List Int)) (v : Int) (t : List Int) (k : Nat) : Bool × List Int × List (List Int) :=
  if k ≤ insAt vs v then (false, vs.take k, ts.take k) else (true, (ins vs (insAt vs v) v).take (k + 1), (ins ts (insAt vs v) t).take (k + 1))
theorem spec_l6With (vs : List Int) (ts : List (List Int)) (v : Int) (t : List Int) (hl : vs.length = ts.length) (hs : vs.length ≤ 1000) (ht : t.length ≤ 4096) (hv : v ∉ vs) (htm : ∀ x ∈ ts, x.length ≤ 4096) :
    Call F.spec_l6With [.rref [slc vs, slc ts] 0, .int .i64 v, slc t] (.agg [slc (bput (vs, ts) v t).1, slc (bput (vs, ts) v t).2]) := by
  have hi := insAt_le vs v
  refine call_of rfl 1002 ((spec_l6With.ev _ _ _ _ _).trans ?_)
  have key := run_loop (n := vs.length) (f := 1002) (S := fun m k (s : Bool × List Int × List (List Int)) => spec_l6With.at0 1002 m (spec_l6With.st0 (cells vs) (cells ts) v (cells t) s.1 (k : Nat) (cells s.2.1) (cells s.2.2)))
    (st := withSt vs ts v t) (z := some (.agg [slc (bput (vs, ts) v t).1, slc (bput (vs, ts) v t).2], [])) (fun m k h => ?_) (fun m => ?_) (by omega)
  · have e0 : withSt vs ts v t 0 = (false, [], []) := by unfold withSt; rw [if_pos (Nat.zero_le _)]; rfl
    rw [e0] at key
    exact key
  · have h' : k < ts.length := by omega
    have hlk : vs[k]? = some vs[k] := List.getElem?_eq_getElem h
    have htk : ts[k]? = some ts[k] := List.getElem?_eq_getElem h'
    have hx := (spec_l1Ints' ts[k] (by have := htm _ (List.getElem_mem h'); omega)).eq
    have hx2 := (spec_l1Ints' t (by omega)).eq
    have hne : vs[k] ≠ v := fun e => hv (e ▸ List.getElem_mem h)
    have len1 : ∀ q, ((cells (vs.take q)).length) ≤ 1000 := fun q => by rw [cells_length, sz_int]; simp; omega
    have len2 : ∀ q, ((cells (ts.take q)).length) ≤ 1000 := fun q => by rw [cells_length, show Enc.sz (List Int) = 1 from rfl]; simp; omega
    have len3 : ∀ q, ((cells ((ins vs (insAt vs v) v).take q)).length) ≤ 1001 := fun q => by rw [cells_length, sz_int, List.length_take, ins_length _ _ _ hi]; omega
    have len4 : ∀ q, ((cells ((ins ts (insAt vs v) t).take q)).length) ≤ 1001 := fun q => by rw [cells_length, show Enc.sz (List Int) = 1 from rfl, List.length_take, ins_length _ _ _ (by omega)]; omega
    have tk1 : vs.take (k + 1) = vs.take k ++ [vs[k]] := (List.take_append_getElem h).symm
    have tk2 : ts.take (k + 1) = ts.take k ++ [ts[k]] := (List.take_append_getElem h').symm
    rcases Nat.lt_trichotomy k (insAt vs v) with c | c | c
    · have hlt := insAt_lt vs v k c h
      have hgt : ¬ vs[k] > v := by omega
      have e1 : withSt vs ts v t k = (false, vs.take k, ts.take k) := if_pos (by omega)
      have e2 : withSt vs ts v t (k + 1) = (false, vs.take k ++ [vs[k]], ts.take k ++ [ts[k]]) := by unfold withSt; rw [if_pos (by omega), tk1, tk2]
      rw [e1, e2]
      simp only [spec_l6With.next0, spec_l6With.round0, Int.ofNat_lt, str_inj, beq_dec, bne_dec, cond_dec, cond_nt, if_true, if_false, decide_true, decide_false, cond_true, cond_false, u8_inj, cells_div, szs, sz_list, inB_nat, Int.toNat_natCast, get0, get1, get2, get3, get4, get5, get6, get7, get8, Nat.reduceLT, bind_of, List.getElem?_cons_zero, List.getElem?_cons_succ, oInt_int, oBool_bool, oStr_str, oSl_slc, oAgg_agg, oTup_tup, oCons_cons, oNil_nil, sl_cells, h, h', hlk, htk, enc_int, enc_list, hgt, hx, cells_snoc_int, cells_snoc_list]
      rw [cond_pos (ble_ok (by have := len1 k; omega)), cond_pos (ble_ok (by have := len2 k; omega)), wrap_succ (by omega)]
    · have hs := insAt_stop vs v (by omega)
      have hs : ¬ vs[k] < v := by
        have : vs[insAt vs v]'(by omega) = vs[k] := by congr 1; omega
        rw [this] at hs; exact hs
      have hgt : vs[k] > v := by omega
      have e1 : withSt vs ts v t k = (false, vs.take k, ts.take k) := if_pos (by omega)
      have e2 : withSt vs ts v t (k + 1) = (true, (vs.take k ++ [v]) ++ [vs[k]], (ts.take k ++ [t]) ++ [ts[k]]) := by
        unfold withSt
        rw [if_neg (by omega), ← c, ins_take v (Nat.le_refl _) h, ins_take t (Nat.le_refl _) h', ins_take_eq v (by omega), ins_take_eq t (by omega)]
      rw [e1, e2]
      simp only [spec_l6With.next0, spec_l6With.round0, Int.ofNat_lt, str_inj, beq_dec, bne_dec, cond_dec, cond_nt, if_true, if_false, decide_true, decide_false, cond_true, cond_false, u8_inj, cells_div, szs, sz_list, inB_nat, Int.toNat_natCast, get0, get1, get2, get3, get4, get5, get6, get7, get8, Nat.reduceLT, bind_of, List.getElem?_cons_zero, List.getElem?_cons_succ, oInt_int, oBool_bool, oStr_str, oSl_slc, oAgg_agg, oTup_tup, oCons_cons, oNil_nil, sl_cells, h, h', hlk, htk, enc_int, enc_list, hgt, hx, hx2, cells_snoc_int, cells_snoc_list]
      have l1 := len1 k
      have l2 := len2 k
      have l3 : (cells (vs.take k ++ [v])).length ≤ 1001 := by rw [cells_append, List.length_append, cells_length [v]]; simp; omega
      have l4 : (cells (ts.take k ++ [t])).length ≤ 1001 := by rw [cells_append, List.length_append, cells_length [t]]; simp [show Enc.sz (List Int) = 1 from rfl]; omega
      rw [cond_pos (ble_ok (by omega)), cond_pos (ble_ok (by omega)), cond_pos (ble_ok (by omega)), cond_pos (ble_ok (by omega)), wrap_succ (by omega)]
    · have e1 : withSt vs ts v t k = (true, (ins vs (insAt vs v) v).take (k + 1), (ins ts (insAt vs v) t).take (k + 1)) := if_neg (by omega)
      have e2 : withSt vs ts v t (k + 1) = (true, (ins vs (insAt vs v) v).take (k + 1) ++ [vs[k]], (ins ts (insAt vs v) t).take (k + 1) ++ [ts[k]]) := by
        unfold withSt
        rw [if_neg (by omega), ins_take v (by omega) h, ins_take t (by omega) h']
      rw [e1, e2]
      simp only [spec_l6With.next0, spec_l6With.round0, Int.ofNat_lt, str_inj, beq_dec, bne_dec, cond_dec, cond_nt, if_true, if_false, decide_true, decide_false, cond_true, cond_false, u8_inj, cells_div, szs, sz_list, inB_nat, Int.toNat_natCast, get0, get1, get2, get3, get4, get5, get6, get7, get8, Nat.reduceLT, bind_of, List.getElem?_cons_zero, List.getElem?_cons_succ, oInt_int, oBool_bool, oStr_str, oSl_slc, oAgg_agg, oTup_tup, oCons_cons, oNil_nil, sl_cells, h, h', hlk, htk, enc_int, enc_list, hx, cells_snoc_int, cells_snoc_list]
      rw [cond_pos (ble_ok (by have := len3 (k + 1); omega)), cond_pos (ble_ok (by have := len4 (k + 1); omega)), wrap_succ (by omega)]
  · have hx2 := (spec_l1Ints' t (by omega)).eq
    by_cases c : insAt vs v = vs.length
    · have e1 : withSt vs ts v t vs.length = (false, vs, ts) := by
        unfold withSt
        rw [if_pos (by omega), List.take_length, hl, List.take_length]
      have e2 : bput (vs, ts) v t = (vs ++ [v], ts ++ [t]) := by
        unfold bput
        rw [c, ins_end]
        simp only [Prod.mk.injEq, true_and]
        rw [hl, ins_end]
      rw [e1, e2]
      simp only [spec_l6With.next0, spec_l6With.round0, Int.ofNat_lt, str_inj, beq_dec, bne_dec, cond_dec, cond_nt, if_true, if_false, decide_true, decide_false, cond_true, cond_false, u8_inj, cells_div, szs, sz_list, inB_nat, Int.toNat_natCast, get0, get1, get2, get3, get4, get5, get6, get7, get8, Nat.reduceLT, bind_of, List.getElem?_cons_zero, List.getElem?_cons_succ, oInt_int, oBool_bool, oStr_str, oSl_slc, oAgg_agg, oTup_tup, oCons_cons, oNil_nil, sl_cells, Nat.lt_irrefl, hx2, cells_snoc_int, cells_snoc_list]
      rw [cond_pos (ble_ok (by rw [cells_length, sz_int]; omega)), cond_pos (ble_ok (by rw [cells_length, show Enc.sz (List Int) = 1 from rfl]; omega))]
    · have e1 : withSt vs ts v t vs.length = (true, ins vs (insAt vs v) v, ins ts (insAt vs v) t) := by
        unfold withSt
        rw [if_neg (by omega), List.take_of_length_le (by rw [ins_length _ _ _ hi]; omega), List.take_of_length_le (by rw [ins_length _ _ _ (by omega)]; omega)]
      rw [e1]
      simp only [spec_l6With.next0, spec_l6With.round0, Int.ofNat_lt, str_inj, beq_dec, bne_dec, cond_dec, cond_nt, if_true, if_false, decide_true, decide_false, cond_true, cond_false, u8_inj, cells_div, szs, sz_list, inB_nat, Int.toNat_natCast, get0, get1, get2, get3, get4, get5, get6, get7, get8, Nat.reduceLT, bind_of, List.getElem?_cons_zero, List.getElem?_cons_succ, oInt_int, oBool_bool, oStr_str, oSl_slc, oAgg_agg, oTup_tup, oCons_cons, oNil_nil, sl_cells, Nat.lt_irrefl]
      rfl
def mT : Option Bnd → T
  | none => .tup [.agg [.sl 1 [], .sl 1 []], .bool false]
  | some b => .tup [.agg [slc b.1, slc b.2], .bool true]
section
variable {l : List Symbol} (ok : SigOk ⟨l⟩)
include ok
theorem impl_match {pat u : List Int} (hq : TermOk l pat) (hu : TermOk l u) : Call F.impl_match [.agg [slc l], slc pat, slc u] (mT (matchAt l pat u 0)) := by
  have hul := hu.le
  have hpl := hq.le
  refine call_of rfl 25 ((impl_match.ev _ _ _ _).trans ?_)
  simp only [cells_div, sz_int]
  have loop : ∀ (q : List Int) (b : Bnd) (p k f : Nat), pat.drop k = q → q.length < f → Both l u q p [] → MB l b k → k + q.length = pat.length →
      impl_match.at0 25 f (impl_match.st0 (cells u) (p : Nat) (cells pat) pat.length (k : Nat) (cells l) (cells b.1) (cells b.2)) =
        some (match mgo l u q b p with | none => T.tup [.agg [.sl 1 [], .sl 1 []], .bool false] | some x => .tup [.agg [slc x.1.1, slc x.1.2], .bool (decide (x.2 = u.length))], []) := by
    intro q
    induction q with
    | nil =>
      intro b p k f hd hf hB hb hk
      obtain ⟨f, rfl⟩ : ∃ x, f = x + 1 := ⟨f - 1, by omega⟩
      have h : ¬ k < pat.length := by simp at hk; omega
      simp only [impl_match.next0, impl_match.round0, Int.ofNat_lt, str_inj, beq_dec, bne_dec, cond_dec, cond_nt, if_true, if_false, decide_true, decide_false, cond_true, cond_false, u8_inj, cells_div, szs, sz_list, inB_nat, Int.toNat_natCast, get0, get1, get2, get3, get4, get5, get6, get7, get8, Nat.reduceLT, bind_of, List.getElem?_cons_zero, List.getElem?_cons_succ, oInt_int, oBool_bool, oStr_str, oSl_slc, oAgg_agg, oTup_tup, oCons_cons, oNil_nil, sl_cells, h, mgo, Int.ofNat_inj]
    | cons n q ih =>
      intro b p k f hd hf hB hb hk
      rw [List.length_cons] at hf hk
      obtain ⟨f, rfl⟩ : ∃ x, f = x + 1 := ⟨f - 1, by omega⟩
      have h : k < pat.length := by omega
      have hn : pat[k] = n := by
        have := congrArg (fun x => x[0]?) hd
        simp only [List.getElem?_drop, Nat.add_zero, List.getElem?_cons_zero] at this
        rw [List.getElem?_eq_getElem h] at this
        exact Option.some.inj this
      have hd' : pat.drop (k + 1) = q := by rw [← List.drop_drop, hd]; rfl
      have hlk : pat[k]? = some n := by rw [List.getElem?_eq_getElem h, hn]
      have hp := hB.lt
      have hpk : u[p]? = some u[p] := List.getElem?_eq_getElem hp
      have hnode := nodeOk_iff.1 (hq.node n (hn ▸ List.getElem_mem h))
      have hp' : ¬ ((p : Int) ≥ (u.length : Int)) := by omega
      have hls : l.length ≤ 6 := ok.le
      obtain ⟨h3, h4, _⟩ := endAt_spec hu hp
      have hsl := (sub_split hu hp).2.1
      rw [mgo, if_neg (by omega)]
      by_cases c : 0 ≤ n
      · have c' : n ≥ 0 := c
        rw [if_pos c, getD_at hp]
        by_cases e : u[p] = n
        · simp only [impl_match.next0, impl_match.round0, Int.ofNat_lt, str_inj, beq_dec, bne_dec, cond_dec, cond_nt, if_true, if_false, decide_true, decide_false, cond_true, cond_false, u8_inj, cells_div, szs, sz_list, inB_nat, Int.toNat_natCast, get0, get1, get2, get3, get4, get5, get6, get7, get8, Nat.reduceLT, bind_of, List.getElem?_cons_zero, List.getElem?_cons_succ, oInt_int, oBool_bool, oStr_str, oSl_slc, oAgg_agg, oTup_tup, oCons_cons, oNil_nil, sl_cells, h, hlk, hp, hpk, hp', enc_int, c', e]
          rw [wrap_succ (by omega), wrap_succ (by omega)]
          exact ih b (p + 1) (k + 1) f hd' (by omega) (hB.node (by rw [getD_at hp, e])) (hb.up (by omega)) (by omega)
        · simp only [impl_match.next0, impl_match.round0, Int.ofNat_lt, str_inj, beq_dec, bne_dec, cond_dec, cond_nt, if_true, if_false, decide_true, decide_false, cond_true, cond_false, u8_inj, cells_div, szs, sz_list, inB_nat, Int.toNat_natCast, get0, get1, get2, get3, get4, get5, get6, get7, get8, Nat.reduceLT, bind_of, List.getElem?_cons_zero, List.getElem?_cons_succ, oInt_int, oBool_bool, oStr_str, oSl_slc, oAgg_agg, oTup_tup, oCons_cons, oNil_nil, sl_cells, h, hlk, hp, hpk, hp', enc_int, c', e]
      · have c' : ¬ n ≥ 0 := c
        rw [if_neg c]
        have hof := (impl_Binding_of b.1 b.2 (-1 - n) hb.len (by have := hb.le; omega)).eq
        have hB' := hB.var hu (by omega)
        have hw : IntKind.wrap .i64 (-1 - n) = -1 - n := wrap64 (by omega)
        have hw2 : IntKind.wrap .i64 ((p : Int) + ((subAt l u p).length : Nat)) = ((p + (subAt l u p).length : Nat) : Int) := by rw [wrap64 (by omega)]; omega
        have hsub := (impl_subterm ok hu hp).eq
        have hbl := hb.le
        cases hbo : bindOf b.1 b.2 (-1 - n) with
        | none =>
          rw [hbo] at hof
          have hbind := impl_Binding_bind b.1 b.2 (-1 - n) (subAt l u p) hb.len (by omega) (by omega)
          simp only [impl_match.next0, impl_match.round0, Int.ofNat_lt, str_inj, beq_dec, bne_dec, cond_dec, cond_nt, if_true, if_false, decide_true, decide_false, cond_true, cond_false, u8_inj, cells_div, szs, sz_list, inB_nat, Int.toNat_natCast, get0, get1, get2, get3, get4, get5, get6, get7, get8, Nat.reduceLT, bind_of, List.getElem?_cons_zero, List.getElem?_cons_succ, oInt_int, oBool_bool, oStr_str, oSl_slc, oAgg_agg, oTup_tup, oCons_cons, oNil_nil, sl_cells, h, hlk, hp', enc_int, c', hsub, hw, hof, ofT, scalars_int, hbind, hw2]
          rw [wrap_succ (by omega)]
          exact ih (bput b (-1 - n) (subAt l u p)) _ (k + 1) f hd' (by omega) hB' (hb.put (by omega) (subAt_ok hu hp)) (by omega)
        | some o =>
          rw [hbo] at hof
          have ho := hb.tm o (bindOf_mem hbo)
          have hol := ho.le
          have heq := (slices_Equal_Sint64 o (subAt l u p) ⟨by omega, fun _ _ => trivial⟩).eq
          show _ = some (match (if o = subAt l u p then mgo l u q b (p + (subAt l u p).length) else none) with | none => _ | some x => _, [])
          by_cases e : o = subAt l u p
          · rw [if_pos e]
            rw [e] at heq
            simp only [impl_match.next0, impl_match.round0, Int.ofNat_lt, str_inj, beq_dec, bne_dec, cond_dec, cond_nt, if_true, if_false, decide_true, decide_false, cond_true, cond_false, u8_inj, cells_div, szs, sz_list, inB_nat, Int.toNat_natCast, get0, get1, get2, get3, get4, get5, get6, get7, get8, Nat.reduceLT, bind_of, List.getElem?_cons_zero, List.getElem?_cons_succ, oInt_int, oBool_bool, oStr_str, oSl_slc, oAgg_agg, oTup_tup, oCons_cons, oNil_nil, sl_cells, h, hlk, hp', enc_int, c', hsub, hw, hof, ofT, scalars_int, heq, e, hw2]
            rw [wrap_succ (by omega)]
            exact ih b _ (k + 1) f hd' (by omega) hB' (hb.up (by omega)) (by omega)
          · rw [if_neg e]
            simp only [impl_match.next0, impl_match.round0, Int.ofNat_lt, str_inj, beq_dec, bne_dec, cond_dec, cond_nt, if_true, if_false, decide_true, decide_false, cond_true, cond_false, u8_inj, cells_div, szs, sz_list, inB_nat, Int.toNat_natCast, get0, get1, get2, get3, get4, get5, get6, get7, get8, Nat.reduceLT, bind_of, List.getElem?_cons_zero, List.getElem?_cons_succ, oInt_int, oBool_bool, oStr_str, oSl_slc, oAgg_agg, oTup_tup, oCons_cons, oNil_nil, sl_cells, h, hlk, hp', enc_int, c', hsub, hw, hof, ofT, scalars_int, heq, e]
  have hpos := hu.pos
  have e0 : u.drop (endAt l u 0) = [] := by
    have := (sub_split hu (p := 0) (by omega)).2.2
    rw [List.drop_zero, hu.skip] at this
    exact (Option.some.inj this).symm
  have hB := Both.start hu hq (p := 0) (by omega)
  rw [e0] at hB
  have hmain := loop pat ([], []) 0 0 25 rfl (by omega) hB (MB.nil l) (by omega)
  have hen := mgo_end hu pat ([], []) 0 0 hB (by omega) (MB.nil l) (by omega) hq.node
  unfold matchAt
  cases hm : mgo l u pat ([], []) 0 with
  | none => rw [hm] at hmain; exact hmain
  | some x =>
    rw [hm] at hmain
    obtain ⟨h1, h2, _⟩ := hen x hm
    have hx : x.2 = u.length := by
      have := congrArg List.length h1
      rw [List.length_drop] at this
      simp at this
      omega
    have hmain : impl_match.at0 25 25 (impl_match.st0 (cells u) (0 : Nat) (cells pat) pat.length (0 : Nat) (cells l) (cells ([] : List Int)) (cells ([] : List (List Int)))) = some (T.tup [.agg [slc x.1.1, slc x.1.2], .bool (decide (x.2 = u.length))], []) := hmain
    rw [hx, decide_eq_true rfl] at hmain
    exact hmain
theorem spec_l6Match {pat u : List Int} (hq : TermOk l pat) (hu : TermOk l u) {p0 : Nat} (hp0 : p0 < u.length) : Call F.spec_l6Match [.rref [slc l] 0, slc pat, slc u, .int .i64 p0] (mT (matchAt l pat u p0)) := by
  have hul := hu.le
  have hpl := hq.le
  refine call_of rfl 25 ((spec_l6Match.ev _ _ _ _ _).trans ?_)
  have loop : ∀ (q : List Int) (b : Bnd) (p k f : Nat), pat.drop k = q → q.length < f → Both l u q p (u.drop (endAt l u p0)) → MB l b k → k + q.length = pat.length →
      spec_l6Match.at0 25 f (spec_l6Match.st0 (cells l) (cells pat) (cells u) (p : Nat) (k : Nat) (cells b.1) (cells b.2)) = some (mT ((mgo l u q b p).map (·.1)), []) := by
    intro q
    induction q with
    | nil =>
      intro b p k f hd hf hB hb hk
      obtain ⟨f, rfl⟩ : ∃ x, f = x + 1 := ⟨f - 1, by omega⟩
      have h : ¬ k < pat.length := by simp at hk; omega
      simp only [spec_l6Match.next0, spec_l6Match.round0, Int.ofNat_lt, str_inj, beq_dec, bne_dec, cond_dec, cond_nt, if_true, if_false, decide_true, decide_false, cond_true, cond_false, u8_inj, cells_div, szs, sz_list, inB_nat, Int.toNat_natCast, get0, get1, get2, get3, get4, get5, get6, get7, get8, Nat.reduceLT, bind_of, List.getElem?_cons_zero, List.getElem?_cons_succ, oInt_int, oBool_bool, oStr_str, oSl_slc, oAgg_agg, oTup_tup, oCons_cons, oNil_nil, sl_cells, h, mgo, Option.map_some, mT]
    | cons n q ih =>
      intro b p k f hd hf hB hb hk
      rw [List.length_cons] at hf hk
      obtain ⟨f, rfl⟩ : ∃ x, f = x + 1 := ⟨f - 1, by omega⟩
      have h : k < pat.length := by omega
      have hn : pat[k] = n := by
        have := congrArg (fun x => x[0]?) hd
        simp only [List.getElem?_drop, Nat.add_zero, List.getElem?_cons_zero] at this
        rw [List.getElem?_eq_getElem h] at this
        exact Option.some.inj this
      have hd' : pat.drop (k + 1) = q := by rw [← List.drop_drop, hd]; rfl
      have hlk : pat[k]? = some n := by rw [List.getElem?_eq_getElem h, hn]
      have hp := hB.lt
      have hpk : u[p]? = some u[p] := List.getElem?_eq_getElem hp
      have hnode := nodeOk_iff.1 (hq.node n (hn ▸ List.getElem_mem h))
      have hp' : ¬ ((p : Int) ≥ (u.length : Int)) := by omega
      have hls : l.length ≤ 6 := ok.le
      obtain ⟨h3, h4, _⟩ := endAt_spec hu hp
      have hsl := (sub_split hu hp).2.1
      rw [mgo, if_neg (by omega)]
      by_cases c : 0 ≤ n
      · have c' : n ≥ 0 := c
        rw [if_pos c, getD_at hp]
        by_cases e : u[p] = n
        · simp only [spec_l6Match.next0, spec_l6Match.round0, Int.ofNat_lt, str_inj, beq_dec, bne_dec, cond_dec, cond_nt, if_true, if_false, decide_true, decide_false, cond_true, cond_false, u8_inj, cells_div, szs, sz_list, inB_nat, Int.toNat_natCast, get0, get1, get2, get3, get4, get5, get6, get7, get8, Nat.reduceLT, bind_of, List.getElem?_cons_zero, List.getElem?_cons_succ, oInt_int, oBool_bool, oStr_str, oSl_slc, oAgg_agg, oTup_tup, oCons_cons, oNil_nil, sl_cells, h, hlk, hp, hpk, hp', enc_int, c', e]
          rw [wrap_succ (by omega), wrap_succ (by omega)]
          exact ih b (p + 1) (k + 1) f hd' (by omega) (hB.node (by rw [getD_at hp, e])) (hb.up (by omega)) (by omega)
        · simp only [spec_l6Match.next0, spec_l6Match.round0, Int.ofNat_lt, str_inj, beq_dec, bne_dec, cond_dec, cond_nt, if_true, if_false, decide_true, decide_false, cond_true, cond_false, u8_inj, cells_div, szs, sz_list, inB_nat, Int.toNat_natCast, get0, get1, get2, get3, get4, get5, get6, get7, get8, Nat.reduceLT, bind_of, List.getElem?_cons_zero, List.getElem?_cons_succ, oInt_int, oBool_bool, oStr_str, oSl_slc, oAgg_agg, oTup_tup, oCons_cons, oNil_nil, sl_cells, h, hlk, hp, hpk, hp', enc_int, c', e, Option.map_none, mT]
      · have c' : ¬ n ≥ 0 := c
        rw [if_neg c]
        have hof := (spec_l6Term b.1 b.2 (-1 - n) hb.len (by have := hb.le; omega)).eq
        have hB' := hB.var hu (by omega)
        have hw : IntKind.wrap .i64 (-1 - n) = -1 - n := wrap64 (by omega)
        have hw2 : IntKind.wrap .i64 ((p : Int) + ((subAt l u p).length : Nat)) = ((p + (subAt l u p).length : Nat) : Int) := by rw [wrap64 (by omega)]; omega
        have hsub := (spec_l3Sub ok hu hp).eq
        have hbl := hb.le
        cases hbo : bindOf b.1 b.2 (-1 - n) with
        | none =>
          rw [hbo] at hof
          have hbind := (spec_l6With b.1 b.2 (-1 - n) (subAt l u p) hb.len (by omega) (by omega) (bindOf_none hb.len hbo) fun x hx => by have := (hb.tm x hx).le; omega).eq
          simp only [spec_l6Match.next0, spec_l6Match.round0, Int.ofNat_lt, str_inj, beq_dec, bne_dec, cond_dec, cond_nt, if_true, if_false, decide_true, decide_false, cond_true, cond_false, u8_inj, cells_div, szs, sz_list, inB_nat, Int.toNat_natCast, get0, get1, get2, get3, get4, get5, get6, get7, get8, Nat.reduceLT, bind_of, List.getElem?_cons_zero, List.getElem?_cons_succ, oInt_int, oBool_bool, oStr_str, oSl_slc, oAgg_agg, oTup_tup, oCons_cons, oNil_nil, sl_cells, h, hlk, hp', enc_int, c', hsub, hw, hof, Option.getD_none, scalars_int, hbind, hw2, List.length_nil, Int.natCast_zero, Int.ofNat_zero]
          rw [wrap_succ (by omega)]
          exact ih (bput b (-1 - n) (subAt l u p)) _ (k + 1) f hd' (by omega) hB' (hb.put (by omega) (subAt_ok hu hp)) (by omega)
        | some o =>
          rw [hbo] at hof
          have ho := hb.tm o (bindOf_mem hbo)
          have hol := ho.le
          have hop := ho.pos
          have ho0 : ¬ ((o.length : Int) = 0) := by omega
          have heq := (spec_l1Same o (subAt l u p) ⟨by omega, fun _ _ => trivial⟩).eq
          show _ = some (mT ((if o = subAt l u p then mgo l u q b (p + (subAt l u p).length) else none).map (·.1)), [])
          by_cases e : o = subAt l u p
          · rw [if_pos e]
            have ho1 : ¬ (((subAt l u p).length : Int) = 0) := by omega
            rw [e] at heq
            simp only [spec_l6Match.next0, spec_l6Match.round0, Int.ofNat_lt, str_inj, beq_dec, bne_dec, cond_dec, cond_nt, if_true, if_false, decide_true, decide_false, cond_true, cond_false, u8_inj, cells_div, szs, sz_list, inB_nat, Int.toNat_natCast, get0, get1, get2, get3, get4, get5, get6, get7, get8, Nat.reduceLT, bind_of, List.getElem?_cons_zero, List.getElem?_cons_succ, oInt_int, oBool_bool, oStr_str, oSl_slc, oAgg_agg, oTup_tup, oCons_cons, oNil_nil, sl_cells, h, hlk, hp', enc_int, c', hsub, hw, hof, Option.getD_some, scalars_int, heq, e, ho0, ho1, hw2]
            rw [wrap_succ (by omega)]
            exact ih b _ (k + 1) f hd' (by omega) hB' (hb.up (by omega)) (by omega)
          · rw [if_neg e]
            simp only [spec_l6Match.next0, spec_l6Match.round0, Int.ofNat_lt, str_inj, beq_dec, bne_dec, cond_dec, cond_nt, if_true, if_false, decide_true, decide_false, cond_true, cond_false, u8_inj, cells_div, szs, sz_list, inB_nat, Int.toNat_natCast, get0, get1, get2, get3, get4, get5, get6, get7, get8, Nat.reduceLT, bind_of, List.getElem?_cons_zero, List.getElem?_cons_succ, oInt_int, oBool_bool, oStr_str, oSl_slc, oAgg_agg, oTup_tup, oCons_cons, oNil_nil, sl_cells, h, hlk, hp', enc_int, c', hsub, hw, hof, Option.getD_some, scalars_int, heq, e, ho0, Option.map_none, mT]
  exact loop pat ([], []) p0 0 25 rfl (by omega) (Both.start hu hq hp0) (MB.nil l) (by omega)
end
end Ev.Ty
end

section
namespace Ev.Ty
open Go Ev
open Enc (enc)
open Sm (sm)
set_option linter.unusedSimpArgs false
set_option linter.unusedVariables false
section
variable {l : List Symbol} (ok : SigOk ⟨l⟩) {rs : List Equation} (hr : ∀ e ∈ rs, EqOk l e) (hn : rs.length ≤ 12)
include ok hr hn
theorem impl_ruleAt {t : List Int} (ht : TermOk l t) {p : Nat} (hp : p < t.length) : Call F.impl_ruleAt [.agg [slc l], slc rs, slc t, .int .i64 p] (.int .i64 (fits l rs t p)) := by
  have hu := subAt_ok ht hp
  have hi : Call F.slices_IndexFunc_SEquation [slc rs, .clo F.impl_ruleAt_1 [.rref [slc l] 0, .rref [slc (subAt l t p)] 0]] (.int .i64 (fits l rs t p)) := by
    refine call_of rfl (rs.length + 1) ((slices_IndexFunc_SEquation_at1_impl_ruleAt_1.ev _ _ _ _).trans ?_)
    simp only [Int.ofNat_lt, str_inj, beq_dec, bne_dec, cond_dec, cond_nt, if_true, if_false, decide_true, decide_false, cond_true, cond_false, u8_inj, cells_div, szs, sz_list, inB_nat, Int.toNat_natCast, get0, get1, get2, get3, get4, get5, get6, get7, get8, Nat.reduceLT, bind_of, List.getElem?_cons_zero, List.getElem?_cons_succ, oInt_int, oBool_bool, oStr_str, oSl_slc, oAgg_agg, oTup_tup, oCons_cons, oNil_nil, sl_cells]
    refine idx_loop (S := fun m k => slices_IndexFunc_SEquation_at1_impl_ruleAt_1.at0 (rs.length + 1) m (slices_IndexFunc_SEquation_at1_impl_ruleAt_1.st0 (cells rs) (cells l) (cells (subAt l t p)) rs.length (k : Nat))) (fun m k h => ?_) (fun m => ?_) (Nat.lt_succ_self _)
    · have hlk : rs[k]? = some rs[k] := List.getElem?_eq_getElem h
      have he := hr _ (List.getElem_mem h)
      have hc : Call F.impl_ruleAt_1 [.agg [slc rs[k].left, slc rs[k].right], .rref [slc l] 0, .rref [slc (subAt l t p)] 0] (.bool (matchAt l rs[k].left t p).isSome) := by
        refine call_of rfl 0 ((impl_ruleAt_1.ev _ _ _ _ _).trans ?_)
        have hm := (impl_match ok he.left hu).eq
        rw [matchAt_sub he.left ht hp] at hm
        cases hmm : matchAt l rs[k].left t p with
        | none => rw [hmm] at hm; simp only [Int.ofNat_lt, str_inj, beq_dec, bne_dec, cond_dec, cond_nt, if_true, if_false, decide_true, decide_false, cond_true, cond_false, u8_inj, cells_div, szs, sz_list, inB_nat, Int.toNat_natCast, get0, get1, get2, get3, get4, get5, get6, get7, get8, Nat.reduceLT, bind_of, List.getElem?_cons_zero, List.getElem?_cons_succ, oInt_int, oBool_bool, oStr_str, oSl_slc, oAgg_agg, oTup_tup, oCons_cons, oNil_nil, sl_cells, hm, mT]; rfl
        | some b => rw [hmm] at hm; simp only [Int.ofNat_lt, str_inj, beq_dec, bne_dec, cond_dec, cond_nt, if_true, if_false, decide_true, decide_false, cond_true, cond_false, u8_inj, cells_div, szs, sz_list, inB_nat, Int.toNat_natCast, get0, get1, get2, get3, get4, get5, get6, get7, get8, Nat.reduceLT, bind_of, List.getElem?_cons_zero, List.getElem?_cons_succ, oInt_int, oBool_bool, oStr_str, oSl_slc, oAgg_agg, oTup_tup, oCons_cons, oNil_nil, sl_cells, hm, mT]; rfl
      simp only [slices_IndexFunc_SEquation_at1_impl_ruleAt_1.next0, slices_IndexFunc_SEquation_at1_impl_ruleAt_1.round0, Int.ofNat_lt, str_inj, beq_dec, bne_dec, cond_dec, cond_nt, if_true, if_false, decide_true, decide_false, cond_true, cond_false, u8_inj, cells_div, szs, sz_list, inB_nat, Int.toNat_natCast, get0, get1, get2, get3, get4, get5, get6, get7, get8, Nat.reduceLT, bind_of, List.getElem?_cons_zero, List.getElem?_cons_succ, oInt_int, oBool_bool, oStr_str, oSl_slc, oAgg_agg, oTup_tup, oCons_cons, oNil_nil, sl_cells, h, hlk, enc_Equation, hc.eq]
      rw [wrap_succ (by omega)]
      cases (matchAt l rs[k].left t p).isSome <;> rfl
    · simp only [slices_IndexFunc_SEquation_at1_impl_ruleAt_1.next0, slices_IndexFunc_SEquation_at1_impl_ruleAt_1.round0, Int.ofNat_lt, str_inj, beq_dec, bne_dec, cond_dec, cond_nt, if_true, if_false, decide_true, decide_false, cond_true, cond_false, u8_inj, cells_div, szs, sz_list, inB_nat, Int.toNat_natCast, get0, get1, get2, get3, get4, get5, get6, get7, get8, Nat.reduceLT, bind_of, List.getElem?_cons_zero, List.getElem?_cons_succ, oInt_int, oBool_bool, oStr_str, oSl_slc, oAgg_agg, oTup_tup, oCons_cons, oNil_nil, sl_cells, Nat.lt_irrefl]
  refine call_of rfl 0 ((impl_ruleAt.ev _ _ _ _ _).trans ?_)
  simp only [Int.ofNat_lt, str_inj, beq_dec, bne_dec, cond_dec, cond_nt, if_true, if_false, decide_true, decide_false, cond_true, cond_false, u8_inj, cells_div, szs, sz_list, inB_nat, Int.toNat_natCast, get0, get1, get2, get3, get4, get5, get6, get7, get8, Nat.reduceLT, bind_of, List.getElem?_cons_zero, List.getElem?_cons_succ, oInt_int, oBool_bool, oStr_str, oSl_slc, oAgg_agg, oTup_tup, oCons_cons, oNil_nil, sl_cells, (impl_subterm ok ht hp).eq, hi.eq]
theorem spec_l8Fits {t : List Int} (ht : TermOk l t) {p : Nat} (hp : p < t.length) : Call F.spec_l8Fits [.rref [slc l] 0, slc rs, slc t, .int .i64 p] (.int .i64 (fits l rs t p)) := by
  refine call_of rfl (rs.length + 1) ((spec_l8Fits.ev _ _ _ _ _).trans ?_)
  refine idx_loop (S := fun m k => spec_l8Fits.at0 (rs.length + 1) m (spec_l8Fits.st0 (cells l) (cells rs) (cells t) (p : Nat) (k : Nat))) (fun m k h => ?_) (fun m => ?_) (Nat.lt_succ_self _)
  · have hlk : rs[k]? = some rs[k] := List.getElem?_eq_getElem h
    have he := hr _ (List.getElem_mem h)
    have hm := (spec_l6Match ok he.left ht hp).eq
    cases hmm : matchAt l rs[k].left t p with
    | none =>
      rw [hmm] at hm
      simp only [spec_l8Fits.next0, spec_l8Fits.round0, Int.ofNat_lt, str_inj, beq_dec, bne_dec, cond_dec, cond_nt, if_true, if_false, decide_true, decide_false, cond_true, cond_false, u8_inj, cells_div, szs, sz_list, inB_nat, Int.toNat_natCast, get0, get1, get2, get3, get4, get5, get6, get7, get8, Nat.reduceLT, bind_of, List.getElem?_cons_zero, List.getElem?_cons_succ, oInt_int, oBool_bool, oStr_str, oSl_slc, oAgg_agg, oTup_tup, oCons_cons, oNil_nil, sl_cells, h, hlk, enc_Equation, hm, mT]
      rw [wrap_succ (by omega)]
      rfl
    | some b =>
      rw [hmm] at hm
      simp only [spec_l8Fits.next0, spec_l8Fits.round0, Int.ofNat_lt, str_inj, beq_dec, bne_dec, cond_dec, cond_nt, if_true, if_false, decide_true, decide_false, cond_true, cond_false, u8_inj, cells_div, szs, sz_list, inB_nat, Int.toNat_natCast, get0, get1, get2, get3, get4, get5, get6, get7, get8, Nat.reduceLT, bind_of, List.getElem?_cons_zero, List.getElem?_cons_succ, oInt_int, oBool_bool, oStr_str, oSl_slc, oAgg_agg, oTup_tup, oCons_cons, oNil_nil, sl_cells, h, hlk, enc_Equation, hm, mT]
      rfl
  · simp only [spec_l8Fits.next0, spec_l8Fits.round0, Int.ofNat_lt, str_inj, beq_dec, bne_dec, cond_dec, cond_nt, if_true, if_false, decide_true, decide_false, cond_true, cond_false, u8_inj, cells_div, szs, sz_list, inB_nat, Int.toNat_natCast, get0, get1, get2, get3, get4, get5, get6, get7, get8, Nat.reduceLT, bind_of, List.getElem?_cons_zero, List.getElem?_cons_succ, oInt_int, oBool_bool, oStr_str, oSl_slc, oAgg_agg, oTup_tup, oCons_cons, oNil_nil, sl_cells, Nat.lt_irrefl]
theorem impl_findRedex {t : List Int} (ht : TermOk l t) : Call F.impl_findRedex [.agg [slc l], slc rs, slc t] (.tup [.int .i64 (redex l rs t).1, .int .i64 (redex l rs t).2, .bool (decide ((redex l rs t).1 ≥ 0))]) := by
  have hle := ht.le
  have hpos := ht.pos
  have loop : ∀ (k f : Nat) (s : Int × Int), k ≤ t.length → k < f → IsBest (endAt l t) (fits l rs t) k t.length s →
      impl_findRedex.at0 25 f (impl_findRedex.st0 (cells rs) (cells t) s.1 s.2 ((k : Int) - 1) (cells l)) =
        some (.tup [.int .i64 (down (endAt l t) (fits l rs t) k s).1, .int .i64 (down (endAt l t) (fits l rs t) k s).2, .bool (decide ((down (endAt l t) (fits l rs t) k s).1 ≥ 0))], []) := by
    intro k
    induction k with
    | zero =>
      intro f s hk hf hb
      obtain ⟨f, rfl⟩ : ∃ x, f = x + 1 := ⟨f - 1, by omega⟩
      have h1 : ¬ (((0 : Nat) : Int) - 1 ≥ 0) := by omega
      simp only [impl_findRedex.next0, impl_findRedex.round0, cond_dec]
      rw [if_neg h1]
      rfl
    | succ k ih =>
      intro f s hk hf hb
      obtain ⟨f, rfl⟩ : ∃ x, f = x + 1 := ⟨f - 1, by omega⟩
      have e : ((k + 1 : Nat) : Int) - 1 = (k : Int) := by omega
      have h1 : (k : Int) ≥ 0 := by omega
      have hkt : k < t.length := by omega
      have hw : IntKind.wrap .i64 ((k : Int) - 1) = (k : Int) - 1 := wrap64 (by omega)
      have hb' := hb.down _ _ hkt
      have next := ih f _ (by omega) (by omega) hb'
      have hra := (impl_ruleAt ok hr hn ht hkt).eq
      have hek := (endOf_at ok ht hkt).eq
      rw [e, down]
      unfold downStep at next ⊢
      rcases hb with ⟨rfl, hno⟩ | ⟨a, ha1, ha2, rfl, ha3, ha4⟩
      · have hneg : ¬ ((-1 : Int) ≥ 0) := by omega
        rw [if_neg (fun h => hneg h.1)] at next ⊢
        by_cases hf0 : fits l rs t k ≥ 0
        · rw [if_pos hf0] at next ⊢
          simp only [impl_findRedex.next0, impl_findRedex.round0, Int.ofNat_lt, str_inj, beq_dec, bne_dec, cond_dec, cond_nt, if_true, if_false, decide_true, decide_false, cond_true, cond_false, u8_inj, cells_div, szs, sz_list, inB_nat, Int.toNat_natCast, get0, get1, get2, get3, get4, get5, get6, get7, get8, Nat.reduceLT, bind_of, List.getElem?_cons_zero, List.getElem?_cons_succ, oInt_int, oBool_bool, oStr_str, oSl_slc, oAgg_agg, oTup_tup, oCons_cons, oNil_nil, sl_cells, h1, hneg, hra, hf0, hw]
          exact next
        · rw [if_neg hf0] at next ⊢
          simp only [impl_findRedex.next0, impl_findRedex.round0, Int.ofNat_lt, str_inj, beq_dec, bne_dec, cond_dec, cond_nt, if_true, if_false, decide_true, decide_false, cond_true, cond_false, u8_inj, cells_div, szs, sz_list, inB_nat, Int.toNat_natCast, get0, get1, get2, get3, get4, get5, get6, get7, get8, Nat.reduceLT, bind_of, List.getElem?_cons_zero, List.getElem?_cons_succ, oInt_int, oBool_bool, oStr_str, oSl_slc, oAgg_agg, oTup_tup, oCons_cons, oNil_nil, sl_cells, h1, hneg, hra, hf0, hw]
          exact next
      · have hpa : ((a : Int)) ≥ 0 := by omega
        have hea := (endOf_at ok ht ha2).eq
        by_cases hc : endAt l t k ≥ endAt l t a
        · have hc' : ((endAt l t k : Nat) : Int) ≥ ((endAt l t a : Nat) : Int) := by omega
          have hcc : ((a : Int), fits l rs t a).1 ≥ 0 ∧ endAt l t k ≥ endAt l t (((a : Int), fits l rs t a).1).toNat := ⟨hpa, by simpa using hc⟩
          rw [if_pos hcc] at next ⊢
          simp only [impl_findRedex.next0, impl_findRedex.round0, Int.ofNat_lt, str_inj, beq_dec, bne_dec, cond_dec, cond_nt, if_true, if_false, decide_true, decide_false, cond_true, cond_false, u8_inj, cells_div, szs, sz_list, inB_nat, Int.toNat_natCast, get0, get1, get2, get3, get4, get5, get6, get7, get8, Nat.reduceLT, bind_of, List.getElem?_cons_zero, List.getElem?_cons_succ, oInt_int, oBool_bool, oStr_str, oSl_slc, oAgg_agg, oTup_tup, oCons_cons, oNil_nil, sl_cells, h1, hpa, hek, hea, hc', hw]
          exact next
        · have hc' : ¬ ((endAt l t k : Nat) : Int) ≥ ((endAt l t a : Nat) : Int) := by omega
          have hcc : ¬ (((a : Int), fits l rs t a).1 ≥ 0 ∧ endAt l t k ≥ endAt l t (((a : Int), fits l rs t a).1).toNat) := fun h => hc (by simpa using h.2)
          rw [if_neg hcc] at next ⊢
          by_cases hf0 : fits l rs t k ≥ 0
          · rw [if_pos hf0] at next ⊢
            simp only [impl_findRedex.next0, impl_findRedex.round0, Int.ofNat_lt, str_inj, beq_dec, bne_dec, cond_dec, cond_nt, if_true, if_false, decide_true, decide_false, cond_true, cond_false, u8_inj, cells_div, szs, sz_list, inB_nat, Int.toNat_natCast, get0, get1, get2, get3, get4, get5, get6, get7, get8, Nat.reduceLT, bind_of, List.getElem?_cons_zero, List.getElem?_cons_succ, oInt_int, oBool_bool, oStr_str, oSl_slc, oAgg_agg, oTup_tup, oCons_cons, oNil_nil, sl_cells, h1, hpa, hek, hea, hc', hra, hf0, hw]
            exact next
          · rw [if_neg hf0] at next ⊢
            simp only [impl_findRedex.next0, impl_findRedex.round0, Int.ofNat_lt, str_inj, beq_dec, bne_dec, cond_dec, cond_nt, if_true, if_false, decide_true, decide_false, cond_true, cond_false, u8_inj, cells_div, szs, sz_list, inB_nat, Int.toNat_natCast, get0, get1, get2, get3, get4, get5, get6, get7, get8, Nat.reduceLT, bind_of, List.getElem?_cons_zero, List.getElem?_cons_succ, oInt_int, oBool_bool, oStr_str, oSl_slc, oAgg_agg, oTup_tup, oCons_cons, oNil_nil, sl_cells, h1, hpa, hek, hea, hc', hra, hf0, hw]
            exact next
  refine call_of rfl 25 ((impl_findRedex.ev _ _ _ _).trans ?_)
  simp only [cells_div, sz_int]
  rw [wrap64 (by omega)]
  exact loop t.length 25 (-1, -1) (Nat.le_refl _) (by omega) (.inl ⟨rfl, fun a h1 h2 => by omega⟩)
theorem spec_l8Find {t : List Int} (ht : TermOk l t) : Call F.spec_l8Find [.rref [slc l] 0, slc rs, slc t] (.tup [.int .i64 (redex l rs t).1, .int .i64 (redex l rs t).2]) := by
  have hle := ht.le
  refine call_of rfl 25 ((spec_l8Find.ev _ _ _ _).trans ?_)
  have key := run_loop (n := t.length) (f := 25) (S := fun m k (s : Int × Int × Int) => spec_l8Find.at0 25 m (spec_l8Find.st0 (cells l) (cells rs) (cells t) s.1 s.2.1 s.2.2 (k : Nat)))
    (st := upAll (endAt l t) (fits l rs t)) (z := some (.tup [.int .i64 (redex l rs t).1, .int .i64 (redex l rs t).2], [])) (fun m k h => ?_) (fun m => ?_) (by omega)
  · exact key
  · have e0 : upAll (endAt l t) (fits l rs t) (k + 1) = upStep (endAt l t) (fits l rs t) (upAll (endAt l t) (fits l rs t) k) k := by unfold upAll; rw [List.range_succ, List.foldl_append]; rfl
    rw [e0]
    unfold upStep
    have hek := (l3End_at ok ht h).eq
    have hra := (spec_l8Fits ok hr hn ht h).eq
    by_cases hc : ((endAt l t k : Nat) : Int) > (upAll (endAt l t) (fits l rs t) k).2.2
    · rw [if_pos hc]
      simp only [spec_l8Find.next0, spec_l8Find.round0, Int.ofNat_lt, str_inj, beq_dec, bne_dec, cond_dec, cond_nt, if_true, if_false, decide_true, decide_false, cond_true, cond_false, u8_inj, cells_div, szs, sz_list, inB_nat, Int.toNat_natCast, get0, get1, get2, get3, get4, get5, get6, get7, get8, Nat.reduceLT, bind_of, List.getElem?_cons_zero, List.getElem?_cons_succ, oInt_int, oBool_bool, oStr_str, oSl_slc, oAgg_agg, oTup_tup, oCons_cons, oNil_nil, sl_cells, h, hek, hc]
      rw [wrap_succ (by omega)]
    · rw [if_neg hc]
      by_cases hf0 : fits l rs t k ≥ 0
      · rw [if_pos hf0]
        simp only [spec_l8Find.next0, spec_l8Find.round0, Int.ofNat_lt, str_inj, beq_dec, bne_dec, cond_dec, cond_nt, if_true, if_false, decide_true, decide_false, cond_true, cond_false, u8_inj, cells_div, szs, sz_list, inB_nat, Int.toNat_natCast, get0, get1, get2, get3, get4, get5, get6, get7, get8, Nat.reduceLT, bind_of, List.getElem?_cons_zero, List.getElem?_cons_succ, oInt_int, oBool_bool, oStr_str, oSl_slc, oAgg_agg, oTup_tup, oCons_cons, oNil_nil, sl_cells, h, hek, hc, hra, hf0]
        rw [wrap_succ (by omega)]
      · rw [if_neg hf0]
        simp only [spec_l8Find.next0, spec_l8Find.round0, Int.ofNat_lt, str_inj, beq_dec, bne_dec, cond_dec, cond_nt, if_true, if_false, decide_true, decide_false, cond_true, cond_false, u8_inj, cells_div, szs, sz_list, inB_nat, Int.toNat_natCast, get0, get1, get2, get3, get4, get5, get6, get7, get8, Nat.reduceLT, bind_of, List.getElem?_cons_zero, List.getElem?_cons_succ, oInt_int, oBool_bool, oStr_str, oSl_slc, oAgg_agg, oTup_tup, oCons_cons, oNil_nil, sl_cells, h, hek, hc, hra, hf0]
        rw [wrap_succ (by omega)]
  · rw [redex_up ht]
    simp only [spec_l8Find.next0, spec_l8Find.round0, Int.ofNat_lt, str_inj, beq_dec, bne_dec, cond_dec, cond_nt, if_true, if_false, decide_true, decide_false, cond_true, cond_false, u8_inj, cells_div, szs, sz_list, inB_nat, Int.toNat_natCast, get0, get1, get2, get3, get4, get5, get6, get7, get8, Nat.reduceLT, bind_of, List.getElem?_cons_zero, List.getElem?_cons_succ, oInt_int, oBool_bool, oStr_str, oSl_slc, oAgg_agg, oTup_tup, oCons_cons, oNil_nil, sl_cells, Nat.lt_irrefl]
omit hr hn in
theorem impl_rewritten {e : Equation} (he : EqOk l e) {t : List Int} (ht : TermOk l t) {p : Nat} (hp : p < t.length) : Call F.impl_rewritten [.agg [slc l], .agg [slc e.left, slc e.right], slc t, .int .i64 p] (.agg (enc (stepAt l e t p))) := by
  have hu := subAt_ok ht hp
  have hm := (impl_match ok he.left hu).eq
  rw [matchAt_sub he.left ht hp] at hm
  refine call_of rfl 0 ((impl_rewritten.ev _ _ _ _ _ _).trans ?_)
  unfold stepAt
  cases hmm : matchAt l e.left t p with
  | none => rw [hmm] at hm; simp only [Int.ofNat_lt, str_inj, beq_dec, bne_dec, cond_dec, cond_nt, if_true, if_false, decide_true, decide_false, cond_true, cond_false, u8_inj, cells_div, szs, sz_list, inB_nat, Int.toNat_natCast, get0, get1, get2, get3, get4, get5, get6, get7, get8, Nat.reduceLT, bind_of, List.getElem?_cons_zero, List.getElem?_cons_succ, oInt_int, oBool_bool, oStr_str, oSl_slc, oAgg_agg, oTup_tup, oCons_cons, oNil_nil, sl_cells, (impl_subterm ok ht hp).eq, hm, mT]; rfl
  | some b =>
    rw [hmm] at hm
    have hb := matchAt_ok he.left ht hp hmm
    have hbo := hb.ok he.left.le
    have hrl := he.right.le
    have hal := applied_length hbo e.right
    simp only [Int.ofNat_lt, str_inj, beq_dec, bne_dec, cond_dec, cond_nt, if_true, if_false, decide_true, decide_false, cond_true, cond_false, u8_inj, cells_div, szs, sz_list, inB_nat, Int.toNat_natCast, get0, get1, get2, get3, get4, get5, get6, get7, get8, Nat.reduceLT, bind_of, List.getElem?_cons_zero, List.getElem?_cons_succ, oInt_int, oBool_bool, oStr_str, oSl_slc, oAgg_agg, oTup_tup, oCons_cons, oNil_nil, sl_cells, (impl_subterm ok ht hp).eq, hm, mT, (impl_Binding_applied b.1 b.2 hbo e.right (by omega) (he.right.range ok)).eq, (impl_replaced ok ht hp (applied b.1 b.2 e.right) (by omega)).eq]
    have hfit := (impl_fitting (replAt l t p (applied b.1 b.2 e.right))).eq
    by_cases h24 : 24 < (replAt l t p (applied b.1 b.2 e.right)).length
    · rw [if_pos h24] at hfit ⊢
      simp only [Int.ofNat_lt, str_inj, beq_dec, bne_dec, cond_dec, cond_nt, if_true, if_false, decide_true, decide_false, cond_true, cond_false, u8_inj, cells_div, szs, sz_list, inB_nat, Int.toNat_natCast, get0, get1, get2, get3, get4, get5, get6, get7, get8, Nat.reduceLT, bind_of, List.getElem?_cons_zero, List.getElem?_cons_succ, oInt_int, oBool_bool, oStr_str, oSl_slc, oAgg_agg, oTup_tup, oCons_cons, oNil_nil, sl_cells, hfit, enc_TermResult]
    · rw [if_neg h24] at hfit ⊢
      simp only [Int.ofNat_lt, str_inj, beq_dec, bne_dec, cond_dec, cond_nt, if_true, if_false, decide_true, decide_false, cond_true, cond_false, u8_inj, cells_div, szs, sz_list, inB_nat, Int.toNat_natCast, get0, get1, get2, get3, get4, get5, get6, get7, get8, Nat.reduceLT, bind_of, List.getElem?_cons_zero, List.getElem?_cons_succ, oInt_int, oBool_bool, oStr_str, oSl_slc, oAgg_agg, oTup_tup, oCons_cons, oNil_nil, sl_cells, hfit, enc_TermResult]
omit hr hn in
theorem spec_l8Rewrite {e : Equation} (he : EqOk l e) {t : List Int} (ht : TermOk l t) {p : Nat} (hp : p < t.length) : Call F.spec_l8Rewrite [.rref [slc l] 0, .rref [slc e.left, slc e.right] 0, .int .i64 p, slc t] (.tup [slc (stepAt l e t p).term, .int .i64 (stepAt l e t p).code]) := by
  have hm := (spec_l6Match ok he.left ht hp).eq
  refine call_of rfl 0 ((spec_l8Rewrite.ev _ _ _ _ _ _).trans ?_)
  unfold stepAt
  cases hmm : matchAt l e.left t p with
  | none => rw [hmm] at hm; simp only [Int.ofNat_lt, str_inj, beq_dec, bne_dec, cond_dec, cond_nt, if_true, if_false, decide_true, decide_false, cond_true, cond_false, u8_inj, cells_div, szs, sz_list, inB_nat, Int.toNat_natCast, get0, get1, get2, get3, get4, get5, get6, get7, get8, Nat.reduceLT, bind_of, List.getElem?_cons_zero, List.getElem?_cons_succ, oInt_int, oBool_bool, oStr_str, oSl_slc, oAgg_agg, oTup_tup, oCons_cons, oNil_nil, sl_cells, hm, mT]; rfl
  | some b =>
    rw [hmm] at hm
    have hb := matchAt_ok he.left ht hp hmm
    have hbo := hb.ok he.left.le
    have hrl := he.right.le
    have hal := applied_length hbo e.right
    simp only [Int.ofNat_lt, str_inj, beq_dec, bne_dec, cond_dec, cond_nt, if_true, if_false, decide_true, decide_false, cond_true, cond_false, u8_inj, cells_div, szs, sz_list, inB_nat, Int.toNat_natCast, get0, get1, get2, get3, get4, get5, get6, get7, get8, Nat.reduceLT, bind_of, List.getElem?_cons_zero, List.getElem?_cons_succ, oInt_int, oBool_bool, oStr_str, oSl_slc, oAgg_agg, oTup_tup, oCons_cons, oNil_nil, sl_cells, hm, mT, (spec_l6Apply b.1 b.2 hbo e.right (by omega) (he.right.range ok)).eq, (spec_l3Replace ok ht hp (applied b.1 b.2 e.right) (by omega)).eq]
    by_cases h24 : 24 < (replAt l t p (applied b.1 b.2 e.right)).length
    · have h24' : ((replAt l t p (applied b.1 b.2 e.right)).length : Int) > 24 := by omega
      rw [if_pos h24]
      simp only [Int.ofNat_lt, str_inj, beq_dec, bne_dec, cond_dec, cond_nt, if_true, if_false, decide_true, decide_false, cond_true, cond_false, u8_inj, cells_div, szs, sz_list, inB_nat, Int.toNat_natCast, get0, get1, get2, get3, get4, get5, get6, get7, get8, Nat.reduceLT, bind_of, List.getElem?_cons_zero, List.getElem?_cons_succ, oInt_int, oBool_bool, oStr_str, oSl_slc, oAgg_agg, oTup_tup, oCons_cons, oNil_nil, sl_cells, h24']
      rfl
    · have h24' : ¬ ((replAt l t p (applied b.1 b.2 e.right)).length : Int) > 24 := by omega
      rw [if_neg h24]
      simp only [Int.ofNat_lt, str_inj, beq_dec, bne_dec, cond_dec, cond_nt, if_true, if_false, decide_true, decide_false, cond_true, cond_false, u8_inj, cells_div, szs, sz_list, inB_nat, Int.toNat_natCast, get0, get1, get2, get3, get4, get5, get6, get7, get8, Nat.reduceLT, bind_of, List.getElem?_cons_zero, List.getElem?_cons_succ, oInt_int, oBool_bool, oStr_str, oSl_slc, oAgg_agg, oTup_tup, oCons_cons, oNil_nil, sl_cells, h24']
omit ok hr hn in
theorem redex_range {l : List Symbol} {rs : List Equation} (t : List Int) : (redex l rs t).1 < 0 ∨ ∃ a k : Nat, ∃ h : k < rs.length, a < t.length ∧ (redex l rs t).1 = a ∧ (redex l rs t).2 = k := by
  rcases redex_at (l := l) (rs := rs) (t := t) with h | ⟨a, k, h, ha, e, _⟩
  · rw [h]; exact .inl (by simp)
  · rw [e]; exact .inr ⟨a, k, h, ha, rfl, rfl⟩
theorem impl_normalForm {t : List Int} (ht : TermOk l t) {fuel : Nat} (hfu : fuel ≤ 200) : Call F.impl_normalForm [.agg [slc l], slc rs, slc t, .int .i64 fuel] (.agg (enc (norm l rs fuel 0 t))) := by
  have hle := ht.le
  have loop : ∀ (m k f : Nat) (t : List Int), m + k = fuel → m < f → TermOk l t →
      impl_normalForm.at0 202 f (impl_normalForm.st0 (cells rs) (fuel : Nat) (k : Nat) (cells l) 0 0 (cells t)) = some (.agg (enc (norm l rs m k t)), []) := by
    intro m
    induction m with
    | zero =>
      intro k f t hk hf ht
      obtain ⟨f, rfl⟩ : ∃ x, f = x + 1 := ⟨f - 1, by omega⟩
      obtain rfl : k = fuel := by omega
      have hfr := (impl_findRedex ok hr hn ht).eq
      rw [norm]
      by_cases h0 : (redex l rs t).1 < 0
      · have h0' : ¬ (redex l rs t).1 ≥ 0 := by omega
        rw [if_pos h0]
        simp only [impl_normalForm.next0, impl_normalForm.round0, Int.ofNat_lt, str_inj, beq_dec, bne_dec, cond_dec, cond_nt, if_true, if_false, decide_true, decide_false, cond_true, cond_false, u8_inj, cells_div, szs, sz_list, inB_nat, Int.toNat_natCast, get0, get1, get2, get3, get4, get5, get6, get7, get8, Nat.reduceLT, bind_of, List.getElem?_cons_zero, List.getElem?_cons_succ, oInt_int, oBool_bool, oStr_str, oSl_slc, oAgg_agg, oTup_tup, oCons_cons, oNil_nil, sl_cells, hfr, h0', Bool.not_false, enc_NormalResult]
      · have h0' : (redex l rs t).1 ≥ 0 := by omega
        rw [if_neg h0]
        simp only [impl_normalForm.next0, impl_normalForm.round0, Int.ofNat_lt, str_inj, beq_dec, bne_dec, cond_dec, cond_nt, if_true, if_false, decide_true, decide_false, cond_true, cond_false, u8_inj, cells_div, szs, sz_list, inB_nat, Int.toNat_natCast, get0, get1, get2, get3, get4, get5, get6, get7, get8, Nat.reduceLT, bind_of, List.getElem?_cons_zero, List.getElem?_cons_succ, oInt_int, oBool_bool, oStr_str, oSl_slc, oAgg_agg, oTup_tup, oCons_cons, oNil_nil, sl_cells, hfr, h0', Bool.not_true, enc_NormalResult]
        rfl
    | succ m ih =>
      intro k f t hk hf ht
      obtain ⟨f, rfl⟩ : ∃ x, f = x + 1 := ⟨f - 1, by omega⟩
      have hfr := (impl_findRedex ok hr hn ht).eq
      rw [norm]
      rcases redex_range (l := l) (rs := rs) t with h0 | ⟨a, q, hq, ha, e1, e2⟩
      · have h0' : ¬ (redex l rs t).1 ≥ 0 := by omega
        rw [if_pos h0]
        simp only [impl_normalForm.next0, impl_normalForm.round0, Int.ofNat_lt, str_inj, beq_dec, bne_dec, cond_dec, cond_nt, if_true, if_false, decide_true, decide_false, cond_true, cond_false, u8_inj, cells_div, szs, sz_list, inB_nat, Int.toNat_natCast, get0, get1, get2, get3, get4, get5, get6, get7, get8, Nat.reduceLT, bind_of, List.getElem?_cons_zero, List.getElem?_cons_succ, oInt_int, oBool_bool, oStr_str, oSl_slc, oAgg_agg, oTup_tup, oCons_cons, oNil_nil, sl_cells, hfr, h0', Bool.not_false, enc_NormalResult]
      · have h0 : ¬ (redex l rs t).1 < 0 := by omega
        rw [e1, e2] at hfr
        have h0' : ((a : Nat) : Int) ≥ 0 := by omega
        have hkf : ¬ ((k : Int) = (fuel : Int)) := by omega
        have hlk : rs[q]? = some rs[q] := List.getElem?_eq_getElem hq
        have he := hr _ (List.getElem_mem hq)
        have hrw := (impl_rewritten ok he ht ha).eq
        have hg : rs.getD (redex l rs t).2.toNat ⟨[], []⟩ = rs[q] := by rw [e2, Int.toNat_natCast]; exact getE hq
        have hga : (redex l rs t).1.toNat = a := by rw [e1, Int.toNat_natCast]
        rw [if_neg h0, hg, hga]
        have hsok := stepAt_ok he ht ha
        rw [enc_TermResult] at hrw
        by_cases hcode : (stepAt l rs[q] t a).code = 0
        · rw [if_neg (by simpa using hcode)]
          simp only [impl_normalForm.next0, impl_normalForm.round0, Int.ofNat_lt, str_inj, beq_dec, bne_dec, cond_dec, cond_nt, if_true, if_false, decide_true, decide_false, cond_true, cond_false, u8_inj, cells_div, szs, sz_list, inB_nat, Int.toNat_natCast, get0, get1, get2, get3, get4, get5, get6, get7, get8, Nat.reduceLT, bind_of, List.getElem?_cons_zero, List.getElem?_cons_succ, oInt_int, oBool_bool, oStr_str, oSl_slc, oAgg_agg, oTup_tup, oCons_cons, oNil_nil, sl_cells, hfr, h0', hkf, Bool.not_true, hq, hlk, enc_Equation, hrw, hcode]
          rw [wrap_succ (by omega)]
          exact ih (k + 1) f _ (by omega) (by omega) (hsok hcode)
        · rw [if_pos hcode]
          simp only [impl_normalForm.next0, impl_normalForm.round0, Int.ofNat_lt, str_inj, beq_dec, bne_dec, cond_dec, cond_nt, if_true, if_false, decide_true, decide_false, cond_true, cond_false, u8_inj, cells_div, szs, sz_list, inB_nat, Int.toNat_natCast, get0, get1, get2, get3, get4, get5, get6, get7, get8, Nat.reduceLT, bind_of, List.getElem?_cons_zero, List.getElem?_cons_succ, oInt_int, oBool_bool, oStr_str, oSl_slc, oAgg_agg, oTup_tup, oCons_cons, oNil_nil, sl_cells, hfr, h0', hkf, Bool.not_true, hq, hlk, enc_Equation, hrw, hcode, enc_NormalResult]
          rfl
  refine call_of rfl 202 ((impl_normalForm.ev _ _ _ _ _).trans ?_)
  simp only [Int.ofNat_lt, str_inj, beq_dec, bne_dec, cond_dec, cond_nt, if_true, if_false, decide_true, decide_false, cond_true, cond_false, u8_inj, cells_div, szs, sz_list, inB_nat, Int.toNat_natCast, get0, get1, get2, get3, get4, get5, get6, get7, get8, Nat.reduceLT, bind_of, List.getElem?_cons_zero, List.getElem?_cons_succ, oInt_int, oBool_bool, oStr_str, oSl_slc, oAgg_agg, oTup_tup, oCons_cons, oNil_nil, sl_cells, (slices_Clone_Sint64 t (by omega)).eq]
  exact loop fuel 0 202 t (by omega) (by omega) ht
theorem spec_l8Normal {t : List Int} (ht : TermOk l t) {fuel : Nat} (hfu : fuel ≤ 200) : Call F.spec_l8Normal [.rref [slc l] 0, slc rs, slc t, .int .i64 fuel] (.agg (enc (norm l rs fuel 0 t))) := by
  have hle := ht.le
  have loop : ∀ (m k f : Nat) (t : List Int), m + k = fuel → m < f → TermOk l t →
      spec_l8Normal.at0 202 f (spec_l8Normal.st0 (cells l) (cells rs) (fuel : Nat) (k : Nat) 0 0 (cells t)) = some (.agg (enc (norm l rs m k t)), []) := by
    intro m
    induction m with
    | zero =>
      intro k f t hk hf ht
      obtain ⟨f, rfl⟩ : ∃ x, f = x + 1 := ⟨f - 1, by omega⟩
      obtain rfl : k = fuel := by omega
      have hfr := (spec_l8Find ok hr hn ht).eq
      rw [norm]
      have hge : ((k : Int)) ≥ (k : Int) := Int.le_refl _
      by_cases h0 : (redex l rs t).1 < 0
      · rw [if_pos h0]
        simp only [spec_l8Normal.next0, spec_l8Normal.round0, Int.ofNat_lt, str_inj, beq_dec, bne_dec, cond_dec, cond_nt, if_true, if_false, decide_true, decide_false, cond_true, cond_false, u8_inj, cells_div, szs, sz_list, inB_nat, Int.toNat_natCast, get0, get1, get2, get3, get4, get5, get6, get7, get8, Nat.reduceLT, bind_of, List.getElem?_cons_zero, List.getElem?_cons_succ, oInt_int, oBool_bool, oStr_str, oSl_slc, oAgg_agg, oTup_tup, oCons_cons, oNil_nil, sl_cells, hfr, h0, enc_NormalResult]
      · rw [if_neg h0]
        simp only [spec_l8Normal.next0, spec_l8Normal.round0, Int.ofNat_lt, str_inj, beq_dec, bne_dec, cond_dec, cond_nt, if_true, if_false, decide_true, decide_false, cond_true, cond_false, u8_inj, cells_div, szs, sz_list, inB_nat, Int.toNat_natCast, get0, get1, get2, get3, get4, get5, get6, get7, get8, Nat.reduceLT, bind_of, List.getElem?_cons_zero, List.getElem?_cons_succ, oInt_int, oBool_bool, oStr_str, oSl_slc, oAgg_agg, oTup_tup, oCons_cons, oNil_nil, sl_cells, hfr, h0, hge, enc_NormalResult]
        rfl
    | succ m ih =>
      intro k f t hk hf ht
      obtain ⟨f, rfl⟩ : ∃ x, f = x + 1 := ⟨f - 1, by omega⟩
      have hfr := (spec_l8Find ok hr hn ht).eq
      rw [norm]
      rcases redex_range (l := l) (rs := rs) t with h0 | ⟨a, q, hq, ha, e1, e2⟩
      · rw [if_pos h0]
        simp only [spec_l8Normal.next0, spec_l8Normal.round0, Int.ofNat_lt, str_inj, beq_dec, bne_dec, cond_dec, cond_nt, if_true, if_false, decide_true, decide_false, cond_true, cond_false, u8_inj, cells_div, szs, sz_list, inB_nat, Int.toNat_natCast, get0, get1, get2, get3, get4, get5, get6, get7, get8, Nat.reduceLT, bind_of, List.getElem?_cons_zero, List.getElem?_cons_succ, oInt_int, oBool_bool, oStr_str, oSl_slc, oAgg_agg, oTup_tup, oCons_cons, oNil_nil, sl_cells, hfr, h0, enc_NormalResult]
      · have h0 : ¬ (redex l rs t).1 < 0 := by omega
        rw [e1, e2] at hfr
        have h0' : ¬ ((a : Nat) : Int) < 0 := by omega
        have hkf : ¬ ((k : Int) ≥ (fuel : Int)) := by omega
        have hlk : rs[q]? = some rs[q] := List.getElem?_eq_getElem hq
        have he := hr _ (List.getElem_mem hq)
        have hrw := (spec_l8Rewrite ok he ht ha).eq
        have hg : rs.getD (redex l rs t).2.toNat ⟨[], []⟩ = rs[q] := by rw [e2, Int.toNat_natCast]; exact getE hq
        have hga : (redex l rs t).1.toNat = a := by rw [e1, Int.toNat_natCast]
        rw [if_neg h0, hg, hga]
        have hsok := stepAt_ok he ht ha
        have hwin := cells_window (k := 2) (i := q) rfl hlk
        by_cases hcode : (stepAt l rs[q] t a).code = 0
        · rw [if_neg (by simpa using hcode)]
          simp only [spec_l8Normal.next0, spec_l8Normal.round0, Int.ofNat_lt, str_inj, beq_dec, bne_dec, cond_dec, cond_nt, if_true, if_false, decide_true, decide_false, cond_true, cond_false, u8_inj, cells_div, szs, sz_list, inB_nat, Int.toNat_natCast, get0, get1, get2, get3, get4, get5, get6, get7, get8, Nat.reduceLT, bind_of, List.getElem?_cons_zero, List.getElem?_cons_succ, oInt_int, oBool_bool, oStr_str, oSl_slc, oAgg_agg, oTup_tup, oCons_cons, oNil_nil, sl_cells, hfr, h0', hkf, hq, hwin, enc_Equation, hrw, hcode]
          rw [wrap_succ (by omega)]
          exact ih (k + 1) f _ (by omega) (by omega) (hsok hcode)
        · rw [if_pos hcode]
          simp only [spec_l8Normal.next0, spec_l8Normal.round0, Int.ofNat_lt, str_inj, beq_dec, bne_dec, cond_dec, cond_nt, if_true, if_false, decide_true, decide_false, cond_true, cond_false, u8_inj, cells_div, szs, sz_list, inB_nat, Int.toNat_natCast, get0, get1, get2, get3, get4, get5, get6, get7, get8, Nat.reduceLT, bind_of, List.getElem?_cons_zero, List.getElem?_cons_succ, oInt_int, oBool_bool, oStr_str, oSl_slc, oAgg_agg, oTup_tup, oCons_cons, oNil_nil, sl_cells, hfr, h0', hkf, hq, hwin, enc_Equation, hrw, hcode, enc_NormalResult]
          rfl
  refine call_of rfl 202 ((spec_l8Normal.ev _ _ _ _ _).trans ?_)
  simp only [Int.ofNat_lt, str_inj, beq_dec, bne_dec, cond_dec, cond_nt, if_true, if_false, decide_true, decide_false, cond_true, cond_false, u8_inj, cells_div, szs, sz_list, inB_nat, Int.toNat_natCast, get0, get1, get2, get3, get4, get5, get6, get7, get8, Nat.reduceLT, bind_of, List.getElem?_cons_zero, List.getElem?_cons_succ, oInt_int, oBool_bool, oStr_str, oSl_slc, oAgg_agg, oTup_tup, oCons_cons, oNil_nil, sl_cells, (spec_l1Ints' t (by omega)).eq]
  exact loop fuel 0 202 t (by omega) (by omega) ht
end
end Ev.Ty
end

section
namespace Ev.Ty
open Go Ev
open Enc (enc)
open Sm (sm)
set_option linter.unusedSimpArgs false
set_option linter.unusedVariables false
theorem rulesFault_ok {l : List Symbol} {rs : List Equation} (h : rulesFault ⟨l⟩ rs = 0) : sigFault ⟨l⟩ = 0 ∧ SigOk ⟨l⟩ ∧ rs.length ≤ 12 ∧ ∀ e ∈ rs, EqOk l e := by
  unfold rulesFault at h
  split at h
  · rename_i h1; exact absurd h h1
  rename_i h1
  have h1 : sigFault ⟨l⟩ = 0 := by simpa using h1
  unfold rulesFault0 at h
  split at h
  · rename_i h2; exact absurd h h2
  rename_i h2
  obtain ⟨q1, q2⟩ := eqsOk_iff.1 (show eqsFault l rs = 0 by simpa using h2)
  exact ⟨h1, (sigOk_iff _).1 h1, q1, q2⟩
theorem rewriteFault_ok {l : List Symbol} {rs : List Equation} {t : List Int} (h : rewriteFault ⟨l⟩ rs t = 0) : SigOk ⟨l⟩ ∧ rs.length ≤ 12 ∧ (∀ e ∈ rs, EqOk l e) ∧ TermOk l t := by
  unfold rewriteFault at h
  split at h
  · rename_i h1; exact absurd h h1
  rename_i h1
  obtain ⟨_, q1, q2, q3⟩ := rulesFault_ok (l := l) (rs := rs) (by simpa using h1)
  exact ⟨q1, q2, q3, (termOk_iff _ _).1 h⟩
theorem impl_rewriteFault (l : List Symbol) (hs : l.length ≤ 4294967296) (rs : List Equation) (hr : sm 4294967296 rs) (t : List Int) (ht : t.length ≤ 4294967296) :
    Call F.impl_rewriteFault [.agg [slc l], slc rs, slc t] (.int .i64 (rewriteFault ⟨l⟩ rs t)) := by
  refine call_of rfl 0 ((impl_rewriteFault.ev _ _ _ _).trans ?_)
  simp only [Int.ofNat_lt, str_inj, beq_dec, bne_dec, cond_dec, cond_nt, if_true, if_false, decide_true, decide_false, cond_true, cond_false, u8_inj, cells_div, szs, sz_list, inB_nat, Int.toNat_natCast, get0, get1, get2, get3, get4, get5, get6, get7, get8, Nat.reduceLT, bind_of, List.getElem?_cons_zero, List.getElem?_cons_succ, oInt_int, oBool_bool, oStr_str, oSl_slc, oAgg_agg, oTup_tup, oCons_cons, oNil_nil, sl_cells, (impl_RulesFault l hs rs hr).eq, (impl_TermFault l hs t ht).eq, (firstCode2 _ _).eq, rewriteFault]
  by_cases h : rulesFault ⟨l⟩ rs = 0
  · have h0 := (rulesFault_ok h).1
    simp only [h, Int.ofNat_lt, str_inj, beq_dec, bne_dec, cond_dec, cond_nt, if_true, if_false, decide_true, decide_false, cond_true, cond_false, u8_inj, cells_div, szs, sz_list, inB_nat, Int.toNat_natCast, get0, get1, get2, get3, get4, get5, get6, get7, get8, Nat.reduceLT, bind_of, List.getElem?_cons_zero, List.getElem?_cons_succ, oInt_int, oBool_bool, oStr_str, oSl_slc, oAgg_agg, oTup_tup, oCons_cons, oNil_nil, sl_cells, ne_eq, not_true_eq_false, termFault, h0]
  · simp only [h, Int.ofNat_lt, str_inj, beq_dec, bne_dec, cond_dec, cond_nt, if_true, if_false, decide_true, decide_false, cond_true, cond_false, u8_inj, cells_div, szs, sz_list, inB_nat, Int.toNat_natCast, get0, get1, get2, get3, get4, get5, get6, get7, get8, Nat.reduceLT, bind_of, List.getElem?_cons_zero, List.getElem?_cons_succ, oInt_int, oBool_bool, oStr_str, oSl_slc, oAgg_agg, oTup_tup, oCons_cons, oNil_nil, sl_cells, ne_eq, not_false_eq_true]
theorem spec_l8Both (l : List Symbol) (hs : l.length ≤ 4294967296) (rs : List Equation) (hr : sm 4294967296 rs) (t : List Int) (ht : t.length ≤ 4294967296) :
    Call F.spec_l8Both [.rref [slc l] 0, slc rs, slc t] (.int .i64 (rewriteFault ⟨l⟩ rs t)) := by
  refine call_of rfl 0 ((spec_l8Both.ev _ _ _ _).trans ?_)
  simp only [Int.ofNat_lt, str_inj, beq_dec, bne_dec, cond_dec, cond_nt, if_true, if_false, decide_true, decide_false, cond_true, cond_false, u8_inj, cells_div, szs, sz_list, inB_nat, Int.toNat_natCast, get0, get1, get2, get3, get4, get5, get6, get7, get8, Nat.reduceLT, bind_of, List.getElem?_cons_zero, List.getElem?_cons_succ, oInt_int, oBool_bool, oStr_str, oSl_slc, oAgg_agg, oTup_tup, oCons_cons, oNil_nil, sl_cells, (spec_RulesFault l hs rs hr).eq, rewriteFault]
  by_cases h : rulesFault ⟨l⟩ rs = 0
  · have h0 := (rulesFault_ok h).2.1
    simp only [h, Int.ofNat_lt, str_inj, beq_dec, bne_dec, cond_dec, cond_nt, if_true, if_false, decide_true, decide_false, cond_true, cond_false, u8_inj, cells_div, szs, sz_list, inB_nat, Int.toNat_natCast, get0, get1, get2, get3, get4, get5, get6, get7, get8, Nat.reduceLT, bind_of, List.getElem?_cons_zero, List.getElem?_cons_succ, oInt_int, oBool_bool, oStr_str, oSl_slc, oAgg_agg, oTup_tup, oCons_cons, oNil_nil, sl_cells, ne_eq, not_true_eq_false, (spec_l3Fault l h0 t ht).eq]
  · simp only [h, Int.ofNat_lt, str_inj, beq_dec, bne_dec, cond_dec, cond_nt, if_true, if_false, decide_true, decide_false, cond_true, cond_false, u8_inj, cells_div, szs, sz_list, inB_nat, Int.toNat_natCast, get0, get1, get2, get3, get4, get5, get6, get7, get8, Nat.reduceLT, bind_of, List.getElem?_cons_zero, List.getElem?_cons_succ, oInt_int, oBool_bool, oStr_str, oSl_slc, oAgg_agg, oTup_tup, oCons_cons, oNil_nil, sl_cells, ne_eq, not_false_eq_true]
theorem impl_FindRedex (s : Signature) (rs : List Equation) (t : List Int) (hs : sm 1048576 s) (hr : sm 1048576 rs) (ht : sm 1048576 t) : Call F.impl_FindRedex [.agg (enc s), slc rs, slc t] (.agg (enc (findRedexR s rs t))) := by
  obtain ⟨l⟩ := s
  have hsl : l.length ≤ 4294967296 := Nat.le_trans hs.1 (by omega)
  have htl : t.length ≤ 4294967296 := Nat.le_trans ht.1 (by omega)
  show Call F.impl_FindRedex [.agg [slc l], slc rs, slc t] _
  refine call_of rfl 0 ((impl_FindRedex.ev _ _ _ _).trans ?_)
  simp only [Int.ofNat_lt, str_inj, beq_dec, bne_dec, cond_dec, cond_nt, if_true, if_false, decide_true, decide_false, cond_true, cond_false, u8_inj, cells_div, szs, sz_list, inB_nat, Int.toNat_natCast, get0, get1, get2, get3, get4, get5, get6, get7, get8, Nat.reduceLT, bind_of, List.getElem?_cons_zero, List.getElem?_cons_succ, oInt_int, oBool_bool, oStr_str, oSl_slc, oAgg_agg, oTup_tup, oCons_cons, oNil_nil, sl_cells, (impl_rewriteFault l hsl rs (sm_mono (by omega) hr) t htl).eq, findRedexR]
  by_cases h : rewriteFault ⟨l⟩ rs t = 0
  case neg => simp only [h, Int.ofNat_lt, str_inj, beq_dec, bne_dec, cond_dec, cond_nt, if_true, if_false, decide_true, decide_false, cond_true, cond_false, u8_inj, cells_div, szs, sz_list, inB_nat, Int.toNat_natCast, get0, get1, get2, get3, get4, get5, get6, get7, get8, Nat.reduceLT, bind_of, List.getElem?_cons_zero, List.getElem?_cons_succ, oInt_int, oBool_bool, oStr_str, oSl_slc, oAgg_agg, oTup_tup, oCons_cons, oNil_nil, sl_cells, ne_eq, not_false_eq_true, enc_RedexResult]
  obtain ⟨ok, q1, q2, q3⟩ := rewriteFault_ok h
  simp only [h, Int.ofNat_lt, str_inj, beq_dec, bne_dec, cond_dec, cond_nt, if_true, if_false, decide_true, decide_false, cond_true, cond_false, u8_inj, cells_div, szs, sz_list, inB_nat, Int.toNat_natCast, get0, get1, get2, get3, get4, get5, get6, get7, get8, Nat.reduceLT, bind_of, List.getElem?_cons_zero, List.getElem?_cons_succ, oInt_int, oBool_bool, oStr_str, oSl_slc, oAgg_agg, oTup_tup, oCons_cons, oNil_nil, sl_cells, ne_eq, not_true_eq_false, (impl_findRedex ok q2 q1 q3).eq]
  by_cases h0 : (redex l rs t).1 < 0
  · have h0' : ¬ (redex l rs t).1 ≥ 0 := by omega
    simp only [h0, h0', Int.ofNat_lt, str_inj, beq_dec, bne_dec, cond_dec, cond_nt, if_true, if_false, decide_true, decide_false, cond_true, cond_false, u8_inj, cells_div, szs, sz_list, inB_nat, Int.toNat_natCast, get0, get1, get2, get3, get4, get5, get6, get7, get8, Nat.reduceLT, bind_of, List.getElem?_cons_zero, List.getElem?_cons_succ, oInt_int, oBool_bool, oStr_str, oSl_slc, oAgg_agg, oTup_tup, oCons_cons, oNil_nil, sl_cells, Bool.not_false, enc_RedexResult]
  · have h0' : (redex l rs t).1 ≥ 0 := by omega
    simp only [h0, h0', Int.ofNat_lt, str_inj, beq_dec, bne_dec, cond_dec, cond_nt, if_true, if_false, decide_true, decide_false, cond_true, cond_false, u8_inj, cells_div, szs, sz_list, inB_nat, Int.toNat_natCast, get0, get1, get2, get3, get4, get5, get6, get7, get8, Nat.reduceLT, bind_of, List.getElem?_cons_zero, List.getElem?_cons_succ, oInt_int, oBool_bool, oStr_str, oSl_slc, oAgg_agg, oTup_tup, oCons_cons, oNil_nil, sl_cells, Bool.not_true, enc_RedexResult]
theorem spec_FindRedex (s : Signature) (rs : List Equation) (t : List Int) (hs : sm 1048576 s) (hr : sm 1048576 rs) (ht : sm 1048576 t) : Call F.spec_FindRedex [.agg (enc s), slc rs, slc t] (.agg (enc (findRedexR s rs t))) := by
  obtain ⟨l⟩ := s
  have hsl : l.length ≤ 4294967296 := Nat.le_trans hs.1 (by omega)
  have htl : t.length ≤ 4294967296 := Nat.le_trans ht.1 (by omega)
  show Call F.spec_FindRedex [.agg [slc l], slc rs, slc t] _
  refine call_of rfl 0 ((spec_FindRedex.ev _ _ _ _).trans ?_)
  simp only [Int.ofNat_lt, str_inj, beq_dec, bne_dec, cond_dec, cond_nt, if_true, if_false, decide_true, decide_false, cond_true, cond_false, u8_inj, cells_div, szs, sz_list, inB_nat, Int.toNat_natCast, get0, get1, get2, get3, get4, get5, get6, get7, get8, Nat.reduceLT, bind_of, List.getElem?_cons_zero, List.getElem?_cons_succ, oInt_int, oBool_bool, oStr_str, oSl_slc, oAgg_agg, oTup_tup, oCons_cons, oNil_nil, sl_cells, (spec_l8Both l hsl rs (sm_mono (by omega) hr) t htl).eq, findRedexR]
  by_cases h : rewriteFault ⟨l⟩ rs t = 0
  case neg => simp only [h, Int.ofNat_lt, str_inj, beq_dec, bne_dec, cond_dec, cond_nt, if_true, if_false, decide_true, decide_false, cond_true, cond_false, u8_inj, cells_div, szs, sz_list, inB_nat, Int.toNat_natCast, get0, get1, get2, get3, get4, get5, get6, get7, get8, Nat.reduceLT, bind_of, List.getElem?_cons_zero, List.getElem?_cons_succ, oInt_int, oBool_bool, oStr_str, oSl_slc, oAgg_agg, oTup_tup, oCons_cons, oNil_nil, sl_cells, ne_eq, not_false_eq_true, enc_RedexResult]
  obtain ⟨ok, q1, q2, q3⟩ := rewriteFault_ok h
  simp only [h, Int.ofNat_lt, str_inj, beq_dec, bne_dec, cond_dec, cond_nt, if_true, if_false, decide_true, decide_false, cond_true, cond_false, u8_inj, cells_div, szs, sz_list, inB_nat, Int.toNat_natCast, get0, get1, get2, get3, get4, get5, get6, get7, get8, Nat.reduceLT, bind_of, List.getElem?_cons_zero, List.getElem?_cons_succ, oInt_int, oBool_bool, oStr_str, oSl_slc, oAgg_agg, oTup_tup, oCons_cons, oNil_nil, sl_cells, ne_eq, not_true_eq_false, (spec_l8Find ok q2 q1 q3).eq]
  by_cases h0 : (redex l rs t).1 < 0
  · simp only [h0, Int.ofNat_lt, str_inj, beq_dec, bne_dec, cond_dec, cond_nt, if_true, if_false, decide_true, decide_false, cond_true, cond_false, u8_inj, cells_div, szs, sz_list, inB_nat, Int.toNat_natCast, get0, get1, get2, get3, get4, get5, get6, get7, get8, Nat.reduceLT, bind_of, List.getElem?_cons_zero, List.getElem?_cons_succ, oInt_int, oBool_bool, oStr_str, oSl_slc, oAgg_agg, oTup_tup, oCons_cons, oNil_nil, sl_cells, enc_RedexResult]
  · simp only [h0, Int.ofNat_lt, str_inj, beq_dec, bne_dec, cond_dec, cond_nt, if_true, if_false, decide_true, decide_false, cond_true, cond_false, u8_inj, cells_div, szs, sz_list, inB_nat, Int.toNat_natCast, get0, get1, get2, get3, get4, get5, get6, get7, get8, Nat.reduceLT, bind_of, List.getElem?_cons_zero, List.getElem?_cons_succ, oInt_int, oBool_bool, oStr_str, oSl_slc, oAgg_agg, oTup_tup, oCons_cons, oNil_nil, sl_cells, enc_RedexResult]
def isNormalR (s : Signature) (rs : List Equation) (t : List Int) : Bool := decide ((findRedexR s rs t).code = 4)
theorem impl_IsNormal (s : Signature) (rs : List Equation) (t : List Int) (hs : sm 1048576 s) (hr : sm 1048576 rs) (ht : sm 1048576 t) : Call F.impl_IsNormal [.agg (enc s), slc rs, slc t] (.bool (isNormalR s rs t)) := by
  have hf := (impl_FindRedex s rs t hs hr ht).eq
  obtain ⟨l⟩ := s
  have hf : LIM F.impl_FindRedex [.agg [slc l], slc rs, slc t] = some (.agg (enc (findRedexR ⟨l⟩ rs t)), []) := hf
  show Call F.impl_IsNormal [.agg [slc l], slc rs, slc t] _
  refine call_of rfl 0 ((impl_IsNormal.ev _ _ _ _).trans ?_)
  simp only [Int.ofNat_lt, str_inj, beq_dec, bne_dec, cond_dec, cond_nt, if_true, if_false, decide_true, decide_false, cond_true, cond_false, u8_inj, cells_div, szs, sz_list, inB_nat, Int.toNat_natCast, get0, get1, get2, get3, get4, get5, get6, get7, get8, Nat.reduceLT, bind_of, List.getElem?_cons_zero, List.getElem?_cons_succ, oInt_int, oBool_bool, oStr_str, oSl_slc, oAgg_agg, oTup_tup, oCons_cons, oNil_nil, sl_cells, hf, enc_RedexResult]
  rfl
theorem spec_IsNormal (s : Signature) (rs : List Equation) (t : List Int) (hs : sm 1048576 s) (hr : sm 1048576 rs) (ht : sm 1048576 t) : Call F.spec_IsNormal [.agg (enc s), slc rs, slc t] (.bool (isNormalR s rs t)) := by
  have hf := (spec_FindRedex s rs t hs hr ht).eq
  obtain ⟨l⟩ := s
  have hf : LIM F.spec_FindRedex [.agg [slc l], slc rs, slc t] = some (.agg (enc (findRedexR ⟨l⟩ rs t)), []) := hf
  show Call F.spec_IsNormal [.agg [slc l], slc rs, slc t] _
  refine call_of rfl 0 ((spec_IsNormal.ev _ _ _ _).trans ?_)
  simp only [Int.ofNat_lt, str_inj, beq_dec, bne_dec, cond_dec, cond_nt, if_true, if_false, decide_true, decide_false, cond_true, cond_false, u8_inj, cells_div, szs, sz_list, inB_nat, Int.toNat_natCast, get0, get1, get2, get3, get4, get5, get6, get7, get8, Nat.reduceLT, bind_of, List.getElem?_cons_zero, List.getElem?_cons_succ, oInt_int, oBool_bool, oStr_str, oSl_slc, oAgg_agg, oTup_tup, oCons_cons, oNil_nil, sl_cells, hf, enc_RedexResult]
  rfl
theorem impl_RewriteAt (s : Signature) (rs : List Equation) (r p : Int) (t : List Int) (hs : sm 1048576 s) (hr : sm 1048576 rs) (ht : sm 1048576 t) : Call F.impl_RewriteAt [.agg (enc s), slc rs, .int .i64 r, .int .i64 p, slc t] (.agg (enc (rewriteAtR s rs r p t))) := by
  obtain ⟨l⟩ := s
  have hsl : l.length ≤ 4294967296 := Nat.le_trans hs.1 (by omega)
  have htl : t.length ≤ 4294967296 := Nat.le_trans ht.1 (by omega)
  have hrl : rs.length ≤ 4294967296 := Nat.le_trans hr.1 (by omega)
  show Call F.impl_RewriteAt [.agg [slc l], slc rs, .int .i64 r, .int .i64 p, slc t] _
  refine call_of rfl 0 ((impl_RewriteAt.ev _ _ _ _ _ _).trans ?_)
  simp only [Int.ofNat_lt, str_inj, beq_dec, bne_dec, cond_dec, cond_nt, if_true, if_false, decide_true, decide_false, cond_true, cond_false, u8_inj, cells_div, szs, sz_list, inB_nat, Int.toNat_natCast, get0, get1, get2, get3, get4, get5, get6, get7, get8, Nat.reduceLT, bind_of, List.getElem?_cons_zero, List.getElem?_cons_succ, oInt_int, oBool_bool, oStr_str, oSl_slc, oAgg_agg, oTup_tup, oCons_cons, oNil_nil, sl_cells, (impl_rewriteFault l hsl rs (sm_mono (by omega) hr) t htl).eq, rewriteAtR, wrap64 (x := (rs.length : Int) - 1) (by omega), wrap64 (x := (t.length : Int) - 1) (by omega), (impl_within _ _ _).eq]
  by_cases h : rewriteFault ⟨l⟩ rs t = 0
  case neg => simp only [h, Int.ofNat_lt, str_inj, beq_dec, bne_dec, cond_dec, cond_nt, if_true, if_false, decide_true, decide_false, cond_true, cond_false, u8_inj, cells_div, szs, sz_list, inB_nat, Int.toNat_natCast, get0, get1, get2, get3, get4, get5, get6, get7, get8, Nat.reduceLT, bind_of, List.getElem?_cons_zero, List.getElem?_cons_succ, oInt_int, oBool_bool, oStr_str, oSl_slc, oAgg_agg, oTup_tup, oCons_cons, oNil_nil, sl_cells, ne_eq, not_false_eq_true, enc_TermResult, slc_nil]
  obtain ⟨ok, q1, q2, q3⟩ := rewriteFault_ok h
  cases h1 : inR r 0 (rs.length - 1) with
  | false => simp only [h, Int.ofNat_lt, str_inj, beq_dec, bne_dec, cond_dec, cond_nt, if_true, if_false, decide_true, decide_false, cond_true, cond_false, u8_inj, cells_div, szs, sz_list, inB_nat, Int.toNat_natCast, get0, get1, get2, get3, get4, get5, get6, get7, get8, Nat.reduceLT, bind_of, List.getElem?_cons_zero, List.getElem?_cons_succ, oInt_int, oBool_bool, oStr_str, oSl_slc, oAgg_agg, oTup_tup, oCons_cons, oNil_nil, sl_cells, ne_eq, not_true_eq_false, Bool.not_false, true_or, enc_TermResult, slc_nil]
  | true =>
    cases h2 : inR p 0 (t.length - 1) with
    | false => simp only [h, Int.ofNat_lt, str_inj, beq_dec, bne_dec, cond_dec, cond_nt, if_true, if_false, decide_true, decide_false, cond_true, cond_false, u8_inj, cells_div, szs, sz_list, inB_nat, Int.toNat_natCast, get0, get1, get2, get3, get4, get5, get6, get7, get8, Nat.reduceLT, bind_of, List.getElem?_cons_zero, List.getElem?_cons_succ, oInt_int, oBool_bool, oStr_str, oSl_slc, oAgg_agg, oTup_tup, oCons_cons, oNil_nil, sl_cells, ne_eq, not_true_eq_false, Bool.not_true, Bool.not_false, or_true, enc_TermResult, slc_nil]
    | true =>
      have hr1 := inR_iff.1 h1
      have hp1 := inR_iff.1 h2
      obtain ⟨k, rfl⟩ : ∃ k : Nat, r = k := ⟨r.toNat, by omega⟩
      obtain ⟨a, rfl⟩ : ∃ a : Nat, p = a := ⟨p.toNat, by omega⟩
      have hk : k < rs.length := by omega
      have ha : a < t.length := by omega
      have hlk : rs[k]? = some rs[k] := List.getElem?_eq_getElem hk
      have he := q2 _ (List.getElem_mem hk)
      have hrw := (impl_rewritten ok he q3 ha).eq
      rw [enc_TermResult] at hrw
      simp only [h, Int.ofNat_lt, str_inj, beq_dec, bne_dec, cond_dec, cond_nt, if_true, if_false, decide_true, decide_false, cond_true, cond_false, u8_inj, cells_div, szs, sz_list, inB_nat, Int.toNat_natCast, get0, get1, get2, get3, get4, get5, get6, get7, get8, Nat.reduceLT, bind_of, List.getElem?_cons_zero, List.getElem?_cons_succ, oInt_int, oBool_bool, oStr_str, oSl_slc, oAgg_agg, oTup_tup, oCons_cons, oNil_nil, sl_cells, ne_eq, not_true_eq_false, Bool.not_true, or_self, hk, hlk, enc_Equation, hrw, getE hk, enc_TermResult, reduceCtorEq]
theorem spec_RewriteAt (s : Signature) (rs : List Equation) (r p : Int) (t : List Int) (hs : sm 1048576 s) (hr : sm 1048576 rs) (ht : sm 1048576 t) : Call F.spec_RewriteAt [.agg (enc s), slc rs, .int .i64 r, .int .i64 p, slc t] (.agg (enc (rewriteAtR s rs r p t))) := by
  obtain ⟨l⟩ := s
  have hsl : l.length ≤ 4294967296 := Nat.le_trans hs.1 (by omega)
  have htl : t.length ≤ 4294967296 := Nat.le_trans ht.1 (by omega)
  have hrl : rs.length ≤ 4294967296 := Nat.le_trans hr.1 (by omega)
  show Call F.spec_RewriteAt [.agg [slc l], slc rs, .int .i64 r, .int .i64 p, slc t] _
  refine call_of rfl 0 ((spec_RewriteAt.ev _ _ _ _ _ _).trans ?_)
  simp only [Int.ofNat_lt, str_inj, beq_dec, bne_dec, cond_dec, cond_nt, if_true, if_false, decide_true, decide_false, cond_true, cond_false, u8_inj, cells_div, szs, sz_list, inB_nat, Int.toNat_natCast, get0, get1, get2, get3, get4, get5, get6, get7, get8, Nat.reduceLT, bind_of, List.getElem?_cons_zero, List.getElem?_cons_succ, oInt_int, oBool_bool, oStr_str, oSl_slc, oAgg_agg, oTup_tup, oCons_cons, oNil_nil, sl_cells, (spec_l8Both l hsl rs (sm_mono (by omega) hr) t htl).eq, rewriteAtR, wrap64 (x := (rs.length : Int) - 1) (by omega), (spec_l1In _ _ _).eq, (spec_l3Place t p htl).eq]
  by_cases h : rewriteFault ⟨l⟩ rs t = 0
  case neg => simp only [h, Int.ofNat_lt, str_inj, beq_dec, bne_dec, cond_dec, cond_nt, if_true, if_false, decide_true, decide_false, cond_true, cond_false, u8_inj, cells_div, szs, sz_list, inB_nat, Int.toNat_natCast, get0, get1, get2, get3, get4, get5, get6, get7, get8, Nat.reduceLT, bind_of, List.getElem?_cons_zero, List.getElem?_cons_succ, oInt_int, oBool_bool, oStr_str, oSl_slc, oAgg_agg, oTup_tup, oCons_cons, oNil_nil, sl_cells, ne_eq, not_false_eq_true, enc_TermResult, slc_nil]
  obtain ⟨ok, q1, q2, q3⟩ := rewriteFault_ok h
  cases h1 : inR r 0 (rs.length - 1) with
  | false => simp only [h, Int.ofNat_lt, str_inj, beq_dec, bne_dec, cond_dec, cond_nt, if_true, if_false, decide_true, decide_false, cond_true, cond_false, u8_inj, cells_div, szs, sz_list, inB_nat, Int.toNat_natCast, get0, get1, get2, get3, get4, get5, get6, get7, get8, Nat.reduceLT, bind_of, List.getElem?_cons_zero, List.getElem?_cons_succ, oInt_int, oBool_bool, oStr_str, oSl_slc, oAgg_agg, oTup_tup, oCons_cons, oNil_nil, sl_cells, ne_eq, not_true_eq_false, Bool.not_false, true_or, enc_TermResult, slc_nil]
  | true =>
    cases h2 : inR p 0 (t.length - 1) with
    | false => simp only [h, Int.ofNat_lt, str_inj, beq_dec, bne_dec, cond_dec, cond_nt, if_true, if_false, decide_true, decide_false, cond_true, cond_false, u8_inj, cells_div, szs, sz_list, inB_nat, Int.toNat_natCast, get0, get1, get2, get3, get4, get5, get6, get7, get8, Nat.reduceLT, bind_of, List.getElem?_cons_zero, List.getElem?_cons_succ, oInt_int, oBool_bool, oStr_str, oSl_slc, oAgg_agg, oTup_tup, oCons_cons, oNil_nil, sl_cells, ne_eq, not_true_eq_false, Bool.not_true, Bool.not_false, or_true, enc_TermResult, slc_nil]
    | true =>
      have hr1 := inR_iff.1 h1
      have hp1 := inR_iff.1 h2
      obtain ⟨k, rfl⟩ : ∃ k : Nat, r = k := ⟨r.toNat, by omega⟩
      obtain ⟨a, rfl⟩ : ∃ a : Nat, p = a := ⟨p.toNat, by omega⟩
      have hk : k < rs.length := by omega
      have ha : a < t.length := by omega
      have hlk : rs[k]? = some rs[k] := List.getElem?_eq_getElem hk
      have he := q2 _ (List.getElem_mem hk)
      have hrw := (spec_l8Rewrite ok he q3 ha).eq
      have hwin := cells_window (k := 2) (i := k) rfl hlk
      simp only [h, Int.ofNat_lt, str_inj, beq_dec, bne_dec, cond_dec, cond_nt, if_true, if_false, decide_true, decide_false, cond_true, cond_false, u8_inj, cells_div, szs, sz_list, inB_nat, Int.toNat_natCast, get0, get1, get2, get3, get4, get5, get6, get7, get8, Nat.reduceLT, bind_of, List.getElem?_cons_zero, List.getElem?_cons_succ, oInt_int, oBool_bool, oStr_str, oSl_slc, oAgg_agg, oTup_tup, oCons_cons, oNil_nil, sl_cells, ne_eq, not_true_eq_false, Bool.not_true, or_self, hk, hwin, enc_Equation, hrw, getE hk, enc_TermResult, reduceCtorEq]
theorem norm_sm {l : List Symbol} {rs : List Equation} (hr : ∀ e ∈ rs, EqOk l e) : ∀ (m k : Nat) (t : List Int), TermOk l t → sm 67108864 (norm l rs m k t) ∧ ((norm l rs m k t).code = 0 → TermOk l (norm l rs m k t).term)
  | 0, k, t, ht => by
    have := ht.le
    rw [norm]
    split
    · exact ⟨⟨by simp only; omega, fun _ _ => trivial⟩, fun _ => ht⟩
    · exact ⟨⟨by simp, by simp⟩, fun h => by cases h⟩
  | m + 1, k, t, ht => by
    have := ht.le
    rw [norm]
    split
    · exact ⟨⟨by simp only; omega, fun _ _ => trivial⟩, fun _ => ht⟩
    rename_i h0
    split
    · rename_i hc
      exact ⟨⟨by simp, by simp⟩, fun h => absurd h hc⟩
    · rename_i hc
      rcases redex_range (l := l) (rs := rs) t with h | ⟨a, q, hq, ha, e1, e2⟩
      · exact absurd h h0
      · have hg : rs.getD (redex l rs t).2.toNat ⟨[], []⟩ = rs[q] := by rw [e2, Int.toNat_natCast]; exact getE hq
        have hga : (redex l rs t).1.toNat = a := by rw [e1, Int.toNat_natCast]
        rw [hg, hga] at hc ⊢
        exact norm_sm hr m (k + 1) _ (stepAt_ok (hr _ (List.getElem_mem hq)) ht ha (by simpa using hc))
theorem impl_NormalForm (s : Signature) (rs : List Equation) (t : List Int) (fuel : Int) (hs : sm 1048576 s) (hr : sm 1048576 rs) (ht : sm 1048576 t) : Call F.impl_NormalForm [.agg (enc s), slc rs, slc t, .int .i64 fuel] (.agg (enc (normalFormR s rs t fuel))) := by
  obtain ⟨l⟩ := s
  have hsl : l.length ≤ 4294967296 := Nat.le_trans hs.1 (by omega)
  have htl : t.length ≤ 4294967296 := Nat.le_trans ht.1 (by omega)
  show Call F.impl_NormalForm [.agg [slc l], slc rs, slc t, .int .i64 fuel] _
  refine call_of rfl 0 ((impl_NormalForm.ev _ _ _ _ _).trans ?_)
  simp only [Int.ofNat_lt, str_inj, beq_dec, bne_dec, cond_dec, cond_nt, if_true, if_false, decide_true, decide_false, cond_true, cond_false, u8_inj, cells_div, szs, sz_list, inB_nat, Int.toNat_natCast, get0, get1, get2, get3, get4, get5, get6, get7, get8, Nat.reduceLT, bind_of, List.getElem?_cons_zero, List.getElem?_cons_succ, oInt_int, oBool_bool, oStr_str, oSl_slc, oAgg_agg, oTup_tup, oCons_cons, oNil_nil, sl_cells, (impl_rewriteFault l hsl rs (sm_mono (by omega) hr) t htl).eq, normalFormR, (impl_within _ _ _).eq]
  by_cases h : rewriteFault ⟨l⟩ rs t = 0
  case neg => simp only [h, Int.ofNat_lt, str_inj, beq_dec, bne_dec, cond_dec, cond_nt, if_true, if_false, decide_true, decide_false, cond_true, cond_false, u8_inj, cells_div, szs, sz_list, inB_nat, Int.toNat_natCast, get0, get1, get2, get3, get4, get5, get6, get7, get8, Nat.reduceLT, bind_of, List.getElem?_cons_zero, List.getElem?_cons_succ, oInt_int, oBool_bool, oStr_str, oSl_slc, oAgg_agg, oTup_tup, oCons_cons, oNil_nil, sl_cells, ne_eq, not_false_eq_true, enc_NormalResult, slc_nil]
  obtain ⟨ok, q1, q2, q3⟩ := rewriteFault_ok h
  cases h1 : inR fuel 0 200 with
  | false => simp only [h, Int.ofNat_lt, str_inj, beq_dec, bne_dec, cond_dec, cond_nt, if_true, if_false, decide_true, decide_false, cond_true, cond_false, u8_inj, cells_div, szs, sz_list, inB_nat, Int.toNat_natCast, get0, get1, get2, get3, get4, get5, get6, get7, get8, Nat.reduceLT, bind_of, List.getElem?_cons_zero, List.getElem?_cons_succ, oInt_int, oBool_bool, oStr_str, oSl_slc, oAgg_agg, oTup_tup, oCons_cons, oNil_nil, sl_cells, ne_eq, not_true_eq_false, Bool.not_false, enc_NormalResult, slc_nil]
  | true =>
    have hf1 := inR_iff.1 h1
    obtain ⟨k, rfl⟩ : ∃ k : Nat, fuel = k := ⟨fuel.toNat, by omega⟩
    have hnf := (impl_normalForm ok q2 q1 q3 (fuel := k) (by omega)).eq
    rw [enc_NormalResult] at hnf
    simp only [h, Int.ofNat_lt, str_inj, beq_dec, bne_dec, cond_dec, cond_nt, if_true, if_false, decide_true, decide_false, cond_true, cond_false, u8_inj, cells_div, szs, sz_list, inB_nat, Int.toNat_natCast, get0, get1, get2, get3, get4, get5, get6, get7, get8, Nat.reduceLT, bind_of, List.getElem?_cons_zero, List.getElem?_cons_succ, oInt_int, oBool_bool, oStr_str, oSl_slc, oAgg_agg, oTup_tup, oCons_cons, oNil_nil, sl_cells, ne_eq, not_true_eq_false, Bool.not_true, hnf, enc_NormalResult, reduceCtorEq]
theorem spec_NormalForm (s : Signature) (rs : List Equation) (t : List Int) (fuel : Int) (hs : sm 1048576 s) (hr : sm 1048576 rs) (ht : sm 1048576 t) : Call F.spec_NormalForm [.agg (enc s), slc rs, slc t, .int .i64 fuel] (.agg (enc (normalFormR s rs t fuel))) := by
  obtain ⟨l⟩ := s
  have hsl : l.length ≤ 4294967296 := Nat.le_trans hs.1 (by omega)
  have htl : t.length ≤ 4294967296 := Nat.le_trans ht.1 (by omega)
  show Call F.spec_NormalForm [.agg [slc l], slc rs, slc t, .int .i64 fuel] _
  refine call_of rfl 0 ((spec_NormalForm.ev _ _ _ _ _).trans ?_)
  simp only [Int.ofNat_lt, str_inj, beq_dec, bne_dec, cond_dec, cond_nt, if_true, if_false, decide_true, decide_false, cond_true, cond_false, u8_inj, cells_div, szs, sz_list, inB_nat, Int.toNat_natCast, get0, get1, get2, get3, get4, get5, get6, get7, get8, Nat.reduceLT, bind_of, List.getElem?_cons_zero, List.getElem?_cons_succ, oInt_int, oBool_bool, oStr_str, oSl_slc, oAgg_agg, oTup_tup, oCons_cons, oNil_nil, sl_cells, (spec_l8Both l hsl rs (sm_mono (by omega) hr) t htl).eq, normalFormR, (spec_l1In _ _ _).eq]
  by_cases h : rewriteFault ⟨l⟩ rs t = 0
  case neg => simp only [h, Int.ofNat_lt, str_inj, beq_dec, bne_dec, cond_dec, cond_nt, if_true, if_false, decide_true, decide_false, cond_true, cond_false, u8_inj, cells_div, szs, sz_list, inB_nat, Int.toNat_natCast, get0, get1, get2, get3, get4, get5, get6, get7, get8, Nat.reduceLT, bind_of, List.getElem?_cons_zero, List.getElem?_cons_succ, oInt_int, oBool_bool, oStr_str, oSl_slc, oAgg_agg, oTup_tup, oCons_cons, oNil_nil, sl_cells, ne_eq, not_false_eq_true, enc_NormalResult, slc_nil]
  obtain ⟨ok, q1, q2, q3⟩ := rewriteFault_ok h
  cases h1 : inR fuel 0 200 with
  | false => simp only [h, Int.ofNat_lt, str_inj, beq_dec, bne_dec, cond_dec, cond_nt, if_true, if_false, decide_true, decide_false, cond_true, cond_false, u8_inj, cells_div, szs, sz_list, inB_nat, Int.toNat_natCast, get0, get1, get2, get3, get4, get5, get6, get7, get8, Nat.reduceLT, bind_of, List.getElem?_cons_zero, List.getElem?_cons_succ, oInt_int, oBool_bool, oStr_str, oSl_slc, oAgg_agg, oTup_tup, oCons_cons, oNil_nil, sl_cells, ne_eq, not_true_eq_false, Bool.not_false, enc_NormalResult, slc_nil]
  | true =>
    have hf1 := inR_iff.1 h1
    obtain ⟨k, rfl⟩ : ∃ k : Nat, fuel = k := ⟨fuel.toNat, by omega⟩
    have hnf := (spec_l8Normal ok q2 q1 q3 (fuel := k) (by omega)).eq
    rw [enc_NormalResult] at hnf
    simp only [h, Int.ofNat_lt, str_inj, beq_dec, bne_dec, cond_dec, cond_nt, if_true, if_false, decide_true, decide_false, cond_true, cond_false, u8_inj, cells_div, szs, sz_list, inB_nat, Int.toNat_natCast, get0, get1, get2, get3, get4, get5, get6, get7, get8, Nat.reduceLT, bind_of, List.getElem?_cons_zero, List.getElem?_cons_succ, oInt_int, oBool_bool, oStr_str, oSl_slc, oAgg_agg, oTup_tup, oCons_cons, oNil_nil, sl_cells, ne_eq, not_true_eq_false, Bool.not_true, hnf, enc_NormalResult, reduceCtorEq]
theorem areJoinedR_sm (s : Signature) (rs : List Equation) (a b : List Int) (fuel : Int) (_ : sm 1048576 s) (_ : sm 1048576 rs) (_ : sm 1048576 a) (_ : sm 1048576 b) : sm 67108864 (areJoinedR s rs a b fuel) := trivial
theorem normalFormR_term {l : List Symbol} {rs : List Equation} {t : List Int} {fuel : Int} (h : (normalFormR ⟨l⟩ rs t fuel).code = 0) : rewriteFault ⟨l⟩ rs t = 0 ∧ inR fuel 0 200 = true ∧ normalFormR ⟨l⟩ rs t fuel = norm l rs fuel.toNat 0 t ∧ (normalFormR ⟨l⟩ rs t fuel).term.length ≤ 24 := by
  unfold normalFormR at h ⊢
  by_cases h1 : rewriteFault ⟨l⟩ rs t = 0
  case neg => rw [if_pos h1] at h; exact absurd h h1
  rw [if_neg (by simpa using h1)] at h ⊢
  cases h2 : inR fuel 0 200 with
  | false => rw [h2, if_pos rfl] at h; cases h
  | true =>
    rw [h2, if_neg (by simp)] at h
    rw [if_neg (by simp)]
    obtain ⟨ok, q1, q2, q3⟩ := rewriteFault_ok h1
    exact ⟨h1, rfl, rfl, ((norm_sm q2 _ _ _ q3).2 h).le⟩
theorem impl_AreJoined (s : Signature) (rs : List Equation) (a b : List Int) (fuel : Int) (hs : sm 1048576 s) (hr : sm 1048576 rs) (ha : sm 1048576 a) (hb : sm 1048576 b) : Call F.impl_AreJoined [.agg (enc s), slc rs, slc a, slc b, .int .i64 fuel] (.agg (enc (areJoinedR s rs a b fuel))) := by
  have ca := impl_NormalForm s rs a fuel hs hr ha
  have cb := impl_NormalForm s rs b fuel hs hr hb
  obtain ⟨l⟩ := s
  have ca : Call F.impl_NormalForm [.agg [slc l], slc rs, slc a, .int .i64 fuel] (.agg (enc (normalFormR ⟨l⟩ rs a fuel))) := ca
  have cb : Call F.impl_NormalForm [.agg [slc l], slc rs, slc b, .int .i64 fuel] (.agg (enc (normalFormR ⟨l⟩ rs b fuel))) := cb
  show Call F.impl_AreJoined [.agg [slc l], slc rs, slc a, slc b, .int .i64 fuel] _
  refine call_of rfl 0 ((impl_AreJoined.ev _ _ _ _ _ _).trans ?_)
  simp only [Int.ofNat_lt, str_inj, beq_dec, bne_dec, cond_dec, cond_nt, if_true, if_false, decide_true, decide_false, cond_true, cond_false, u8_inj, cells_div, szs, sz_list, inB_nat, Int.toNat_natCast, get0, get1, get2, get3, get4, get5, get6, get7, get8, Nat.reduceLT, bind_of, List.getElem?_cons_zero, List.getElem?_cons_succ, oInt_int, oBool_bool, oStr_str, oSl_slc, oAgg_agg, oTup_tup, oCons_cons, oNil_nil, sl_cells, ca.eq, cb.eq, enc_NormalResult, areJoinedR]
  by_cases h1 : (normalFormR ⟨l⟩ rs a fuel).code = 0
  case neg => simp only [h1, Int.ofNat_lt, str_inj, beq_dec, bne_dec, cond_dec, cond_nt, if_true, if_false, decide_true, decide_false, cond_true, cond_false, u8_inj, cells_div, szs, sz_list, inB_nat, Int.toNat_natCast, get0, get1, get2, get3, get4, get5, get6, get7, get8, Nat.reduceLT, bind_of, List.getElem?_cons_zero, List.getElem?_cons_succ, oInt_int, oBool_bool, oStr_str, oSl_slc, oAgg_agg, oTup_tup, oCons_cons, oNil_nil, sl_cells, ne_eq, not_false_eq_true, enc_IntResult]
  by_cases h2 : (normalFormR ⟨l⟩ rs b fuel).code = 0
  case neg => simp only [h1, h2, Int.ofNat_lt, str_inj, beq_dec, bne_dec, cond_dec, cond_nt, if_true, if_false, decide_true, decide_false, cond_true, cond_false, u8_inj, cells_div, szs, sz_list, inB_nat, Int.toNat_natCast, get0, get1, get2, get3, get4, get5, get6, get7, get8, Nat.reduceLT, bind_of, List.getElem?_cons_zero, List.getElem?_cons_succ, oInt_int, oBool_bool, oStr_str, oSl_slc, oAgg_agg, oTup_tup, oCons_cons, oNil_nil, sl_cells, ne_eq, not_true_eq_false, not_false_eq_true, enc_IntResult]
  have l1 := (normalFormR_term h1).2.2.2
  have heq := (slices_Equal_Sint64 (normalFormR ⟨l⟩ rs a fuel).term (normalFormR ⟨l⟩ rs b fuel).term ⟨by omega, fun _ _ => trivial⟩).eq
  by_cases h3 : (normalFormR ⟨l⟩ rs a fuel).term = (normalFormR ⟨l⟩ rs b fuel).term
  · rw [decide_eq_true h3] at heq
    simp only [h1, h2, Int.ofNat_lt, str_inj, beq_dec, bne_dec, cond_dec, cond_nt, if_true, if_false, decide_true, decide_false, cond_true, cond_false, u8_inj, cells_div, szs, sz_list, inB_nat, Int.toNat_natCast, get0, get1, get2, get3, get4, get5, get6, get7, get8, Nat.reduceLT, bind_of, List.getElem?_cons_zero, List.getElem?_cons_succ, oInt_int, oBool_bool, oStr_str, oSl_slc, oAgg_agg, oTup_tup, oCons_cons, oNil_nil, sl_cells, ne_eq, not_true_eq_false, heq, enc_IntResult]
    rw [if_pos h3]
  · rw [decide_eq_false h3] at heq
    simp only [h1, h2, Int.ofNat_lt, str_inj, beq_dec, bne_dec, cond_dec, cond_nt, if_true, if_false, decide_true, decide_false, cond_true, cond_false, u8_inj, cells_div, szs, sz_list, inB_nat, Int.toNat_natCast, get0, get1, get2, get3, get4, get5, get6, get7, get8, Nat.reduceLT, bind_of, List.getElem?_cons_zero, List.getElem?_cons_succ, oInt_int, oBool_bool, oStr_str, oSl_slc, oAgg_agg, oTup_tup, oCons_cons, oNil_nil, sl_cells, ne_eq, not_true_eq_false, heq, enc_IntResult]
    rw [if_neg h3]
theorem spec_l8Joined {l : List Symbol} (ok : SigOk ⟨l⟩) {rs : List Equation} (hr : ∀ e ∈ rs, EqOk l e) (hn : rs.length ≤ 12) {a b : List Int} (ha : TermOk l a) (hb : TermOk l b) {fuel : Nat} (hf : fuel ≤ 200) :
    Call F.spec_l8Joined [.rref [slc l] 0, slc rs, slc a, slc b, .int .i64 fuel]
      (if (norm l rs fuel 0 a).code ≠ 0 then .tup [.int .i64 0, .int .i64 (norm l rs fuel 0 a).code] else if (norm l rs fuel 0 b).code ≠ 0 then .tup [.int .i64 0, .int .i64 (norm l rs fuel 0 b).code]
        else if (norm l rs fuel 0 a).term = (norm l rs fuel 0 b).term then .tup [.int .i64 1, .int .i64 0] else .tup [.int .i64 0, .int .i64 0]) := by
  have ca := (spec_l8Normal ok hr hn ha hf).eq
  have cb := (spec_l8Normal ok hr hn hb hf).eq
  rw [enc_NormalResult] at ca cb
  refine call_of rfl 0 ((spec_l8Joined.ev _ _ _ _ _ _).trans ?_)
  simp only [Int.ofNat_lt, str_inj, beq_dec, bne_dec, cond_dec, cond_nt, if_true, if_false, decide_true, decide_false, cond_true, cond_false, u8_inj, cells_div, szs, sz_list, inB_nat, Int.toNat_natCast, get0, get1, get2, get3, get4, get5, get6, get7, get8, Nat.reduceLT, bind_of, List.getElem?_cons_zero, List.getElem?_cons_succ, oInt_int, oBool_bool, oStr_str, oSl_slc, oAgg_agg, oTup_tup, oCons_cons, oNil_nil, sl_cells, ca, cb]
  by_cases h1 : (norm l rs fuel 0 a).code = 0
  case neg => simp only [h1, Int.ofNat_lt, str_inj, beq_dec, bne_dec, cond_dec, cond_nt, if_true, if_false, decide_true, decide_false, cond_true, cond_false, u8_inj, cells_div, szs, sz_list, inB_nat, Int.toNat_natCast, get0, get1, get2, get3, get4, get5, get6, get7, get8, Nat.reduceLT, bind_of, List.getElem?_cons_zero, List.getElem?_cons_succ, oInt_int, oBool_bool, oStr_str, oSl_slc, oAgg_agg, oTup_tup, oCons_cons, oNil_nil, sl_cells, ne_eq, not_false_eq_true]
  by_cases h2 : (norm l rs fuel 0 b).code = 0
  case neg => simp only [h1, h2, Int.ofNat_lt, str_inj, beq_dec, bne_dec, cond_dec, cond_nt, if_true, if_false, decide_true, decide_false, cond_true, cond_false, u8_inj, cells_div, szs, sz_list, inB_nat, Int.toNat_natCast, get0, get1, get2, get3, get4, get5, get6, get7, get8, Nat.reduceLT, bind_of, List.getElem?_cons_zero, List.getElem?_cons_succ, oInt_int, oBool_bool, oStr_str, oSl_slc, oAgg_agg, oTup_tup, oCons_cons, oNil_nil, sl_cells, ne_eq, not_true_eq_false, not_false_eq_true]
  have l1 := ((norm_sm hr _ _ _ ha).2 h1).le
  have heq := (spec_l1Same (norm l rs fuel 0 a).term (norm l rs fuel 0 b).term ⟨by omega, fun _ _ => trivial⟩).eq
  by_cases h3 : (norm l rs fuel 0 a).term = (norm l rs fuel 0 b).term
  · rw [decide_eq_true h3] at heq
    simp only [h1, h2, Int.ofNat_lt, str_inj, beq_dec, bne_dec, cond_dec, cond_nt, if_true, if_false, decide_true, decide_false, cond_true, cond_false, u8_inj, cells_div, szs, sz_list, inB_nat, Int.toNat_natCast, get0, get1, get2, get3, get4, get5, get6, get7, get8, Nat.reduceLT, bind_of, List.getElem?_cons_zero, List.getElem?_cons_succ, oInt_int, oBool_bool, oStr_str, oSl_slc, oAgg_agg, oTup_tup, oCons_cons, oNil_nil, sl_cells, ne_eq, not_true_eq_false, heq]
    rw [if_pos h3]
  · rw [decide_eq_false h3] at heq
    simp only [h1, h2, Int.ofNat_lt, str_inj, beq_dec, bne_dec, cond_dec, cond_nt, if_true, if_false, decide_true, decide_false, cond_true, cond_false, u8_inj, cells_div, szs, sz_list, inB_nat, Int.toNat_natCast, get0, get1, get2, get3, get4, get5, get6, get7, get8, Nat.reduceLT, bind_of, List.getElem?_cons_zero, List.getElem?_cons_succ, oInt_int, oBool_bool, oStr_str, oSl_slc, oAgg_agg, oTup_tup, oCons_cons, oNil_nil, sl_cells, ne_eq, not_true_eq_false, heq]
    rw [if_neg h3]
theorem spec_AreJoined (s : Signature) (rs : List Equation) (a b : List Int) (fuel : Int) (hs : sm 1048576 s) (hr : sm 1048576 rs) (ha : sm 1048576 a) (hb : sm 1048576 b) : Call F.spec_AreJoined [.agg (enc s), slc rs, slc a, slc b, .int .i64 fuel] (.agg (enc (areJoinedR s rs a b fuel))) := by
  have ca := spec_NormalForm s rs a fuel hs hr ha
  obtain ⟨l⟩ := s
  have hbl : b.length ≤ 4294967296 := Nat.le_trans hb.1 (by omega)
  have ca : Call F.spec_NormalForm [.agg [slc l], slc rs, slc a, .int .i64 fuel] (.agg (enc (normalFormR ⟨l⟩ rs a fuel))) := ca
  show Call F.spec_AreJoined [.agg [slc l], slc rs, slc a, slc b, .int .i64 fuel] _
  refine call_of rfl 0 ((spec_AreJoined.ev _ _ _ _ _ _).trans ?_)
  simp only [Int.ofNat_lt, str_inj, beq_dec, bne_dec, cond_dec, cond_nt, if_true, if_false, decide_true, decide_false, cond_true, cond_false, u8_inj, cells_div, szs, sz_list, inB_nat, Int.toNat_natCast, get0, get1, get2, get3, get4, get5, get6, get7, get8, Nat.reduceLT, bind_of, List.getElem?_cons_zero, List.getElem?_cons_succ, oInt_int, oBool_bool, oStr_str, oSl_slc, oAgg_agg, oTup_tup, oCons_cons, oNil_nil, sl_cells, ca.eq, enc_NormalResult, areJoinedR]
  by_cases h1 : (normalFormR ⟨l⟩ rs a fuel).code = 0
  case neg => simp only [h1, Int.ofNat_lt, str_inj, beq_dec, bne_dec, cond_dec, cond_nt, if_true, if_false, decide_true, decide_false, cond_true, cond_false, u8_inj, cells_div, szs, sz_list, inB_nat, Int.toNat_natCast, get0, get1, get2, get3, get4, get5, get6, get7, get8, Nat.reduceLT, bind_of, List.getElem?_cons_zero, List.getElem?_cons_succ, oInt_int, oBool_bool, oStr_str, oSl_slc, oAgg_agg, oTup_tup, oCons_cons, oNil_nil, sl_cells, ne_eq, not_false_eq_true, enc_IntResult]
  obtain ⟨f1, f2, f3, f4⟩ := normalFormR_term h1
  obtain ⟨ok, q1, q2, q3⟩ := rewriteFault_ok f1
  have hf1 := inR_iff.1 f2
  obtain ⟨k, rfl⟩ : ∃ k : Nat, fuel = k := ⟨fuel.toNat, by omega⟩
  have hru : rulesFault ⟨l⟩ rs = 0 := by
    unfold rewriteFault at f1
    split at f1
    · rename_i h; exact absurd f1 h
    · rename_i h; simpa using h
  have hfb : rewriteFault ⟨l⟩ rs b = termFault0 l b := by unfold rewriteFault; rw [if_neg (by simpa using hru)]
  have hnb : normalFormR ⟨l⟩ rs b (k : Int) = if termFault0 l b ≠ 0 then ⟨termFault0 l b, [], 0⟩ else norm l rs k 0 b := by
    unfold normalFormR
    rw [hfb, f2, Int.toNat_natCast]
    by_cases h : termFault0 l b = 0
    · rw [if_neg (by simpa using h), if_neg (by simp), if_neg (by simpa using h)]
    · rw [if_pos h, if_pos h]
  rw [Int.toNat_natCast] at f3
  by_cases hb0 : termFault0 l b = 0
  case neg =>
    rw [if_pos hb0] at hnb
    rw [hnb]
    simp only [h1, Int.ofNat_lt, str_inj, beq_dec, bne_dec, cond_dec, cond_nt, if_true, if_false, decide_true, decide_false, cond_true, cond_false, u8_inj, cells_div, szs, sz_list, inB_nat, Int.toNat_natCast, get0, get1, get2, get3, get4, get5, get6, get7, get8, Nat.reduceLT, bind_of, List.getElem?_cons_zero, List.getElem?_cons_succ, oInt_int, oBool_bool, oStr_str, oSl_slc, oAgg_agg, oTup_tup, oCons_cons, oNil_nil, sl_cells, ne_eq, not_true_eq_false, (spec_l3Fault l ok b hbl).eq, hb0, not_false_eq_true, enc_IntResult]
  rw [if_neg (by simpa using hb0)] at hnb
  have hbo := (termOk_iff _ _).1 hb0
  have hj := spec_l8Joined ok q2 q1 q3 hbo (fuel := k) (by omega)
  rw [f3] at h1 ⊢
  rw [hnb]
  rw [if_neg (by simpa using h1)] at hj
  by_cases h2 : (norm l rs k 0 b).code = 0
  case neg =>
    rw [if_pos h2] at hj
    simp only [h1, Int.ofNat_lt, str_inj, beq_dec, bne_dec, cond_dec, cond_nt, if_true, if_false, decide_true, decide_false, cond_true, cond_false, u8_inj, cells_div, szs, sz_list, inB_nat, Int.toNat_natCast, get0, get1, get2, get3, get4, get5, get6, get7, get8, Nat.reduceLT, bind_of, List.getElem?_cons_zero, List.getElem?_cons_succ, oInt_int, oBool_bool, oStr_str, oSl_slc, oAgg_agg, oTup_tup, oCons_cons, oNil_nil, sl_cells, ne_eq, not_true_eq_false, (spec_l3Fault l ok b hbl).eq, hb0, hj.eq, h2, not_false_eq_true, enc_IntResult]
  rw [if_neg (by simpa using h2)] at hj
  by_cases h3 : (norm l rs k 0 a).term = (norm l rs k 0 b).term
  · rw [if_pos h3] at hj
    simp only [h1, Int.ofNat_lt, str_inj, beq_dec, bne_dec, cond_dec, cond_nt, if_true, if_false, decide_true, decide_false, cond_true, cond_false, u8_inj, cells_div, szs, sz_list, inB_nat, Int.toNat_natCast, get0, get1, get2, get3, get4, get5, get6, get7, get8, Nat.reduceLT, bind_of, List.getElem?_cons_zero, List.getElem?_cons_succ, oInt_int, oBool_bool, oStr_str, oSl_slc, oAgg_agg, oTup_tup, oCons_cons, oNil_nil, sl_cells, ne_eq, not_true_eq_false, (spec_l3Fault l ok b hbl).eq, hb0, hj.eq, h2, enc_IntResult]
    rw [if_pos h3]
  · rw [if_neg h3] at hj
    simp only [h1, Int.ofNat_lt, str_inj, beq_dec, bne_dec, cond_dec, cond_nt, if_true, if_false, decide_true, decide_false, cond_true, cond_false, u8_inj, cells_div, szs, sz_list, inB_nat, Int.toNat_natCast, get0, get1, get2, get3, get4, get5, get6, get7, get8, Nat.reduceLT, bind_of, List.getElem?_cons_zero, List.getElem?_cons_succ, oInt_int, oBool_bool, oStr_str, oSl_slc, oAgg_agg, oTup_tup, oCons_cons, oNil_nil, sl_cells, ne_eq, not_true_eq_false, (spec_l3Fault l ok b hbl).eq, hb0, hj.eq, h2, enc_IntResult]
    rw [if_neg h3]
end Ev.Ty
end

section
namespace Ev.Ty
open Go Ev
open Enc (enc)
open Sm (sm)
set_option linter.unusedSimpArgs false
set_option linter.unusedVariables false
set_option maxRecDepth 100000
set_option maxHeartbeats 2000000
theorem laws_FnExactAreJoined (s : Signature) (rs : List Equation) (a : List Int) (b : List Int) (fuel : Int) (h_s : sm maxLen s) (h_rs : sm maxLen rs) (h_a : sm maxLen a) (h_b : sm maxLen b) (h_fuel : (Sh.int .i64).wf fuel) : Call F.laws_FnExactAreJoined [.agg (enc s), slc rs, slc a, slc b, .int .i64 fuel] (.bool true) := by
  by_cases n0 : (a.length : Int) > 1048576
  · exact call_of rfl 0 ((laws_FnExactAreJoined.ev _ _ _ _ _ _ ).trans (by simp only [Int.ofNat_lt, str_inj, beq_dec, bne_dec, cond_dec, cond_nt, if_true, if_false, decide_true, decide_false, cond_true, cond_false, u8_inj, cells_div, sz_int, sz_u8, sz_list, sz_Symbol, sz_Signature, sz_Equation, sz_Binding, sz_Algebra, sz_Entry, sz_Completion, sz_Theory, sz_Put, sz_Disk, sz_Act, sz_IntResult, sz_IntsResult, sz_BytesResult, sz_TextResult, sz_SignatureResult, sz_TermResult, sz_TermsResult, sz_EquationResult, sz_EquationsResult, sz_KeyResult, sz_BindingResult, sz_RedexResult, sz_NormalResult, sz_AlgebraResult, sz_EntryResult, sz_CompletionResult, sz_TheoryResult, sz_DiskResult, inB_nat, Int.toNat_natCast, get0, get1, get2, get3, get4, get5, get6, get7, get8, Nat.reduceLT, bind_of, List.getElem?_cons_zero, List.getElem?_cons_succ, oInt_int, oBool_bool, oStr_str, oSl_slc, oAgg_agg, oTup_tup, oCons_cons, oNil_nil, sl_cells, n0]))
  have p0 : True → sm 1048576 a := fun _ => ⟨by omega, fun _ _ => trivial⟩
  by_cases n1 : (b.length : Int) > 1048576
  · exact call_of rfl 0 ((laws_FnExactAreJoined.ev _ _ _ _ _ _ ).trans (by simp only [Int.ofNat_lt, str_inj, beq_dec, bne_dec, cond_dec, cond_nt, if_true, if_false, decide_true, decide_false, cond_true, cond_false, u8_inj, cells_div, sz_int, sz_u8, sz_list, sz_Symbol, sz_Signature, sz_Equation, sz_Binding, sz_Algebra, sz_Entry, sz_Completion, sz_Theory, sz_Put, sz_Disk, sz_Act, sz_IntResult, sz_IntsResult, sz_BytesResult, sz_TextResult, sz_SignatureResult, sz_TermResult, sz_TermsResult, sz_EquationResult, sz_EquationsResult, sz_KeyResult, sz_BindingResult, sz_RedexResult, sz_NormalResult, sz_AlgebraResult, sz_EntryResult, sz_CompletionResult, sz_TheoryResult, sz_DiskResult, inB_nat, Int.toNat_natCast, get0, get1, get2, get3, get4, get5, get6, get7, get8, Nat.reduceLT, bind_of, List.getElem?_cons_zero, List.getElem?_cons_succ, oInt_int, oBool_bool, oStr_str, oSl_slc, oAgg_agg, oTup_tup, oCons_cons, oNil_nil, sl_cells, n0, n1]))
  have p1 : True → sm 1048576 b := fun _ => ⟨by omega, fun _ _ => trivial⟩
  obtain ⟨r2, c2, g2, p2⟩ := laws_szSignature s.symbols 1048576 (by omega) (by omega) h_s
  by_cases n2 : r2 < 0
  · exact call_of rfl 0 ((laws_FnExactAreJoined.ev _ _ _ _ _ _ ).trans (by simp only [Int.ofNat_lt, str_inj, beq_dec, bne_dec, cond_dec, cond_nt, if_true, if_false, decide_true, decide_false, cond_true, cond_false, u8_inj, cells_div, sz_int, sz_u8, sz_list, sz_Symbol, sz_Signature, sz_Equation, sz_Binding, sz_Algebra, sz_Entry, sz_Completion, sz_Theory, sz_Put, sz_Disk, sz_Act, sz_IntResult, sz_IntsResult, sz_BytesResult, sz_TextResult, sz_SignatureResult, sz_TermResult, sz_TermsResult, sz_EquationResult, sz_EquationsResult, sz_KeyResult, sz_BindingResult, sz_RedexResult, sz_NormalResult, sz_AlgebraResult, sz_EntryResult, sz_CompletionResult, sz_TheoryResult, sz_DiskResult, inB_nat, Int.toNat_natCast, get0, get1, get2, get3, get4, get5, get6, get7, get8, Nat.reduceLT, bind_of, List.getElem?_cons_zero, List.getElem?_cons_succ, oInt_int, oBool_bool, oStr_str, oSl_slc, oAgg_agg, oTup_tup, oCons_cons, oNil_nil, sl_cells, n0, n1, c2.eq, n2]))
  obtain ⟨r3, c3, g3, p3⟩ := laws_szEquationS rs r2 (by omega) (by omega) h_rs
  by_cases n3 : r3 < 0
  · exact call_of rfl 0 ((laws_FnExactAreJoined.ev _ _ _ _ _ _ ).trans (by simp only [Int.ofNat_lt, str_inj, beq_dec, bne_dec, cond_dec, cond_nt, if_true, if_false, decide_true, decide_false, cond_true, cond_false, u8_inj, cells_div, sz_int, sz_u8, sz_list, sz_Symbol, sz_Signature, sz_Equation, sz_Binding, sz_Algebra, sz_Entry, sz_Completion, sz_Theory, sz_Put, sz_Disk, sz_Act, sz_IntResult, sz_IntsResult, sz_BytesResult, sz_TextResult, sz_SignatureResult, sz_TermResult, sz_TermsResult, sz_EquationResult, sz_EquationsResult, sz_KeyResult, sz_BindingResult, sz_RedexResult, sz_NormalResult, sz_AlgebraResult, sz_EntryResult, sz_CompletionResult, sz_TheoryResult, sz_DiskResult, inB_nat, Int.toNat_natCast, get0, get1, get2, get3, get4, get5, get6, get7, get8, Nat.reduceLT, bind_of, List.getElem?_cons_zero, List.getElem?_cons_succ, oInt_int, oBool_bool, oStr_str, oSl_slc, oAgg_agg, oTup_tup, oCons_cons, oNil_nil, sl_cells, n0, n1, c2.eq, n2, c3.eq, n3]))
  have q_a := p0 trivial
  have s_a := sm_mono (show 1048576 ≤ 4294967296 by omega) q_a
  have m_a := sm_mono (show 1048576 ≤ 67108864 by omega) q_a
  have q_b := p1 trivial
  have s_b := sm_mono (show 1048576 ≤ 4294967296 by omega) q_b
  have m_b := sm_mono (show 1048576 ≤ 67108864 by omega) q_b
  have q_s := p2 (by omega)
  have s_s := sm_mono (show 1048576 ≤ 4294967296 by omega) q_s
  have m_s := sm_mono (show 1048576 ≤ 67108864 by omega) q_s
  have q_rs := p3 (by omega)
  have s_rs := sm_mono (show 1048576 ≤ 4294967296 by omega) q_rs
  have m_rs := sm_mono (show 1048576 ≤ 67108864 by omega) q_rs
  have hi : Call F.impl_AreJoined [.agg [slc s.symbols], slc rs, slc a, slc b, .int .i64 fuel] (.agg (enc (areJoinedR s rs a b fuel))) := impl_AreJoined s rs a b fuel q_s q_rs q_a q_b
  have hp : Call F.spec_AreJoined [.agg [slc s.symbols], slc rs, slc a, slc b, .int .i64 fuel] (.agg (enc (areJoinedR s rs a b fuel))) := spec_AreJoined s rs a b fuel q_s q_rs q_a q_b
  have hv := areJoinedR_sm s rs a b fuel q_s q_rs q_a q_b
  generalize areJoinedR s rs a b fuel = r at hi hp hv
  obtain ⟨w_code, w_value⟩ := r
  have hv2 := sm_mono (show 67108864 ≤ 4294967296 by omega) hv
  exact call_of rfl 0 ((laws_FnExactAreJoined.ev _ _ _ _ _ _ ).trans (by simp only [Int.ofNat_lt, str_inj, beq_dec, bne_dec, cond_dec, cond_nt, if_true, if_false, decide_true, decide_false, cond_true, cond_false, u8_inj, cells_div, sz_int, sz_u8, sz_list, sz_Symbol, sz_Signature, sz_Equation, sz_Binding, sz_Algebra, sz_Entry, sz_Completion, sz_Theory, sz_Put, sz_Disk, sz_Act, sz_IntResult, sz_IntsResult, sz_BytesResult, sz_TextResult, sz_SignatureResult, sz_TermResult, sz_TermsResult, sz_EquationResult, sz_EquationsResult, sz_KeyResult, sz_BindingResult, sz_RedexResult, sz_NormalResult, sz_AlgebraResult, sz_EntryResult, sz_CompletionResult, sz_TheoryResult, sz_DiskResult, inB_nat, Int.toNat_natCast, get0, get1, get2, get3, get4, get5, get6, get7, get8, Nat.reduceLT, bind_of, List.getElem?_cons_zero, List.getElem?_cons_succ, oInt_int, oBool_bool, oStr_str, oSl_slc, oAgg_agg, oTup_tup, oCons_cons, oNil_nil, sl_cells, n0, n1, c2.eq, n2, c3.eq, n3, hi.eq, hp.eq, (laws_toInt64S a s_a).eq, (laws_eqInt64S a _  s_a).eq, (laws_toInt64S b s_b).eq, (laws_eqInt64S b _  s_b).eq, (laws_toSignature s.symbols s_s).eq, (laws_eqSignature s.symbols _  s_s).eq, (laws_toEquationS rs s_rs).eq, (laws_eqEquationS rs _  s_rs).eq, (laws_eqIntResult w_code w_value _ _  hv2).eq, enc_IntResult, decide_true, Bool.not_true, cond_false]))
end Ev.Ty
end
