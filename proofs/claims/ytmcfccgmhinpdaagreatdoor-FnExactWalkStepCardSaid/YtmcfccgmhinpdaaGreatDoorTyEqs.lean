/- Equations and rules: whether they are right. -/
import Derived.Test.YtmcfccgmhinpdaaGreatDoorTyVars
namespace Ev.Ty
open Go Ev
open Enc (enc)
open Sm (sm)
set_option linter.unusedSimpArgs false
set_option linter.unusedVariables false

def low6 (t : List Int) : Bool := !t.any fun n => decide (n < -6)
theorem low6_iff {t : List Int} : low6 t = true ↔ ∀ n ∈ t, -6 ≤ n := by
  unfold low6
  rw [Bool.not_eq_true', List.any_eq_false]
  constructor
  · intro h n hn; have := h n hn; simpa using this
  · intro h n hn; simpa using h n hn
def eqFault (l : List Symbol) (e : Equation) : Int :=
  if termFault0 l e.left ≠ 0 then termFault0 l e.left else if termFault0 l e.right ≠ 0 then termFault0 l e.right else if low6 e.left = true then (if low6 e.right = true then 0 else 3) else 3
def eqsFault (l : List Symbol) (es : List Equation) : Int :=
  if 12 < es.length then 2 else (es.findSome? fun e => if eqFault l e ≠ 0 then some (eqFault l e) else none).getD 0
def ruleOk (e : Equation) : Bool := decide (0 ≤ e.left.headD 0) && !e.right.any fun n => decide (n < 0 ∧ n ∉ e.left)
def rulesFault0 (l : List Symbol) (es : List Equation) : Int := if eqsFault l es ≠ 0 then eqsFault l es else if (es.any fun e => !ruleOk e) = true then 1 else 0
def rulesFault (s : Signature) (es : List Equation) : Int := if sigFault s ≠ 0 then sigFault s else rulesFault0 s.symbols es
structure EqOk (l : List Symbol) (e : Equation) : Prop where
  left : TermOk l e.left
  right : TermOk l e.right
  lowL : ∀ n ∈ e.left, -6 ≤ n
  lowR : ∀ n ∈ e.right, -6 ≤ n
theorem eqOk_iff {l : List Symbol} {e : Equation} : eqFault l e = 0 ↔ EqOk l e := by
  unfold eqFault
  constructor
  · intro h
    by_cases h1 : termFault0 l e.left = 0
    · by_cases h2 : termFault0 l e.right = 0
      · by_cases h3 : low6 e.left = true
        · by_cases h4 : low6 e.right = true
          · exact ⟨(termOk_iff _ _).1 h1, (termOk_iff _ _).1 h2, low6_iff.1 h3, low6_iff.1 h4⟩
          · simp [h1, h2, h3, h4] at h
        · simp [h1, h2, h3] at h
      · simp [h1, h2] at h
    · simp [h1] at h
  · intro h
    simp [(termOk_iff _ _).2 h.left, (termOk_iff _ _).2 h.right, low6_iff.2 h.lowL, low6_iff.2 h.lowR]
theorem eqsOk_iff {l : List Symbol} {es : List Equation} : eqsFault l es = 0 ↔ es.length ≤ 12 ∧ ∀ e ∈ es, EqOk l e := by
  unfold eqsFault
  by_cases h : 12 < es.length
  · rw [if_pos h]
    constructor
    · intro h; cases h
    · intro h'; omega
  · rw [if_neg h]
    have : (es.findSome? fun e => if eqFault l e ≠ 0 then some (eqFault l e) else none).getD 0 = 0 ↔ ∀ e ∈ es, eqFault l e = 0 := by
      cases hf : es.findSome? fun e => if eqFault l e ≠ 0 then some (eqFault l e) else none with
      | none =>
        rw [findSome_none] at hf
        refine ⟨fun _ e he => ?_, fun _ => rfl⟩
        have := hf e he
        by_cases h : eqFault l e = 0
        · exact h
        · simp [h] at this
      | some c =>
        obtain ⟨e, he, h1⟩ := List.exists_of_findSome?_eq_some hf
        by_cases h : eqFault l e = 0
        · simp [h] at h1
        · simp [h] at h1
          subst h1
          exact ⟨fun h' => absurd h' h, fun h' => absurd (h' e he) h⟩
    rw [this]
    constructor
    · intro h'; exact ⟨by omega, fun e he => eqOk_iff.1 (h' e he)⟩
    · intro h' e he; exact eqOk_iff.2 (h'.2 e he)
theorem TermOk.ge {l : List Symbol} {t : List Int} (h : TermOk l t) : ∀ n ∈ t, -12 ≤ n := fun n hn => by
  rcases nodeOk_iff.1 (h.node n hn) with h | h <;> omega

theorem slices_ContainsFunc_Sint64_at1_impl_EquationFault_1 (t : List Int) (hs : t.length ≤ 4294967296) :
    Call F.slices_ContainsFunc_Sint64 [slc t, .clo F.impl_EquationFault_1 []] (.bool (t.any fun n => decide (n ≥ 6))) := by
  have hi : Call F.slices_IndexFunc_Sint64 [slc t, .clo F.impl_EquationFault_1 []] (.int .i64 (idx (fun n => decide (n ≥ 6)) t)) := by
    refine call_of rfl (t.length + 1) ((slices_IndexFunc_Sint64_at1_impl_EquationFault_1.ev _ _).trans ?_)
    refine idx_loop (S := fun m k => slices_IndexFunc_Sint64_at1_impl_EquationFault_1.at0 (t.length + 1) m (slices_IndexFunc_Sint64_at1_impl_EquationFault_1.st0 (cells t) _ (k : Nat))) (fun m k h => ?_) (fun m => ?_) (Nat.lt_succ_self _)
    · have hlk : t[k]? = some t[k] := List.getElem?_eq_getElem h
      have hc : Call F.impl_EquationFault_1 [.int .i64 t[k]] (.bool (decide (t[k] ≥ 6))) := call_of rfl 0 (impl_EquationFault_1.ev _ _)
      simp only [slices_IndexFunc_Sint64_at1_impl_EquationFault_1.next0, slices_IndexFunc_Sint64_at1_impl_EquationFault_1.round0, Int.ofNat_lt, str_inj, beq_dec, bne_dec, cond_dec, cond_nt, if_true, if_false, decide_true, decide_false, cond_true, cond_false, u8_inj, cells_div, sz_int, sz_u8, sz_list, sz_Symbol, sz_Signature, sz_Equation, sz_Binding, sz_Algebra, sz_Entry, sz_Completion, sz_Theory, sz_Put, sz_Disk, sz_Act, sz_IntResult, sz_IntsResult, sz_BytesResult, sz_TextResult, sz_SignatureResult, sz_TermResult, sz_TermsResult, sz_EquationResult, sz_EquationsResult, sz_KeyResult, sz_BindingResult, sz_RedexResult, sz_NormalResult, sz_AlgebraResult, sz_EntryResult, sz_CompletionResult, sz_TheoryResult, sz_DiskResult, inB_nat, Int.toNat_natCast, get0, get1, get2, get3, get4, get5, get6, get7, get8, Nat.reduceLT, bind_of, List.getElem?_cons_zero, List.getElem?_cons_succ, oInt_int, oBool_bool, oStr_str, oSl_slc, oAgg_agg, oTup_tup, oCons_cons, oNil_nil, sl_cells, h, hlk, enc_int, hc.eq]
      rw [wrap_succ (by omega)]
      by_cases e : t[k] ≥ 6 <;> simp [e]
    · simp only [slices_IndexFunc_Sint64_at1_impl_EquationFault_1.next0, slices_IndexFunc_Sint64_at1_impl_EquationFault_1.round0, Int.ofNat_lt, str_inj, beq_dec, bne_dec, cond_dec, cond_nt, if_true, if_false, decide_true, decide_false, cond_true, cond_false, u8_inj, cells_div, sz_int, sz_u8, sz_list, sz_Symbol, sz_Signature, sz_Equation, sz_Binding, sz_Algebra, sz_Entry, sz_Completion, sz_Theory, sz_Put, sz_Disk, sz_Act, sz_IntResult, sz_IntsResult, sz_BytesResult, sz_TextResult, sz_SignatureResult, sz_TermResult, sz_TermsResult, sz_EquationResult, sz_EquationsResult, sz_KeyResult, sz_BindingResult, sz_RedexResult, sz_NormalResult, sz_AlgebraResult, sz_EntryResult, sz_CompletionResult, sz_TheoryResult, sz_DiskResult, inB_nat, Int.toNat_natCast, get0, get1, get2, get3, get4, get5, get6, get7, get8, Nat.reduceLT, bind_of, List.getElem?_cons_zero, List.getElem?_cons_succ, oInt_int, oBool_bool, oStr_str, oSl_slc, oAgg_agg, oTup_tup, oCons_cons, oNil_nil, sl_cells, Nat.lt_irrefl]
  refine call_of rfl 0 ((slices_ContainsFunc_Sint64_at1_impl_EquationFault_1.ev _ _).trans ?_)
  simp only [Int.ofNat_lt, str_inj, beq_dec, bne_dec, cond_dec, cond_nt, if_true, if_false, decide_true, decide_false, cond_true, cond_false, u8_inj, cells_div, sz_int, sz_u8, sz_list, sz_Symbol, sz_Signature, sz_Equation, sz_Binding, sz_Algebra, sz_Entry, sz_Completion, sz_Theory, sz_Put, sz_Disk, sz_Act, sz_IntResult, sz_IntsResult, sz_BytesResult, sz_TextResult, sz_SignatureResult, sz_TermResult, sz_TermsResult, sz_EquationResult, sz_EquationsResult, sz_KeyResult, sz_BindingResult, sz_RedexResult, sz_NormalResult, sz_AlgebraResult, sz_EntryResult, sz_CompletionResult, sz_TheoryResult, sz_DiskResult, inB_nat, Int.toNat_natCast, get0, get1, get2, get3, get4, get5, get6, get7, get8, Nat.reduceLT, bind_of, List.getElem?_cons_zero, List.getElem?_cons_succ, oInt_int, oBool_bool, oStr_str, oSl_slc, oAgg_agg, oTup_tup, oCons_cons, oNil_nil, sl_cells, hi.eq, idx_nonneg]

theorem impl_EquationFault (l : List Symbol) (hs : l.length ≤ 4294967296) (a b : List Int) (ha : a.length ≤ 4294967296) (hb : b.length ≤ 4294967296) :
    Call F.impl_EquationFault [.agg [slc l], .agg [slc a, slc b]] (.int .i64 (if sigFault ⟨l⟩ ≠ 0 then sigFault ⟨l⟩ else eqFault l ⟨a, b⟩)) := by
  refine call_of rfl 0 ((impl_EquationFault.ev _ _ _ _).trans ?_)
  simp only [Int.ofNat_lt, str_inj, beq_dec, bne_dec, cond_dec, cond_nt, if_true, if_false, decide_true, decide_false, cond_true, cond_false, u8_inj, cells_div, sz_int, sz_u8, sz_list, sz_Symbol, sz_Signature, sz_Equation, sz_Binding, sz_Algebra, sz_Entry, sz_Completion, sz_Theory, sz_Put, sz_Disk, sz_Act, sz_IntResult, sz_IntsResult, sz_BytesResult, sz_TextResult, sz_SignatureResult, sz_TermResult, sz_TermsResult, sz_EquationResult, sz_EquationsResult, sz_KeyResult, sz_BindingResult, sz_RedexResult, sz_NormalResult, sz_AlgebraResult, sz_EntryResult, sz_CompletionResult, sz_TheoryResult, sz_DiskResult, inB_nat, Int.toNat_natCast, get0, get1, get2, get3, get4, get5, get6, get7, get8, Nat.reduceLT, bind_of, List.getElem?_cons_zero, List.getElem?_cons_succ, oInt_int, oBool_bool, oStr_str, oSl_slc, oAgg_agg, oTup_tup, oCons_cons, oNil_nil, sl_cells, (impl_TermFault l hs a ha).eq, (impl_TermFault l hs b hb).eq, (impl_firstCode2 _ _).eq, termFault, eqFault]
  by_cases h1 : sigFault ⟨l⟩ = 0
  case neg => simp only [h1, Int.ofNat_lt, str_inj, beq_dec, bne_dec, cond_dec, cond_nt, if_true, if_false, decide_true, decide_false, cond_true, cond_false, u8_inj, cells_div, sz_int, sz_u8, sz_list, sz_Symbol, sz_Signature, sz_Equation, sz_Binding, sz_Algebra, sz_Entry, sz_Completion, sz_Theory, sz_Put, sz_Disk, sz_Act, sz_IntResult, sz_IntsResult, sz_BytesResult, sz_TextResult, sz_SignatureResult, sz_TermResult, sz_TermsResult, sz_EquationResult, sz_EquationsResult, sz_KeyResult, sz_BindingResult, sz_RedexResult, sz_NormalResult, sz_AlgebraResult, sz_EntryResult, sz_CompletionResult, sz_TheoryResult, sz_DiskResult, inB_nat, Int.toNat_natCast, get0, get1, get2, get3, get4, get5, get6, get7, get8, Nat.reduceLT, bind_of, List.getElem?_cons_zero, List.getElem?_cons_succ, oInt_int, oBool_bool, oStr_str, oSl_slc, oAgg_agg, oTup_tup, oCons_cons, oNil_nil, sl_cells, ne_eq, not_false_eq_true]
  simp only [h1, Int.ofNat_lt, str_inj, beq_dec, bne_dec, cond_dec, cond_nt, if_true, if_false, decide_true, decide_false, cond_true, cond_false, u8_inj, cells_div, sz_int, sz_u8, sz_list, sz_Symbol, sz_Signature, sz_Equation, sz_Binding, sz_Algebra, sz_Entry, sz_Completion, sz_Theory, sz_Put, sz_Disk, sz_Act, sz_IntResult, sz_IntsResult, sz_BytesResult, sz_TextResult, sz_SignatureResult, sz_TermResult, sz_TermsResult, sz_EquationResult, sz_EquationsResult, sz_KeyResult, sz_BindingResult, sz_RedexResult, sz_NormalResult, sz_AlgebraResult, sz_EntryResult, sz_CompletionResult, sz_TheoryResult, sz_DiskResult, inB_nat, Int.toNat_natCast, get0, get1, get2, get3, get4, get5, get6, get7, get8, Nat.reduceLT, bind_of, List.getElem?_cons_zero, List.getElem?_cons_succ, oInt_int, oBool_bool, oStr_str, oSl_slc, oAgg_agg, oTup_tup, oCons_cons, oNil_nil, sl_cells, ne_eq, not_true_eq_false]
  by_cases h2 : termFault0 l a = 0
  case neg => simp only [h2, Int.ofNat_lt, str_inj, beq_dec, bne_dec, cond_dec, cond_nt, if_true, if_false, decide_true, decide_false, cond_true, cond_false, u8_inj, cells_div, sz_int, sz_u8, sz_list, sz_Symbol, sz_Signature, sz_Equation, sz_Binding, sz_Algebra, sz_Entry, sz_Completion, sz_Theory, sz_Put, sz_Disk, sz_Act, sz_IntResult, sz_IntsResult, sz_BytesResult, sz_TextResult, sz_SignatureResult, sz_TermResult, sz_TermsResult, sz_EquationResult, sz_EquationsResult, sz_KeyResult, sz_BindingResult, sz_RedexResult, sz_NormalResult, sz_AlgebraResult, sz_EntryResult, sz_CompletionResult, sz_TheoryResult, sz_DiskResult, inB_nat, Int.toNat_natCast, get0, get1, get2, get3, get4, get5, get6, get7, get8, Nat.reduceLT, bind_of, List.getElem?_cons_zero, List.getElem?_cons_succ, oInt_int, oBool_bool, oStr_str, oSl_slc, oAgg_agg, oTup_tup, oCons_cons, oNil_nil, sl_cells, not_false_eq_true]
  by_cases h3 : termFault0 l b = 0
  case neg => simp only [h2, h3, Int.ofNat_lt, str_inj, beq_dec, bne_dec, cond_dec, cond_nt, if_true, if_false, decide_true, decide_false, cond_true, cond_false, u8_inj, cells_div, sz_int, sz_u8, sz_list, sz_Symbol, sz_Signature, sz_Equation, sz_Binding, sz_Algebra, sz_Entry, sz_Completion, sz_Theory, sz_Put, sz_Disk, sz_Act, sz_IntResult, sz_IntsResult, sz_BytesResult, sz_TextResult, sz_SignatureResult, sz_TermResult, sz_TermsResult, sz_EquationResult, sz_EquationsResult, sz_KeyResult, sz_BindingResult, sz_RedexResult, sz_NormalResult, sz_AlgebraResult, sz_EntryResult, sz_CompletionResult, sz_TheoryResult, sz_DiskResult, inB_nat, Int.toNat_natCast, get0, get1, get2, get3, get4, get5, get6, get7, get8, Nat.reduceLT, bind_of, List.getElem?_cons_zero, List.getElem?_cons_succ, oInt_int, oBool_bool, oStr_str, oSl_slc, oAgg_agg, oTup_tup, oCons_cons, oNil_nil, sl_cells, not_true_eq_false, not_false_eq_true]
  have ta := (termOk_iff l a).1 h2
  have tb := (termOk_iff l b).1 h3
  have hal := ta.le
  have hbl := tb.le
  have hv := impl_varsOf [a, b] (by simp) (fun t ht => by
    simp only [List.mem_cons, List.not_mem_nil, or_false] at ht
    rcases ht with rfl | rfl
    · exact ⟨ha, ta.ge⟩
    · exact ⟨hb, tb.ge⟩) (by simp; omega)
  have hvl := varsOf_length [a, b]
  have hc := slices_ContainsFunc_Sint64_at1_impl_EquationFault_1 (varsOf [a, b]) (by simp at hvl; omega)
  simp only [h2, h3, Int.ofNat_lt, str_inj, beq_dec, bne_dec, cond_dec, cond_nt, if_true, if_false, decide_true, decide_false, cond_true, cond_false, u8_inj, cells_div, sz_int, sz_u8, sz_list, sz_Symbol, sz_Signature, sz_Equation, sz_Binding, sz_Algebra, sz_Entry, sz_Completion, sz_Theory, sz_Put, sz_Disk, sz_Act, sz_IntResult, sz_IntsResult, sz_BytesResult, sz_TextResult, sz_SignatureResult, sz_TermResult, sz_TermsResult, sz_EquationResult, sz_EquationsResult, sz_KeyResult, sz_BindingResult, sz_RedexResult, sz_NormalResult, sz_AlgebraResult, sz_EntryResult, sz_CompletionResult, sz_TheoryResult, sz_DiskResult, inB_nat, Int.toNat_natCast, get0, get1, get2, get3, get4, get5, get6, get7, get8, Nat.reduceLT, bind_of, List.getElem?_cons_zero, List.getElem?_cons_succ, oInt_int, oBool_bool, oStr_str, oSl_slc, oAgg_agg, oTup_tup, oCons_cons, oNil_nil, sl_cells, not_true_eq_false, show LIM F.impl_varsOf [.sl 1 [slc a, slc b]] = _ from hv, hc.eq]
  have e1 : ((varsOf [a, b]).any fun n => decide (n ≥ 6)) = !(low6 a && low6 b) := by
    rw [Bool.eq_iff_iff, List.any_eq_true, Bool.not_eq_true', Bool.eq_false_iff, ne_eq, Bool.and_eq_true, low6_iff, low6_iff]
    constructor
    · rintro ⟨v, hv, h6⟩ ⟨q1, q2⟩
      rw [decide_eq_true_eq] at h6
      obtain ⟨_, t, ht, hm⟩ := mem_varsOf.1 hv
      simp only [List.mem_cons, List.not_mem_nil, or_false] at ht
      rcases ht with rfl | rfl
      · have := q1 _ hm; omega
      · have := q2 _ hm; omega
    · intro h
      by_cases q1 : ∀ n ∈ a, -6 ≤ n
      · have q2 : ¬ ∀ n ∈ b, -6 ≤ n := fun q2 => h ⟨q1, q2⟩
        simp only [Classical.not_forall] at q2
        obtain ⟨n, hn, hlt⟩ := q2
        exact ⟨-1 - n, mem_varsOf.2 ⟨by omega, b, by simp, by rw [show -1 - (-1 - n) = n by omega]; exact hn⟩, by simp; omega⟩
      · simp only [Classical.not_forall] at q1
        obtain ⟨n, hn, hlt⟩ := q1
        exact ⟨-1 - n, mem_varsOf.2 ⟨by omega, a, by simp, by rw [show -1 - (-1 - n) = n by omega]; exact hn⟩, by simp; omega⟩
  rw [e1]
  cases low6 a <;> cases low6 b <;> rfl
theorem spec_l4Fault (l : List Symbol) (ok : SigOk ⟨l⟩) (a b : List Int) (ha : a.length ≤ 4294967296) (hb : b.length ≤ 4294967296) :
    Call F.spec_l4Fault [.rref [slc l] 0, .rref [slc a, slc b] 0] (.int .i64 (eqFault l ⟨a, b⟩)) := by
  have la : Call F.spec_l4Low [slc a] (.bool (low6 a)) := spec_l4Low a ha
  have lb : Call F.spec_l4Low [slc b] (.bool (low6 b)) := spec_l4Low b hb
  refine call_of rfl 0 ((spec_l4Fault.ev _ _ _ _).trans ?_)
  simp only [Int.ofNat_lt, str_inj, beq_dec, bne_dec, cond_dec, cond_nt, if_true, if_false, decide_true, decide_false, cond_true, cond_false, u8_inj, cells_div, sz_int, sz_u8, sz_list, sz_Symbol, sz_Signature, sz_Equation, sz_Binding, sz_Algebra, sz_Entry, sz_Completion, sz_Theory, sz_Put, sz_Disk, sz_Act, sz_IntResult, sz_IntsResult, sz_BytesResult, sz_TextResult, sz_SignatureResult, sz_TermResult, sz_TermsResult, sz_EquationResult, sz_EquationsResult, sz_KeyResult, sz_BindingResult, sz_RedexResult, sz_NormalResult, sz_AlgebraResult, sz_EntryResult, sz_CompletionResult, sz_TheoryResult, sz_DiskResult, inB_nat, Int.toNat_natCast, get0, get1, get2, get3, get4, get5, get6, get7, get8, Nat.reduceLT, bind_of, List.getElem?_cons_zero, List.getElem?_cons_succ, oInt_int, oBool_bool, oStr_str, oSl_slc, oAgg_agg, oTup_tup, oCons_cons, oNil_nil, sl_cells, (spec_l3Fault l ok a ha).eq, (spec_l3Fault l ok b hb).eq, la.eq, lb.eq, eqFault]
  by_cases h2 : termFault0 l a = 0
  case neg => simp only [h2, Int.ofNat_lt, str_inj, beq_dec, bne_dec, cond_dec, cond_nt, if_true, if_false, decide_true, decide_false, cond_true, cond_false, u8_inj, cells_div, sz_int, sz_u8, sz_list, sz_Symbol, sz_Signature, sz_Equation, sz_Binding, sz_Algebra, sz_Entry, sz_Completion, sz_Theory, sz_Put, sz_Disk, sz_Act, sz_IntResult, sz_IntsResult, sz_BytesResult, sz_TextResult, sz_SignatureResult, sz_TermResult, sz_TermsResult, sz_EquationResult, sz_EquationsResult, sz_KeyResult, sz_BindingResult, sz_RedexResult, sz_NormalResult, sz_AlgebraResult, sz_EntryResult, sz_CompletionResult, sz_TheoryResult, sz_DiskResult, inB_nat, Int.toNat_natCast, get0, get1, get2, get3, get4, get5, get6, get7, get8, Nat.reduceLT, bind_of, List.getElem?_cons_zero, List.getElem?_cons_succ, oInt_int, oBool_bool, oStr_str, oSl_slc, oAgg_agg, oTup_tup, oCons_cons, oNil_nil, sl_cells, ne_eq, not_false_eq_true]
  by_cases h3 : termFault0 l b = 0
  case neg => simp only [h2, h3, Int.ofNat_lt, str_inj, beq_dec, bne_dec, cond_dec, cond_nt, if_true, if_false, decide_true, decide_false, cond_true, cond_false, u8_inj, cells_div, sz_int, sz_u8, sz_list, sz_Symbol, sz_Signature, sz_Equation, sz_Binding, sz_Algebra, sz_Entry, sz_Completion, sz_Theory, sz_Put, sz_Disk, sz_Act, sz_IntResult, sz_IntsResult, sz_BytesResult, sz_TextResult, sz_SignatureResult, sz_TermResult, sz_TermsResult, sz_EquationResult, sz_EquationsResult, sz_KeyResult, sz_BindingResult, sz_RedexResult, sz_NormalResult, sz_AlgebraResult, sz_EntryResult, sz_CompletionResult, sz_TheoryResult, sz_DiskResult, inB_nat, Int.toNat_natCast, get0, get1, get2, get3, get4, get5, get6, get7, get8, Nat.reduceLT, bind_of, List.getElem?_cons_zero, List.getElem?_cons_succ, oInt_int, oBool_bool, oStr_str, oSl_slc, oAgg_agg, oTup_tup, oCons_cons, oNil_nil, sl_cells, ne_eq, not_true_eq_false, not_false_eq_true]
  simp only [h2, h3, Int.ofNat_lt, str_inj, beq_dec, bne_dec, cond_dec, cond_nt, if_true, if_false, decide_true, decide_false, cond_true, cond_false, u8_inj, cells_div, sz_int, sz_u8, sz_list, sz_Symbol, sz_Signature, sz_Equation, sz_Binding, sz_Algebra, sz_Entry, sz_Completion, sz_Theory, sz_Put, sz_Disk, sz_Act, sz_IntResult, sz_IntsResult, sz_BytesResult, sz_TextResult, sz_SignatureResult, sz_TermResult, sz_TermsResult, sz_EquationResult, sz_EquationsResult, sz_KeyResult, sz_BindingResult, sz_RedexResult, sz_NormalResult, sz_AlgebraResult, sz_EntryResult, sz_CompletionResult, sz_TheoryResult, sz_DiskResult, inB_nat, Int.toNat_natCast, get0, get1, get2, get3, get4, get5, get6, get7, get8, Nat.reduceLT, bind_of, List.getElem?_cons_zero, List.getElem?_cons_succ, oInt_int, oBool_bool, oStr_str, oSl_slc, oAgg_agg, oTup_tup, oCons_cons, oNil_nil, sl_cells, ne_eq, not_true_eq_false]
  cases low6 a <;> cases low6 b <;> rfl
theorem eqs_sm {es : List Equation} {k : Nat} (he : sm 4294967296 es) (h : k < es.length) : es[k].left.length ≤ 4294967296 ∧ es[k].right.length ≤ 4294967296 := by
  have := he.2 es[k] (List.getElem_mem h)
  exact ⟨this.1.1, this.2.1⟩
theorem impl_EquationsFault (l : List Symbol) (hs : l.length ≤ 4294967296) (es : List Equation) (he : sm 4294967296 es) :
    Call F.impl_EquationsFault [.agg [slc l], slc es] (.int .i64 (if sigFault ⟨l⟩ ≠ 0 then sigFault ⟨l⟩ else eqsFault l es)) := by
  refine call_of rfl (es.length + 1) ((impl_EquationsFault.ev _ _ _).trans ?_)
  simp only [Int.ofNat_lt, str_inj, beq_dec, bne_dec, cond_dec, cond_nt, if_true, if_false, decide_true, decide_false, cond_true, cond_false, u8_inj, cells_div, sz_int, sz_u8, sz_list, sz_Symbol, sz_Signature, sz_Equation, sz_Binding, sz_Algebra, sz_Entry, sz_Completion, sz_Theory, sz_Put, sz_Disk, sz_Act, sz_IntResult, sz_IntsResult, sz_BytesResult, sz_TextResult, sz_SignatureResult, sz_TermResult, sz_TermsResult, sz_EquationResult, sz_EquationsResult, sz_KeyResult, sz_BindingResult, sz_RedexResult, sz_NormalResult, sz_AlgebraResult, sz_EntryResult, sz_CompletionResult, sz_TheoryResult, sz_DiskResult, inB_nat, Int.toNat_natCast, get0, get1, get2, get3, get4, get5, get6, get7, get8, Nat.reduceLT, bind_of, List.getElem?_cons_zero, List.getElem?_cons_succ, oInt_int, oBool_bool, oStr_str, oSl_slc, oAgg_agg, oTup_tup, oCons_cons, oNil_nil, sl_cells, (impl_SignatureFault l hs).eq, eqsFault, gt_iff_lt]
  by_cases h1 : sigFault ⟨l⟩ = 0
  case neg => simp only [h1, Int.ofNat_lt, str_inj, beq_dec, bne_dec, cond_dec, cond_nt, if_true, if_false, decide_true, decide_false, cond_true, cond_false, u8_inj, cells_div, sz_int, sz_u8, sz_list, sz_Symbol, sz_Signature, sz_Equation, sz_Binding, sz_Algebra, sz_Entry, sz_Completion, sz_Theory, sz_Put, sz_Disk, sz_Act, sz_IntResult, sz_IntsResult, sz_BytesResult, sz_TextResult, sz_SignatureResult, sz_TermResult, sz_TermsResult, sz_EquationResult, sz_EquationsResult, sz_KeyResult, sz_BindingResult, sz_RedexResult, sz_NormalResult, sz_AlgebraResult, sz_EntryResult, sz_CompletionResult, sz_TheoryResult, sz_DiskResult, inB_nat, Int.toNat_natCast, get0, get1, get2, get3, get4, get5, get6, get7, get8, Nat.reduceLT, bind_of, List.getElem?_cons_zero, List.getElem?_cons_succ, oInt_int, oBool_bool, oStr_str, oSl_slc, oAgg_agg, oTup_tup, oCons_cons, oNil_nil, sl_cells, ne_eq, not_false_eq_true]
  by_cases h2 : 12 < es.length
  · have h2' : (12 : Int) < es.length := by omega
    simp only [h1, h2, h2', Int.ofNat_lt, str_inj, beq_dec, bne_dec, cond_dec, cond_nt, if_true, if_false, decide_true, decide_false, cond_true, cond_false, u8_inj, cells_div, sz_int, sz_u8, sz_list, sz_Symbol, sz_Signature, sz_Equation, sz_Binding, sz_Algebra, sz_Entry, sz_Completion, sz_Theory, sz_Put, sz_Disk, sz_Act, sz_IntResult, sz_IntsResult, sz_BytesResult, sz_TextResult, sz_SignatureResult, sz_TermResult, sz_TermsResult, sz_EquationResult, sz_EquationsResult, sz_KeyResult, sz_BindingResult, sz_RedexResult, sz_NormalResult, sz_AlgebraResult, sz_EntryResult, sz_CompletionResult, sz_TheoryResult, sz_DiskResult, inB_nat, Int.toNat_natCast, get0, get1, get2, get3, get4, get5, get6, get7, get8, Nat.reduceLT, bind_of, List.getElem?_cons_zero, List.getElem?_cons_succ, oInt_int, oBool_bool, oStr_str, oSl_slc, oAgg_agg, oTup_tup, oCons_cons, oNil_nil, sl_cells, ne_eq, not_true_eq_false]
  have h2' : ¬ (12 : Int) < es.length := by omega
  simp only [h1, h2, h2', Int.ofNat_lt, str_inj, beq_dec, bne_dec, cond_dec, cond_nt, if_true, if_false, decide_true, decide_false, cond_true, cond_false, u8_inj, cells_div, sz_int, sz_u8, sz_list, sz_Symbol, sz_Signature, sz_Equation, sz_Binding, sz_Algebra, sz_Entry, sz_Completion, sz_Theory, sz_Put, sz_Disk, sz_Act, sz_IntResult, sz_IntsResult, sz_BytesResult, sz_TextResult, sz_SignatureResult, sz_TermResult, sz_TermsResult, sz_EquationResult, sz_EquationsResult, sz_KeyResult, sz_BindingResult, sz_RedexResult, sz_NormalResult, sz_AlgebraResult, sz_EntryResult, sz_CompletionResult, sz_TheoryResult, sz_DiskResult, inB_nat, Int.toNat_natCast, get0, get1, get2, get3, get4, get5, get6, get7, get8, Nat.reduceLT, bind_of, List.getElem?_cons_zero, List.getElem?_cons_succ, oInt_int, oBool_bool, oStr_str, oSl_slc, oAgg_agg, oTup_tup, oCons_cons, oNil_nil, sl_cells, ne_eq, not_true_eq_false]
  refine (scan_loop (l := es) (g := fun e => if eqFault l e ≠ 0 then some (some (.int .i64 (eqFault l e), [])) else none) (z := some (.int .i64 0, [])) (S := fun m k => impl_EquationsFault.at0 (es.length + 1) m (impl_EquationsFault.st0 (cells es) es.length (k : Nat) (cells l)))
    (fun m k h => ?_) (fun m => ?_) (Nat.lt_succ_self _)).trans ?_
  · have hlk : es[k]? = some es[k] := List.getElem?_eq_getElem h
    obtain ⟨q1, q2⟩ := eqs_sm he h
    have hc := impl_EquationFault l hs es[k].left es[k].right q1 q2
    rw [if_neg (by simpa using h1)] at hc
    simp only [impl_EquationsFault.next0, impl_EquationsFault.round0, Int.ofNat_lt, str_inj, beq_dec, bne_dec, cond_dec, cond_nt, if_true, if_false, decide_true, decide_false, cond_true, cond_false, u8_inj, cells_div, sz_int, sz_u8, sz_list, sz_Symbol, sz_Signature, sz_Equation, sz_Binding, sz_Algebra, sz_Entry, sz_Completion, sz_Theory, sz_Put, sz_Disk, sz_Act, sz_IntResult, sz_IntsResult, sz_BytesResult, sz_TextResult, sz_SignatureResult, sz_TermResult, sz_TermsResult, sz_EquationResult, sz_EquationsResult, sz_KeyResult, sz_BindingResult, sz_RedexResult, sz_NormalResult, sz_AlgebraResult, sz_EntryResult, sz_CompletionResult, sz_TheoryResult, sz_DiskResult, inB_nat, Int.toNat_natCast, get0, get1, get2, get3, get4, get5, get6, get7, get8, Nat.reduceLT, bind_of, List.getElem?_cons_zero, List.getElem?_cons_succ, oInt_int, oBool_bool, oStr_str, oSl_slc, oAgg_agg, oTup_tup, oCons_cons, oNil_nil, sl_cells, h, hlk, enc_Equation, hc.eq]
    rw [wrap_succ (by omega)]
    by_cases e : eqFault l es[k] = 0
    · simp [e]
    · simp [e]
  · simp only [impl_EquationsFault.next0, impl_EquationsFault.round0, Int.ofNat_lt, str_inj, beq_dec, bne_dec, cond_dec, cond_nt, if_true, if_false, decide_true, decide_false, cond_true, cond_false, u8_inj, cells_div, sz_int, sz_u8, sz_list, sz_Symbol, sz_Signature, sz_Equation, sz_Binding, sz_Algebra, sz_Entry, sz_Completion, sz_Theory, sz_Put, sz_Disk, sz_Act, sz_IntResult, sz_IntsResult, sz_BytesResult, sz_TextResult, sz_SignatureResult, sz_TermResult, sz_TermsResult, sz_EquationResult, sz_EquationsResult, sz_KeyResult, sz_BindingResult, sz_RedexResult, sz_NormalResult, sz_AlgebraResult, sz_EntryResult, sz_CompletionResult, sz_TheoryResult, sz_DiskResult, inB_nat, Int.toNat_natCast, get0, get1, get2, get3, get4, get5, get6, get7, get8, Nat.reduceLT, bind_of, List.getElem?_cons_zero, List.getElem?_cons_succ, oInt_int, oBool_bool, oStr_str, oSl_slc, oAgg_agg, oTup_tup, oCons_cons, oNil_nil, sl_cells, Nat.lt_irrefl]
  · have := findSome_map (fun e => if eqFault l e ≠ 0 then some (eqFault l e) else none) (fun n => (some (T.int .i64 n, []) : R)) es
    rw [show (fun e => (if eqFault l e ≠ 0 then some (eqFault l e) else none).map fun n => (some (T.int .i64 n, []) : R)) = fun e => if eqFault l e ≠ 0 then some (some (T.int .i64 (eqFault l e), [])) else none from funext fun e => by by_cases h : eqFault l e = 0 <;> simp [h]] at this
    rw [this]
    cases es.findSome? fun e => if eqFault l e ≠ 0 then some (eqFault l e) else none <;> rfl
theorem spec_l5Fault (l : List Symbol) (ok : SigOk ⟨l⟩) (es : List Equation) (he : sm 4294967296 es) : Call F.spec_l5Fault [.rref [slc l] 0, slc es] (.int .i64 (eqsFault l es)) := by
  refine call_of rfl (es.length + 1) ((spec_l5Fault.ev _ _ _).trans ?_)
  simp only [Int.ofNat_lt, str_inj, beq_dec, bne_dec, cond_dec, cond_nt, if_true, if_false, decide_true, decide_false, cond_true, cond_false, u8_inj, cells_div, sz_int, sz_u8, sz_list, sz_Symbol, sz_Signature, sz_Equation, sz_Binding, sz_Algebra, sz_Entry, sz_Completion, sz_Theory, sz_Put, sz_Disk, sz_Act, sz_IntResult, sz_IntsResult, sz_BytesResult, sz_TextResult, sz_SignatureResult, sz_TermResult, sz_TermsResult, sz_EquationResult, sz_EquationsResult, sz_KeyResult, sz_BindingResult, sz_RedexResult, sz_NormalResult, sz_AlgebraResult, sz_EntryResult, sz_CompletionResult, sz_TheoryResult, sz_DiskResult, inB_nat, Int.toNat_natCast, get0, get1, get2, get3, get4, get5, get6, get7, get8, Nat.reduceLT, bind_of, List.getElem?_cons_zero, List.getElem?_cons_succ, oInt_int, oBool_bool, oStr_str, oSl_slc, oAgg_agg, oTup_tup, oCons_cons, oNil_nil, sl_cells, eqsFault, gt_iff_lt]
  by_cases h2 : 12 < es.length
  · have h2' : (12 : Int) < es.length := by omega
    simp only [h2, h2', Int.ofNat_lt, str_inj, beq_dec, bne_dec, cond_dec, cond_nt, if_true, if_false, decide_true, decide_false, cond_true, cond_false, u8_inj, cells_div, sz_int, sz_u8, sz_list, sz_Symbol, sz_Signature, sz_Equation, sz_Binding, sz_Algebra, sz_Entry, sz_Completion, sz_Theory, sz_Put, sz_Disk, sz_Act, sz_IntResult, sz_IntsResult, sz_BytesResult, sz_TextResult, sz_SignatureResult, sz_TermResult, sz_TermsResult, sz_EquationResult, sz_EquationsResult, sz_KeyResult, sz_BindingResult, sz_RedexResult, sz_NormalResult, sz_AlgebraResult, sz_EntryResult, sz_CompletionResult, sz_TheoryResult, sz_DiskResult, inB_nat, Int.toNat_natCast, get0, get1, get2, get3, get4, get5, get6, get7, get8, Nat.reduceLT, bind_of, List.getElem?_cons_zero, List.getElem?_cons_succ, oInt_int, oBool_bool, oStr_str, oSl_slc, oAgg_agg, oTup_tup, oCons_cons, oNil_nil, sl_cells]
  have h2' : ¬ (12 : Int) < es.length := by omega
  simp only [h2, h2', Int.ofNat_lt, str_inj, beq_dec, bne_dec, cond_dec, cond_nt, if_true, if_false, decide_true, decide_false, cond_true, cond_false, u8_inj, cells_div, sz_int, sz_u8, sz_list, sz_Symbol, sz_Signature, sz_Equation, sz_Binding, sz_Algebra, sz_Entry, sz_Completion, sz_Theory, sz_Put, sz_Disk, sz_Act, sz_IntResult, sz_IntsResult, sz_BytesResult, sz_TextResult, sz_SignatureResult, sz_TermResult, sz_TermsResult, sz_EquationResult, sz_EquationsResult, sz_KeyResult, sz_BindingResult, sz_RedexResult, sz_NormalResult, sz_AlgebraResult, sz_EntryResult, sz_CompletionResult, sz_TheoryResult, sz_DiskResult, inB_nat, Int.toNat_natCast, get0, get1, get2, get3, get4, get5, get6, get7, get8, Nat.reduceLT, bind_of, List.getElem?_cons_zero, List.getElem?_cons_succ, oInt_int, oBool_bool, oStr_str, oSl_slc, oAgg_agg, oTup_tup, oCons_cons, oNil_nil, sl_cells]
  refine (scan_loop (l := es) (g := fun e => if eqFault l e ≠ 0 then some (some (.int .i64 (eqFault l e), [])) else none) (z := some (.int .i64 0, [])) (S := fun m k => spec_l5Fault.at0 (es.length + 1) m (spec_l5Fault.st0 (cells l) (cells es) (k : Nat)))
    (fun m k h => ?_) (fun m => ?_) (Nat.lt_succ_self _)).trans ?_
  · have hlk : es[k]? = some es[k] := List.getElem?_eq_getElem h
    obtain ⟨q1, q2⟩ := eqs_sm he h
    have hc := spec_l4Fault l ok es[k].left es[k].right q1 q2
    simp only [spec_l5Fault.next0, spec_l5Fault.round0, Int.ofNat_lt, str_inj, beq_dec, bne_dec, cond_dec, cond_nt, if_true, if_false, decide_true, decide_false, cond_true, cond_false, u8_inj, cells_div, sz_int, sz_u8, sz_list, sz_Symbol, sz_Signature, sz_Equation, sz_Binding, sz_Algebra, sz_Entry, sz_Completion, sz_Theory, sz_Put, sz_Disk, sz_Act, sz_IntResult, sz_IntsResult, sz_BytesResult, sz_TextResult, sz_SignatureResult, sz_TermResult, sz_TermsResult, sz_EquationResult, sz_EquationsResult, sz_KeyResult, sz_BindingResult, sz_RedexResult, sz_NormalResult, sz_AlgebraResult, sz_EntryResult, sz_CompletionResult, sz_TheoryResult, sz_DiskResult, inB_nat, Int.toNat_natCast, get0, get1, get2, get3, get4, get5, get6, get7, get8, Nat.reduceLT, bind_of, List.getElem?_cons_zero, List.getElem?_cons_succ, oInt_int, oBool_bool, oStr_str, oSl_slc, oAgg_agg, oTup_tup, oCons_cons, oNil_nil, sl_cells, h, hlk, cells_window sz_Equation hlk, enc_Equation, hc.eq]
    rw [wrap_succ (by omega)]
    by_cases e : eqFault l es[k] = 0
    · simp [e]
    · simp [e]
  · simp only [spec_l5Fault.next0, spec_l5Fault.round0, Int.ofNat_lt, str_inj, beq_dec, bne_dec, cond_dec, cond_nt, if_true, if_false, decide_true, decide_false, cond_true, cond_false, u8_inj, cells_div, sz_int, sz_u8, sz_list, sz_Symbol, sz_Signature, sz_Equation, sz_Binding, sz_Algebra, sz_Entry, sz_Completion, sz_Theory, sz_Put, sz_Disk, sz_Act, sz_IntResult, sz_IntsResult, sz_BytesResult, sz_TextResult, sz_SignatureResult, sz_TermResult, sz_TermsResult, sz_EquationResult, sz_EquationsResult, sz_KeyResult, sz_BindingResult, sz_RedexResult, sz_NormalResult, sz_AlgebraResult, sz_EntryResult, sz_CompletionResult, sz_TheoryResult, sz_DiskResult, inB_nat, Int.toNat_natCast, get0, get1, get2, get3, get4, get5, get6, get7, get8, Nat.reduceLT, bind_of, List.getElem?_cons_zero, List.getElem?_cons_succ, oInt_int, oBool_bool, oStr_str, oSl_slc, oAgg_agg, oTup_tup, oCons_cons, oNil_nil, sl_cells, Nat.lt_irrefl]
  · have := findSome_map (fun e => if eqFault l e ≠ 0 then some (eqFault l e) else none) (fun n => (some (T.int .i64 n, []) : R)) es
    rw [show (fun e => (if eqFault l e ≠ 0 then some (eqFault l e) else none).map fun n => (some (T.int .i64 n, []) : R)) = fun e => if eqFault l e ≠ 0 then some (some (T.int .i64 (eqFault l e), [])) else none from funext fun e => by by_cases h : eqFault l e = 0 <;> simp [h]] at this
    rw [this]
    cases es.findSome? fun e => if eqFault l e ≠ 0 then some (eqFault l e) else none <;> rfl
end Ev.Ty
