/- The variables of terms; equations. -/
import Derived.Test.YtmcfccgmhinpdaaGreatDoorTyEvalT
namespace Ev.Ty
open Go Ev
open Enc (enc)
open Sm (sm)
set_option linter.unusedSimpArgs false
set_option linter.unusedVariables false

theorem intsT_cells : ∀ l : List Int, intsT l = cells l
  | [] => rfl
  | x :: l => by rw [cells_cons, ← intsT_cells l]; rfl
def sorted (l : List Int) : List Int := l.mergeSort fun x y => decide (x ≤ y)
theorem slices_Sort_Sint64 (l : List Int) (h : l.length ≤ 4294967296) : LIM F.slices_Sort_Sint64 [slc l] = some (.tup [], [slc (sorted l)]) := by
  refine lim_ext (e := sortE) rfl (Ev.of fun m => ?_)
  show ((intsOf (cells l)).bind fun zs => bif decide (zs.length < 4611686018427387904) then some (T.tup [], [T.sl 1 (intsT (zs.mergeSort fun x y => decide (x ≤ y)))]) else none) = _
  rw [← intsT_cells, intsOf_intsT, Option.bind_some, decide_eq_true (by omega), cond_true, intsT_cells]
  rfl
theorem slices_Compact_Sint64 (l : List Int) (h : l.length ≤ 4294967296) : Call F.slices_Compact_Sint64 [slc l] (slc (Lib.compact l)) := by
  refine lim_ext (e := compactE) rfl (Ev.of fun m => ?_)
  show ((intsOf (cells l)).bind fun zs => bif decide (zs.length < 4611686018427387904) then some (T.sl 1 (intsT (Lib.compact zs)), []) else none) = _
  rw [← intsT_cells, intsOf_intsT, Option.bind_some, decide_eq_true (by omega), cond_true, intsT_cells]
  rfl
theorem mem_compact {l : List Int} {x : Int} : x ∈ Lib.compact l ↔ x ∈ l := by
  unfold Lib.compact Lib.compactUpTo
  simp only [List.mem_map, List.mem_filter, List.mem_range]
  constructor
  · rintro ⟨j, ⟨hj, _⟩, rfl⟩
    rw [getElem!_pos _ j (by simpa using hj)]
    simp
  · intro h
    obtain ⟨i, hi, rfl⟩ := List.mem_iff_getElem.1 h
    have : ∀ j, (hj : j < l.length) → ∃ k, (k < l.length ∧ Lib.keeps l.toArray k = true) ∧ l.toArray[k]! = l[j] := by
      intro j
      induction j with
      | zero => intro hj; exact ⟨0, ⟨hj, by simp [Lib.keeps]⟩, by simp [hj]⟩
      | succ j ih =>
        intro hj
        by_cases e : l[j + 1] = l[j]
        · obtain ⟨k, hk, he⟩ := ih (by omega)
          exact ⟨k, hk, by rw [he, e]⟩
        · refine ⟨j + 1, ⟨hj, ?_⟩, by simp [hj]⟩
          have hj' : j < l.length := by omega
          simp [Lib.keeps, hj, hj', e]
    exact this i hi
theorem compact_length (l : List Int) : (Lib.compact l).length ≤ l.length := compact_len l

/-- The variables of a term, as they come. -/
def vars (t : List Int) : List Int := (t.filter fun n => decide (n < 0)).map fun n => -1 - n
theorem mem_vars {t : List Int} {v : Int} : v ∈ vars t ↔ 0 ≤ v ∧ (-1 - v) ∈ t := by
  unfold vars
  simp only [List.mem_map, List.mem_filter, decide_eq_true_eq]
  constructor
  · rintro ⟨n, ⟨hn, h0⟩, rfl⟩
    exact ⟨by omega, by rw [show -1 - (-1 - n) = n by omega]; exact hn⟩
  · rintro ⟨h0, h⟩
    exact ⟨-1 - v, ⟨h, by omega⟩, by omega⟩
theorem vars_length (t : List Int) : (vars t).length ≤ t.length := by
  unfold vars
  rw [List.length_map]; exact List.length_filter_le _ _
def varsOf (l : List (List Int)) : List Int := Lib.compact (sorted (l.flatMap vars))
theorem mem_varsOf {l : List (List Int)} {v : Int} : v ∈ varsOf l ↔ 0 ≤ v ∧ ∃ t ∈ l, (-1 - v) ∈ t := by
  unfold varsOf sorted
  rw [mem_compact, List.mem_mergeSort, List.mem_flatMap]
  constructor
  · rintro ⟨t, ht, h⟩
    obtain ⟨h0, h1⟩ := mem_vars.1 h
    exact ⟨h0, t, ht, h1⟩
  · rintro ⟨h0, t, ht, h1⟩
    exact ⟨t, ht, mem_vars.2 ⟨h0, h1⟩⟩
theorem flat_vars_length : ∀ l : List (List Int), (l.flatMap vars).length ≤ (l.map List.length).sum
  | [] => by simp
  | t :: l => by
    rw [List.flatMap_cons, List.length_append, List.map_cons, List.sum_cons]
    have := vars_length t
    have := flat_vars_length l
    omega
theorem varsOf_length (l : List (List Int)) : (varsOf l).length ≤ (l.map List.length).sum := by
  unfold varsOf
  refine Nat.le_trans (compact_length _) ?_
  unfold sorted
  rw [List.length_mergeSort]
  exact flat_vars_length l

theorem impl_varsOf (l : List (List Int)) (hl : l.length ≤ 24) (ht : ∀ t ∈ l, t.length ≤ 4294967296 ∧ ∀ n ∈ t, -12 ≤ n) (hsum : (l.map List.length).sum ≤ 4294967296) : Call F.impl_varsOf [slc l] (slc (varsOf l)) := by
  obtain ⟨N, hN⟩ : ∃ N, N = 4294967297 := ⟨_, rfl⟩
  have inner : ∀ (L0 : St → R) (x0 : List T) (x1 x2 : Int) (t : List Int), (∀ n ∈ t, -12 ≤ n) → ∀ m k (acc : List Int), k ≤ t.length → t.length < m + k → acc.length + t.length ≤ k + 4294967296 → t.length ≤ 4294967296 →
      impl_varsOf.at2 N L0 m (impl_varsOf.st2 x0 x1 x2 (cells t) t.length (k : Nat) (cells acc)) = L0 (impl_varsOf.st0 x0 x1 (IntKind.wrap .i64 (x2 + 1)) (cells (acc ++ vars (t.drop k)))) := by
    intro L0 x0 x1 x2 t hn m
    induction m with
    | zero => intros; omega
    | succ m ih =>
      intro k acc hk hm hacc htl
      by_cases h : k < t.length
      · have hlk : t[k]? = some t[k] := List.getElem?_eq_getElem h
        simp only [impl_varsOf.next2, impl_varsOf.round2, Int.ofNat_lt, str_inj, beq_dec, bne_dec, cond_dec, cond_nt, if_true, if_false, decide_true, decide_false, cond_true, cond_false, u8_inj, cells_div, sz_int, sz_u8, sz_list, sz_Symbol, sz_Signature, sz_Equation, sz_Binding, sz_Algebra, sz_Entry, sz_Completion, sz_Theory, sz_Put, sz_Disk, sz_Act, sz_IntResult, sz_IntsResult, sz_BytesResult, sz_TextResult, sz_SignatureResult, sz_TermResult, sz_TermsResult, sz_EquationResult, sz_EquationsResult, sz_KeyResult, sz_BindingResult, sz_RedexResult, sz_NormalResult, sz_AlgebraResult, sz_EntryResult, sz_CompletionResult, sz_TheoryResult, sz_DiskResult, inB_nat, Int.toNat_natCast, get0, get1, get2, get3, get4, get5, get6, get7, get8, Nat.reduceLT, bind_of, List.getElem?_cons_zero, List.getElem?_cons_succ, oInt_int, oBool_bool, oStr_str, oSl_slc, oAgg_agg, oTup_tup, oCons_cons, oNil_nil, sl_cells, h, hlk, enc_int]
        rw [wrap_succ (by omega), List.drop_eq_getElem_cons h]
        have hge := hn t[k] (List.getElem_mem h)
        by_cases h0 : t[k] < 0
        · have hble : Nat.ble (((cells acc).length + 1) * 8) (140737488355328 * 1) = true := by
            rw [Nat.ble_eq, cells_length, sz_int]; omega
          rw [wrap64 (by omega), cells_snoc_int, hble, ih (k + 1) (acc ++ [-1 - t[k]]) (by omega) (by omega) (by rw [List.length_append]; simp; omega) htl]
          simp only [h0, Int.ofNat_lt, str_inj, beq_dec, bne_dec, cond_dec, cond_nt, if_true, if_false, decide_true, decide_false, cond_true, cond_false, u8_inj, cells_div, sz_int, sz_u8, sz_list, sz_Symbol, sz_Signature, sz_Equation, sz_Binding, sz_Algebra, sz_Entry, sz_Completion, sz_Theory, sz_Put, sz_Disk, sz_Act, sz_IntResult, sz_IntsResult, sz_BytesResult, sz_TextResult, sz_SignatureResult, sz_TermResult, sz_TermsResult, sz_EquationResult, sz_EquationsResult, sz_KeyResult, sz_BindingResult, sz_RedexResult, sz_NormalResult, sz_AlgebraResult, sz_EntryResult, sz_CompletionResult, sz_TheoryResult, sz_DiskResult, inB_nat, Int.toNat_natCast, get0, get1, get2, get3, get4, get5, get6, get7, get8, Nat.reduceLT, bind_of, List.getElem?_cons_zero, List.getElem?_cons_succ, oInt_int, oBool_bool, oStr_str, oSl_slc, oAgg_agg, oTup_tup, oCons_cons, oNil_nil, sl_cells, vars, List.filter_cons, List.map_cons, List.append_assoc, List.singleton_append]
        · rw [ih (k + 1) acc (by omega) (by omega) (by omega) htl]
          simp only [h0, Int.ofNat_lt, str_inj, beq_dec, bne_dec, cond_dec, cond_nt, if_true, if_false, decide_true, decide_false, cond_true, cond_false, u8_inj, cells_div, sz_int, sz_u8, sz_list, sz_Symbol, sz_Signature, sz_Equation, sz_Binding, sz_Algebra, sz_Entry, sz_Completion, sz_Theory, sz_Put, sz_Disk, sz_Act, sz_IntResult, sz_IntsResult, sz_BytesResult, sz_TextResult, sz_SignatureResult, sz_TermResult, sz_TermsResult, sz_EquationResult, sz_EquationsResult, sz_KeyResult, sz_BindingResult, sz_RedexResult, sz_NormalResult, sz_AlgebraResult, sz_EntryResult, sz_CompletionResult, sz_TheoryResult, sz_DiskResult, inB_nat, Int.toNat_natCast, get0, get1, get2, get3, get4, get5, get6, get7, get8, Nat.reduceLT, bind_of, List.getElem?_cons_zero, List.getElem?_cons_succ, oInt_int, oBool_bool, oStr_str, oSl_slc, oAgg_agg, oTup_tup, oCons_cons, oNil_nil, sl_cells, vars, List.filter_cons, Bool.false_eq_true]
      · obtain rfl : k = t.length := by omega
        simp only [impl_varsOf.next2, impl_varsOf.round2, Int.ofNat_lt, str_inj, beq_dec, bne_dec, cond_dec, cond_nt, if_true, if_false, decide_true, decide_false, cond_true, cond_false, u8_inj, cells_div, sz_int, sz_u8, sz_list, sz_Symbol, sz_Signature, sz_Equation, sz_Binding, sz_Algebra, sz_Entry, sz_Completion, sz_Theory, sz_Put, sz_Disk, sz_Act, sz_IntResult, sz_IntsResult, sz_BytesResult, sz_TextResult, sz_SignatureResult, sz_TermResult, sz_TermsResult, sz_EquationResult, sz_EquationsResult, sz_KeyResult, sz_BindingResult, sz_RedexResult, sz_NormalResult, sz_AlgebraResult, sz_EntryResult, sz_CompletionResult, sz_TheoryResult, sz_DiskResult, inB_nat, Int.toNat_natCast, get0, get1, get2, get3, get4, get5, get6, get7, get8, Nat.reduceLT, bind_of, List.getElem?_cons_zero, List.getElem?_cons_succ, oInt_int, oBool_bool, oStr_str, oSl_slc, oAgg_agg, oTup_tup, oCons_cons, oNil_nil, sl_cells, Nat.lt_irrefl, List.drop_length, vars, List.filter_nil, List.map_nil, List.append_nil]
  have outer : ∀ m k (acc : List Int), k ≤ l.length → l.length < m + k → acc.length + ((l.drop k).map List.length).sum ≤ 4294967296 →
      impl_varsOf.at0 N m (impl_varsOf.st0 (cells l) l.length (k : Nat) (cells acc)) = some (slc (Lib.compact (sorted (acc ++ (l.drop k).flatMap vars))), []) := by
    intro m
    induction m with
    | zero => intros; omega
    | succ m ih =>
      intro k acc hk hm hacc
      by_cases h : k < l.length
      · have hlk : l[k]? = some l[k] := List.getElem?_eq_getElem h
        obtain ⟨q1, q2⟩ := ht l[k] (List.getElem_mem h)
        rw [List.drop_eq_getElem_cons h, List.map_cons, List.sum_cons] at hacc
        simp only [impl_varsOf.next0, impl_varsOf.round0, Int.ofNat_lt, str_inj, beq_dec, bne_dec, cond_dec, cond_nt, if_true, if_false, decide_true, decide_false, cond_true, cond_false, u8_inj, cells_div, sz_int, sz_u8, sz_list, sz_Symbol, sz_Signature, sz_Equation, sz_Binding, sz_Algebra, sz_Entry, sz_Completion, sz_Theory, sz_Put, sz_Disk, sz_Act, sz_IntResult, sz_IntsResult, sz_BytesResult, sz_TextResult, sz_SignatureResult, sz_TermResult, sz_TermsResult, sz_EquationResult, sz_EquationsResult, sz_KeyResult, sz_BindingResult, sz_RedexResult, sz_NormalResult, sz_AlgebraResult, sz_EntryResult, sz_CompletionResult, sz_TheoryResult, sz_DiskResult, inB_nat, Int.toNat_natCast, get0, get1, get2, get3, get4, get5, get6, get7, get8, Nat.reduceLT, bind_of, List.getElem?_cons_zero, List.getElem?_cons_succ, oInt_int, oBool_bool, oStr_str, oSl_slc, oAgg_agg, oTup_tup, oCons_cons, oNil_nil, sl_cells, h, hlk, enc_list]
        have hin := inner (impl_varsOf.at0 N m) (cells l) l.length (k : Nat) l[k] q2 N 0 acc (by omega) (by omega) (by omega) q1
        rw [List.drop_zero, wrap_succ (by omega)] at hin
        refine Eq.trans hin ?_
        have := vars_length l[k]
        rw [ih (k + 1) (acc ++ vars l[k]) (by omega) (by omega) (by rw [List.length_append]; omega), List.drop_eq_getElem_cons h, List.flatMap_cons, List.append_assoc]
      · obtain rfl : k = l.length := by omega
        rw [List.drop_length] at hacc ⊢
        have hs := slices_Sort_Sint64 acc (by simpa using hacc)
        have hc := slices_Compact_Sint64 (sorted acc) (by unfold sorted; rw [List.length_mergeSort]; simpa using hacc)
        simp only [impl_varsOf.next0, impl_varsOf.round0, Int.ofNat_lt, str_inj, beq_dec, bne_dec, cond_dec, cond_nt, if_true, if_false, decide_true, decide_false, cond_true, cond_false, u8_inj, cells_div, sz_int, sz_u8, sz_list, sz_Symbol, sz_Signature, sz_Equation, sz_Binding, sz_Algebra, sz_Entry, sz_Completion, sz_Theory, sz_Put, sz_Disk, sz_Act, sz_IntResult, sz_IntsResult, sz_BytesResult, sz_TextResult, sz_SignatureResult, sz_TermResult, sz_TermsResult, sz_EquationResult, sz_EquationsResult, sz_KeyResult, sz_BindingResult, sz_RedexResult, sz_NormalResult, sz_AlgebraResult, sz_EntryResult, sz_CompletionResult, sz_TheoryResult, sz_DiskResult, inB_nat, Int.toNat_natCast, get0, get1, get2, get3, get4, get5, get6, get7, get8, Nat.reduceLT, bind_of, List.getElem?_cons_zero, List.getElem?_cons_succ, oInt_int, oBool_bool, oStr_str, oSl_slc, oAgg_agg, oTup_tup, oCons_cons, oNil_nil, sl_cells, Nat.lt_irrefl, List.flatMap_nil, List.append_nil]
        simp only [hs, hc.eq, Int.ofNat_lt, str_inj, beq_dec, bne_dec, cond_dec, cond_nt, if_true, if_false, decide_true, decide_false, cond_true, cond_false, u8_inj, cells_div, sz_int, sz_u8, sz_list, sz_Symbol, sz_Signature, sz_Equation, sz_Binding, sz_Algebra, sz_Entry, sz_Completion, sz_Theory, sz_Put, sz_Disk, sz_Act, sz_IntResult, sz_IntsResult, sz_BytesResult, sz_TextResult, sz_SignatureResult, sz_TermResult, sz_TermsResult, sz_EquationResult, sz_EquationsResult, sz_KeyResult, sz_BindingResult, sz_RedexResult, sz_NormalResult, sz_AlgebraResult, sz_EntryResult, sz_CompletionResult, sz_TheoryResult, sz_DiskResult, inB_nat, Int.toNat_natCast, get0, get1, get2, get3, get4, get5, get6, get7, get8, Nat.reduceLT, bind_of, List.getElem?_cons_zero, List.getElem?_cons_succ, oInt_int, oBool_bool, oStr_str, oSl_slc, oAgg_agg, oTup_tup, oCons_cons, oNil_nil, sl_cells]
  refine call_of rfl N ((impl_varsOf.ev _ _).trans ?_)
  have := outer N 0 [] (by omega) (by omega) (by simpa using hsum)
  rw [List.drop_zero, List.nil_append] at this
  simp only [cells_div, sz_list]
  exact this
end Ev.Ty
