/- Numbers in a range; what stands twice. -/
import Derived.Test.YtmcfccgmhinpdaaGreatDoorTyPlumb
namespace Ev.Ty
open Go Ev
open Enc (enc)
open Sm (sm)
set_option linter.unusedSimpArgs false
def inR (n a b : Int) : Bool := decide (a ≤ n ∧ n ≤ b)
theorem impl_within (n a b : Int) : Call F.impl_within [.int .i64 n, .int .i64 a, .int .i64 b] (.bool (inR n a b)) := by
  refine call_of rfl 0 ((impl_within.ev _ _ _ _).trans ?_)
  simp only [Int.ofNat_lt, str_inj, beq_dec, bne_dec, cond_dec, cond_nt, if_true, if_false, decide_true, decide_false, cond_true, cond_false, u8_inj, cells_div, sz_int, sz_u8, sz_list, sz_Symbol, sz_Signature, sz_Equation, sz_Binding, sz_Algebra, sz_Entry, sz_Completion, sz_Theory, sz_Put, sz_Disk, sz_Act, sz_IntResult, sz_IntsResult, sz_BytesResult, sz_TextResult, sz_SignatureResult, sz_TermResult, sz_TermsResult, sz_EquationResult, sz_EquationsResult, sz_KeyResult, sz_BindingResult, sz_RedexResult, sz_NormalResult, sz_AlgebraResult, sz_EntryResult, sz_CompletionResult, sz_TheoryResult, sz_DiskResult, inB_nat, Int.toNat_natCast, get0, get1, get2, get3, get4, get5, get6, get7, get8, Nat.reduceLT, bind_of, List.getElem?_cons_zero, List.getElem?_cons_succ, oInt_int, oBool_bool, oStr_str, oSl_slc, oAgg_agg, oTup_tup, oCons_cons, oNil_nil, sl_cells, inR, ge_iff_le]
  by_cases h : a ≤ n <;> simp [h]
theorem spec_l1In (n a b : Int) : Call F.spec_l1In [.int .i64 n, .int .i64 a, .int .i64 b] (.bool (inR n a b)) := by
  refine call_of rfl 0 ((spec_l1In.ev _ _ _ _).trans ?_)
  simp only [Int.ofNat_lt, str_inj, beq_dec, bne_dec, cond_dec, cond_nt, if_true, if_false, decide_true, decide_false, cond_true, cond_false, u8_inj, cells_div, sz_int, sz_u8, sz_list, sz_Symbol, sz_Signature, sz_Equation, sz_Binding, sz_Algebra, sz_Entry, sz_Completion, sz_Theory, sz_Put, sz_Disk, sz_Act, sz_IntResult, sz_IntsResult, sz_BytesResult, sz_TextResult, sz_SignatureResult, sz_TermResult, sz_TermsResult, sz_EquationResult, sz_EquationsResult, sz_KeyResult, sz_BindingResult, sz_RedexResult, sz_NormalResult, sz_AlgebraResult, sz_EntryResult, sz_CompletionResult, sz_TheoryResult, sz_DiskResult, inB_nat, Int.toNat_natCast, get0, get1, get2, get3, get4, get5, get6, get7, get8, Nat.reduceLT, bind_of, List.getElem?_cons_zero, List.getElem?_cons_succ, oInt_int, oBool_bool, oStr_str, oSl_slc, oAgg_agg, oTup_tup, oCons_cons, oNil_nil, sl_cells, inR, ge_iff_le]
  by_cases h : a ≤ n <;> simp [h]

/-- Some number stands twice. -/
def twice {β : Type} [DecidableEq β] (l : List β) : Bool := !decide l.Nodup
theorem twice_iff {β : Type} [DecidableEq β] (l : List β) : twice l = true ↔ ∃ i j, j < i ∧ ∃ (h : i < l.length) (h' : j < l.length), l[i] = l[j] := by
  unfold twice
  rw [Bool.not_eq_true', decide_eq_false_iff_not, List.Nodup, List.pairwise_iff_getElem]
  constructor
  · intro h
    simp only [Classical.not_forall] at h
    obtain ⟨i, j, h1, h2, h3, h4⟩ := h
    simp only [ne_eq, Classical.not_not] at h4
    exact ⟨j, i, h3, h2, h1, h4.symm⟩
  · rintro ⟨i, j, h1, h2, h3, h4⟩ h
    exact h j i h3 h2 h1 h4.symm
/-- By the first place of each. -/
theorem twice_first {α β : Type} [DecidableEq β] (f : α → β) (l : List α) : ((List.range l.length).any fun k => l[k]?.any fun x => decide (idx (fun y => decide (f y = f x)) l ≠ (k : Nat))) = twice (l.map f) := by
  rw [Bool.eq_iff_iff, twice_iff]
  simp only [List.any_eq_true, List.mem_range, List.length_map, List.getElem_map]
  constructor
  · rintro ⟨k, hk, h⟩
    rw [List.getElem?_eq_getElem hk, Option.any_some] at h
    simp only [decide_eq_true_eq] at h
    rcases idx_spec (fun y => decide (f y = f l[k])) l with ⟨_, h1⟩ | ⟨i, hi, h1, h2, h3⟩
    · have := h1 l[k] (List.getElem_mem hk)
      simp at this
    · rw [h1] at h
      simp only [decide_eq_true_eq] at h2
      rcases Nat.lt_trichotomy i k with hlt | heq | hgt
      · exact ⟨k, i, hlt, hk, hi, h2.symm⟩
      · subst heq; simp at h
      · have := h3 k hgt
        simp at this
  · rintro ⟨i, j, hji, hi, hj, he⟩
    refine ⟨i, hi, ?_⟩
    rw [List.getElem?_eq_getElem hi, Option.any_some]
    simp only [decide_eq_true_eq]
    rcases idx_spec (fun y => decide (f y = f l[i])) l with ⟨h0, _⟩ | ⟨k, hk, h1, h2, h3⟩
    · rw [h0]; omega
    · rw [h1]
      intro hk'
      have : k = i := by omega
      subst this
      have := h3 j hji
      simp [he] at this
/-- By pairs. -/
theorem twice_pairs {α β : Type} [DecidableEq β] (f : α → β) (l : List α) : ((List.range l.length).any fun i => (List.range i).any fun j => l[i]?.any fun x => l[j]?.any fun y => decide (f x = f y)) = twice (l.map f) := by
  rw [Bool.eq_iff_iff, twice_iff]
  simp only [List.any_eq_true, List.mem_range, List.length_map, List.getElem_map]
  constructor
  · rintro ⟨i, hi, j, hj, h⟩
    rw [List.getElem?_eq_getElem hi, List.getElem?_eq_getElem (show j < l.length by omega)] at h
    exact ⟨i, j, hj, hi, by omega, by simpa using h⟩
  · rintro ⟨i, j, hji, hi, hj, he⟩
    refine ⟨i, hi, j, hji, ?_⟩
    rw [List.getElem?_eq_getElem hi, List.getElem?_eq_getElem hj]
    simpa using he
end Ev.Ty
