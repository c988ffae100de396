/- Disks: what is wrong with one. -/
import Derived.Test.YtmiggelfhbllkaaTyPlumb
import Derived.Test.YtmiggelfhbllkaaTyLoops
namespace Ev.Ty
open Go Ev
open Enc (enc)
open Sm (sm)
set_option linter.unusedSimpArgs false

def inR (n a b : Int) : Bool := decide (a ≤ n ∧ n ≤ b)
theorem impl_within (n a b : Int) : Call F.impl_within [.int .i64 n, .int .i64 a, .int .i64 b] (.bool (inR n a b)) := by
  refine call_of rfl 0 ((impl_within.ev _ _ _ _).trans ?_)
  simp only [Int.ofNat_lt, beq_dec, bne_dec, cond_dec, cond_nt, if_true, if_false, decide_true, decide_false, cond_true, cond_false, u8_inj, cells_div, sz_int, sz_u8, sz_list, sz_Symbol, sz_Signature, sz_Equation, sz_Binding, sz_Algebra, sz_Entry, sz_Completion, sz_Theory, sz_Put, sz_Disk, sz_Act, sz_IntResult, sz_IntsResult, sz_BytesResult, sz_TextResult, sz_SignatureResult, sz_TermResult, sz_TermsResult, sz_EquationResult, sz_EquationsResult, sz_KeyResult, sz_BindingResult, sz_RedexResult, sz_NormalResult, sz_AlgebraResult, sz_EntryResult, sz_CompletionResult, sz_TheoryResult, sz_DiskResult, inB_nat, Int.toNat_natCast, get0, get1, get2, get3, get4, get5, get6, get7, get8, Nat.reduceLT, Option.bind_some, List.getElem?_cons_zero, List.getElem?_cons_succ, oInt_int, oBool_bool, oStr_str, oSl_slc, oAgg_agg, oTup_tup, oCons_cons, oNil_nil, sl_cells, inR, ge_iff_le]
  by_cases h : a ≤ n <;> simp [h]
theorem spec_l1In (n a b : Int) : Call F.spec_l1In [.int .i64 n, .int .i64 a, .int .i64 b] (.bool (inR n a b)) := by
  refine call_of rfl 0 ((spec_l1In.ev _ _ _ _).trans ?_)
  simp only [Int.ofNat_lt, beq_dec, bne_dec, cond_dec, cond_nt, if_true, if_false, decide_true, decide_false, cond_true, cond_false, u8_inj, cells_div, sz_int, sz_u8, sz_list, sz_Symbol, sz_Signature, sz_Equation, sz_Binding, sz_Algebra, sz_Entry, sz_Completion, sz_Theory, sz_Put, sz_Disk, sz_Act, sz_IntResult, sz_IntsResult, sz_BytesResult, sz_TextResult, sz_SignatureResult, sz_TermResult, sz_TermsResult, sz_EquationResult, sz_EquationsResult, sz_KeyResult, sz_BindingResult, sz_RedexResult, sz_NormalResult, sz_AlgebraResult, sz_EntryResult, sz_CompletionResult, sz_TheoryResult, sz_DiskResult, inB_nat, Int.toNat_natCast, get0, get1, get2, get3, get4, get5, get6, get7, get8, Nat.reduceLT, Option.bind_some, List.getElem?_cons_zero, List.getElem?_cons_succ, oInt_int, oBool_bool, oStr_str, oSl_slc, oAgg_agg, oTup_tup, oCons_cons, oNil_nil, sl_cells, inR, ge_iff_le]
  by_cases h : a ≤ n <;> simp [h]

theorem slices_IndexFunc_SSbyte_at1_impl_DiskFault_1 (l : List (List UInt8)) (hs : sm 4294967296 l) : Call F.slices_IndexFunc_SSbyte [slc l, .clo F.impl_DiskFault_1 []] (.int .i64 (idx (fun x => decide (x.length ≠ 96)) l)) := by
  refine call_of rfl (l.length + 1) ((slices_IndexFunc_SSbyte_at1_impl_DiskFault_1.ev _ _).trans ?_)
  refine idx_loop (S := fun m k => slices_IndexFunc_SSbyte_at1_impl_DiskFault_1.at0 (l.length + 1) m (slices_IndexFunc_SSbyte_at1_impl_DiskFault_1.st0 (cells l) _ (k : Nat))) (fun m k h => ?_) (fun m => ?_) (Nat.lt_succ_self _)
  · have hlk : l[k]? = some l[k] := List.getElem?_eq_getElem h
    have hc : Call F.impl_DiskFault_1 [slc l[k]] (.bool (decide (l[k].length ≠ 96))) := by
      refine call_of rfl 0 ((impl_DiskFault_1.ev _ _).trans ?_)
      simp only [Int.ofNat_lt, beq_dec, bne_dec, cond_dec, cond_nt, if_true, if_false, decide_true, decide_false, cond_true, cond_false, u8_inj, cells_div, sz_int, sz_u8, sz_list, sz_Symbol, sz_Signature, sz_Equation, sz_Binding, sz_Algebra, sz_Entry, sz_Completion, sz_Theory, sz_Put, sz_Disk, sz_Act, sz_IntResult, sz_IntsResult, sz_BytesResult, sz_TextResult, sz_SignatureResult, sz_TermResult, sz_TermsResult, sz_EquationResult, sz_EquationsResult, sz_KeyResult, sz_BindingResult, sz_RedexResult, sz_NormalResult, sz_AlgebraResult, sz_EntryResult, sz_CompletionResult, sz_TheoryResult, sz_DiskResult, inB_nat, Int.toNat_natCast, get0, get1, get2, get3, get4, get5, get6, get7, get8, Nat.reduceLT, Option.bind_some, List.getElem?_cons_zero, List.getElem?_cons_succ, oInt_int, oBool_bool, oStr_str, oSl_slc, oAgg_agg, oTup_tup, oCons_cons, oNil_nil, sl_cells]
      congr 3
      rw [Bool.eq_iff_iff]; simp; omega
    simp only [slices_IndexFunc_SSbyte_at1_impl_DiskFault_1.next0, slices_IndexFunc_SSbyte_at1_impl_DiskFault_1.round0, Int.ofNat_lt, beq_dec, bne_dec, cond_dec, cond_nt, if_true, if_false, decide_true, decide_false, cond_true, cond_false, u8_inj, cells_div, sz_int, sz_u8, sz_list, sz_Symbol, sz_Signature, sz_Equation, sz_Binding, sz_Algebra, sz_Entry, sz_Completion, sz_Theory, sz_Put, sz_Disk, sz_Act, sz_IntResult, sz_IntsResult, sz_BytesResult, sz_TextResult, sz_SignatureResult, sz_TermResult, sz_TermsResult, sz_EquationResult, sz_EquationsResult, sz_KeyResult, sz_BindingResult, sz_RedexResult, sz_NormalResult, sz_AlgebraResult, sz_EntryResult, sz_CompletionResult, sz_TheoryResult, sz_DiskResult, inB_nat, Int.toNat_natCast, get0, get1, get2, get3, get4, get5, get6, get7, get8, Nat.reduceLT, Option.bind_some, List.getElem?_cons_zero, List.getElem?_cons_succ, oInt_int, oBool_bool, oStr_str, oSl_slc, oAgg_agg, oTup_tup, oCons_cons, oNil_nil, sl_cells, h, hlk, enc_list, hc.eq]
    rw [wrap_succ (by have := hs.1; omega)]
    simp only [decide_eq_true_eq]
  · simp only [slices_IndexFunc_SSbyte_at1_impl_DiskFault_1.next0, slices_IndexFunc_SSbyte_at1_impl_DiskFault_1.round0, Int.ofNat_lt, beq_dec, bne_dec, cond_dec, cond_nt, if_true, if_false, decide_true, decide_false, cond_true, cond_false, u8_inj, cells_div, sz_int, sz_u8, sz_list, sz_Symbol, sz_Signature, sz_Equation, sz_Binding, sz_Algebra, sz_Entry, sz_Completion, sz_Theory, sz_Put, sz_Disk, sz_Act, sz_IntResult, sz_IntsResult, sz_BytesResult, sz_TextResult, sz_SignatureResult, sz_TermResult, sz_TermsResult, sz_EquationResult, sz_EquationsResult, sz_KeyResult, sz_BindingResult, sz_RedexResult, sz_NormalResult, sz_AlgebraResult, sz_EntryResult, sz_CompletionResult, sz_TheoryResult, sz_DiskResult, inB_nat, Int.toNat_natCast, get0, get1, get2, get3, get4, get5, get6, get7, get8, Nat.reduceLT, Option.bind_some, List.getElem?_cons_zero, List.getElem?_cons_succ, oInt_int, oBool_bool, oStr_str, oSl_slc, oAgg_agg, oTup_tup, oCons_cons, oNil_nil, sl_cells, Nat.lt_irrefl]
theorem slices_ContainsFunc_SSbyte_at1_impl_DiskFault_1 (l : List (List UInt8)) (hs : sm 4294967296 l) : Call F.slices_ContainsFunc_SSbyte [slc l, .clo F.impl_DiskFault_1 []] (.bool (l.any fun x => decide (x.length ≠ 96))) := by
  refine call_of rfl 0 ((slices_ContainsFunc_SSbyte_at1_impl_DiskFault_1.ev _ _).trans ?_)
  simp only [Int.ofNat_lt, beq_dec, bne_dec, cond_dec, cond_nt, if_true, if_false, decide_true, decide_false, cond_true, cond_false, u8_inj, cells_div, sz_int, sz_u8, sz_list, sz_Symbol, sz_Signature, sz_Equation, sz_Binding, sz_Algebra, sz_Entry, sz_Completion, sz_Theory, sz_Put, sz_Disk, sz_Act, sz_IntResult, sz_IntsResult, sz_BytesResult, sz_TextResult, sz_SignatureResult, sz_TermResult, sz_TermsResult, sz_EquationResult, sz_EquationsResult, sz_KeyResult, sz_BindingResult, sz_RedexResult, sz_NormalResult, sz_AlgebraResult, sz_EntryResult, sz_CompletionResult, sz_TheoryResult, sz_DiskResult, inB_nat, Int.toNat_natCast, get0, get1, get2, get3, get4, get5, get6, get7, get8, Nat.reduceLT, Option.bind_some, List.getElem?_cons_zero, List.getElem?_cons_succ, oInt_int, oBool_bool, oStr_str, oSl_slc, oAgg_agg, oTup_tup, oCons_cons, oNil_nil, sl_cells, (slices_IndexFunc_SSbyte_at1_impl_DiskFault_1 l hs).eq, idx_nonneg]
theorem slices_IndexFunc_SPut_at1_impl_Disk_putFor_1 (l : List Put) (hs : sm 4294967296 l) (n : Int) : Call F.slices_IndexFunc_SPut [slc l, .clo F.impl_Disk_putFor_1 [.rref [.int .i64 n] 0]] (.int .i64 (idx (fun x => decide (x.sector = n)) l)) := by
  refine call_of rfl (l.length + 1) ((slices_IndexFunc_SPut_at1_impl_Disk_putFor_1.ev _ _ _).trans ?_)
  refine idx_loop (S := fun m k => slices_IndexFunc_SPut_at1_impl_Disk_putFor_1.at0 (l.length + 1) m (slices_IndexFunc_SPut_at1_impl_Disk_putFor_1.st0 (cells l) n _ (k : Nat))) (fun m k h => ?_) (fun m => ?_) (Nat.lt_succ_self _)
  · have hlk : l[k]? = some l[k] := List.getElem?_eq_getElem h
    have hc : Call F.impl_Disk_putFor_1 [.agg [.int .i64 l[k].sector, slc l[k].bytes], .rref [.int .i64 n] 0] (.bool (decide (l[k].sector = n))) := by
      refine call_of rfl 0 ((impl_Disk_putFor_1.ev _ _ _ _).trans ?_)
      simp only [Int.ofNat_lt, beq_dec, bne_dec, cond_dec, cond_nt, if_true, if_false, decide_true, decide_false, cond_true, cond_false, u8_inj, cells_div, sz_int, sz_u8, sz_list, sz_Symbol, sz_Signature, sz_Equation, sz_Binding, sz_Algebra, sz_Entry, sz_Completion, sz_Theory, sz_Put, sz_Disk, sz_Act, sz_IntResult, sz_IntsResult, sz_BytesResult, sz_TextResult, sz_SignatureResult, sz_TermResult, sz_TermsResult, sz_EquationResult, sz_EquationsResult, sz_KeyResult, sz_BindingResult, sz_RedexResult, sz_NormalResult, sz_AlgebraResult, sz_EntryResult, sz_CompletionResult, sz_TheoryResult, sz_DiskResult, inB_nat, Int.toNat_natCast, get0, get1, get2, get3, get4, get5, get6, get7, get8, Nat.reduceLT, Option.bind_some, List.getElem?_cons_zero, List.getElem?_cons_succ, oInt_int, oBool_bool, oStr_str, oSl_slc, oAgg_agg, oTup_tup, oCons_cons, oNil_nil, sl_cells]
    simp only [slices_IndexFunc_SPut_at1_impl_Disk_putFor_1.next0, slices_IndexFunc_SPut_at1_impl_Disk_putFor_1.round0, Int.ofNat_lt, beq_dec, bne_dec, cond_dec, cond_nt, if_true, if_false, decide_true, decide_false, cond_true, cond_false, u8_inj, cells_div, sz_int, sz_u8, sz_list, sz_Symbol, sz_Signature, sz_Equation, sz_Binding, sz_Algebra, sz_Entry, sz_Completion, sz_Theory, sz_Put, sz_Disk, sz_Act, sz_IntResult, sz_IntsResult, sz_BytesResult, sz_TextResult, sz_SignatureResult, sz_TermResult, sz_TermsResult, sz_EquationResult, sz_EquationsResult, sz_KeyResult, sz_BindingResult, sz_RedexResult, sz_NormalResult, sz_AlgebraResult, sz_EntryResult, sz_CompletionResult, sz_TheoryResult, sz_DiskResult, inB_nat, Int.toNat_natCast, get0, get1, get2, get3, get4, get5, get6, get7, get8, Nat.reduceLT, Option.bind_some, List.getElem?_cons_zero, List.getElem?_cons_succ, oInt_int, oBool_bool, oStr_str, oSl_slc, oAgg_agg, oTup_tup, oCons_cons, oNil_nil, sl_cells, h, hlk, enc_Put, hc.eq]
    rw [wrap_succ (by have := hs.1; omega)]
    simp only [decide_eq_true_eq]
  · simp only [slices_IndexFunc_SPut_at1_impl_Disk_putFor_1.next0, slices_IndexFunc_SPut_at1_impl_Disk_putFor_1.round0, Int.ofNat_lt, beq_dec, bne_dec, cond_dec, cond_nt, if_true, if_false, decide_true, decide_false, cond_true, cond_false, u8_inj, cells_div, sz_int, sz_u8, sz_list, sz_Symbol, sz_Signature, sz_Equation, sz_Binding, sz_Algebra, sz_Entry, sz_Completion, sz_Theory, sz_Put, sz_Disk, sz_Act, sz_IntResult, sz_IntsResult, sz_BytesResult, sz_TextResult, sz_SignatureResult, sz_TermResult, sz_TermsResult, sz_EquationResult, sz_EquationsResult, sz_KeyResult, sz_BindingResult, sz_RedexResult, sz_NormalResult, sz_AlgebraResult, sz_EntryResult, sz_CompletionResult, sz_TheoryResult, sz_DiskResult, inB_nat, Int.toNat_natCast, get0, get1, get2, get3, get4, get5, get6, get7, get8, Nat.reduceLT, Option.bind_some, List.getElem?_cons_zero, List.getElem?_cons_succ, oInt_int, oBool_bool, oStr_str, oSl_slc, oAgg_agg, oTup_tup, oCons_cons, oNil_nil, sl_cells, Nat.lt_irrefl]
theorem impl_Disk_putFor (s : List (List UInt8)) (l : List Put) (hs : sm 4294967296 l) (n : Int) : Call F.impl_Disk_putFor [.agg [slc s, slc l], .int .i64 n] (.int .i64 (idx (fun x => decide (x.sector = n)) l)) := by
  refine call_of rfl 0 ((impl_Disk_putFor.ev _ _ _ _).trans ?_)
  simp only [Int.ofNat_lt, beq_dec, bne_dec, cond_dec, cond_nt, if_true, if_false, decide_true, decide_false, cond_true, cond_false, u8_inj, cells_div, sz_int, sz_u8, sz_list, sz_Symbol, sz_Signature, sz_Equation, sz_Binding, sz_Algebra, sz_Entry, sz_Completion, sz_Theory, sz_Put, sz_Disk, sz_Act, sz_IntResult, sz_IntsResult, sz_BytesResult, sz_TextResult, sz_SignatureResult, sz_TermResult, sz_TermsResult, sz_EquationResult, sz_EquationsResult, sz_KeyResult, sz_BindingResult, sz_RedexResult, sz_NormalResult, sz_AlgebraResult, sz_EntryResult, sz_CompletionResult, sz_TheoryResult, sz_DiskResult, inB_nat, Int.toNat_natCast, get0, get1, get2, get3, get4, get5, get6, get7, get8, Nat.reduceLT, Option.bind_some, List.getElem?_cons_zero, List.getElem?_cons_succ, oInt_int, oBool_bool, oStr_str, oSl_slc, oAgg_agg, oTup_tup, oCons_cons, oNil_nil, sl_cells, (slices_IndexFunc_SPut_at1_impl_Disk_putFor_1 l hs n).eq]
theorem impl_Disk_has (s : List (List UInt8)) (l : List Put) (hs : sm 4294967296 s) (n : Int) : Call F.impl_Disk_has [.agg [slc s, slc l], .int .i64 n] (.bool (inR n 0 (s.length - 1))) := by
  refine call_of rfl 0 ((impl_Disk_has.ev _ _ _ _).trans ?_)
  have hl := hs.1
  simp only [Int.ofNat_lt, beq_dec, bne_dec, cond_dec, cond_nt, if_true, if_false, decide_true, decide_false, cond_true, cond_false, u8_inj, cells_div, sz_int, sz_u8, sz_list, sz_Symbol, sz_Signature, sz_Equation, sz_Binding, sz_Algebra, sz_Entry, sz_Completion, sz_Theory, sz_Put, sz_Disk, sz_Act, sz_IntResult, sz_IntsResult, sz_BytesResult, sz_TextResult, sz_SignatureResult, sz_TermResult, sz_TermsResult, sz_EquationResult, sz_EquationsResult, sz_KeyResult, sz_BindingResult, sz_RedexResult, sz_NormalResult, sz_AlgebraResult, sz_EntryResult, sz_CompletionResult, sz_TheoryResult, sz_DiskResult, inB_nat, Int.toNat_natCast, get0, get1, get2, get3, get4, get5, get6, get7, get8, Nat.reduceLT, Option.bind_some, List.getElem?_cons_zero, List.getElem?_cons_succ, oInt_int, oBool_bool, oStr_str, oSl_slc, oAgg_agg, oTup_tup, oCons_cons, oNil_nil, sl_cells, wrap64 (x := (s.length : Int) - 1) (by omega), (impl_within _ _ _).eq]

/-- What is wrong with a put of a disk of n sectors. -/
def putFault (n : Nat) (p : Put) : Option Int :=
  if inR p.sector 0 (n - 1) = false then some 3 else if p.bytes.length ≠ 96 then some 1 else none
/-- Some number stands twice. -/
def twice (l : List Int) : Bool := !decide l.Nodup
def diskFault (d : Disk) : Int :=
  if inR d.sectors.length 8 64 = false then 2
  else if d.sectors.any (fun x => decide (x.length ≠ 96)) then 1
  else if d.pending.length > d.sectors.length then 2
  else match d.pending.findSome? (putFault d.sectors.length) with
    | some c => c
    | none => if twice (d.pending.map (·.sector)) then 6 else 0

theorem twice_iff (l : List Int) : twice l = true ↔ ∃ i j, j < i ∧ ∃ (h : i < l.length) (h' : j < l.length), l[i] = l[j] := by
  unfold twice
  rw [Bool.not_eq_true', decide_eq_false_iff_not, List.Nodup, List.pairwise_iff_getElem]
  constructor
  · intro h
    simp only [Classical.not_forall] at h
    obtain ⟨i, j, h1, h2, h3, h4⟩ := h
    simp only [ne_eq, Classical.not_not] at h4
    exact ⟨j, i, h3, h2, h1, h4.symm⟩
  · rintro ⟨i, j, h1, h2, h3, h4⟩ h
    exact h j i h3 h2 h1 h4.symm
/-- By the first place of each. -/
theorem twice_first {α : Type} (f : α → Int) (l : List α) : ((List.range l.length).any fun k => l[k]?.any fun x => decide (idx (fun y => decide (f y = f x)) l ≠ (k : Nat))) = twice (l.map f) := by
  rw [Bool.eq_iff_iff, twice_iff]
  simp only [List.any_eq_true, List.mem_range, List.length_map, List.getElem_map]
  constructor
  · rintro ⟨k, hk, h⟩
    rw [List.getElem?_eq_getElem hk, Option.any_some] at h
    simp only [decide_eq_true_eq] at h
    rcases idx_spec (fun y => decide (f y = f l[k])) l with ⟨_, h1⟩ | ⟨i, hi, h1, h2, h3⟩
    · have := h1 l[k] (List.getElem_mem hk)
      simp at this
    · rw [h1] at h
      simp only [decide_eq_true_eq] at h2
      rcases Nat.lt_trichotomy i k with hlt | heq | hgt
      · exact ⟨k, i, hlt, hk, hi, h2.symm⟩
      · subst heq; simp at h
      · have := h3 k hgt
        simp at this
  · rintro ⟨i, j, hji, hi, hj, he⟩
    refine ⟨i, hi, ?_⟩
    rw [List.getElem?_eq_getElem hi, Option.any_some]
    simp only [decide_eq_true_eq]
    rcases idx_spec (fun y => decide (f y = f l[i])) l with ⟨h0, _⟩ | ⟨k, hk, h1, h2, h3⟩
    · rw [h0]; omega
    · rw [h1]
      intro hk'
      have : k = i := by omega
      subst this
      have := h3 j hji
      simp [he] at this
/-- By pairs. -/
theorem twice_pairs (l : List Put) : ((List.range l.length).any fun i => (List.range i).any fun j => l[i]?.any fun x => l[j]?.any fun y => decide (x.sector = y.sector)) = twice (l.map (·.sector)) := by
  rw [Bool.eq_iff_iff, twice_iff]
  simp only [List.any_eq_true, List.mem_range, List.length_map, List.getElem_map]
  constructor
  · rintro ⟨i, hi, j, hj, h⟩
    rw [List.getElem?_eq_getElem hi, List.getElem?_eq_getElem (show j < l.length by omega)] at h
    exact ⟨i, j, hj, hi, by omega, by simpa using h⟩
  · rintro ⟨i, j, hji, hi, hj, he⟩
    refine ⟨i, hi, j, hji, ?_⟩
    rw [List.getElem?_eq_getElem hi, List.getElem?_eq_getElem hj]
    simpa using he
theorem impl_DiskFault (s : List (List UInt8)) (p : List Put) (hs : sm 4294967296 (Disk.mk s p)) : Call F.impl_DiskFault [.agg [slc s, slc p]] (.int .i64 (diskFault ⟨s, p⟩)) := by
  have hp : p.length ≤ 4294967296 := hs.2.1
  refine call_of rfl (p.length + 1) ((impl_DiskFault.ev _ _ _).trans ?_)
  simp only [Int.ofNat_lt, beq_dec, bne_dec, cond_dec, cond_nt, if_true, if_false, decide_true, decide_false, cond_true, cond_false, u8_inj, cells_div, sz_int, sz_u8, sz_list, sz_Symbol, sz_Signature, sz_Equation, sz_Binding, sz_Algebra, sz_Entry, sz_Completion, sz_Theory, sz_Put, sz_Disk, sz_Act, sz_IntResult, sz_IntsResult, sz_BytesResult, sz_TextResult, sz_SignatureResult, sz_TermResult, sz_TermsResult, sz_EquationResult, sz_EquationsResult, sz_KeyResult, sz_BindingResult, sz_RedexResult, sz_NormalResult, sz_AlgebraResult, sz_EntryResult, sz_CompletionResult, sz_TheoryResult, sz_DiskResult, inB_nat, Int.toNat_natCast, get0, get1, get2, get3, get4, get5, get6, get7, get8, Nat.reduceLT, Option.bind_some, List.getElem?_cons_zero, List.getElem?_cons_succ, oInt_int, oBool_bool, oStr_str, oSl_slc, oAgg_agg, oTup_tup, oCons_cons, oNil_nil, sl_cells, (impl_within _ _ _).eq, diskFault]
  cases h1 : inR s.length 8 64 with
  | false => simp only [Int.ofNat_lt, beq_dec, bne_dec, cond_dec, cond_nt, if_true, if_false, decide_true, decide_false, cond_true, cond_false, u8_inj, cells_div, sz_int, sz_u8, sz_list, sz_Symbol, sz_Signature, sz_Equation, sz_Binding, sz_Algebra, sz_Entry, sz_Completion, sz_Theory, sz_Put, sz_Disk, sz_Act, sz_IntResult, sz_IntsResult, sz_BytesResult, sz_TextResult, sz_SignatureResult, sz_TermResult, sz_TermsResult, sz_EquationResult, sz_EquationsResult, sz_KeyResult, sz_BindingResult, sz_RedexResult, sz_NormalResult, sz_AlgebraResult, sz_EntryResult, sz_CompletionResult, sz_TheoryResult, sz_DiskResult, inB_nat, Int.toNat_natCast, get0, get1, get2, get3, get4, get5, get6, get7, get8, Nat.reduceLT, Option.bind_some, List.getElem?_cons_zero, List.getElem?_cons_succ, oInt_int, oBool_bool, oStr_str, oSl_slc, oAgg_agg, oTup_tup, oCons_cons, oNil_nil, sl_cells, if_true]
  | true =>
    simp only [Int.ofNat_lt, beq_dec, bne_dec, cond_dec, cond_nt, if_true, if_false, decide_true, decide_false, cond_true, cond_false, u8_inj, cells_div, sz_int, sz_u8, sz_list, sz_Symbol, sz_Signature, sz_Equation, sz_Binding, sz_Algebra, sz_Entry, sz_Completion, sz_Theory, sz_Put, sz_Disk, sz_Act, sz_IntResult, sz_IntsResult, sz_BytesResult, sz_TextResult, sz_SignatureResult, sz_TermResult, sz_TermsResult, sz_EquationResult, sz_EquationsResult, sz_KeyResult, sz_BindingResult, sz_RedexResult, sz_NormalResult, sz_AlgebraResult, sz_EntryResult, sz_CompletionResult, sz_TheoryResult, sz_DiskResult, inB_nat, Int.toNat_natCast, get0, get1, get2, get3, get4, get5, get6, get7, get8, Nat.reduceLT, Option.bind_some, List.getElem?_cons_zero, List.getElem?_cons_succ, oInt_int, oBool_bool, oStr_str, oSl_slc, oAgg_agg, oTup_tup, oCons_cons, oNil_nil, sl_cells, Bool.true_eq_false, if_false, (slices_ContainsFunc_SSbyte_at1_impl_DiskFault_1 s hs.1).eq]
    cases h2 : s.any fun x => decide (x.length ≠ 96) with
    | true => simp only [Int.ofNat_lt, beq_dec, bne_dec, cond_dec, cond_nt, if_true, if_false, decide_true, decide_false, cond_true, cond_false, u8_inj, cells_div, sz_int, sz_u8, sz_list, sz_Symbol, sz_Signature, sz_Equation, sz_Binding, sz_Algebra, sz_Entry, sz_Completion, sz_Theory, sz_Put, sz_Disk, sz_Act, sz_IntResult, sz_IntsResult, sz_BytesResult, sz_TextResult, sz_SignatureResult, sz_TermResult, sz_TermsResult, sz_EquationResult, sz_EquationsResult, sz_KeyResult, sz_BindingResult, sz_RedexResult, sz_NormalResult, sz_AlgebraResult, sz_EntryResult, sz_CompletionResult, sz_TheoryResult, sz_DiskResult, inB_nat, Int.toNat_natCast, get0, get1, get2, get3, get4, get5, get6, get7, get8, Nat.reduceLT, Option.bind_some, List.getElem?_cons_zero, List.getElem?_cons_succ, oInt_int, oBool_bool, oStr_str, oSl_slc, oAgg_agg, oTup_tup, oCons_cons, oNil_nil, sl_cells, if_true]
    | false =>
      simp only [Int.ofNat_lt, beq_dec, bne_dec, cond_dec, cond_nt, if_true, if_false, decide_true, decide_false, cond_true, cond_false, u8_inj, cells_div, sz_int, sz_u8, sz_list, sz_Symbol, sz_Signature, sz_Equation, sz_Binding, sz_Algebra, sz_Entry, sz_Completion, sz_Theory, sz_Put, sz_Disk, sz_Act, sz_IntResult, sz_IntsResult, sz_BytesResult, sz_TextResult, sz_SignatureResult, sz_TermResult, sz_TermsResult, sz_EquationResult, sz_EquationsResult, sz_KeyResult, sz_BindingResult, sz_RedexResult, sz_NormalResult, sz_AlgebraResult, sz_EntryResult, sz_CompletionResult, sz_TheoryResult, sz_DiskResult, inB_nat, Int.toNat_natCast, get0, get1, get2, get3, get4, get5, get6, get7, get8, Nat.reduceLT, Option.bind_some, List.getElem?_cons_zero, List.getElem?_cons_succ, oInt_int, oBool_bool, oStr_str, oSl_slc, oAgg_agg, oTup_tup, oCons_cons, oNil_nil, sl_cells, Bool.false_eq_true, if_false, gt_iff_lt]
      by_cases h3 : s.length < p.length
      · simp only [h3, if_true]
      · simp only [h3, if_false]
        have two := any_loop (n := p.length) (bad := fun k => p[k]?.any fun x => decide (idx (fun y => decide (y.sector = x.sector)) p ≠ (k : Nat)))
          (S := fun m k => impl_DiskFault.at2 (p.length + 1) m (impl_DiskFault.st2 (cells p) p.length (k : Nat) (cells s) (cells p))) (r := some (.int .i64 6, [])) (z := some (.int .i64 0, []))
          (fun m k h => by
            have hlk : p[k]? = some p[k] := List.getElem?_eq_getElem h
            simp only [impl_DiskFault.next2, impl_DiskFault.round2, Int.ofNat_lt, beq_dec, bne_dec, cond_dec, cond_nt, if_true, if_false, decide_true, decide_false, cond_true, cond_false, u8_inj, cells_div, sz_int, sz_u8, sz_list, sz_Symbol, sz_Signature, sz_Equation, sz_Binding, sz_Algebra, sz_Entry, sz_Completion, sz_Theory, sz_Put, sz_Disk, sz_Act, sz_IntResult, sz_IntsResult, sz_BytesResult, sz_TextResult, sz_SignatureResult, sz_TermResult, sz_TermsResult, sz_EquationResult, sz_EquationsResult, sz_KeyResult, sz_BindingResult, sz_RedexResult, sz_NormalResult, sz_AlgebraResult, sz_EntryResult, sz_CompletionResult, sz_TheoryResult, sz_DiskResult, inB_nat, Int.toNat_natCast, get0, get1, get2, get3, get4, get5, get6, get7, get8, Nat.reduceLT, Option.bind_some, List.getElem?_cons_zero, List.getElem?_cons_succ, oInt_int, oBool_bool, oStr_str, oSl_slc, oAgg_agg, oTup_tup, oCons_cons, oNil_nil, sl_cells, h, hlk, enc_Put, (impl_Disk_putFor s p hs.2 _).eq]
            rw [wrap_succ (by omega)]
            by_cases e : idx (fun y => decide (y.sector = p[k].sector)) p = (k : Int) <;> simp [e])
          (fun m => by simp only [impl_DiskFault.next2, impl_DiskFault.round2, Int.ofNat_lt, beq_dec, bne_dec, cond_dec, cond_nt, if_true, if_false, decide_true, decide_false, cond_true, cond_false, u8_inj, cells_div, sz_int, sz_u8, sz_list, sz_Symbol, sz_Signature, sz_Equation, sz_Binding, sz_Algebra, sz_Entry, sz_Completion, sz_Theory, sz_Put, sz_Disk, sz_Act, sz_IntResult, sz_IntsResult, sz_BytesResult, sz_TextResult, sz_SignatureResult, sz_TermResult, sz_TermsResult, sz_EquationResult, sz_EquationsResult, sz_KeyResult, sz_BindingResult, sz_RedexResult, sz_NormalResult, sz_AlgebraResult, sz_EntryResult, sz_CompletionResult, sz_TheoryResult, sz_DiskResult, inB_nat, Int.toNat_natCast, get0, get1, get2, get3, get4, get5, get6, get7, get8, Nat.reduceLT, Option.bind_some, List.getElem?_cons_zero, List.getElem?_cons_succ, oInt_int, oBool_bool, oStr_str, oSl_slc, oAgg_agg, oTup_tup, oCons_cons, oNil_nil, sl_cells, Nat.lt_irrefl]) (Nat.lt_succ_self _)
        have one := scan_loop (l := p) (g := fun x => (putFault s.length x).map fun c => some (.int .i64 c, []))
          (S := fun m k => impl_DiskFault.at0 (p.length + 1) m (impl_DiskFault.st0 (cells p) p.length (k : Nat) (cells s) (cells p)))
          (fun m k h => by
            have hlk : p[k]? = some p[k] := List.getElem?_eq_getElem h
            simp only [impl_DiskFault.next0, impl_DiskFault.round0, Int.ofNat_lt, beq_dec, bne_dec, cond_dec, cond_nt, if_true, if_false, decide_true, decide_false, cond_true, cond_false, u8_inj, cells_div, sz_int, sz_u8, sz_list, sz_Symbol, sz_Signature, sz_Equation, sz_Binding, sz_Algebra, sz_Entry, sz_Completion, sz_Theory, sz_Put, sz_Disk, sz_Act, sz_IntResult, sz_IntsResult, sz_BytesResult, sz_TextResult, sz_SignatureResult, sz_TermResult, sz_TermsResult, sz_EquationResult, sz_EquationsResult, sz_KeyResult, sz_BindingResult, sz_RedexResult, sz_NormalResult, sz_AlgebraResult, sz_EntryResult, sz_CompletionResult, sz_TheoryResult, sz_DiskResult, inB_nat, Int.toNat_natCast, get0, get1, get2, get3, get4, get5, get6, get7, get8, Nat.reduceLT, Option.bind_some, List.getElem?_cons_zero, List.getElem?_cons_succ, oInt_int, oBool_bool, oStr_str, oSl_slc, oAgg_agg, oTup_tup, oCons_cons, oNil_nil, sl_cells, h, hlk, enc_Put, (impl_Disk_has s p hs.1 _).eq]
            rw [wrap_succ (by omega)]
            cases h5 : inR p[k].sector 0 (s.length - 1) with
            | false => simp [putFault, h5]
            | true =>
              by_cases h6 : p[k].bytes.length = 96
              · simp [putFault, h5, h6]
              · have : ¬ ((p[k].bytes.length : Int) = 96) := by omega
                simp [putFault, h5, h6, this])
          (fun m => by simp only [impl_DiskFault.next0, impl_DiskFault.round0, Int.ofNat_lt, beq_dec, bne_dec, cond_dec, cond_nt, if_true, if_false, decide_true, decide_false, cond_true, cond_false, u8_inj, cells_div, sz_int, sz_u8, sz_list, sz_Symbol, sz_Signature, sz_Equation, sz_Binding, sz_Algebra, sz_Entry, sz_Completion, sz_Theory, sz_Put, sz_Disk, sz_Act, sz_IntResult, sz_IntsResult, sz_BytesResult, sz_TextResult, sz_SignatureResult, sz_TermResult, sz_TermsResult, sz_EquationResult, sz_EquationsResult, sz_KeyResult, sz_BindingResult, sz_RedexResult, sz_NormalResult, sz_AlgebraResult, sz_EntryResult, sz_CompletionResult, sz_TheoryResult, sz_DiskResult, inB_nat, Int.toNat_natCast, get0, get1, get2, get3, get4, get5, get6, get7, get8, Nat.reduceLT, Option.bind_some, List.getElem?_cons_zero, List.getElem?_cons_succ, oInt_int, oBool_bool, oStr_str, oSl_slc, oAgg_agg, oTup_tup, oCons_cons, oNil_nil, sl_cells, Nat.lt_irrefl]; rfl) (Nat.lt_succ_self _)
        refine one.trans ?_
        rw [show impl_DiskFault.at2 (p.length + 1) (p.length + 1) (impl_DiskFault.st2 (cells p) p.length 0 (cells s) (cells p)) = _ from two, twice_first (fun y : Put => y.sector), findSome_map]
        cases p.findSome? (putFault s.length) with
        | some c => rfl
        | none => cases twice (p.map fun x => x.sector) <;> rfl
theorem spec_DiskFault (s : List (List UInt8)) (p : List Put) (hs : sm 4294967296 (Disk.mk s p)) : Call F.spec_DiskFault [.agg [slc s, slc p]] (.int .i64 (diskFault ⟨s, p⟩)) := by
  have hp : p.length ≤ 4294967296 := hs.2.1
  have hl : s.length ≤ 4294967296 := hs.1.1
  obtain ⟨n, hn⟩ : ∃ n, n = s.length + p.length + 1 := ⟨_, rfl⟩
  refine call_of rfl n ((spec_DiskFault.ev _ _ _).trans ?_)
  simp only [Int.ofNat_lt, beq_dec, bne_dec, cond_dec, cond_nt, if_true, if_false, decide_true, decide_false, cond_true, cond_false, u8_inj, cells_div, sz_int, sz_u8, sz_list, sz_Symbol, sz_Signature, sz_Equation, sz_Binding, sz_Algebra, sz_Entry, sz_Completion, sz_Theory, sz_Put, sz_Disk, sz_Act, sz_IntResult, sz_IntsResult, sz_BytesResult, sz_TextResult, sz_SignatureResult, sz_TermResult, sz_TermsResult, sz_EquationResult, sz_EquationsResult, sz_KeyResult, sz_BindingResult, sz_RedexResult, sz_NormalResult, sz_AlgebraResult, sz_EntryResult, sz_CompletionResult, sz_TheoryResult, sz_DiskResult, inB_nat, Int.toNat_natCast, get0, get1, get2, get3, get4, get5, get6, get7, get8, Nat.reduceLT, Option.bind_some, List.getElem?_cons_zero, List.getElem?_cons_succ, oInt_int, oBool_bool, oStr_str, oSl_slc, oAgg_agg, oTup_tup, oCons_cons, oNil_nil, sl_cells, (spec_l1In _ _ _).eq, diskFault]
  cases h1 : inR s.length 8 64 with
  | false => simp only [Int.ofNat_lt, beq_dec, bne_dec, cond_dec, cond_nt, if_true, if_false, decide_true, decide_false, cond_true, cond_false, u8_inj, cells_div, sz_int, sz_u8, sz_list, sz_Symbol, sz_Signature, sz_Equation, sz_Binding, sz_Algebra, sz_Entry, sz_Completion, sz_Theory, sz_Put, sz_Disk, sz_Act, sz_IntResult, sz_IntsResult, sz_BytesResult, sz_TextResult, sz_SignatureResult, sz_TermResult, sz_TermsResult, sz_EquationResult, sz_EquationsResult, sz_KeyResult, sz_BindingResult, sz_RedexResult, sz_NormalResult, sz_AlgebraResult, sz_EntryResult, sz_CompletionResult, sz_TheoryResult, sz_DiskResult, inB_nat, Int.toNat_natCast, get0, get1, get2, get3, get4, get5, get6, get7, get8, Nat.reduceLT, Option.bind_some, List.getElem?_cons_zero, List.getElem?_cons_succ, oInt_int, oBool_bool, oStr_str, oSl_slc, oAgg_agg, oTup_tup, oCons_cons, oNil_nil, sl_cells, if_true]
  | true =>
    simp only [Int.ofNat_lt, beq_dec, bne_dec, cond_dec, cond_nt, if_true, if_false, decide_true, decide_false, cond_true, cond_false, u8_inj, cells_div, sz_int, sz_u8, sz_list, sz_Symbol, sz_Signature, sz_Equation, sz_Binding, sz_Algebra, sz_Entry, sz_Completion, sz_Theory, sz_Put, sz_Disk, sz_Act, sz_IntResult, sz_IntsResult, sz_BytesResult, sz_TextResult, sz_SignatureResult, sz_TermResult, sz_TermsResult, sz_EquationResult, sz_EquationsResult, sz_KeyResult, sz_BindingResult, sz_RedexResult, sz_NormalResult, sz_AlgebraResult, sz_EntryResult, sz_CompletionResult, sz_TheoryResult, sz_DiskResult, inB_nat, Int.toNat_natCast, get0, get1, get2, get3, get4, get5, get6, get7, get8, Nat.reduceLT, Option.bind_some, List.getElem?_cons_zero, List.getElem?_cons_succ, oInt_int, oBool_bool, oStr_str, oSl_slc, oAgg_agg, oTup_tup, oCons_cons, oNil_nil, sl_cells, Bool.true_eq_false, if_false, gt_iff_lt]
    have four := any_loop (n := p.length) (bad := fun i => (List.range i).any fun j => p[i]?.any fun x => p[j]?.any fun y => decide (x.sector = y.sector))
      (S := fun m i => spec_DiskFault.at4 n m (spec_DiskFault.st4 (i : Nat) (cells s) (cells p))) (r := some (.int .i64 6, [])) (z := some (.int .i64 0, []))
      (fun m i h => by
        have hlk : p[i]? = some p[i] := List.getElem?_eq_getElem h
        simp only [spec_DiskFault.next4, spec_DiskFault.round4, Int.ofNat_lt, beq_dec, bne_dec, cond_dec, cond_nt, if_true, if_false, decide_true, decide_false, cond_true, cond_false, u8_inj, cells_div, sz_int, sz_u8, sz_list, sz_Symbol, sz_Signature, sz_Equation, sz_Binding, sz_Algebra, sz_Entry, sz_Completion, sz_Theory, sz_Put, sz_Disk, sz_Act, sz_IntResult, sz_IntsResult, sz_BytesResult, sz_TextResult, sz_SignatureResult, sz_TermResult, sz_TermsResult, sz_EquationResult, sz_EquationsResult, sz_KeyResult, sz_BindingResult, sz_RedexResult, sz_NormalResult, sz_AlgebraResult, sz_EntryResult, sz_CompletionResult, sz_TheoryResult, sz_DiskResult, inB_nat, Int.toNat_natCast, get0, get1, get2, get3, get4, get5, get6, get7, get8, Nat.reduceLT, Option.bind_some, List.getElem?_cons_zero, List.getElem?_cons_succ, oInt_int, oBool_bool, oStr_str, oSl_slc, oAgg_agg, oTup_tup, oCons_cons, oNil_nil, sl_cells, h]
        refine any_loop (n := i) (f := n) (bad := fun j => p[i]?.any fun x => p[j]?.any fun y => decide (x.sector = y.sector))
          (S := fun m' j => spec_DiskFault.at6 n (spec_DiskFault.at4 n m) m' (spec_DiskFault.st6 (i : Nat) (j : Nat) (cells s) (cells p))) (fun m' j hj => ?_) (fun m' => ?_) (by omega)
        · have hj' : j < p.length := by omega
          have hjk : p[j]? = some p[j] := List.getElem?_eq_getElem hj'
          simp only [spec_DiskFault.next6, spec_DiskFault.round6, Int.ofNat_lt, beq_dec, bne_dec, cond_dec, cond_nt, if_true, if_false, decide_true, decide_false, cond_true, cond_false, u8_inj, cells_div, sz_int, sz_u8, sz_list, sz_Symbol, sz_Signature, sz_Equation, sz_Binding, sz_Algebra, sz_Entry, sz_Completion, sz_Theory, sz_Put, sz_Disk, sz_Act, sz_IntResult, sz_IntsResult, sz_BytesResult, sz_TextResult, sz_SignatureResult, sz_TermResult, sz_TermsResult, sz_EquationResult, sz_EquationsResult, sz_KeyResult, sz_BindingResult, sz_RedexResult, sz_NormalResult, sz_AlgebraResult, sz_EntryResult, sz_CompletionResult, sz_TheoryResult, sz_DiskResult, inB_nat, Int.toNat_natCast, get0, get1, get2, get3, get4, get5, get6, get7, get8, Nat.reduceLT, Option.bind_some, List.getElem?_cons_zero, List.getElem?_cons_succ, oInt_int, oBool_bool, oStr_str, oSl_slc, oAgg_agg, oTup_tup, oCons_cons, oNil_nil, sl_cells, h, hj, hj', hlk, hjk, enc_Put]
          rw [wrap_succ (by omega)]
          by_cases e : p[i].sector = p[j].sector <;> simp [e]
        · simp only [spec_DiskFault.next6, spec_DiskFault.round6, Int.ofNat_lt, beq_dec, bne_dec, cond_dec, cond_nt, if_true, if_false, decide_true, decide_false, cond_true, cond_false, u8_inj, cells_div, sz_int, sz_u8, sz_list, sz_Symbol, sz_Signature, sz_Equation, sz_Binding, sz_Algebra, sz_Entry, sz_Completion, sz_Theory, sz_Put, sz_Disk, sz_Act, sz_IntResult, sz_IntsResult, sz_BytesResult, sz_TextResult, sz_SignatureResult, sz_TermResult, sz_TermsResult, sz_EquationResult, sz_EquationsResult, sz_KeyResult, sz_BindingResult, sz_RedexResult, sz_NormalResult, sz_AlgebraResult, sz_EntryResult, sz_CompletionResult, sz_TheoryResult, sz_DiskResult, inB_nat, Int.toNat_natCast, get0, get1, get2, get3, get4, get5, get6, get7, get8, Nat.reduceLT, Option.bind_some, List.getElem?_cons_zero, List.getElem?_cons_succ, oInt_int, oBool_bool, oStr_str, oSl_slc, oAgg_agg, oTup_tup, oCons_cons, oNil_nil, sl_cells, Nat.lt_irrefl]
          rw [wrap_succ (by omega)])
      (fun m => by simp only [spec_DiskFault.next4, spec_DiskFault.round4, Int.ofNat_lt, beq_dec, bne_dec, cond_dec, cond_nt, if_true, if_false, decide_true, decide_false, cond_true, cond_false, u8_inj, cells_div, sz_int, sz_u8, sz_list, sz_Symbol, sz_Signature, sz_Equation, sz_Binding, sz_Algebra, sz_Entry, sz_Completion, sz_Theory, sz_Put, sz_Disk, sz_Act, sz_IntResult, sz_IntsResult, sz_BytesResult, sz_TextResult, sz_SignatureResult, sz_TermResult, sz_TermsResult, sz_EquationResult, sz_EquationsResult, sz_KeyResult, sz_BindingResult, sz_RedexResult, sz_NormalResult, sz_AlgebraResult, sz_EntryResult, sz_CompletionResult, sz_TheoryResult, sz_DiskResult, inB_nat, Int.toNat_natCast, get0, get1, get2, get3, get4, get5, get6, get7, get8, Nat.reduceLT, Option.bind_some, List.getElem?_cons_zero, List.getElem?_cons_succ, oInt_int, oBool_bool, oStr_str, oSl_slc, oAgg_agg, oTup_tup, oCons_cons, oNil_nil, sl_cells, Nat.lt_irrefl]) (show p.length < n by omega)
    have two := scan_loop (l := p) (g := fun x => (putFault s.length x).map fun c => some (.int .i64 c, []))
      (S := fun m k => spec_DiskFault.at2 n m (spec_DiskFault.st2 s.length (k : Nat) (cells s) (cells p)))
      (fun m k h => by
        have hlk : p[k]? = some p[k] := List.getElem?_eq_getElem h
        simp only [spec_DiskFault.next2, spec_DiskFault.round2, Int.ofNat_lt, beq_dec, bne_dec, cond_dec, cond_nt, if_true, if_false, decide_true, decide_false, cond_true, cond_false, u8_inj, cells_div, sz_int, sz_u8, sz_list, sz_Symbol, sz_Signature, sz_Equation, sz_Binding, sz_Algebra, sz_Entry, sz_Completion, sz_Theory, sz_Put, sz_Disk, sz_Act, sz_IntResult, sz_IntsResult, sz_BytesResult, sz_TextResult, sz_SignatureResult, sz_TermResult, sz_TermsResult, sz_EquationResult, sz_EquationsResult, sz_KeyResult, sz_BindingResult, sz_RedexResult, sz_NormalResult, sz_AlgebraResult, sz_EntryResult, sz_CompletionResult, sz_TheoryResult, sz_DiskResult, inB_nat, Int.toNat_natCast, get0, get1, get2, get3, get4, get5, get6, get7, get8, Nat.reduceLT, Option.bind_some, List.getElem?_cons_zero, List.getElem?_cons_succ, oInt_int, oBool_bool, oStr_str, oSl_slc, oAgg_agg, oTup_tup, oCons_cons, oNil_nil, sl_cells, h, hlk, enc_Put, wrap64 (x := (s.length : Int) - 1) (by omega), (spec_l1In _ _ _).eq]
        rw [wrap_succ (by omega)]
        cases h5 : inR p[k].sector 0 (s.length - 1) with
        | false => simp [putFault, h5]
        | true =>
          by_cases h6 : p[k].bytes.length = 96
          · simp [putFault, h5, h6]
          · have : ¬ ((p[k].bytes.length : Int) = 96) := by omega
            simp [putFault, h5, h6, this])
      (fun m => by simp only [spec_DiskFault.next2, spec_DiskFault.round2, Int.ofNat_lt, beq_dec, bne_dec, cond_dec, cond_nt, if_true, if_false, decide_true, decide_false, cond_true, cond_false, u8_inj, cells_div, sz_int, sz_u8, sz_list, sz_Symbol, sz_Signature, sz_Equation, sz_Binding, sz_Algebra, sz_Entry, sz_Completion, sz_Theory, sz_Put, sz_Disk, sz_Act, sz_IntResult, sz_IntsResult, sz_BytesResult, sz_TextResult, sz_SignatureResult, sz_TermResult, sz_TermsResult, sz_EquationResult, sz_EquationsResult, sz_KeyResult, sz_BindingResult, sz_RedexResult, sz_NormalResult, sz_AlgebraResult, sz_EntryResult, sz_CompletionResult, sz_TheoryResult, sz_DiskResult, inB_nat, Int.toNat_natCast, get0, get1, get2, get3, get4, get5, get6, get7, get8, Nat.reduceLT, Option.bind_some, List.getElem?_cons_zero, List.getElem?_cons_succ, oInt_int, oBool_bool, oStr_str, oSl_slc, oAgg_agg, oTup_tup, oCons_cons, oNil_nil, sl_cells, Nat.lt_irrefl]; rfl) (show p.length < n by omega)
    have zero := any_loopL (l := s) (p := fun x => decide (x.length ≠ 96)) (S := fun m k => spec_DiskFault.at0 n m (spec_DiskFault.st0 s.length (k : Nat) (cells s) (cells p))) (r := some (.int .i64 1, []))
      (fun m k h => by
        have hlk : s[k]? = some s[k] := List.getElem?_eq_getElem h
        simp only [spec_DiskFault.next0, spec_DiskFault.round0, Int.ofNat_lt, beq_dec, bne_dec, cond_dec, cond_nt, if_true, if_false, decide_true, decide_false, cond_true, cond_false, u8_inj, cells_div, sz_int, sz_u8, sz_list, sz_Symbol, sz_Signature, sz_Equation, sz_Binding, sz_Algebra, sz_Entry, sz_Completion, sz_Theory, sz_Put, sz_Disk, sz_Act, sz_IntResult, sz_IntsResult, sz_BytesResult, sz_TextResult, sz_SignatureResult, sz_TermResult, sz_TermsResult, sz_EquationResult, sz_EquationsResult, sz_KeyResult, sz_BindingResult, sz_RedexResult, sz_NormalResult, sz_AlgebraResult, sz_EntryResult, sz_CompletionResult, sz_TheoryResult, sz_DiskResult, inB_nat, Int.toNat_natCast, get0, get1, get2, get3, get4, get5, get6, get7, get8, Nat.reduceLT, Option.bind_some, List.getElem?_cons_zero, List.getElem?_cons_succ, oInt_int, oBool_bool, oStr_str, oSl_slc, oAgg_agg, oTup_tup, oCons_cons, oNil_nil, sl_cells, h, hlk, enc_list]
        rw [wrap_succ (by omega)]
        by_cases h6 : s[k].length = 96
        · simp [h6]
        · have : ¬ ((s[k].length : Int) = 96) := by omega
          simp [h6, this])
      (fun m => by simp only [spec_DiskFault.next0, spec_DiskFault.round0, Int.ofNat_lt, beq_dec, bne_dec, cond_dec, cond_nt, if_true, if_false, decide_true, decide_false, cond_true, cond_false, u8_inj, cells_div, sz_int, sz_u8, sz_list, sz_Symbol, sz_Signature, sz_Equation, sz_Binding, sz_Algebra, sz_Entry, sz_Completion, sz_Theory, sz_Put, sz_Disk, sz_Act, sz_IntResult, sz_IntsResult, sz_BytesResult, sz_TextResult, sz_SignatureResult, sz_TermResult, sz_TermsResult, sz_EquationResult, sz_EquationsResult, sz_KeyResult, sz_BindingResult, sz_RedexResult, sz_NormalResult, sz_AlgebraResult, sz_EntryResult, sz_CompletionResult, sz_TheoryResult, sz_DiskResult, inB_nat, Int.toNat_natCast, get0, get1, get2, get3, get4, get5, get6, get7, get8, Nat.reduceLT, Option.bind_some, List.getElem?_cons_zero, List.getElem?_cons_succ, oInt_int, oBool_bool, oStr_str, oSl_slc, oAgg_agg, oTup_tup, oCons_cons, oNil_nil, sl_cells, Nat.lt_irrefl, gt_iff_lt]; rfl) (show s.length < n by omega)
    refine zero.trans ?_
    cases h2 : s.any fun x => decide (x.length ≠ 96) with
    | true => simp only [if_true]
    | false =>
      simp only [Bool.false_eq_true, if_false]
      by_cases h3 : s.length < p.length
      · simp only [h3, if_true]
      · simp only [h3, if_false]
        refine two.trans ?_
        rw [show spec_DiskFault.at4 n n (spec_DiskFault.st4 0 (cells s) (cells p)) = _ from four, findSome_map]
        cases p.findSome? (putFault s.length) with
        | some c => rfl
        | none => rw [twice_pairs]; cases twice (p.map fun x => x.sector) <;> rfl
theorem laws_FnExactDiskFault (d : Disk) (hl : sm maxLen d) : Call F.laws_FnExactDiskFault [.agg (enc d)] (.bool true) := by
  obtain ⟨r1, c1, h1, p1⟩ := laws_szDisk d.sectors d.pending 1048576 (by omega) (by omega) hl
  by_cases n1 : r1 < 0
  · exact call_of rfl 0 ((laws_FnExactDiskFault.ev _ _ _).trans (by simp only [Int.ofNat_lt, beq_dec, bne_dec, cond_dec, cond_nt, if_true, if_false, decide_true, decide_false, cond_true, cond_false, u8_inj, cells_div, sz_int, sz_u8, sz_list, sz_Symbol, sz_Signature, sz_Equation, sz_Binding, sz_Algebra, sz_Entry, sz_Completion, sz_Theory, sz_Put, sz_Disk, sz_Act, sz_IntResult, sz_IntsResult, sz_BytesResult, sz_TextResult, sz_SignatureResult, sz_TermResult, sz_TermsResult, sz_EquationResult, sz_EquationsResult, sz_KeyResult, sz_BindingResult, sz_RedexResult, sz_NormalResult, sz_AlgebraResult, sz_EntryResult, sz_CompletionResult, sz_TheoryResult, sz_DiskResult, inB_nat, Int.toNat_natCast, get0, get1, get2, get3, get4, get5, get6, get7, get8, Nat.reduceLT, Option.bind_some, List.getElem?_cons_zero, List.getElem?_cons_succ, oInt_int, oBool_bool, oStr_str, oSl_slc, oAgg_agg, oTup_tup, oCons_cons, oNil_nil, sl_cells, c1.eq, n1]))
  have sl := sm_mono (show 1048576 ≤ 4294967296 by omega) (p1 (by omega))
  exact call_of rfl 0 ((laws_FnExactDiskFault.ev _ _ _).trans (by simp only [Int.ofNat_lt, beq_dec, bne_dec, cond_dec, cond_nt, if_true, if_false, decide_true, decide_false, cond_true, cond_false, u8_inj, cells_div, sz_int, sz_u8, sz_list, sz_Symbol, sz_Signature, sz_Equation, sz_Binding, sz_Algebra, sz_Entry, sz_Completion, sz_Theory, sz_Put, sz_Disk, sz_Act, sz_IntResult, sz_IntsResult, sz_BytesResult, sz_TextResult, sz_SignatureResult, sz_TermResult, sz_TermsResult, sz_EquationResult, sz_EquationsResult, sz_KeyResult, sz_BindingResult, sz_RedexResult, sz_NormalResult, sz_AlgebraResult, sz_EntryResult, sz_CompletionResult, sz_TheoryResult, sz_DiskResult, inB_nat, Int.toNat_natCast, get0, get1, get2, get3, get4, get5, get6, get7, get8, Nat.reduceLT, Option.bind_some, List.getElem?_cons_zero, List.getElem?_cons_succ, oInt_int, oBool_bool, oStr_str, oSl_slc, oAgg_agg, oTup_tup, oCons_cons, oNil_nil, sl_cells, c1.eq, n1, (laws_toDisk _ _ sl).eq, (spec_DiskFault _ _ sl).eq, (impl_DiskFault _ _ sl).eq, (laws_eqDisk _ _ _ _ sl).eq]))
end Ev.Ty
