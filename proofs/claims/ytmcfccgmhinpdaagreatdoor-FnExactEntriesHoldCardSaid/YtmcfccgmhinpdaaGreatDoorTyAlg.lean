/- Algebras: what is wrong with one. -/
import Derived.Test.YtmcfccgmhinpdaaGreatDoorTySig
namespace Ev.Ty
open Go Ev
open Enc (enc)
open Sm (sm)
set_option linter.unusedSimpArgs false
set_option linter.unusedVariables false

theorem inR_iff {n a b : Int} : inR n a b = true ↔ a ≤ n ∧ n ≤ b := by unfold inR; simp
theorem inR_false {n a b : Int} : inR n a b = false ↔ ¬ (a ≤ n ∧ n ≤ b) := by unfold inR; simp
/-- What a right signature is. -/
structure SigOk (s : Signature) : Prop where
  pos : 1 ≤ s.symbols.length
  le : s.symbols.length ≤ 6
  name : ∀ x ∈ s.symbols, nameOk x.name = true
  arity : ∀ x ∈ s.symbols, 0 ≤ x.arity ∧ x.arity ≤ 2
  nodup : (s.symbols.map (·.name)).Nodup
  const : ∃ x ∈ s.symbols, x.arity = 0
theorem findSome_none {α β : Type} {f : α → Option β} : ∀ {l : List α}, l.findSome? f = none ↔ ∀ x ∈ l, f x = none
  | [] => by simp
  | x :: l => by
    rw [List.findSome?_cons]
    cases h : f x with
    | some b => simp [h]
    | none => simp [h, findSome_none (l := l)]
theorem sigOk_iff (s : Signature) : sigFault s = 0 ↔ SigOk s := by
  unfold sigFault
  constructor
  · intro h
    split at h
    · cases h
    · rename_i h1
      split at h
      · rename_i c hc
        obtain ⟨x, hx, hf⟩ := List.exists_of_findSome?_eq_some hc
        unfold symFault at hf
        split at hf
        · cases hf; cases h
        · split at hf
          · cases hf; cases h
          · cases hf
      · rename_i hn
        rw [findSome_none] at hn
        split at h
        · cases h
        · rename_i ht
          split at h
          · rename_i ha
            have hx : ∀ x ∈ s.symbols, nameOk x.name = true ∧ inR x.arity 0 2 = true := fun x hx => by
              have := hn x hx
              unfold symFault at this
              split at this
              · cases this
              · split at this
                · cases this
                · rename_i h1 h2; exact ⟨by simpa using h1, by simpa using h2⟩
            refine ⟨by omega, by omega, fun x h => (hx x h).1, fun x h => inR_iff.1 (hx x h).2, ?_, ?_⟩
            · unfold twice at ht; simpa using ht
            · rw [List.any_eq_true] at ha
              obtain ⟨x, h1, h2⟩ := ha
              exact ⟨x, h1, by simpa using h2⟩
          · cases h
  · intro h
    rw [if_neg (by have := h.pos; have := h.le; omega)]
    have : s.symbols.findSome? symFault = none := findSome_none.2 fun x hx => by
      unfold symFault
      rw [if_neg (by simp [h.name x hx]), if_neg (by have := inR_iff.2 (h.arity x hx); simp [this])]
    rw [this]
    simp only
    rw [if_neg (by unfold twice; simpa using h.nodup), if_pos]
    rw [List.any_eq_true]
    obtain ⟨x, h1, h2⟩ := h.const
    exact ⟨x, h1, by simpa using h2⟩

theorem pow_small {z k : Nat} (hz : z ≤ 3) (hk : k ≤ 12) : z ^ k ≤ 531441 :=
  Nat.le_trans (Nat.pow_le_pow_left hz k) (Nat.le_trans (Nat.pow_le_pow_right (by omega) hk) (by decide))
theorem impl_power (z r : Nat) (hz : z ≤ 3) (hr : r ≤ 12) : Call F.impl_power [.int .i64 z, .int .i64 r] (.int .i64 (z ^ r : Nat)) := by
  refine call_of rfl (r + 1) ((impl_power.ev _ _ _).trans ?_)
  have : ∀ m k, k ≤ r → r < m + k → impl_power.at0 (r + 1) m (impl_power.st0 z (z ^ k : Nat) r (k : Nat)) = some (.int .i64 (z ^ r : Nat), []) := by
    intro m
    induction m with
    | zero => intros; omega
    | succ m ih =>
      intro k hk hm
      simp only [impl_power.next0, impl_power.round0, Int.ofNat_lt, str_inj, beq_dec, bne_dec, cond_dec, cond_nt, if_true, if_false, decide_true, decide_false, cond_true, cond_false, u8_inj, cells_div, sz_int, sz_u8, sz_list, sz_Symbol, sz_Signature, sz_Equation, sz_Binding, sz_Algebra, sz_Entry, sz_Completion, sz_Theory, sz_Put, sz_Disk, sz_Act, sz_IntResult, sz_IntsResult, sz_BytesResult, sz_TextResult, sz_SignatureResult, sz_TermResult, sz_TermsResult, sz_EquationResult, sz_EquationsResult, sz_KeyResult, sz_BindingResult, sz_RedexResult, sz_NormalResult, sz_AlgebraResult, sz_EntryResult, sz_CompletionResult, sz_TheoryResult, sz_DiskResult, inB_nat, Int.toNat_natCast, get0, get1, get2, get3, get4, get5, get6, get7, get8, Nat.reduceLT, bind_of, List.getElem?_cons_zero, List.getElem?_cons_succ, oInt_int, oBool_bool, oStr_str, oSl_slc, oAgg_agg, oTup_tup, oCons_cons, oNil_nil, sl_cells]
      by_cases h : k < r
      · have hb := pow_small (k := k.succ) hz (by omega)
        rw [if_pos h, wrap_succ (by omega), ← Int.natCast_mul, ← Nat.pow_succ, wrap64 (by omega)]
        exact ih (k + 1) (by omega) (by omega)
      · obtain rfl : k = r := by omega
        rw [if_neg h]
  exact this (r + 1) 0 (by omega) (by omega)
theorem spec_l10Pow (z r : Nat) (hz : z ≤ 3) (hr : r ≤ 12) : Call F.spec_l10Pow [.int .i64 z, .int .i64 r] (.int .i64 (z ^ r : Nat)) := by
  induction r with
  | zero => exact call_of rfl 0 ((spec_l10Pow.ev _ _ _).trans rfl)
  | succ r ih =>
    refine call_of rfl 0 ((spec_l10Pow.ev _ _ _).trans ?_)
    have hb := pow_small (k := r.succ) hz hr
    have h1 : ¬ (((r + 1 : Nat) : Int) = 0) := by omega
    have h2 : IntKind.wrap .i64 (((r + 1 : Nat) : Int) - 1) = (r : Nat) := by rw [wrap64 (by omega)]; omega
    simp only [Int.ofNat_lt, str_inj, beq_dec, bne_dec, cond_dec, cond_nt, if_true, if_false, decide_true, decide_false, cond_true, cond_false, u8_inj, cells_div, sz_int, sz_u8, sz_list, sz_Symbol, sz_Signature, sz_Equation, sz_Binding, sz_Algebra, sz_Entry, sz_Completion, sz_Theory, sz_Put, sz_Disk, sz_Act, sz_IntResult, sz_IntsResult, sz_BytesResult, sz_TextResult, sz_SignatureResult, sz_TermResult, sz_TermsResult, sz_EquationResult, sz_EquationsResult, sz_KeyResult, sz_BindingResult, sz_RedexResult, sz_NormalResult, sz_AlgebraResult, sz_EntryResult, sz_CompletionResult, sz_TheoryResult, sz_DiskResult, inB_nat, Int.toNat_natCast, get0, get1, get2, get3, get4, get5, get6, get7, get8, Nat.reduceLT, bind_of, List.getElem?_cons_zero, List.getElem?_cons_succ, oInt_int, oBool_bool, oStr_str, oSl_slc, oAgg_agg, oTup_tup, oCons_cons, oNil_nil, sl_cells, h1, h2, (ih (by omega)).eq]
    rw [← Int.natCast_mul, Nat.mul_comm, ← Nat.pow_succ, wrap64 (by omega)]

/-- What is wrong with the table of a symbol. -/
def tableFault (z : Int) (x : Symbol × List Int) : Option Int :=
  if x.2.length ≠ z.toNat ^ x.1.arity.toNat then some 2 else if x.2.any (fun n => !inR n 0 (z - 1)) then some 3 else none
def algFault (s : Signature) (a : Algebra) : Int :=
  if sigFault s ≠ 0 then sigFault s
  else if inR a.size 1 3 = false then 3
  else if a.tables.length ≠ s.symbols.length then 2
  else match (s.symbols.zip a.tables).findSome? (tableFault a.size) with
    | some c => c
    | none => 0

theorem slices_IndexFunc_Sint64_at1_impl_AlgebraFault_1 (l : List Int) (hs : l.length ≤ 4294967296) (z : Int) (t : List (List Int)) (hz : 1 ≤ z ∧ z ≤ 3) :
    Call F.slices_IndexFunc_Sint64 [slc l, .clo F.impl_AlgebraFault_1 [.rref [.int .i64 z, slc t] 0]] (.int .i64 (idx (fun n => !inR n 0 (z - 1)) l)) := by
  refine call_of rfl (l.length + 1) ((slices_IndexFunc_Sint64_at1_impl_AlgebraFault_1.ev _ _ _ _).trans ?_)
  refine idx_loop (S := fun m k => slices_IndexFunc_Sint64_at1_impl_AlgebraFault_1.at0 (l.length + 1) m (slices_IndexFunc_Sint64_at1_impl_AlgebraFault_1.st0 (cells l) z _ _ (k : Nat))) (fun m k h => ?_) (fun m => ?_) (Nat.lt_succ_self _)
  · have hlk : l[k]? = some l[k] := List.getElem?_eq_getElem h
    have hc : Call F.impl_AlgebraFault_1 [.int .i64 l[k], .rref [.int .i64 z, slc t] 0] (.bool (!inR l[k] 0 (z - 1))) := by
      refine call_of rfl 0 ((impl_AlgebraFault_1.ev _ _ _ _).trans ?_)
      simp only [Int.ofNat_lt, str_inj, beq_dec, bne_dec, cond_dec, cond_nt, if_true, if_false, decide_true, decide_false, cond_true, cond_false, u8_inj, cells_div, sz_int, sz_u8, sz_list, sz_Symbol, sz_Signature, sz_Equation, sz_Binding, sz_Algebra, sz_Entry, sz_Completion, sz_Theory, sz_Put, sz_Disk, sz_Act, sz_IntResult, sz_IntsResult, sz_BytesResult, sz_TextResult, sz_SignatureResult, sz_TermResult, sz_TermsResult, sz_EquationResult, sz_EquationsResult, sz_KeyResult, sz_BindingResult, sz_RedexResult, sz_NormalResult, sz_AlgebraResult, sz_EntryResult, sz_CompletionResult, sz_TheoryResult, sz_DiskResult, inB_nat, Int.toNat_natCast, get0, get1, get2, get3, get4, get5, get6, get7, get8, Nat.reduceLT, bind_of, List.getElem?_cons_zero, List.getElem?_cons_succ, oInt_int, oBool_bool, oStr_str, oSl_slc, oAgg_agg, oTup_tup, oCons_cons, oNil_nil, sl_cells, wrap64 (x := z - 1) (by omega), (impl_within _ _ _).eq]
    simp only [slices_IndexFunc_Sint64_at1_impl_AlgebraFault_1.next0, slices_IndexFunc_Sint64_at1_impl_AlgebraFault_1.round0, Int.ofNat_lt, str_inj, beq_dec, bne_dec, cond_dec, cond_nt, if_true, if_false, decide_true, decide_false, cond_true, cond_false, u8_inj, cells_div, sz_int, sz_u8, sz_list, sz_Symbol, sz_Signature, sz_Equation, sz_Binding, sz_Algebra, sz_Entry, sz_Completion, sz_Theory, sz_Put, sz_Disk, sz_Act, sz_IntResult, sz_IntsResult, sz_BytesResult, sz_TextResult, sz_SignatureResult, sz_TermResult, sz_TermsResult, sz_EquationResult, sz_EquationsResult, sz_KeyResult, sz_BindingResult, sz_RedexResult, sz_NormalResult, sz_AlgebraResult, sz_EntryResult, sz_CompletionResult, sz_TheoryResult, sz_DiskResult, inB_nat, Int.toNat_natCast, get0, get1, get2, get3, get4, get5, get6, get7, get8, Nat.reduceLT, bind_of, List.getElem?_cons_zero, List.getElem?_cons_succ, oInt_int, oBool_bool, oStr_str, oSl_slc, oAgg_agg, oTup_tup, oCons_cons, oNil_nil, sl_cells, h, hlk, enc_int, hc.eq]
    rw [wrap_succ (by omega)]
    cases inR l[k] 0 (z - 1) <;> rfl
  · simp only [slices_IndexFunc_Sint64_at1_impl_AlgebraFault_1.next0, slices_IndexFunc_Sint64_at1_impl_AlgebraFault_1.round0, Int.ofNat_lt, str_inj, beq_dec, bne_dec, cond_dec, cond_nt, if_true, if_false, decide_true, decide_false, cond_true, cond_false, u8_inj, cells_div, sz_int, sz_u8, sz_list, sz_Symbol, sz_Signature, sz_Equation, sz_Binding, sz_Algebra, sz_Entry, sz_Completion, sz_Theory, sz_Put, sz_Disk, sz_Act, sz_IntResult, sz_IntsResult, sz_BytesResult, sz_TextResult, sz_SignatureResult, sz_TermResult, sz_TermsResult, sz_EquationResult, sz_EquationsResult, sz_KeyResult, sz_BindingResult, sz_RedexResult, sz_NormalResult, sz_AlgebraResult, sz_EntryResult, sz_CompletionResult, sz_TheoryResult, sz_DiskResult, inB_nat, Int.toNat_natCast, get0, get1, get2, get3, get4, get5, get6, get7, get8, Nat.reduceLT, bind_of, List.getElem?_cons_zero, List.getElem?_cons_succ, oInt_int, oBool_bool, oStr_str, oSl_slc, oAgg_agg, oTup_tup, oCons_cons, oNil_nil, sl_cells, Nat.lt_irrefl]
theorem slices_ContainsFunc_Sint64_at1_impl_AlgebraFault_1 (l : List Int) (hs : l.length ≤ 4294967296) (z : Int) (t : List (List Int)) (hz : 1 ≤ z ∧ z ≤ 3) :
    Call F.slices_ContainsFunc_Sint64 [slc l, .clo F.impl_AlgebraFault_1 [.rref [.int .i64 z, slc t] 0]] (.bool (l.any fun n => !inR n 0 (z - 1))) := by
  refine call_of rfl 0 ((slices_ContainsFunc_Sint64_at1_impl_AlgebraFault_1.ev _ _ _ _).trans ?_)
  simp only [Int.ofNat_lt, str_inj, beq_dec, bne_dec, cond_dec, cond_nt, if_true, if_false, decide_true, decide_false, cond_true, cond_false, u8_inj, cells_div, sz_int, sz_u8, sz_list, sz_Symbol, sz_Signature, sz_Equation, sz_Binding, sz_Algebra, sz_Entry, sz_Completion, sz_Theory, sz_Put, sz_Disk, sz_Act, sz_IntResult, sz_IntsResult, sz_BytesResult, sz_TextResult, sz_SignatureResult, sz_TermResult, sz_TermsResult, sz_EquationResult, sz_EquationsResult, sz_KeyResult, sz_BindingResult, sz_RedexResult, sz_NormalResult, sz_AlgebraResult, sz_EntryResult, sz_CompletionResult, sz_TheoryResult, sz_DiskResult, inB_nat, Int.toNat_natCast, get0, get1, get2, get3, get4, get5, get6, get7, get8, Nat.reduceLT, bind_of, List.getElem?_cons_zero, List.getElem?_cons_succ, oInt_int, oBool_bool, oStr_str, oSl_slc, oAgg_agg, oTup_tup, oCons_cons, oNil_nil, sl_cells, (slices_IndexFunc_Sint64_at1_impl_AlgebraFault_1 l hs z t hz).eq, idx_nonneg]

theorem cast_ne {a b : Nat} : ((a : Int) = (b : Int)) = (a = b) := by rw [eq_iff_iff]; omega
theorem impl_AlgebraFault (l : List Symbol) (z : Int) (t : List (List Int)) (hs : l.length ≤ 4294967296) (ht : sm 4294967296 t) :
    Call F.impl_AlgebraFault [.agg [slc l], .agg [.int .i64 z, slc t]] (.int .i64 (algFault ⟨l⟩ ⟨z, t⟩)) := by
  have htl := ht.1
  refine call_of rfl (t.length + 1) ((impl_AlgebraFault.ev _ _ _ _).trans ?_)
  simp only [Int.ofNat_lt, str_inj, beq_dec, bne_dec, cond_dec, cond_nt, if_true, if_false, decide_true, decide_false, cond_true, cond_false, u8_inj, cells_div, sz_int, sz_u8, sz_list, sz_Symbol, sz_Signature, sz_Equation, sz_Binding, sz_Algebra, sz_Entry, sz_Completion, sz_Theory, sz_Put, sz_Disk, sz_Act, sz_IntResult, sz_IntsResult, sz_BytesResult, sz_TextResult, sz_SignatureResult, sz_TermResult, sz_TermsResult, sz_EquationResult, sz_EquationsResult, sz_KeyResult, sz_BindingResult, sz_RedexResult, sz_NormalResult, sz_AlgebraResult, sz_EntryResult, sz_CompletionResult, sz_TheoryResult, sz_DiskResult, inB_nat, Int.toNat_natCast, get0, get1, get2, get3, get4, get5, get6, get7, get8, Nat.reduceLT, bind_of, List.getElem?_cons_zero, List.getElem?_cons_succ, oInt_int, oBool_bool, oStr_str, oSl_slc, oAgg_agg, oTup_tup, oCons_cons, oNil_nil, sl_cells, (impl_SignatureFault l hs).eq, (impl_within _ _ _).eq, algFault]
  by_cases h1 : sigFault ⟨l⟩ = 0
  case neg => simp only [h1, Int.ofNat_lt, str_inj, beq_dec, bne_dec, cond_dec, cond_nt, if_true, if_false, decide_true, decide_false, cond_true, cond_false, u8_inj, cells_div, sz_int, sz_u8, sz_list, sz_Symbol, sz_Signature, sz_Equation, sz_Binding, sz_Algebra, sz_Entry, sz_Completion, sz_Theory, sz_Put, sz_Disk, sz_Act, sz_IntResult, sz_IntsResult, sz_BytesResult, sz_TextResult, sz_SignatureResult, sz_TermResult, sz_TermsResult, sz_EquationResult, sz_EquationsResult, sz_KeyResult, sz_BindingResult, sz_RedexResult, sz_NormalResult, sz_AlgebraResult, sz_EntryResult, sz_CompletionResult, sz_TheoryResult, sz_DiskResult, inB_nat, Int.toNat_natCast, get0, get1, get2, get3, get4, get5, get6, get7, get8, Nat.reduceLT, bind_of, List.getElem?_cons_zero, List.getElem?_cons_succ, oInt_int, oBool_bool, oStr_str, oSl_slc, oAgg_agg, oTup_tup, oCons_cons, oNil_nil, sl_cells, ne_eq, not_false_eq_true]
  have ok := (sigOk_iff _).1 h1
  simp only [h1, Int.ofNat_lt, str_inj, beq_dec, bne_dec, cond_dec, cond_nt, if_true, if_false, decide_true, decide_false, cond_true, cond_false, u8_inj, cells_div, sz_int, sz_u8, sz_list, sz_Symbol, sz_Signature, sz_Equation, sz_Binding, sz_Algebra, sz_Entry, sz_Completion, sz_Theory, sz_Put, sz_Disk, sz_Act, sz_IntResult, sz_IntsResult, sz_BytesResult, sz_TextResult, sz_SignatureResult, sz_TermResult, sz_TermsResult, sz_EquationResult, sz_EquationsResult, sz_KeyResult, sz_BindingResult, sz_RedexResult, sz_NormalResult, sz_AlgebraResult, sz_EntryResult, sz_CompletionResult, sz_TheoryResult, sz_DiskResult, inB_nat, Int.toNat_natCast, get0, get1, get2, get3, get4, get5, get6, get7, get8, Nat.reduceLT, bind_of, List.getElem?_cons_zero, List.getElem?_cons_succ, oInt_int, oBool_bool, oStr_str, oSl_slc, oAgg_agg, oTup_tup, oCons_cons, oNil_nil, sl_cells, ne_eq, not_true_eq_false]
  cases h2 : inR z 1 3 with
  | false => simp only [Int.ofNat_lt, str_inj, beq_dec, bne_dec, cond_dec, cond_nt, if_true, if_false, decide_true, decide_false, cond_true, cond_false, u8_inj, cells_div, sz_int, sz_u8, sz_list, sz_Symbol, sz_Signature, sz_Equation, sz_Binding, sz_Algebra, sz_Entry, sz_Completion, sz_Theory, sz_Put, sz_Disk, sz_Act, sz_IntResult, sz_IntsResult, sz_BytesResult, sz_TextResult, sz_SignatureResult, sz_TermResult, sz_TermsResult, sz_EquationResult, sz_EquationsResult, sz_KeyResult, sz_BindingResult, sz_RedexResult, sz_NormalResult, sz_AlgebraResult, sz_EntryResult, sz_CompletionResult, sz_TheoryResult, sz_DiskResult, inB_nat, Int.toNat_natCast, get0, get1, get2, get3, get4, get5, get6, get7, get8, Nat.reduceLT, bind_of, List.getElem?_cons_zero, List.getElem?_cons_succ, oInt_int, oBool_bool, oStr_str, oSl_slc, oAgg_agg, oTup_tup, oCons_cons, oNil_nil, sl_cells]
  | true =>
    have hz := inR_iff.1 h2
    simp only [Int.ofNat_lt, str_inj, beq_dec, bne_dec, cond_dec, cond_nt, if_true, if_false, decide_true, decide_false, cond_true, cond_false, u8_inj, cells_div, sz_int, sz_u8, sz_list, sz_Symbol, sz_Signature, sz_Equation, sz_Binding, sz_Algebra, sz_Entry, sz_Completion, sz_Theory, sz_Put, sz_Disk, sz_Act, sz_IntResult, sz_IntsResult, sz_BytesResult, sz_TextResult, sz_SignatureResult, sz_TermResult, sz_TermsResult, sz_EquationResult, sz_EquationsResult, sz_KeyResult, sz_BindingResult, sz_RedexResult, sz_NormalResult, sz_AlgebraResult, sz_EntryResult, sz_CompletionResult, sz_TheoryResult, sz_DiskResult, inB_nat, Int.toNat_natCast, get0, get1, get2, get3, get4, get5, get6, get7, get8, Nat.reduceLT, bind_of, List.getElem?_cons_zero, List.getElem?_cons_succ, oInt_int, oBool_bool, oStr_str, oSl_slc, oAgg_agg, oTup_tup, oCons_cons, oNil_nil, sl_cells, cast_ne, Bool.true_eq_false]
    by_cases h3 : t.length = l.length
    case neg => simp only [h3, Int.ofNat_lt, str_inj, beq_dec, bne_dec, cond_dec, cond_nt, if_true, if_false, decide_true, decide_false, cond_true, cond_false, u8_inj, cells_div, sz_int, sz_u8, sz_list, sz_Symbol, sz_Signature, sz_Equation, sz_Binding, sz_Algebra, sz_Entry, sz_Completion, sz_Theory, sz_Put, sz_Disk, sz_Act, sz_IntResult, sz_IntsResult, sz_BytesResult, sz_TextResult, sz_SignatureResult, sz_TermResult, sz_TermsResult, sz_EquationResult, sz_EquationsResult, sz_KeyResult, sz_BindingResult, sz_RedexResult, sz_NormalResult, sz_AlgebraResult, sz_EntryResult, sz_CompletionResult, sz_TheoryResult, sz_DiskResult, inB_nat, Int.toNat_natCast, get0, get1, get2, get3, get4, get5, get6, get7, get8, Nat.reduceLT, bind_of, List.getElem?_cons_zero, List.getElem?_cons_succ, oInt_int, oBool_bool, oStr_str, oSl_slc, oAgg_agg, oTup_tup, oCons_cons, oNil_nil, sl_cells, ne_eq, not_false_eq_true]
    simp only [h3, Int.ofNat_lt, str_inj, beq_dec, bne_dec, cond_dec, cond_nt, if_true, if_false, decide_true, decide_false, cond_true, cond_false, u8_inj, cells_div, sz_int, sz_u8, sz_list, sz_Symbol, sz_Signature, sz_Equation, sz_Binding, sz_Algebra, sz_Entry, sz_Completion, sz_Theory, sz_Put, sz_Disk, sz_Act, sz_IntResult, sz_IntsResult, sz_BytesResult, sz_TextResult, sz_SignatureResult, sz_TermResult, sz_TermsResult, sz_EquationResult, sz_EquationsResult, sz_KeyResult, sz_BindingResult, sz_RedexResult, sz_NormalResult, sz_AlgebraResult, sz_EntryResult, sz_CompletionResult, sz_TheoryResult, sz_DiskResult, inB_nat, Int.toNat_natCast, get0, get1, get2, get3, get4, get5, get6, get7, get8, Nat.reduceLT, bind_of, List.getElem?_cons_zero, List.getElem?_cons_succ, oInt_int, oBool_bool, oStr_str, oSl_slc, oAgg_agg, oTup_tup, oCons_cons, oNil_nil, sl_cells, ne_eq, not_true_eq_false]
    have hzip : (l.zip t).length = t.length := by rw [List.length_zip]; omega
    have one := scan_loop (l := l.zip t) (g := fun x => (tableFault z x).map fun c => some (.int .i64 c, [])) (z := some (.int .i64 0, []))
      (S := fun m k => impl_AlgebraFault.at0 (t.length + 1) m (impl_AlgebraFault.st0 (cells t) l.length (k : Nat) (cells l) z (cells t)))
      (fun m k h => by
        have hk : k < t.length := by omega
        have hkl : k < l.length := by omega
        have htk : t[k]? = some t[k] := List.getElem?_eq_getElem hk
        have hlk : l[k]? = some l[k] := List.getElem?_eq_getElem hkl
        have har := ok.arity l[k] (List.getElem_mem hkl)
        obtain ⟨r, hr⟩ : ∃ r : Nat, l[k].arity = r := ⟨l[k].arity.toNat, by omega⟩
        obtain ⟨y, hy⟩ : ∃ y : Nat, z = y := ⟨z.toNat, by omega⟩
        have hp := impl_power y r (by omega) (by omega)
        rw [← hy, ← hr] at hp
        simp only [impl_AlgebraFault.next0, impl_AlgebraFault.round0, Int.ofNat_lt, str_inj, beq_dec, bne_dec, cond_dec, cond_nt, if_true, if_false, decide_true, decide_false, cond_true, cond_false, u8_inj, cells_div, sz_int, sz_u8, sz_list, sz_Symbol, sz_Signature, sz_Equation, sz_Binding, sz_Algebra, sz_Entry, sz_Completion, sz_Theory, sz_Put, sz_Disk, sz_Act, sz_IntResult, sz_IntsResult, sz_BytesResult, sz_TextResult, sz_SignatureResult, sz_TermResult, sz_TermsResult, sz_EquationResult, sz_EquationsResult, sz_KeyResult, sz_BindingResult, sz_RedexResult, sz_NormalResult, sz_AlgebraResult, sz_EntryResult, sz_CompletionResult, sz_TheoryResult, sz_DiskResult, inB_nat, Int.toNat_natCast, get0, get1, get2, get3, get4, get5, get6, get7, get8, Nat.reduceLT, bind_of, List.getElem?_cons_zero, List.getElem?_cons_succ, oInt_int, oBool_bool, oStr_str, oSl_slc, oAgg_agg, oTup_tup, oCons_cons, oNil_nil, sl_cells, hk, hkl, htk, hlk, enc_Symbol, enc_list, hp.eq, cast_ne, (slices_ContainsFunc_Sint64_at1_impl_AlgebraFault_1 t[k] (ht.2 _ (List.getElem_mem hk)).1 z t hz).eq]
        rw [wrap_succ (by omega)]
        simp only [tableFault, List.getElem_zip, hr, hy, Int.toNat_natCast]
        by_cases h6 : t[k].length = y ^ r
        · simp only [h6, if_true, ne_eq, not_true_eq_false, if_false]
          cases t[k].any fun n => !inR n 0 ((y : Int) - 1) <;> rfl
        · simp only [h6, if_false, ne_eq, not_false_eq_true, if_true]; rfl)
      (fun m => by rw [hzip]; simp only [impl_AlgebraFault.next0, impl_AlgebraFault.round0, Int.ofNat_lt, str_inj, beq_dec, bne_dec, cond_dec, cond_nt, if_true, if_false, decide_true, decide_false, cond_true, cond_false, u8_inj, cells_div, sz_int, sz_u8, sz_list, sz_Symbol, sz_Signature, sz_Equation, sz_Binding, sz_Algebra, sz_Entry, sz_Completion, sz_Theory, sz_Put, sz_Disk, sz_Act, sz_IntResult, sz_IntsResult, sz_BytesResult, sz_TextResult, sz_SignatureResult, sz_TermResult, sz_TermsResult, sz_EquationResult, sz_EquationsResult, sz_KeyResult, sz_BindingResult, sz_RedexResult, sz_NormalResult, sz_AlgebraResult, sz_EntryResult, sz_CompletionResult, sz_TheoryResult, sz_DiskResult, inB_nat, Int.toNat_natCast, get0, get1, get2, get3, get4, get5, get6, get7, get8, Nat.reduceLT, bind_of, List.getElem?_cons_zero, List.getElem?_cons_succ, oInt_int, oBool_bool, oStr_str, oSl_slc, oAgg_agg, oTup_tup, oCons_cons, oNil_nil, sl_cells, h3, Nat.lt_irrefl]) (show (l.zip t).length < t.length + 1 by omega)
    refine Eq.trans ?_ (one.trans ?_)
    · rw [h3]; rfl
    · rw [findSome_map]
      cases (l.zip t).findSome? (tableFault z) <;> rfl
theorem spec_AlgebraFault (l : List Symbol) (z : Int) (t : List (List Int)) (hs : l.length ≤ 4294967296) (ht : sm 4294967296 t) :
    Call F.spec_AlgebraFault [.agg [slc l], .agg [.int .i64 z, slc t]] (.int .i64 (algFault ⟨l⟩ ⟨z, t⟩)) := by
  have htl := ht.1
  obtain ⟨n, hn, hn2⟩ : ∃ n, t.length < n ∧ ∀ x ∈ t, x.length < n := ⟨4294967297, by omega, fun x hx => by have := (ht.2 x hx).1; omega⟩
  refine call_of rfl n ((spec_AlgebraFault.ev _ _ _ _).trans ?_)
  simp only [Int.ofNat_lt, str_inj, beq_dec, bne_dec, cond_dec, cond_nt, if_true, if_false, decide_true, decide_false, cond_true, cond_false, u8_inj, cells_div, sz_int, sz_u8, sz_list, sz_Symbol, sz_Signature, sz_Equation, sz_Binding, sz_Algebra, sz_Entry, sz_Completion, sz_Theory, sz_Put, sz_Disk, sz_Act, sz_IntResult, sz_IntsResult, sz_BytesResult, sz_TextResult, sz_SignatureResult, sz_TermResult, sz_TermsResult, sz_EquationResult, sz_EquationsResult, sz_KeyResult, sz_BindingResult, sz_RedexResult, sz_NormalResult, sz_AlgebraResult, sz_EntryResult, sz_CompletionResult, sz_TheoryResult, sz_DiskResult, inB_nat, Int.toNat_natCast, get0, get1, get2, get3, get4, get5, get6, get7, get8, Nat.reduceLT, bind_of, List.getElem?_cons_zero, List.getElem?_cons_succ, oInt_int, oBool_bool, oStr_str, oSl_slc, oAgg_agg, oTup_tup, oCons_cons, oNil_nil, sl_cells, (spec_SignatureFault l hs).eq, (spec_l1In _ _ _).eq, algFault]
  by_cases h1 : sigFault ⟨l⟩ = 0
  case neg => simp only [h1, Int.ofNat_lt, str_inj, beq_dec, bne_dec, cond_dec, cond_nt, if_true, if_false, decide_true, decide_false, cond_true, cond_false, u8_inj, cells_div, sz_int, sz_u8, sz_list, sz_Symbol, sz_Signature, sz_Equation, sz_Binding, sz_Algebra, sz_Entry, sz_Completion, sz_Theory, sz_Put, sz_Disk, sz_Act, sz_IntResult, sz_IntsResult, sz_BytesResult, sz_TextResult, sz_SignatureResult, sz_TermResult, sz_TermsResult, sz_EquationResult, sz_EquationsResult, sz_KeyResult, sz_BindingResult, sz_RedexResult, sz_NormalResult, sz_AlgebraResult, sz_EntryResult, sz_CompletionResult, sz_TheoryResult, sz_DiskResult, inB_nat, Int.toNat_natCast, get0, get1, get2, get3, get4, get5, get6, get7, get8, Nat.reduceLT, bind_of, List.getElem?_cons_zero, List.getElem?_cons_succ, oInt_int, oBool_bool, oStr_str, oSl_slc, oAgg_agg, oTup_tup, oCons_cons, oNil_nil, sl_cells, ne_eq, not_false_eq_true]
  have ok := (sigOk_iff _).1 h1
  simp only [h1, Int.ofNat_lt, str_inj, beq_dec, bne_dec, cond_dec, cond_nt, if_true, if_false, decide_true, decide_false, cond_true, cond_false, u8_inj, cells_div, sz_int, sz_u8, sz_list, sz_Symbol, sz_Signature, sz_Equation, sz_Binding, sz_Algebra, sz_Entry, sz_Completion, sz_Theory, sz_Put, sz_Disk, sz_Act, sz_IntResult, sz_IntsResult, sz_BytesResult, sz_TextResult, sz_SignatureResult, sz_TermResult, sz_TermsResult, sz_EquationResult, sz_EquationsResult, sz_KeyResult, sz_BindingResult, sz_RedexResult, sz_NormalResult, sz_AlgebraResult, sz_EntryResult, sz_CompletionResult, sz_TheoryResult, sz_DiskResult, inB_nat, Int.toNat_natCast, get0, get1, get2, get3, get4, get5, get6, get7, get8, Nat.reduceLT, bind_of, List.getElem?_cons_zero, List.getElem?_cons_succ, oInt_int, oBool_bool, oStr_str, oSl_slc, oAgg_agg, oTup_tup, oCons_cons, oNil_nil, sl_cells, ne_eq, not_true_eq_false]
  cases h2 : inR z 1 3 with
  | false => simp only [Int.ofNat_lt, str_inj, beq_dec, bne_dec, cond_dec, cond_nt, if_true, if_false, decide_true, decide_false, cond_true, cond_false, u8_inj, cells_div, sz_int, sz_u8, sz_list, sz_Symbol, sz_Signature, sz_Equation, sz_Binding, sz_Algebra, sz_Entry, sz_Completion, sz_Theory, sz_Put, sz_Disk, sz_Act, sz_IntResult, sz_IntsResult, sz_BytesResult, sz_TextResult, sz_SignatureResult, sz_TermResult, sz_TermsResult, sz_EquationResult, sz_EquationsResult, sz_KeyResult, sz_BindingResult, sz_RedexResult, sz_NormalResult, sz_AlgebraResult, sz_EntryResult, sz_CompletionResult, sz_TheoryResult, sz_DiskResult, inB_nat, Int.toNat_natCast, get0, get1, get2, get3, get4, get5, get6, get7, get8, Nat.reduceLT, bind_of, List.getElem?_cons_zero, List.getElem?_cons_succ, oInt_int, oBool_bool, oStr_str, oSl_slc, oAgg_agg, oTup_tup, oCons_cons, oNil_nil, sl_cells]
  | true =>
    have hz := inR_iff.1 h2
    simp only [Int.ofNat_lt, str_inj, beq_dec, bne_dec, cond_dec, cond_nt, if_true, if_false, decide_true, decide_false, cond_true, cond_false, u8_inj, cells_div, sz_int, sz_u8, sz_list, sz_Symbol, sz_Signature, sz_Equation, sz_Binding, sz_Algebra, sz_Entry, sz_Completion, sz_Theory, sz_Put, sz_Disk, sz_Act, sz_IntResult, sz_IntsResult, sz_BytesResult, sz_TextResult, sz_SignatureResult, sz_TermResult, sz_TermsResult, sz_EquationResult, sz_EquationsResult, sz_KeyResult, sz_BindingResult, sz_RedexResult, sz_NormalResult, sz_AlgebraResult, sz_EntryResult, sz_CompletionResult, sz_TheoryResult, sz_DiskResult, inB_nat, Int.toNat_natCast, get0, get1, get2, get3, get4, get5, get6, get7, get8, Nat.reduceLT, bind_of, List.getElem?_cons_zero, List.getElem?_cons_succ, oInt_int, oBool_bool, oStr_str, oSl_slc, oAgg_agg, oTup_tup, oCons_cons, oNil_nil, sl_cells, cast_ne, Bool.true_eq_false]
    by_cases h3 : t.length = l.length
    case neg => simp only [h3, Int.ofNat_lt, str_inj, beq_dec, bne_dec, cond_dec, cond_nt, if_true, if_false, decide_true, decide_false, cond_true, cond_false, u8_inj, cells_div, sz_int, sz_u8, sz_list, sz_Symbol, sz_Signature, sz_Equation, sz_Binding, sz_Algebra, sz_Entry, sz_Completion, sz_Theory, sz_Put, sz_Disk, sz_Act, sz_IntResult, sz_IntsResult, sz_BytesResult, sz_TextResult, sz_SignatureResult, sz_TermResult, sz_TermsResult, sz_EquationResult, sz_EquationsResult, sz_KeyResult, sz_BindingResult, sz_RedexResult, sz_NormalResult, sz_AlgebraResult, sz_EntryResult, sz_CompletionResult, sz_TheoryResult, sz_DiskResult, inB_nat, Int.toNat_natCast, get0, get1, get2, get3, get4, get5, get6, get7, get8, Nat.reduceLT, bind_of, List.getElem?_cons_zero, List.getElem?_cons_succ, oInt_int, oBool_bool, oStr_str, oSl_slc, oAgg_agg, oTup_tup, oCons_cons, oNil_nil, sl_cells, ne_eq, not_false_eq_true]
    simp only [h3, Int.ofNat_lt, str_inj, beq_dec, bne_dec, cond_dec, cond_nt, if_true, if_false, decide_true, decide_false, cond_true, cond_false, u8_inj, cells_div, sz_int, sz_u8, sz_list, sz_Symbol, sz_Signature, sz_Equation, sz_Binding, sz_Algebra, sz_Entry, sz_Completion, sz_Theory, sz_Put, sz_Disk, sz_Act, sz_IntResult, sz_IntsResult, sz_BytesResult, sz_TextResult, sz_SignatureResult, sz_TermResult, sz_TermsResult, sz_EquationResult, sz_EquationsResult, sz_KeyResult, sz_BindingResult, sz_RedexResult, sz_NormalResult, sz_AlgebraResult, sz_EntryResult, sz_CompletionResult, sz_TheoryResult, sz_DiskResult, inB_nat, Int.toNat_natCast, get0, get1, get2, get3, get4, get5, get6, get7, get8, Nat.reduceLT, bind_of, List.getElem?_cons_zero, List.getElem?_cons_succ, oInt_int, oBool_bool, oStr_str, oSl_slc, oAgg_agg, oTup_tup, oCons_cons, oNil_nil, sl_cells, ne_eq, not_true_eq_false]
    have hzip : (l.zip t).length = t.length := by rw [List.length_zip]; omega
    have one := scan_loop (l := l.zip t) (g := fun x => (tableFault z x).map fun c => some (.int .i64 c, [])) (z := some (.int .i64 0, []))
      (S := fun m k => spec_AlgebraFault.at0 n m (spec_AlgebraFault.st0 (k : Nat) (cells l) z (cells t)))
      (fun m k h => by
        have hk : k < t.length := by omega
        have hkl : k < l.length := by omega
        have htk : t[k]? = some t[k] := List.getElem?_eq_getElem hk
        have hlk : l[k]? = some l[k] := List.getElem?_eq_getElem hkl
        have har := ok.arity l[k] (List.getElem_mem hkl)
        obtain ⟨r, hr⟩ : ∃ r : Nat, l[k].arity = r := ⟨l[k].arity.toNat, by omega⟩
        obtain ⟨y, hy⟩ : ∃ y : Nat, z = y := ⟨z.toNat, by omega⟩
        have hp := spec_l10Pow y r (by omega) (by omega)
        rw [← hy, ← hr] at hp
        have two := any_loopL (l := t[k]) (p := fun n => !inR n 0 (z - 1)) (S := fun m' j => spec_AlgebraFault.at2 n (spec_AlgebraFault.at0 n m) m' (spec_AlgebraFault.st2 (k : Nat) (j : Nat) (cells l) z (cells t)))
          (r := some (.int .i64 3, [])) (z := spec_AlgebraFault.at0 n m (spec_AlgebraFault.st0 ((k + 1 : Nat) : Int) (cells l) z (cells t))) (f := n)
          (fun m' j hj => by
            have hjk : t[k][j]? = some t[k][j] := List.getElem?_eq_getElem hj
            have hjl := (ht.2 t[k] (List.getElem_mem hk)).1
            simp only [spec_AlgebraFault.next2, spec_AlgebraFault.round2, Int.ofNat_lt, str_inj, beq_dec, bne_dec, cond_dec, cond_nt, if_true, if_false, decide_true, decide_false, cond_true, cond_false, u8_inj, cells_div, sz_int, sz_u8, sz_list, sz_Symbol, sz_Signature, sz_Equation, sz_Binding, sz_Algebra, sz_Entry, sz_Completion, sz_Theory, sz_Put, sz_Disk, sz_Act, sz_IntResult, sz_IntsResult, sz_BytesResult, sz_TextResult, sz_SignatureResult, sz_TermResult, sz_TermsResult, sz_EquationResult, sz_EquationsResult, sz_KeyResult, sz_BindingResult, sz_RedexResult, sz_NormalResult, sz_AlgebraResult, sz_EntryResult, sz_CompletionResult, sz_TheoryResult, sz_DiskResult, inB_nat, Int.toNat_natCast, get0, get1, get2, get3, get4, get5, get6, get7, get8, Nat.reduceLT, bind_of, List.getElem?_cons_zero, List.getElem?_cons_succ, oInt_int, oBool_bool, oStr_str, oSl_slc, oAgg_agg, oTup_tup, oCons_cons, oNil_nil, sl_cells, hk, htk, hj, hjk, enc_list, enc_int, wrap64 (x := z - 1) (by omega), (spec_l1In _ _ _).eq]
            rw [wrap_succ (by omega)]
            cases inR t[k][j] 0 (z - 1) <;> rfl)
          (fun m' => by
            simp only [spec_AlgebraFault.next2, spec_AlgebraFault.round2, Int.ofNat_lt, str_inj, beq_dec, bne_dec, cond_dec, cond_nt, if_true, if_false, decide_true, decide_false, cond_true, cond_false, u8_inj, cells_div, sz_int, sz_u8, sz_list, sz_Symbol, sz_Signature, sz_Equation, sz_Binding, sz_Algebra, sz_Entry, sz_Completion, sz_Theory, sz_Put, sz_Disk, sz_Act, sz_IntResult, sz_IntsResult, sz_BytesResult, sz_TextResult, sz_SignatureResult, sz_TermResult, sz_TermsResult, sz_EquationResult, sz_EquationsResult, sz_KeyResult, sz_BindingResult, sz_RedexResult, sz_NormalResult, sz_AlgebraResult, sz_EntryResult, sz_CompletionResult, sz_TheoryResult, sz_DiskResult, inB_nat, Int.toNat_natCast, get0, get1, get2, get3, get4, get5, get6, get7, get8, Nat.reduceLT, bind_of, List.getElem?_cons_zero, List.getElem?_cons_succ, oInt_int, oBool_bool, oStr_str, oSl_slc, oAgg_agg, oTup_tup, oCons_cons, oNil_nil, sl_cells, hk, htk, enc_list, Nat.lt_irrefl]
            rw [wrap_succ (by omega)])
          (hn2 _ (List.getElem_mem hk))
        simp only [spec_AlgebraFault.next0, spec_AlgebraFault.round0, Int.ofNat_lt, str_inj, beq_dec, bne_dec, cond_dec, cond_nt, if_true, if_false, decide_true, decide_false, cond_true, cond_false, u8_inj, cells_div, sz_int, sz_u8, sz_list, sz_Symbol, sz_Signature, sz_Equation, sz_Binding, sz_Algebra, sz_Entry, sz_Completion, sz_Theory, sz_Put, sz_Disk, sz_Act, sz_IntResult, sz_IntsResult, sz_BytesResult, sz_TextResult, sz_SignatureResult, sz_TermResult, sz_TermsResult, sz_EquationResult, sz_EquationsResult, sz_KeyResult, sz_BindingResult, sz_RedexResult, sz_NormalResult, sz_AlgebraResult, sz_EntryResult, sz_CompletionResult, sz_TheoryResult, sz_DiskResult, inB_nat, Int.toNat_natCast, get0, get1, get2, get3, get4, get5, get6, get7, get8, Nat.reduceLT, bind_of, List.getElem?_cons_zero, List.getElem?_cons_succ, oInt_int, oBool_bool, oStr_str, oSl_slc, oAgg_agg, oTup_tup, oCons_cons, oNil_nil, sl_cells, hk, hkl, htk, hlk, enc_Symbol, enc_list, hp.eq, cast_ne]
        rw [show spec_AlgebraFault.at2 n (spec_AlgebraFault.at0 n m) n (spec_AlgebraFault.st2 (k : Nat) 0 (cells l) z (cells t)) = _ from two]
        simp only [tableFault, List.getElem_zip, hr, hy, Int.toNat_natCast]
        by_cases h6 : t[k].length = y ^ r
        · simp only [h6, if_true, ne_eq, not_true_eq_false, if_false]
          cases t[k].any fun n => !inR n 0 ((y : Int) - 1) <;> rfl
        · simp only [h6, if_false, ne_eq, not_false_eq_true, if_true]; rfl)
      (fun m => by rw [hzip]; simp only [spec_AlgebraFault.next0, spec_AlgebraFault.round0, Int.ofNat_lt, str_inj, beq_dec, bne_dec, cond_dec, cond_nt, if_true, if_false, decide_true, decide_false, cond_true, cond_false, u8_inj, cells_div, sz_int, sz_u8, sz_list, sz_Symbol, sz_Signature, sz_Equation, sz_Binding, sz_Algebra, sz_Entry, sz_Completion, sz_Theory, sz_Put, sz_Disk, sz_Act, sz_IntResult, sz_IntsResult, sz_BytesResult, sz_TextResult, sz_SignatureResult, sz_TermResult, sz_TermsResult, sz_EquationResult, sz_EquationsResult, sz_KeyResult, sz_BindingResult, sz_RedexResult, sz_NormalResult, sz_AlgebraResult, sz_EntryResult, sz_CompletionResult, sz_TheoryResult, sz_DiskResult, inB_nat, Int.toNat_natCast, get0, get1, get2, get3, get4, get5, get6, get7, get8, Nat.reduceLT, bind_of, List.getElem?_cons_zero, List.getElem?_cons_succ, oInt_int, oBool_bool, oStr_str, oSl_slc, oAgg_agg, oTup_tup, oCons_cons, oNil_nil, sl_cells, Nat.lt_irrefl]) (show (l.zip t).length < n by omega)
    refine one.trans ?_
    rw [findSome_map]
    cases (l.zip t).findSome? (tableFault z) <;> rfl
end Ev.Ty
