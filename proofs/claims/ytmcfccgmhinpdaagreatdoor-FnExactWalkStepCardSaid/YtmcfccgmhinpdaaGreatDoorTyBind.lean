/- Bindings: what is wrong with one, a term under one; terms replaced. -/
import Derived.Test.YtmcfccgmhinpdaaGreatDoorTyEqs
import Derived.Test.YtmcfccgmhinpdaaGreatDoorTySame
import Derived.Test.YtmcfccgmhinpdaaGreatDoorTyEvalT
namespace Ev.Ty
open Go Ev
open Enc (enc)
open Sm (sm)
set_option linter.unusedSimpArgs false
set_option linter.unusedVariables false

theorem firstCode2 (a b : Int) : Call F.impl_firstCode [.sl 1 [.int .i64 a, .int .i64 b]] (.int .i64 (if a = 0 then b else a)) := impl_firstCode2 a b
/-! ## subterms -/
theorem skip_inner {a : Int → Nat} : ∀ {t r : List Int} {k p : Nat}, skip a k t = some r → p + r.length < t.length → ∃ q, skip a 1 (t.drop p) = some q
  | [], r, k, p, h, hp => by simp at hp
  | n :: t, r, 0, p, h, hp => by
    rw [skip_zero] at h; cases h; omega
  | n :: t, r, k + 1, 0, h, hp => by
    rw [show k + 1 = 1 + k by omega, skip_add] at h
    cases h1 : skip a 1 (n :: t) with
    | none => rw [h1] at h; cases h
    | some q => exact ⟨q, by simpa using h1⟩
  | n :: t, r, k + 1, p + 1, h, hp => by
    rw [skip] at h
    obtain ⟨q, hq⟩ := skip_inner (p := p) h (by simp at hp; omega)
    exact ⟨q, by simpa using hq⟩
/-- Where the subterm at a place ends. -/
def endAt (l : List Symbol) (t : List Int) (p : Nat) : Nat := match skip (ar l) 1 (t.drop p) with
  | some r => t.length - r.length
  | none => t.length
theorem endAt_spec {l : List Symbol} {t : List Int} (ok : TermOk l t) {p : Nat} (hp : p < t.length) :
    p < endAt l t p ∧ endAt l t p ≤ t.length ∧ ∀ z, endRes z t (skip (ar l) 1 (t.drop p)) = (endAt l t p : Nat) := by
  obtain ⟨q, hq⟩ := skip_inner (p := p) ok.skip (by simpa using hp)
  have h := skip_at hq
  unfold endAt
  rw [hq]
  refine ⟨?_, by simp only; omega, fun z => rfl⟩
  have := h.2.2 (by omega)
  simp only
  omega
section
variable {l : List Symbol} (ok : SigOk ⟨l⟩)
include ok
theorem endOf_at {t : List Int} (ht : TermOk l t) {p : Nat} (hp : p < t.length) : Call F.impl_endOf [.agg [slc l], slc t, .int .i64 p] (.int .i64 (endAt l t p : Nat)) := by
  have h := impl_endOf ok t ht.node (by have := ht.le; omega) p (Nat.le_of_lt hp)
  rwa [(endAt_spec ht hp).2.2] at h
theorem l3End_at {t : List Int} (ht : TermOk l t) {p : Nat} (hp : p < t.length) : Call F.spec_l3End [.rref [slc l] 0, slc t, .int .i64 p] (.int .i64 (endAt l t p : Nat)) := by
  have h := spec_l3End ok t ht.node (by have := ht.le; omega) p (Nat.le_of_lt hp)
  rwa [(endAt_spec ht hp).2.2] at h
end
theorem cells_cut (t : List Int) (i j : Nat) : ((cells t).take (j * 1)).drop (i * 1) = cells ((t.take j).drop i) := by
  rw [cells_take t 1 j rfl, cells_drop _ 1 i rfl]
def subAt (l : List Symbol) (t : List Int) (p : Nat) : List Int := (t.take (endAt l t p)).drop p
theorem slc_cut (t : List Int) (i j : Nat) : T.sl 1 (((cells t).take (j * 1)).drop (i * 1)) = slc ((t.take j).drop i) := by rw [cells_cut]; rfl
theorem spec_l1Ints' (l : List Int) (h : l.length ≤ 4294967296) : Call F.spec_l1Ints [slc l] (slc l) := by
  refine call_of rfl 0 ((spec_l1Ints.ev _ _).trans ?_)
  rw [scalars_int, cond_pos rfl, cond_pos (ble_ok (by rw [cells_length, sz_int]; omega))]
  rfl
theorem slices_Clone_Sint64 (l : List Int) (h : l.length ≤ 4294967296) : Call F.slices_Clone_Sint64 [slc l] (slc l) := by
  refine lim_ext (e := cloneE) rfl (Ev.of fun m => ?_)
  show (intsOf (cells l)).bind _ = _
  rw [← intsT_cells, intsOf_intsT]
  show (bif _ then _ else _) = _
  rw [cond_pos (by rw [decide_eq_true_iff]; omega), intsT_cells]
  rfl
section
variable {l : List Symbol} (ok : SigOk ⟨l⟩)
include ok
theorem impl_subterm {t : List Int} (ht : TermOk l t) {p : Nat} (hp : p < t.length) : Call F.impl_subterm [.agg [slc l], slc t, .int .i64 p] (slc (subAt l t p)) := by
  refine call_of rfl 0 ((impl_subterm.ev _ _ _ _).trans ?_)
  obtain ⟨h1, h2, _⟩ := endAt_spec ht hp
  simp only [Int.ofNat_lt, str_inj, beq_dec, bne_dec, cond_dec, cond_nt, if_true, if_false, decide_true, decide_false, cond_true, cond_false, u8_inj, cells_div, sz_int, sz_u8, sz_list, sz_Symbol, sz_Signature, sz_Equation, sz_Binding, sz_Algebra, sz_Entry, sz_Completion, sz_Theory, sz_Put, sz_Disk, sz_Act, sz_IntResult, sz_IntsResult, sz_BytesResult, sz_TextResult, sz_SignatureResult, sz_TermResult, sz_TermsResult, sz_EquationResult, sz_EquationsResult, sz_KeyResult, sz_BindingResult, sz_RedexResult, sz_NormalResult, sz_AlgebraResult, sz_EntryResult, sz_CompletionResult, sz_TheoryResult, sz_DiskResult, inB_nat, Int.toNat_natCast, get0, get1, get2, get3, get4, get5, get6, get7, get8, Nat.reduceLT, bind_of, List.getElem?_cons_zero, List.getElem?_cons_succ, oInt_int, oBool_bool, oStr_str, oSl_slc, oAgg_agg, oTup_tup, oCons_cons, oNil_nil, sl_cells, (endOf_at ok ht hp).eq]
  rw [cond_pos (by simp; omega), slc_cut]
  rfl
theorem spec_l3Sub {t : List Int} (ht : TermOk l t) {p : Nat} (hp : p < t.length) : Call F.spec_l3Sub [.rref [slc l] 0, slc t, .int .i64 p] (slc (subAt l t p)) := by
  refine call_of rfl 0 ((spec_l3Sub.ev _ _ _ _).trans ?_)
  obtain ⟨h1, h2, _⟩ := endAt_spec ht hp
  have hle := ht.le
  simp only [Int.ofNat_lt, str_inj, beq_dec, bne_dec, cond_dec, cond_nt, if_true, if_false, decide_true, decide_false, cond_true, cond_false, u8_inj, cells_div, sz_int, sz_u8, sz_list, sz_Symbol, sz_Signature, sz_Equation, sz_Binding, sz_Algebra, sz_Entry, sz_Completion, sz_Theory, sz_Put, sz_Disk, sz_Act, sz_IntResult, sz_IntsResult, sz_BytesResult, sz_TextResult, sz_SignatureResult, sz_TermResult, sz_TermsResult, sz_EquationResult, sz_EquationsResult, sz_KeyResult, sz_BindingResult, sz_RedexResult, sz_NormalResult, sz_AlgebraResult, sz_EntryResult, sz_CompletionResult, sz_TheoryResult, sz_DiskResult, inB_nat, Int.toNat_natCast, get0, get1, get2, get3, get4, get5, get6, get7, get8, Nat.reduceLT, bind_of, List.getElem?_cons_zero, List.getElem?_cons_succ, oInt_int, oBool_bool, oStr_str, oSl_slc, oAgg_agg, oTup_tup, oCons_cons, oNil_nil, sl_cells, (l3End_at ok ht hp).eq]
  rw [cond_pos (by simp; omega), slc_cut, (spec_l1Ints' _ (by simp; omega)).eq]
  simp only [Int.ofNat_lt, str_inj, beq_dec, bne_dec, cond_dec, cond_nt, if_true, if_false, decide_true, decide_false, cond_true, cond_false, u8_inj, cells_div, sz_int, sz_u8, sz_list, sz_Symbol, sz_Signature, sz_Equation, sz_Binding, sz_Algebra, sz_Entry, sz_Completion, sz_Theory, sz_Put, sz_Disk, sz_Act, sz_IntResult, sz_IntsResult, sz_BytesResult, sz_TextResult, sz_SignatureResult, sz_TermResult, sz_TermsResult, sz_EquationResult, sz_EquationsResult, sz_KeyResult, sz_BindingResult, sz_RedexResult, sz_NormalResult, sz_AlgebraResult, sz_EntryResult, sz_CompletionResult, sz_TheoryResult, sz_DiskResult, inB_nat, Int.toNat_natCast, get0, get1, get2, get3, get4, get5, get6, get7, get8, Nat.reduceLT, bind_of, List.getElem?_cons_zero, List.getElem?_cons_succ, oInt_int, oBool_bool, oStr_str, oSl_slc, oAgg_agg, oTup_tup, oCons_cons, oNil_nil, sl_cells]
  rfl
def replAt (l : List Symbol) (t : List Int) (p : Nat) (by_ : List Int) : List Int := (t.take p ++ by_) ++ t.drop (endAt l t p)
theorem impl_replaced {t : List Int} (ht : TermOk l t) {p : Nat} (hp : p < t.length) (by_ : List Int) (hb : by_.length ≤ 1048576) : Call F.impl_replaced [.agg [slc l], slc t, .int .i64 p, slc by_] (slc (replAt l t p by_)) := by
  refine call_of rfl 0 ((impl_replaced.ev _ _ _ _ _).trans ?_)
  obtain ⟨h1, h2, _⟩ := endAt_spec ht hp
  have hle := ht.le
  simp only [cells_div, sz_int, Int.toNat_natCast]
  rw [cond_pos (by simp; omega), slc_cut, (slices_Clone_Sint64 _ (by simp; omega)).eq]
  simp only [Int.ofNat_lt, str_inj, beq_dec, bne_dec, cond_dec, cond_nt, if_true, if_false, decide_true, decide_false, cond_true, cond_false, u8_inj, cells_div, sz_int, sz_u8, sz_list, sz_Symbol, sz_Signature, sz_Equation, sz_Binding, sz_Algebra, sz_Entry, sz_Completion, sz_Theory, sz_Put, sz_Disk, sz_Act, sz_IntResult, sz_IntsResult, sz_BytesResult, sz_TextResult, sz_SignatureResult, sz_TermResult, sz_TermsResult, sz_EquationResult, sz_EquationsResult, sz_KeyResult, sz_BindingResult, sz_RedexResult, sz_NormalResult, sz_AlgebraResult, sz_EntryResult, sz_CompletionResult, sz_TheoryResult, sz_DiskResult, inB_nat, Int.toNat_natCast, get0, get1, get2, get3, get4, get5, get6, get7, get8, Nat.reduceLT, bind_of, List.getElem?_cons_zero, List.getElem?_cons_succ, oInt_int, oBool_bool, oStr_str, oSl_slc, oAgg_agg, oTup_tup, oCons_cons, oNil_nil, sl_cells, scalars_int, (endOf_at ok ht hp).eq, cells_cut, ← cells_append, cells_div, sz_int, Int.toNat_natCast]
  rw [cond_pos (ble_ok (by rw [cells_length, cells_length, sz_int]; simp; omega)), cond_pos (by simp; omega), cond_pos (ble_ok (by rw [cells_length, cells_length, sz_int]; simp; omega))]
  simp [replAt, slc]
theorem spec_l3Replace {t : List Int} (ht : TermOk l t) {p : Nat} (hp : p < t.length) (by_ : List Int) (hb : by_.length ≤ 1048576) : Call F.spec_l3Replace [.rref [slc l] 0, slc t, .int .i64 p, slc by_] (slc (replAt l t p by_)) := by
  refine call_of rfl 0 ((spec_l3Replace.ev _ _ _ _ _).trans ?_)
  obtain ⟨h1, h2, _⟩ := endAt_spec ht hp
  have hle := ht.le
  simp only [cells_div, sz_int, Int.toNat_natCast]
  rw [cond_pos (by simp; omega), slc_cut, (spec_l1Ints' _ (by simp; omega)).eq]
  simp only [Int.ofNat_lt, str_inj, beq_dec, bne_dec, cond_dec, cond_nt, if_true, if_false, decide_true, decide_false, cond_true, cond_false, u8_inj, cells_div, sz_int, sz_u8, sz_list, sz_Symbol, sz_Signature, sz_Equation, sz_Binding, sz_Algebra, sz_Entry, sz_Completion, sz_Theory, sz_Put, sz_Disk, sz_Act, sz_IntResult, sz_IntsResult, sz_BytesResult, sz_TextResult, sz_SignatureResult, sz_TermResult, sz_TermsResult, sz_EquationResult, sz_EquationsResult, sz_KeyResult, sz_BindingResult, sz_RedexResult, sz_NormalResult, sz_AlgebraResult, sz_EntryResult, sz_CompletionResult, sz_TheoryResult, sz_DiskResult, inB_nat, Int.toNat_natCast, get0, get1, get2, get3, get4, get5, get6, get7, get8, Nat.reduceLT, bind_of, List.getElem?_cons_zero, List.getElem?_cons_succ, oInt_int, oBool_bool, oStr_str, oSl_slc, oAgg_agg, oTup_tup, oCons_cons, oNil_nil, sl_cells, scalars_int, (l3End_at ok ht hp).eq, cells_cut, ← cells_append, cells_div, sz_int, Int.toNat_natCast]
  rw [cond_pos (ble_ok (by rw [cells_length, cells_length, sz_int]; simp; omega)), cond_pos (by simp; omega), cond_pos (ble_ok (by rw [cells_length, cells_length, sz_int]; simp; omega))]
  simp [replAt, slc]
end
theorem replAt_length {l : List Symbol} {t : List Int} {p : Nat} {by_ : List Int} : (replAt l t p by_).length ≤ t.length + by_.length + t.length := by simp [replAt]; omega
/-! ## bindings -/
/-- What a variable is bound to. -/
def bindOf (vs : List Int) (ts : List (List Int)) (v : Int) : Option (List Int) := if idx (fun x => decide (x = v)) vs < 0 then none else ts[(idx (fun x => decide (x = v)) vs).toNat]?
theorem slices_Index_Sint64 (l : List Int) (x : Int) (hl : l.length ≤ 4294967296) : Call F.slices_Index_Sint64 [slc l, .int .i64 x] (.int .i64 (idx (fun y => decide (y = x)) l)) := by
  refine call_of rfl (l.length + 1) ((slices_Index_Sint64.ev _ _ _).trans ?_)
  simp only [Int.ofNat_lt, str_inj, beq_dec, bne_dec, cond_dec, cond_nt, if_true, if_false, decide_true, decide_false, cond_true, cond_false, u8_inj, cells_div, sz_int, sz_u8, sz_list, sz_Symbol, sz_Signature, sz_Equation, sz_Binding, sz_Algebra, sz_Entry, sz_Completion, sz_Theory, sz_Put, sz_Disk, sz_Act, sz_IntResult, sz_IntsResult, sz_BytesResult, sz_TextResult, sz_SignatureResult, sz_TermResult, sz_TermsResult, sz_EquationResult, sz_EquationsResult, sz_KeyResult, sz_BindingResult, sz_RedexResult, sz_NormalResult, sz_AlgebraResult, sz_EntryResult, sz_CompletionResult, sz_TheoryResult, sz_DiskResult, inB_nat, Int.toNat_natCast, get0, get1, get2, get3, get4, get5, get6, get7, get8, Nat.reduceLT, bind_of, List.getElem?_cons_zero, List.getElem?_cons_succ, oInt_int, oBool_bool, oStr_str, oSl_slc, oAgg_agg, oTup_tup, oCons_cons, oNil_nil, sl_cells]
  refine idx_loop (S := fun m k => slices_Index_Sint64.at0 (l.length + 1) m (slices_Index_Sint64.st0 (cells l) x l.length (k : Nat))) (fun m k h => ?_) (fun m => ?_) (Nat.lt_succ_self _)
  · have hlk : l[k]? = some l[k] := List.getElem?_eq_getElem h
    simp only [slices_Index_Sint64.next0, slices_Index_Sint64.round0, Int.ofNat_lt, str_inj, beq_dec, bne_dec, cond_dec, cond_nt, if_true, if_false, decide_true, decide_false, cond_true, cond_false, u8_inj, cells_div, sz_int, sz_u8, sz_list, sz_Symbol, sz_Signature, sz_Equation, sz_Binding, sz_Algebra, sz_Entry, sz_Completion, sz_Theory, sz_Put, sz_Disk, sz_Act, sz_IntResult, sz_IntsResult, sz_BytesResult, sz_TextResult, sz_SignatureResult, sz_TermResult, sz_TermsResult, sz_EquationResult, sz_EquationsResult, sz_KeyResult, sz_BindingResult, sz_RedexResult, sz_NormalResult, sz_AlgebraResult, sz_EntryResult, sz_CompletionResult, sz_TheoryResult, sz_DiskResult, inB_nat, Int.toNat_natCast, get0, get1, get2, get3, get4, get5, get6, get7, get8, Nat.reduceLT, bind_of, List.getElem?_cons_zero, List.getElem?_cons_succ, oInt_int, oBool_bool, oStr_str, oSl_slc, oAgg_agg, oTup_tup, oCons_cons, oNil_nil, sl_cells, h, hlk, enc_int]
    rw [wrap_succ (by omega)]
    by_cases e : x = l[k]
    · simp [e]
    · have e' : ¬ l[k] = x := fun h => e h.symm
      simp [e, e']
  · simp only [slices_Index_Sint64.next0, slices_Index_Sint64.round0, Int.ofNat_lt, str_inj, beq_dec, bne_dec, cond_dec, cond_nt, if_true, if_false, decide_true, decide_false, cond_true, cond_false, u8_inj, cells_div, sz_int, sz_u8, sz_list, sz_Symbol, sz_Signature, sz_Equation, sz_Binding, sz_Algebra, sz_Entry, sz_Completion, sz_Theory, sz_Put, sz_Disk, sz_Act, sz_IntResult, sz_IntsResult, sz_BytesResult, sz_TextResult, sz_SignatureResult, sz_TermResult, sz_TermsResult, sz_EquationResult, sz_EquationsResult, sz_KeyResult, sz_BindingResult, sz_RedexResult, sz_NormalResult, sz_AlgebraResult, sz_EntryResult, sz_CompletionResult, sz_TheoryResult, sz_DiskResult, inB_nat, Int.toNat_natCast, get0, get1, get2, get3, get4, get5, get6, get7, get8, Nat.reduceLT, bind_of, List.getElem?_cons_zero, List.getElem?_cons_succ, oInt_int, oBool_bool, oStr_str, oSl_slc, oAgg_agg, oTup_tup, oCons_cons, oNil_nil, sl_cells, Nat.lt_irrefl]
def ofT : Option (List Int) → T
  | some t => .tup [slc t, .bool true]
  | none => .tup [slc ([] : List Int), .bool false]
theorem impl_Binding_of (vs : List Int) (ts : List (List Int)) (v : Int) (hl : vs.length = ts.length) (hs : vs.length ≤ 4294967296) : Call F.impl_Binding_of [.agg [slc vs, slc ts], .int .i64 v] (ofT (bindOf vs ts v)) := by
  refine call_of rfl 0 ((impl_Binding_of.ev _ _ _ _).trans ?_)
  simp only [Int.ofNat_lt, str_inj, beq_dec, bne_dec, cond_dec, cond_nt, if_true, if_false, decide_true, decide_false, cond_true, cond_false, u8_inj, cells_div, sz_int, sz_u8, sz_list, sz_Symbol, sz_Signature, sz_Equation, sz_Binding, sz_Algebra, sz_Entry, sz_Completion, sz_Theory, sz_Put, sz_Disk, sz_Act, sz_IntResult, sz_IntsResult, sz_BytesResult, sz_TextResult, sz_SignatureResult, sz_TermResult, sz_TermsResult, sz_EquationResult, sz_EquationsResult, sz_KeyResult, sz_BindingResult, sz_RedexResult, sz_NormalResult, sz_AlgebraResult, sz_EntryResult, sz_CompletionResult, sz_TheoryResult, sz_DiskResult, inB_nat, Int.toNat_natCast, get0, get1, get2, get3, get4, get5, get6, get7, get8, Nat.reduceLT, bind_of, List.getElem?_cons_zero, List.getElem?_cons_succ, oInt_int, oBool_bool, oStr_str, oSl_slc, oAgg_agg, oTup_tup, oCons_cons, oNil_nil, sl_cells, (slices_Index_Sint64 vs v hs).eq, bindOf]
  rcases idx_spec (fun x : Int => decide (x = v)) vs with ⟨h, _⟩ | ⟨i, hi, h, _, _⟩
  · simp only [h, Int.ofNat_lt, str_inj, beq_dec, bne_dec, cond_dec, cond_nt, if_true, if_false, decide_true, decide_false, cond_true, cond_false, u8_inj, cells_div, sz_int, sz_u8, sz_list, sz_Symbol, sz_Signature, sz_Equation, sz_Binding, sz_Algebra, sz_Entry, sz_Completion, sz_Theory, sz_Put, sz_Disk, sz_Act, sz_IntResult, sz_IntsResult, sz_BytesResult, sz_TextResult, sz_SignatureResult, sz_TermResult, sz_TermsResult, sz_EquationResult, sz_EquationsResult, sz_KeyResult, sz_BindingResult, sz_RedexResult, sz_NormalResult, sz_AlgebraResult, sz_EntryResult, sz_CompletionResult, sz_TheoryResult, sz_DiskResult, inB_nat, Int.toNat_natCast, get0, get1, get2, get3, get4, get5, get6, get7, get8, Nat.reduceLT, bind_of, List.getElem?_cons_zero, List.getElem?_cons_succ, oInt_int, oBool_bool, oStr_str, oSl_slc, oAgg_agg, oTup_tup, oCons_cons, oNil_nil, sl_cells, ofT, slc_nil, show ((-1 : Int) < 0) = True from by simp]
  · have hn : ¬ ((i : Nat) : Int) < 0 := by omega
    have hit : i < ts.length := by omega
    simp only [h, hn, Int.ofNat_lt, str_inj, beq_dec, bne_dec, cond_dec, cond_nt, if_true, if_false, decide_true, decide_false, cond_true, cond_false, u8_inj, cells_div, sz_int, sz_u8, sz_list, sz_Symbol, sz_Signature, sz_Equation, sz_Binding, sz_Algebra, sz_Entry, sz_Completion, sz_Theory, sz_Put, sz_Disk, sz_Act, sz_IntResult, sz_IntsResult, sz_BytesResult, sz_TextResult, sz_SignatureResult, sz_TermResult, sz_TermsResult, sz_EquationResult, sz_EquationsResult, sz_KeyResult, sz_BindingResult, sz_RedexResult, sz_NormalResult, sz_AlgebraResult, sz_EntryResult, sz_CompletionResult, sz_TheoryResult, sz_DiskResult, inB_nat, Int.toNat_natCast, get0, get1, get2, get3, get4, get5, get6, get7, get8, Nat.reduceLT, bind_of, List.getElem?_cons_zero, List.getElem?_cons_succ, oInt_int, oBool_bool, oStr_str, oSl_slc, oAgg_agg, oTup_tup, oCons_cons, oNil_nil, sl_cells, hit, List.getElem?_eq_getElem, enc_list, ofT]
theorem spec_l6Term (vs : List Int) (ts : List (List Int)) (v : Int) (hl : vs.length = ts.length) (hs : vs.length ≤ 4294967296) : Call F.spec_l6Term [.rref [slc vs, slc ts] 0, .int .i64 v] (slc ((bindOf vs ts v).getD [])) := by
  refine call_of rfl (vs.length + 1) ((spec_l6Term.ev _ _ _ _).trans ?_)
  have loop := scan_loop (l := List.range vs.length) (g := fun k => if vs[k]? = some v then some (some (slc (ts[k]?.getD []), [])) else none) (z := some (slc ([] : List Int), []))
    (S := fun m k => spec_l6Term.at0 (vs.length + 1) m (spec_l6Term.st0 (cells vs) (cells ts) v (k : Nat))) (fun m k h => ?_) (fun m => ?_) (f := vs.length + 1) (by simp)
  · refine loop.trans ?_
    unfold bindOf
    rcases idx_spec (fun x : Int => decide (x = v)) vs with ⟨h, hno⟩ | ⟨i, hi, h, hyes, hno⟩
    · rw [h, if_pos (by omega)]
      have : (List.range vs.length).findSome? (fun k => if vs[k]? = some v then some ((some (slc (ts[k]?.getD []), []) : R)) else none) = none := by
        rw [List.findSome?_eq_none_iff]
        intro k hk
        rw [List.mem_range] at hk
        rw [if_neg]
        rw [List.getElem?_eq_getElem hk]
        intro e
        have := hno _ (List.getElem_mem hk)
        simp at this e
        exact this e
      rw [this]; rfl
    · rw [h, if_neg (by omega)]
      have hit : i < ts.length := by omega
      have : (List.range vs.length).findSome? (fun k => if vs[k]? = some v then some ((some (slc (ts[k]?.getD []), []) : R)) else none) = some (some (slc ts[i], [])) := by
        rw [List.findSome?_eq_some_iff]
        refine ⟨List.range i, i, (List.range' (i + 1) (vs.length - i - 1)), ?_, ?_, ?_⟩
        · rw [List.range_eq_range', List.range_eq_range', ← List.range'_succ, show vs.length - i - 1 + 1 = vs.length - i by omega]
          have := List.range'_append (s := 0) (m := i) (n := vs.length - i) (step := 1)
          simp only [Nat.one_mul, Nat.zero_add] at this
          rw [this, Nat.add_sub_cancel' (Nat.le_of_lt hi)]
        · have e1 : vs[i]? = some v := (List.getElem?_eq_getElem hi).trans (congrArg some (of_decide_eq_true hyes))
          have e2 : ts[i]? = some ts[i] := List.getElem?_eq_getElem hit
          simp only [e1, e2, if_true, Option.getD_some]
        · intro k hk
          rw [List.mem_range] at hk
          rw [if_neg]
          rw [List.getElem?_eq_getElem (by omega)]
          intro e
          have := hno k hk
          simp at this e
          exact this e
      rw [this, Int.toNat_natCast, List.getElem?_eq_getElem hit]; rfl
  · rw [List.length_range] at h
    have hlk : vs[k]? = some vs[k] := List.getElem?_eq_getElem h
    have hkt : k < ts.length := by omega
    simp only [spec_l6Term.next0, spec_l6Term.round0, Int.ofNat_lt, str_inj, beq_dec, bne_dec, cond_dec, cond_nt, if_true, if_false, decide_true, decide_false, cond_true, cond_false, u8_inj, cells_div, sz_int, sz_u8, sz_list, sz_Symbol, sz_Signature, sz_Equation, sz_Binding, sz_Algebra, sz_Entry, sz_Completion, sz_Theory, sz_Put, sz_Disk, sz_Act, sz_IntResult, sz_IntsResult, sz_BytesResult, sz_TextResult, sz_SignatureResult, sz_TermResult, sz_TermsResult, sz_EquationResult, sz_EquationsResult, sz_KeyResult, sz_BindingResult, sz_RedexResult, sz_NormalResult, sz_AlgebraResult, sz_EntryResult, sz_CompletionResult, sz_TheoryResult, sz_DiskResult, inB_nat, Int.toNat_natCast, get0, get1, get2, get3, get4, get5, get6, get7, get8, Nat.reduceLT, bind_of, List.getElem?_cons_zero, List.getElem?_cons_succ, oInt_int, oBool_bool, oStr_str, oSl_slc, oAgg_agg, oTup_tup, oCons_cons, oNil_nil, sl_cells, h, hkt, hlk, List.getElem?_eq_getElem, enc_int, enc_list, List.getElem_range, Option.getD_some, Option.some.injEq]
    rw [wrap_succ (by omega)]
    by_cases e : vs[k] = v <;> simp [e]
  · rw [List.length_range]
    simp only [spec_l6Term.next0, spec_l6Term.round0, Int.ofNat_lt, str_inj, beq_dec, bne_dec, cond_dec, cond_nt, if_true, if_false, decide_true, decide_false, cond_true, cond_false, u8_inj, cells_div, sz_int, sz_u8, sz_list, sz_Symbol, sz_Signature, sz_Equation, sz_Binding, sz_Algebra, sz_Entry, sz_Completion, sz_Theory, sz_Put, sz_Disk, sz_Act, sz_IntResult, sz_IntsResult, sz_BytesResult, sz_TextResult, sz_SignatureResult, sz_TermResult, sz_TermsResult, sz_EquationResult, sz_EquationsResult, sz_KeyResult, sz_BindingResult, sz_RedexResult, sz_NormalResult, sz_AlgebraResult, sz_EntryResult, sz_CompletionResult, sz_TheoryResult, sz_DiskResult, inB_nat, Int.toNat_natCast, get0, get1, get2, get3, get4, get5, get6, get7, get8, Nat.reduceLT, bind_of, List.getElem?_cons_zero, List.getElem?_cons_succ, oInt_int, oBool_bool, oStr_str, oSl_slc, oAgg_agg, oTup_tup, oCons_cons, oNil_nil, sl_cells, Nat.lt_irrefl, slc_nil]
/-- A term with all that is bound replaced. -/
def applied (vs : List Int) (ts : List (List Int)) (t : List Int) : List Int := t.flatMap fun n => (bindOf vs ts (-1 - n)).getD [n]
structure BindOk (vs : List Int) (ts : List (List Int)) : Prop where
  len : vs.length = ts.length
  le : vs.length ≤ 1000
  nn : ∀ v ∈ vs, 0 ≤ v
  tm : ∀ t ∈ ts, 1 ≤ t.length ∧ t.length ≤ 4096
theorem bindOf_neg {vs : List Int} {ts : List (List Int)} (ok : BindOk vs ts) {v : Int} (hv : v < 0) : bindOf vs ts v = none := by
  unfold bindOf
  rcases idx_spec (fun x : Int => decide (x = v)) vs with ⟨h, _⟩ | ⟨i, hi, h, hy, _⟩
  · rw [if_pos (by omega)]
  · have := ok.nn _ (List.getElem_mem hi)
    simp at hy; omega
theorem bindOf_mem {vs : List Int} {ts : List (List Int)} {v : Int} {t : List Int} (h : bindOf vs ts v = some t) : t ∈ ts := by
  unfold bindOf at h
  split at h
  · cases h
  · exact List.mem_of_getElem? h
def appStep (vs : List Int) (ts : List (List Int)) (o : List Int) (n : Int) : List Int := o ++ (bindOf vs ts (-1 - n)).getD [n]
theorem app_fold (vs : List Int) (ts : List (List Int)) : ∀ (t o : List Int), t.foldl (appStep vs ts) o = o ++ applied vs ts t
  | [], o => by simp [applied]
  | n :: t, o => by
    rw [List.foldl_cons, app_fold vs ts t]
    simp [appStep, applied]
def appI (k : Nat) (o : List Int) : Prop := o.length ≤ k * 4096
theorem appI_step {vs : List Int} {ts : List (List Int)} (ok : BindOk vs ts) {k : Nat} {o : List Int} {n : Int} (h : appI k o) : appI (k + 1) (appStep vs ts o n) := by
  unfold appI appStep at *
  rw [List.length_append]
  cases hb : bindOf vs ts (-1 - n) with
  | none => simp; omega
  | some t => have := (ok.tm t (bindOf_mem hb)).2; simp; omega
theorem applied_length {vs : List Int} {ts : List (List Int)} (ok : BindOk vs ts) (t : List Int) : (applied vs ts t).length ≤ t.length * 4096 := by
  have := fold_inv (l := t) (g := appStep vs ts) appI (fun k o _ h => appI_step ok h) [] (by simp [appI])
  rw [app_fold] at this
  simpa [appI] using this
theorem impl_Binding_applied (vs : List Int) (ts : List (List Int)) (ok : BindOk vs ts) (t : List Int) (ht : t.length ≤ 4096) (hr : ∀ n ∈ t, -4611686018427387904 ≤ n ∧ n ≤ 4611686018427387904) : Call F.impl_Binding_applied [.agg [slc vs, slc ts], slc t] (slc (applied vs ts t)) := by
  have hle := ok.le
  refine call_of rfl (t.length + 1) ((impl_Binding_applied.ev _ _ _ _).trans ?_)
  simp only [cells_div, sz_int]
  have key := fold_loop (l := t) (f := t.length + 1) (S := fun m k (o : List Int) => impl_Binding_applied.at0 (t.length + 1) m (impl_Binding_applied.st0 (cells t) t.length (k : Nat) (cells vs) (cells ts) (cells o))) (g := appStep vs ts) (z := fun (o : List Int) => some (slc o, [])) appI
    (fun m k o h ho => ?_) (fun k o h ho => appI_step ok ho) (fun m o ho => ?_) [] (by simp [appI]) (by omega)
  · rw [app_fold] at key; exact key
  · have hn := hr _ (List.getElem_mem h)
    have ho : o.length ≤ k * 4096 := ho
    simp only [impl_Binding_applied.next0, impl_Binding_applied.round0, Int.ofNat_lt, str_inj, beq_dec, bne_dec, cond_dec, cond_nt, if_true, if_false, decide_true, decide_false, cond_true, cond_false, u8_inj, cells_div, sz_int, sz_u8, sz_list, sz_Symbol, sz_Signature, sz_Equation, sz_Binding, sz_Algebra, sz_Entry, sz_Completion, sz_Theory, sz_Put, sz_Disk, sz_Act, sz_IntResult, sz_IntsResult, sz_BytesResult, sz_TextResult, sz_SignatureResult, sz_TermResult, sz_TermsResult, sz_EquationResult, sz_EquationsResult, sz_KeyResult, sz_BindingResult, sz_RedexResult, sz_NormalResult, sz_AlgebraResult, sz_EntryResult, sz_CompletionResult, sz_TheoryResult, sz_DiskResult, inB_nat, Int.toNat_natCast, get0, get1, get2, get3, get4, get5, get6, get7, get8, Nat.reduceLT, bind_of, List.getElem?_cons_zero, List.getElem?_cons_succ, oInt_int, oBool_bool, oStr_str, oSl_slc, oAgg_agg, oTup_tup, oCons_cons, oNil_nil, sl_cells, h, List.getElem?_eq_getElem, enc_int, wrap64 (x := -1 - t[k]) (by omega), (impl_Binding_of vs ts (-1 - t[k]) ok.len (by omega)).eq, appStep]
    cases hb : bindOf vs ts (-1 - t[k]) with
    | none =>
      simp only [ofT, Int.ofNat_lt, str_inj, beq_dec, bne_dec, cond_dec, cond_nt, if_true, if_false, decide_true, decide_false, cond_true, cond_false, u8_inj, cells_div, sz_int, sz_u8, sz_list, sz_Symbol, sz_Signature, sz_Equation, sz_Binding, sz_Algebra, sz_Entry, sz_Completion, sz_Theory, sz_Put, sz_Disk, sz_Act, sz_IntResult, sz_IntsResult, sz_BytesResult, sz_TextResult, sz_SignatureResult, sz_TermResult, sz_TermsResult, sz_EquationResult, sz_EquationsResult, sz_KeyResult, sz_BindingResult, sz_RedexResult, sz_NormalResult, sz_AlgebraResult, sz_EntryResult, sz_CompletionResult, sz_TheoryResult, sz_DiskResult, inB_nat, Int.toNat_natCast, get0, get1, get2, get3, get4, get5, get6, get7, get8, Nat.reduceLT, bind_of, List.getElem?_cons_zero, List.getElem?_cons_succ, oInt_int, oBool_bool, oStr_str, oSl_slc, oAgg_agg, oTup_tup, oCons_cons, oNil_nil, sl_cells, scalars_int, Option.getD_none, ← cells_append]
      rw [cond_pos (ble_ok (by rw [cells_length, sz_int]; omega)), cells_snoc_int, wrap_succ (by omega)]
    | some x =>
      have hx := (ok.tm x (bindOf_mem hb)).2
      simp only [ofT, Int.ofNat_lt, str_inj, beq_dec, bne_dec, cond_dec, cond_nt, if_true, if_false, decide_true, decide_false, cond_true, cond_false, u8_inj, cells_div, sz_int, sz_u8, sz_list, sz_Symbol, sz_Signature, sz_Equation, sz_Binding, sz_Algebra, sz_Entry, sz_Completion, sz_Theory, sz_Put, sz_Disk, sz_Act, sz_IntResult, sz_IntsResult, sz_BytesResult, sz_TextResult, sz_SignatureResult, sz_TermResult, sz_TermsResult, sz_EquationResult, sz_EquationsResult, sz_KeyResult, sz_BindingResult, sz_RedexResult, sz_NormalResult, sz_AlgebraResult, sz_EntryResult, sz_CompletionResult, sz_TheoryResult, sz_DiskResult, inB_nat, Int.toNat_natCast, get0, get1, get2, get3, get4, get5, get6, get7, get8, Nat.reduceLT, bind_of, List.getElem?_cons_zero, List.getElem?_cons_succ, oInt_int, oBool_bool, oStr_str, oSl_slc, oAgg_agg, oTup_tup, oCons_cons, oNil_nil, sl_cells, scalars_int, Option.getD_some, ← cells_append]
      rw [cond_pos (ble_ok (by rw [cells_length, cells_length, sz_int]; omega)), wrap_succ (by omega)]
  · simp only [impl_Binding_applied.next0, impl_Binding_applied.round0, Int.ofNat_lt, str_inj, beq_dec, bne_dec, cond_dec, cond_nt, if_true, if_false, decide_true, decide_false, cond_true, cond_false, u8_inj, cells_div, sz_int, sz_u8, sz_list, sz_Symbol, sz_Signature, sz_Equation, sz_Binding, sz_Algebra, sz_Entry, sz_Completion, sz_Theory, sz_Put, sz_Disk, sz_Act, sz_IntResult, sz_IntsResult, sz_BytesResult, sz_TextResult, sz_SignatureResult, sz_TermResult, sz_TermsResult, sz_EquationResult, sz_EquationsResult, sz_KeyResult, sz_BindingResult, sz_RedexResult, sz_NormalResult, sz_AlgebraResult, sz_EntryResult, sz_CompletionResult, sz_TheoryResult, sz_DiskResult, inB_nat, Int.toNat_natCast, get0, get1, get2, get3, get4, get5, get6, get7, get8, Nat.reduceLT, bind_of, List.getElem?_cons_zero, List.getElem?_cons_succ, oInt_int, oBool_bool, oStr_str, oSl_slc, oAgg_agg, oTup_tup, oCons_cons, oNil_nil, sl_cells, Nat.lt_irrefl]
theorem spec_l6Apply (vs : List Int) (ts : List (List Int)) (ok : BindOk vs ts) (t : List Int) (ht : t.length ≤ 4096) (hr : ∀ n ∈ t, -4611686018427387904 ≤ n ∧ n ≤ 4611686018427387904) : Call F.spec_l6Apply [.rref [slc vs, slc ts] 0, slc t] (slc (applied vs ts t)) := by
  have hle := ok.le
  refine call_of rfl (t.length + 1) ((spec_l6Apply.ev _ _ _ _).trans ?_)
  have key := fold_loop (l := t) (f := t.length + 1) (S := fun m k (o : List Int) => spec_l6Apply.at0 (t.length + 1) m (spec_l6Apply.st0 (cells vs) (cells ts) (cells t) (k : Nat) (cells o))) (g := appStep vs ts) (z := fun (o : List Int) => some (slc o, [])) appI
    (fun m k o h ho => ?_) (fun k o h ho => appI_step ok ho) (fun m o ho => ?_) [] (by simp [appI]) (by omega)
  · rw [app_fold] at key; exact key
  · have hn := hr _ (List.getElem_mem h)
    have ho : o.length ≤ k * 4096 := ho
    by_cases hneg : t[k] < 0
    · simp only [spec_l6Apply.next0, spec_l6Apply.round0, Int.ofNat_lt, str_inj, beq_dec, bne_dec, cond_dec, cond_nt, if_true, if_false, decide_true, decide_false, cond_true, cond_false, u8_inj, cells_div, sz_int, sz_u8, sz_list, sz_Symbol, sz_Signature, sz_Equation, sz_Binding, sz_Algebra, sz_Entry, sz_Completion, sz_Theory, sz_Put, sz_Disk, sz_Act, sz_IntResult, sz_IntsResult, sz_BytesResult, sz_TextResult, sz_SignatureResult, sz_TermResult, sz_TermsResult, sz_EquationResult, sz_EquationsResult, sz_KeyResult, sz_BindingResult, sz_RedexResult, sz_NormalResult, sz_AlgebraResult, sz_EntryResult, sz_CompletionResult, sz_TheoryResult, sz_DiskResult, inB_nat, Int.toNat_natCast, get0, get1, get2, get3, get4, get5, get6, get7, get8, Nat.reduceLT, bind_of, List.getElem?_cons_zero, List.getElem?_cons_succ, oInt_int, oBool_bool, oStr_str, oSl_slc, oAgg_agg, oTup_tup, oCons_cons, oNil_nil, sl_cells, h, List.getElem?_eq_getElem, enc_int, hneg, wrap64 (x := -1 - t[k]) (by omega), (spec_l6Term vs ts (-1 - t[k]) ok.len (by omega)).eq, appStep]
      cases hb : bindOf vs ts (-1 - t[k]) with
      | none =>
        simp only [slc_nil, Int.ofNat_lt, str_inj, beq_dec, bne_dec, cond_dec, cond_nt, if_true, if_false, decide_true, decide_false, cond_true, cond_false, u8_inj, cells_div, sz_int, sz_u8, sz_list, sz_Symbol, sz_Signature, sz_Equation, sz_Binding, sz_Algebra, sz_Entry, sz_Completion, sz_Theory, sz_Put, sz_Disk, sz_Act, sz_IntResult, sz_IntsResult, sz_BytesResult, sz_TextResult, sz_SignatureResult, sz_TermResult, sz_TermsResult, sz_EquationResult, sz_EquationsResult, sz_KeyResult, sz_BindingResult, sz_RedexResult, sz_NormalResult, sz_AlgebraResult, sz_EntryResult, sz_CompletionResult, sz_TheoryResult, sz_DiskResult, inB_nat, Int.toNat_natCast, get0, get1, get2, get3, get4, get5, get6, get7, get8, Nat.reduceLT, bind_of, List.getElem?_cons_zero, List.getElem?_cons_succ, oInt_int, oBool_bool, oStr_str, oSl_slc, oAgg_agg, oTup_tup, oCons_cons, oNil_nil, sl_cells, List.all_nil, Option.getD_none, cells_nil, List.length_nil, ← cells_append, Int.natCast_zero, Nat.zero_div, Int.ofNat_zero]
        rw [cond_pos (ble_ok (by rw [cells_length, sz_int]; omega)), cells_snoc_int, wrap_succ (by omega)]
      | some x =>
        have hx := ok.tm x (bindOf_mem hb)
        have hx0 : ¬ ((x.length : Int) = 0) := by omega
        simp only [Int.ofNat_lt, str_inj, beq_dec, bne_dec, cond_dec, cond_nt, if_true, if_false, decide_true, decide_false, cond_true, cond_false, u8_inj, cells_div, sz_int, sz_u8, sz_list, sz_Symbol, sz_Signature, sz_Equation, sz_Binding, sz_Algebra, sz_Entry, sz_Completion, sz_Theory, sz_Put, sz_Disk, sz_Act, sz_IntResult, sz_IntsResult, sz_BytesResult, sz_TextResult, sz_SignatureResult, sz_TermResult, sz_TermsResult, sz_EquationResult, sz_EquationsResult, sz_KeyResult, sz_BindingResult, sz_RedexResult, sz_NormalResult, sz_AlgebraResult, sz_EntryResult, sz_CompletionResult, sz_TheoryResult, sz_DiskResult, inB_nat, Int.toNat_natCast, get0, get1, get2, get3, get4, get5, get6, get7, get8, Nat.reduceLT, bind_of, List.getElem?_cons_zero, List.getElem?_cons_succ, oInt_int, oBool_bool, oStr_str, oSl_slc, oAgg_agg, oTup_tup, oCons_cons, oNil_nil, sl_cells, scalars_int, Option.getD_some, hx0, ← cells_append]
        rw [cond_pos (ble_ok (by rw [cells_length, cells_length, sz_int]; omega)), wrap_succ (by omega)]
    · simp only [spec_l6Apply.next0, spec_l6Apply.round0, Int.ofNat_lt, str_inj, beq_dec, bne_dec, cond_dec, cond_nt, if_true, if_false, decide_true, decide_false, cond_true, cond_false, u8_inj, cells_div, sz_int, sz_u8, sz_list, sz_Symbol, sz_Signature, sz_Equation, sz_Binding, sz_Algebra, sz_Entry, sz_Completion, sz_Theory, sz_Put, sz_Disk, sz_Act, sz_IntResult, sz_IntsResult, sz_BytesResult, sz_TextResult, sz_SignatureResult, sz_TermResult, sz_TermsResult, sz_EquationResult, sz_EquationsResult, sz_KeyResult, sz_BindingResult, sz_RedexResult, sz_NormalResult, sz_AlgebraResult, sz_EntryResult, sz_CompletionResult, sz_TheoryResult, sz_DiskResult, inB_nat, Int.toNat_natCast, get0, get1, get2, get3, get4, get5, get6, get7, get8, Nat.reduceLT, bind_of, List.getElem?_cons_zero, List.getElem?_cons_succ, oInt_int, oBool_bool, oStr_str, oSl_slc, oAgg_agg, oTup_tup, oCons_cons, oNil_nil, sl_cells, h, List.getElem?_eq_getElem, enc_int, hneg, appStep, bindOf_neg ok (v := -1 - t[k]) (by omega), Option.getD_none]
      rw [cond_pos (ble_ok (by rw [cells_length, sz_int]; omega)), cells_snoc_int, wrap_succ (by omega)]
  · simp only [spec_l6Apply.next0, spec_l6Apply.round0, Int.ofNat_lt, str_inj, beq_dec, bne_dec, cond_dec, cond_nt, if_true, if_false, decide_true, decide_false, cond_true, cond_false, u8_inj, cells_div, sz_int, sz_u8, sz_list, sz_Symbol, sz_Signature, sz_Equation, sz_Binding, sz_Algebra, sz_Entry, sz_Completion, sz_Theory, sz_Put, sz_Disk, sz_Act, sz_IntResult, sz_IntsResult, sz_BytesResult, sz_TextResult, sz_SignatureResult, sz_TermResult, sz_TermsResult, sz_EquationResult, sz_EquationsResult, sz_KeyResult, sz_BindingResult, sz_RedexResult, sz_NormalResult, sz_AlgebraResult, sz_EntryResult, sz_CompletionResult, sz_TheoryResult, sz_DiskResult, inB_nat, Int.toNat_natCast, get0, get1, get2, get3, get4, get5, get6, get7, get8, Nat.reduceLT, bind_of, List.getElem?_cons_zero, List.getElem?_cons_succ, oInt_int, oBool_bool, oStr_str, oSl_slc, oAgg_agg, oTup_tup, oCons_cons, oNil_nil, sl_cells, Nat.lt_irrefl]
/-! ## what is wrong with a binding -/
def pairFault (l : List Symbol) (x : Int × List Int) : Option Int := if inR x.1 0 11 = false then some 3 else if termFault0 l x.2 ≠ 0 then some (termFault0 l x.2) else none
def falls (vs : List Int) : Bool := (List.range (vs.length - 1)).any fun i => decide (vs.getD (i + 1) 0 ≤ vs.getD i 0)
def bindFault0 (l : List Symbol) (vs : List Int) (ts : List (List Int)) : Int :=
  if vs.length ≠ ts.length ∨ 12 < vs.length then 2 else match (vs.zip ts).findSome? (pairFault l) with
    | some c => c
    | none => if falls vs = true then 1 else 0
theorem bindOk_of {l : List Symbol} {vs : List Int} {ts : List (List Int)} (h : bindFault0 l vs ts = 0) : BindOk vs ts := by
  unfold bindFault0 at h
  split at h
  · cases h
  · rename_i h1
    have hlen : vs.length = ts.length := by omega
    split at h
    · rename_i c hc
      obtain ⟨x, _, hx⟩ := List.exists_of_findSome?_eq_some hc
      unfold pairFault at hx
      split at hx
      · cases hx; cases h
      · split at hx
        · rename_i hne; cases hx; exact absurd h hne
        · cases hx
    · rename_i hn
      have hp : ∀ k (hk : k < vs.length), (inR vs[k] 0 11 = true) ∧ TermOk l (ts[k]'(by omega)) := fun k hk => by
        have hz : k < (vs.zip ts).length := by rw [List.length_zip]; omega
        have := List.findSome?_eq_none_iff.1 hn _ (List.getElem_mem hz)
        rw [List.getElem_zip] at this
        unfold pairFault at this
        split at this
        · cases this
        · rename_i q1
          split at this
          · cases this
          · rename_i q2
            exact ⟨by simpa using q1, (termOk_iff _ _).1 (by simpa using q2)⟩
      refine ⟨hlen, by omega, fun v hv => ?_, fun t ht => ?_⟩
      · obtain ⟨k, hk, rfl⟩ := List.getElem_of_mem hv
        exact (inR_iff.1 (hp k hk).1).1
      · obtain ⟨k, hk, rfl⟩ := List.getElem_of_mem ht
        have ok := (hp k (by omega)).2
        exact ⟨ok.pos, by have := ok.le; omega⟩
theorem getD_at {vs : List Int} {k : Nat} (h : k < vs.length) : vs.getD k 0 = vs[k] := by rw [List.getD_eq_getElem?_getD, List.getElem?_eq_getElem h]; rfl
theorem spec_l1Rise (vs : List Int) (hl : vs.length ≤ 4294967296) : Call F.spec_l1Rise [slc vs] (.bool (!falls vs)) := by
  refine call_of rfl (vs.length + 1) ((spec_l1Rise.ev _ _).trans ?_)
  refine (any_loop (n := vs.length - 1) (bad := fun i => decide (vs.getD (i + 1) 0 ≤ vs.getD i 0)) (r := some (.bool false, [])) (z := some (.bool true, [])) (S := fun m k => spec_l1Rise.at0 (vs.length + 1) m (spec_l1Rise.st0 (cells vs) ((k + 1 : Nat) : Int))) (fun m k h => ?_) (fun m => ?_) (f := vs.length + 1) (by omega)).trans ?_
  · have h1 : k + 1 < vs.length := by omega
    have h0 : k < vs.length := by omega
    have hw : IntKind.wrap .i64 (((k + 1 : Nat) : Int) - 1) = (k : Nat) := by rw [wrap64 (by omega)]; omega
    simp only [spec_l1Rise.next0, spec_l1Rise.round0, Int.ofNat_lt, str_inj, beq_dec, bne_dec, cond_dec, cond_nt, if_true, if_false, decide_true, decide_false, cond_true, cond_false, u8_inj, cells_div, sz_int, sz_u8, sz_list, sz_Symbol, sz_Signature, sz_Equation, sz_Binding, sz_Algebra, sz_Entry, sz_Completion, sz_Theory, sz_Put, sz_Disk, sz_Act, sz_IntResult, sz_IntsResult, sz_BytesResult, sz_TextResult, sz_SignatureResult, sz_TermResult, sz_TermsResult, sz_EquationResult, sz_EquationsResult, sz_KeyResult, sz_BindingResult, sz_RedexResult, sz_NormalResult, sz_AlgebraResult, sz_EntryResult, sz_CompletionResult, sz_TheoryResult, sz_DiskResult, inB_nat, Int.toNat_natCast, get0, get1, get2, get3, get4, get5, get6, get7, get8, Nat.reduceLT, bind_of, List.getElem?_cons_zero, List.getElem?_cons_succ, oInt_int, oBool_bool, oStr_str, oSl_slc, oAgg_agg, oTup_tup, oCons_cons, oNil_nil, sl_cells, h1, h0, hw, List.getElem?_eq_getElem, enc_int, getD_at h1, getD_at h0, decide_eq_true_eq]
    rw [wrap_succ (by omega)]
  · have h1 : ¬ vs.length - 1 + 1 < vs.length := by omega
    simp only [spec_l1Rise.next0, spec_l1Rise.round0, Int.ofNat_lt, str_inj, beq_dec, bne_dec, cond_dec, cond_nt, if_true, if_false, decide_true, decide_false, cond_true, cond_false, u8_inj, cells_div, sz_int, sz_u8, sz_list, sz_Symbol, sz_Signature, sz_Equation, sz_Binding, sz_Algebra, sz_Entry, sz_Completion, sz_Theory, sz_Put, sz_Disk, sz_Act, sz_IntResult, sz_IntsResult, sz_BytesResult, sz_TextResult, sz_SignatureResult, sz_TermResult, sz_TermsResult, sz_EquationResult, sz_EquationsResult, sz_KeyResult, sz_BindingResult, sz_RedexResult, sz_NormalResult, sz_AlgebraResult, sz_EntryResult, sz_CompletionResult, sz_TheoryResult, sz_DiskResult, inB_nat, Int.toNat_natCast, get0, get1, get2, get3, get4, get5, get6, get7, get8, Nat.reduceLT, bind_of, List.getElem?_cons_zero, List.getElem?_cons_succ, oInt_int, oBool_bool, oStr_str, oSl_slc, oAgg_agg, oTup_tup, oCons_cons, oNil_nil, sl_cells, h1]
  · unfold falls
    cases (List.range (vs.length - 1)).any fun i => decide (vs.getD (i + 1) 0 ≤ vs.getD i 0) <;> rfl
theorem falls_impl (vs : List Int) (ts : List (List Int)) (n : Nat) (hn : vs.length < n) (hl : vs.length ≤ 4294967296) : impl_BindingFault.at2 n n (impl_BindingFault.st2 1 (cells vs) (cells ts)) = some (.int .i64 (if falls vs = true then 1 else 0), []) := by
  refine (any_loop (n := vs.length - 1) (bad := fun i => decide (vs.getD (i + 1) 0 ≤ vs.getD i 0)) (r := some (.int .i64 1, [])) (z := some (.int .i64 0, [])) (S := fun m k => impl_BindingFault.at2 n m (impl_BindingFault.st2 ((k + 1 : Nat) : Int) (cells vs) (cells ts))) (fun m k h => ?_) (fun m => ?_) (f := n) (by omega)).trans ?_
  · have h1 : k + 1 < vs.length := by omega
    have h0 : k < vs.length := by omega
    have hw : IntKind.wrap .i64 (((k + 1 : Nat) : Int) - 1) = (k : Nat) := by rw [wrap64 (by omega)]; omega
    simp only [impl_BindingFault.next2, impl_BindingFault.round2, Int.ofNat_lt, str_inj, beq_dec, bne_dec, cond_dec, cond_nt, if_true, if_false, decide_true, decide_false, cond_true, cond_false, u8_inj, cells_div, sz_int, sz_u8, sz_list, sz_Symbol, sz_Signature, sz_Equation, sz_Binding, sz_Algebra, sz_Entry, sz_Completion, sz_Theory, sz_Put, sz_Disk, sz_Act, sz_IntResult, sz_IntsResult, sz_BytesResult, sz_TextResult, sz_SignatureResult, sz_TermResult, sz_TermsResult, sz_EquationResult, sz_EquationsResult, sz_KeyResult, sz_BindingResult, sz_RedexResult, sz_NormalResult, sz_AlgebraResult, sz_EntryResult, sz_CompletionResult, sz_TheoryResult, sz_DiskResult, inB_nat, Int.toNat_natCast, get0, get1, get2, get3, get4, get5, get6, get7, get8, Nat.reduceLT, bind_of, List.getElem?_cons_zero, List.getElem?_cons_succ, oInt_int, oBool_bool, oStr_str, oSl_slc, oAgg_agg, oTup_tup, oCons_cons, oNil_nil, sl_cells, h1, h0, hw, List.getElem?_eq_getElem, enc_int, getD_at h1, getD_at h0, decide_eq_true_eq]
    rw [wrap_succ (by omega)]
  · have h1 : ¬ vs.length - 1 + 1 < vs.length := by omega
    simp only [impl_BindingFault.next2, impl_BindingFault.round2, Int.ofNat_lt, str_inj, beq_dec, bne_dec, cond_dec, cond_nt, if_true, if_false, decide_true, decide_false, cond_true, cond_false, u8_inj, cells_div, sz_int, sz_u8, sz_list, sz_Symbol, sz_Signature, sz_Equation, sz_Binding, sz_Algebra, sz_Entry, sz_Completion, sz_Theory, sz_Put, sz_Disk, sz_Act, sz_IntResult, sz_IntsResult, sz_BytesResult, sz_TextResult, sz_SignatureResult, sz_TermResult, sz_TermsResult, sz_EquationResult, sz_EquationsResult, sz_KeyResult, sz_BindingResult, sz_RedexResult, sz_NormalResult, sz_AlgebraResult, sz_EntryResult, sz_CompletionResult, sz_TheoryResult, sz_DiskResult, inB_nat, Int.toNat_natCast, get0, get1, get2, get3, get4, get5, get6, get7, get8, Nat.reduceLT, bind_of, List.getElem?_cons_zero, List.getElem?_cons_succ, oInt_int, oBool_bool, oStr_str, oSl_slc, oAgg_agg, oTup_tup, oCons_cons, oNil_nil, sl_cells, h1]
  · unfold falls
    cases (List.range (vs.length - 1)).any fun i => decide (vs.getD (i + 1) 0 ≤ vs.getD i 0) <;> rfl
theorem impl_BindingFault (l : List Symbol) (hs : l.length ≤ 4294967296) (vs : List Int) (ts : List (List Int)) (hv : vs.length ≤ 4294967296) (ht : sm 4294967296 ts) :
    Call F.impl_BindingFault [.agg [slc l], .agg [slc vs, slc ts]] (.int .i64 (if sigFault ⟨l⟩ ≠ 0 then sigFault ⟨l⟩ else bindFault0 l vs ts)) := by
  refine call_of rfl (vs.length + 1) ((impl_BindingFault.ev _ _ _ _).trans ?_)
  have htl := ht.1
  simp only [Int.ofNat_lt, str_inj, beq_dec, bne_dec, cond_dec, cond_nt, if_true, if_false, decide_true, decide_false, cond_true, cond_false, u8_inj, cells_div, sz_int, sz_u8, sz_list, sz_Symbol, sz_Signature, sz_Equation, sz_Binding, sz_Algebra, sz_Entry, sz_Completion, sz_Theory, sz_Put, sz_Disk, sz_Act, sz_IntResult, sz_IntsResult, sz_BytesResult, sz_TextResult, sz_SignatureResult, sz_TermResult, sz_TermsResult, sz_EquationResult, sz_EquationsResult, sz_KeyResult, sz_BindingResult, sz_RedexResult, sz_NormalResult, sz_AlgebraResult, sz_EntryResult, sz_CompletionResult, sz_TheoryResult, sz_DiskResult, inB_nat, Int.toNat_natCast, get0, get1, get2, get3, get4, get5, get6, get7, get8, Nat.reduceLT, bind_of, List.getElem?_cons_zero, List.getElem?_cons_succ, oInt_int, oBool_bool, oStr_str, oSl_slc, oAgg_agg, oTup_tup, oCons_cons, oNil_nil, sl_cells, (impl_SignatureFault l hs).eq, bindFault0, gt_iff_lt]
  by_cases h1 : sigFault ⟨l⟩ = 0
  case neg => simp only [h1, Int.ofNat_lt, str_inj, beq_dec, bne_dec, cond_dec, cond_nt, if_true, if_false, decide_true, decide_false, cond_true, cond_false, u8_inj, cells_div, sz_int, sz_u8, sz_list, sz_Symbol, sz_Signature, sz_Equation, sz_Binding, sz_Algebra, sz_Entry, sz_Completion, sz_Theory, sz_Put, sz_Disk, sz_Act, sz_IntResult, sz_IntsResult, sz_BytesResult, sz_TextResult, sz_SignatureResult, sz_TermResult, sz_TermsResult, sz_EquationResult, sz_EquationsResult, sz_KeyResult, sz_BindingResult, sz_RedexResult, sz_NormalResult, sz_AlgebraResult, sz_EntryResult, sz_CompletionResult, sz_TheoryResult, sz_DiskResult, inB_nat, Int.toNat_natCast, get0, get1, get2, get3, get4, get5, get6, get7, get8, Nat.reduceLT, bind_of, List.getElem?_cons_zero, List.getElem?_cons_succ, oInt_int, oBool_bool, oStr_str, oSl_slc, oAgg_agg, oTup_tup, oCons_cons, oNil_nil, sl_cells, ne_eq, not_false_eq_true]
  by_cases h2 : vs.length = ts.length
  case neg =>
    have h2' : ¬ ((ts.length : Int) = (vs.length : Int)) := by omega
    simp only [h1, h2, h2', Int.ofNat_lt, str_inj, beq_dec, bne_dec, cond_dec, cond_nt, if_true, if_false, decide_true, decide_false, cond_true, cond_false, u8_inj, cells_div, sz_int, sz_u8, sz_list, sz_Symbol, sz_Signature, sz_Equation, sz_Binding, sz_Algebra, sz_Entry, sz_Completion, sz_Theory, sz_Put, sz_Disk, sz_Act, sz_IntResult, sz_IntsResult, sz_BytesResult, sz_TextResult, sz_SignatureResult, sz_TermResult, sz_TermsResult, sz_EquationResult, sz_EquationsResult, sz_KeyResult, sz_BindingResult, sz_RedexResult, sz_NormalResult, sz_AlgebraResult, sz_EntryResult, sz_CompletionResult, sz_TheoryResult, sz_DiskResult, inB_nat, Int.toNat_natCast, get0, get1, get2, get3, get4, get5, get6, get7, get8, Nat.reduceLT, bind_of, List.getElem?_cons_zero, List.getElem?_cons_succ, oInt_int, oBool_bool, oStr_str, oSl_slc, oAgg_agg, oTup_tup, oCons_cons, oNil_nil, sl_cells, ne_eq, not_true_eq_false, not_false_eq_true, true_or]
  by_cases h3 : 12 < vs.length
  · have h3' : (12 : Int) < vs.length := by omega
    simp only [h1, ← h2, h3, h3', Int.ofNat_lt, str_inj, beq_dec, bne_dec, cond_dec, cond_nt, if_true, if_false, decide_true, decide_false, cond_true, cond_false, u8_inj, cells_div, sz_int, sz_u8, sz_list, sz_Symbol, sz_Signature, sz_Equation, sz_Binding, sz_Algebra, sz_Entry, sz_Completion, sz_Theory, sz_Put, sz_Disk, sz_Act, sz_IntResult, sz_IntsResult, sz_BytesResult, sz_TextResult, sz_SignatureResult, sz_TermResult, sz_TermsResult, sz_EquationResult, sz_EquationsResult, sz_KeyResult, sz_BindingResult, sz_RedexResult, sz_NormalResult, sz_AlgebraResult, sz_EntryResult, sz_CompletionResult, sz_TheoryResult, sz_DiskResult, inB_nat, Int.toNat_natCast, get0, get1, get2, get3, get4, get5, get6, get7, get8, Nat.reduceLT, bind_of, List.getElem?_cons_zero, List.getElem?_cons_succ, oInt_int, oBool_bool, oStr_str, oSl_slc, oAgg_agg, oTup_tup, oCons_cons, oNil_nil, sl_cells, ne_eq, not_true_eq_false, or_true]
  have h3' : ¬ (12 : Int) < vs.length := by omega
  simp only [h1, ← h2, h3, h3', Int.ofNat_lt, str_inj, beq_dec, bne_dec, cond_dec, cond_nt, if_true, if_false, decide_true, decide_false, cond_true, cond_false, u8_inj, cells_div, sz_int, sz_u8, sz_list, sz_Symbol, sz_Signature, sz_Equation, sz_Binding, sz_Algebra, sz_Entry, sz_Completion, sz_Theory, sz_Put, sz_Disk, sz_Act, sz_IntResult, sz_IntsResult, sz_BytesResult, sz_TextResult, sz_SignatureResult, sz_TermResult, sz_TermsResult, sz_EquationResult, sz_EquationsResult, sz_KeyResult, sz_BindingResult, sz_RedexResult, sz_NormalResult, sz_AlgebraResult, sz_EntryResult, sz_CompletionResult, sz_TheoryResult, sz_DiskResult, inB_nat, Int.toNat_natCast, get0, get1, get2, get3, get4, get5, get6, get7, get8, Nat.reduceLT, bind_of, List.getElem?_cons_zero, List.getElem?_cons_succ, oInt_int, oBool_bool, oStr_str, oSl_slc, oAgg_agg, oTup_tup, oCons_cons, oNil_nil, sl_cells, ne_eq, not_true_eq_false, or_self]
  have hz : (vs.zip ts).length = vs.length := by rw [List.length_zip]; omega
  refine (scan_loop (l := vs.zip ts) (g := fun x => (pairFault l x).map fun n => (some (T.int .i64 n, []) : R)) (z := some (.int .i64 (if falls vs = true then 1 else 0), []))
    (S := fun m k => impl_BindingFault.at0 (vs.length + 1) m (impl_BindingFault.st0 (cells vs) vs.length (k : Nat) (cells l) (cells vs) (cells ts))) (fun m k h => ?_) (fun m => ?_) (f := vs.length + 1) (by omega)).trans ?_
  · have hk : k < vs.length := by omega
    have hkt : k < ts.length := by omega
    have hc := impl_TermFault l hs ts[k] (ht.2 _ (List.getElem_mem hkt)).1
    unfold termFault at hc
    rw [if_neg (by simpa using h1)] at hc
    have hc : Call F.impl_TermFault [.agg [slc l], slc ts[k]] (.int .i64 (termFault0 l ts[k])) := hc
    simp only [impl_BindingFault.next0, impl_BindingFault.round0, Int.ofNat_lt, str_inj, beq_dec, bne_dec, cond_dec, cond_nt, if_true, if_false, decide_true, decide_false, cond_true, cond_false, u8_inj, cells_div, sz_int, sz_u8, sz_list, sz_Symbol, sz_Signature, sz_Equation, sz_Binding, sz_Algebra, sz_Entry, sz_Completion, sz_Theory, sz_Put, sz_Disk, sz_Act, sz_IntResult, sz_IntsResult, sz_BytesResult, sz_TextResult, sz_SignatureResult, sz_TermResult, sz_TermsResult, sz_EquationResult, sz_EquationsResult, sz_KeyResult, sz_BindingResult, sz_RedexResult, sz_NormalResult, sz_AlgebraResult, sz_EntryResult, sz_CompletionResult, sz_TheoryResult, sz_DiskResult, inB_nat, Int.toNat_natCast, get0, get1, get2, get3, get4, get5, get6, get7, get8, Nat.reduceLT, bind_of, List.getElem?_cons_zero, List.getElem?_cons_succ, oInt_int, oBool_bool, oStr_str, oSl_slc, oAgg_agg, oTup_tup, oCons_cons, oNil_nil, sl_cells, hk, hkt, List.getElem?_eq_getElem, enc_int, enc_list, (impl_within _ _ _).eq, List.getElem_zip, pairFault, hc.eq]
    rw [wrap_succ (by omega)]
    cases inR vs[k] 0 11 with
    | false => simp
    | true =>
      by_cases e : termFault0 l ts[k] = 0
      · simp [e]
      · simp [e]
  · rw [hz]
    simp only [impl_BindingFault.next0, impl_BindingFault.round0, Int.ofNat_lt, str_inj, beq_dec, bne_dec, cond_dec, cond_nt, if_true, if_false, decide_true, decide_false, cond_true, cond_false, u8_inj, cells_div, sz_int, sz_u8, sz_list, sz_Symbol, sz_Signature, sz_Equation, sz_Binding, sz_Algebra, sz_Entry, sz_Completion, sz_Theory, sz_Put, sz_Disk, sz_Act, sz_IntResult, sz_IntsResult, sz_BytesResult, sz_TextResult, sz_SignatureResult, sz_TermResult, sz_TermsResult, sz_EquationResult, sz_EquationsResult, sz_KeyResult, sz_BindingResult, sz_RedexResult, sz_NormalResult, sz_AlgebraResult, sz_EntryResult, sz_CompletionResult, sz_TheoryResult, sz_DiskResult, inB_nat, Int.toNat_natCast, get0, get1, get2, get3, get4, get5, get6, get7, get8, Nat.reduceLT, bind_of, List.getElem?_cons_zero, List.getElem?_cons_succ, oInt_int, oBool_bool, oStr_str, oSl_slc, oAgg_agg, oTup_tup, oCons_cons, oNil_nil, sl_cells, Nat.lt_irrefl, falls_impl vs ts (vs.length + 1) (by omega) hv]
  · rw [findSome_map]
    cases (vs.zip ts).findSome? (pairFault l) <;> rfl
theorem spec_l6Fault (l : List Symbol) (ok : SigOk ⟨l⟩) (vs : List Int) (ts : List (List Int)) (hv : vs.length ≤ 4294967296) (ht : sm 4294967296 ts) :
    Call F.spec_l6Fault [.rref [slc l] 0, .rref [slc vs, slc ts] 0] (.int .i64 (bindFault0 l vs ts)) := by
  refine call_of rfl (vs.length + 1) ((spec_l6Fault.ev _ _ _ _).trans ?_)
  have htl := ht.1
  simp only [Int.ofNat_lt, str_inj, beq_dec, bne_dec, cond_dec, cond_nt, if_true, if_false, decide_true, decide_false, cond_true, cond_false, u8_inj, cells_div, sz_int, sz_u8, sz_list, sz_Symbol, sz_Signature, sz_Equation, sz_Binding, sz_Algebra, sz_Entry, sz_Completion, sz_Theory, sz_Put, sz_Disk, sz_Act, sz_IntResult, sz_IntsResult, sz_BytesResult, sz_TextResult, sz_SignatureResult, sz_TermResult, sz_TermsResult, sz_EquationResult, sz_EquationsResult, sz_KeyResult, sz_BindingResult, sz_RedexResult, sz_NormalResult, sz_AlgebraResult, sz_EntryResult, sz_CompletionResult, sz_TheoryResult, sz_DiskResult, inB_nat, Int.toNat_natCast, get0, get1, get2, get3, get4, get5, get6, get7, get8, Nat.reduceLT, bind_of, List.getElem?_cons_zero, List.getElem?_cons_succ, oInt_int, oBool_bool, oStr_str, oSl_slc, oAgg_agg, oTup_tup, oCons_cons, oNil_nil, sl_cells, bindFault0, gt_iff_lt]
  by_cases h2 : vs.length = ts.length
  case neg =>
    have h2' : ¬ ((vs.length : Int) = (ts.length : Int)) := by omega
    simp only [h2, h2', Int.ofNat_lt, str_inj, beq_dec, bne_dec, cond_dec, cond_nt, if_true, if_false, decide_true, decide_false, cond_true, cond_false, u8_inj, cells_div, sz_int, sz_u8, sz_list, sz_Symbol, sz_Signature, sz_Equation, sz_Binding, sz_Algebra, sz_Entry, sz_Completion, sz_Theory, sz_Put, sz_Disk, sz_Act, sz_IntResult, sz_IntsResult, sz_BytesResult, sz_TextResult, sz_SignatureResult, sz_TermResult, sz_TermsResult, sz_EquationResult, sz_EquationsResult, sz_KeyResult, sz_BindingResult, sz_RedexResult, sz_NormalResult, sz_AlgebraResult, sz_EntryResult, sz_CompletionResult, sz_TheoryResult, sz_DiskResult, inB_nat, Int.toNat_natCast, get0, get1, get2, get3, get4, get5, get6, get7, get8, Nat.reduceLT, bind_of, List.getElem?_cons_zero, List.getElem?_cons_succ, oInt_int, oBool_bool, oStr_str, oSl_slc, oAgg_agg, oTup_tup, oCons_cons, oNil_nil, sl_cells, ne_eq, not_true_eq_false, not_false_eq_true, true_or]
  by_cases h3 : 12 < vs.length
  · have h3' : (12 : Int) < vs.length := by omega
    simp only [← h2, h3, h3', Int.ofNat_lt, str_inj, beq_dec, bne_dec, cond_dec, cond_nt, if_true, if_false, decide_true, decide_false, cond_true, cond_false, u8_inj, cells_div, sz_int, sz_u8, sz_list, sz_Symbol, sz_Signature, sz_Equation, sz_Binding, sz_Algebra, sz_Entry, sz_Completion, sz_Theory, sz_Put, sz_Disk, sz_Act, sz_IntResult, sz_IntsResult, sz_BytesResult, sz_TextResult, sz_SignatureResult, sz_TermResult, sz_TermsResult, sz_EquationResult, sz_EquationsResult, sz_KeyResult, sz_BindingResult, sz_RedexResult, sz_NormalResult, sz_AlgebraResult, sz_EntryResult, sz_CompletionResult, sz_TheoryResult, sz_DiskResult, inB_nat, Int.toNat_natCast, get0, get1, get2, get3, get4, get5, get6, get7, get8, Nat.reduceLT, bind_of, List.getElem?_cons_zero, List.getElem?_cons_succ, oInt_int, oBool_bool, oStr_str, oSl_slc, oAgg_agg, oTup_tup, oCons_cons, oNil_nil, sl_cells, ne_eq, not_true_eq_false, or_true]
  have h3' : ¬ (12 : Int) < vs.length := by omega
  simp only [← h2, h3, h3', Int.ofNat_lt, str_inj, beq_dec, bne_dec, cond_dec, cond_nt, if_true, if_false, decide_true, decide_false, cond_true, cond_false, u8_inj, cells_div, sz_int, sz_u8, sz_list, sz_Symbol, sz_Signature, sz_Equation, sz_Binding, sz_Algebra, sz_Entry, sz_Completion, sz_Theory, sz_Put, sz_Disk, sz_Act, sz_IntResult, sz_IntsResult, sz_BytesResult, sz_TextResult, sz_SignatureResult, sz_TermResult, sz_TermsResult, sz_EquationResult, sz_EquationsResult, sz_KeyResult, sz_BindingResult, sz_RedexResult, sz_NormalResult, sz_AlgebraResult, sz_EntryResult, sz_CompletionResult, sz_TheoryResult, sz_DiskResult, inB_nat, Int.toNat_natCast, get0, get1, get2, get3, get4, get5, get6, get7, get8, Nat.reduceLT, bind_of, List.getElem?_cons_zero, List.getElem?_cons_succ, oInt_int, oBool_bool, oStr_str, oSl_slc, oAgg_agg, oTup_tup, oCons_cons, oNil_nil, sl_cells, ne_eq, not_true_eq_false, or_self]
  have hz : (vs.zip ts).length = vs.length := by rw [List.length_zip]; omega
  refine (scan_loop (l := vs.zip ts) (g := fun x => (pairFault l x).map fun n => (some (T.int .i64 n, []) : R)) (z := some (.int .i64 (if falls vs = true then 1 else 0), []))
    (S := fun m k => spec_l6Fault.at0 (vs.length + 1) m (spec_l6Fault.st0 (cells l) (cells vs) (cells ts) (k : Nat))) (fun m k h => ?_) (fun m => ?_) (f := vs.length + 1) (by omega)).trans ?_
  · have hk : k < vs.length := by omega
    have hkt : k < ts.length := by omega
    have hc := spec_l3Fault l ok ts[k] (ht.2 _ (List.getElem_mem hkt)).1
    simp only [spec_l6Fault.next0, spec_l6Fault.round0, Int.ofNat_lt, str_inj, beq_dec, bne_dec, cond_dec, cond_nt, if_true, if_false, decide_true, decide_false, cond_true, cond_false, u8_inj, cells_div, sz_int, sz_u8, sz_list, sz_Symbol, sz_Signature, sz_Equation, sz_Binding, sz_Algebra, sz_Entry, sz_Completion, sz_Theory, sz_Put, sz_Disk, sz_Act, sz_IntResult, sz_IntsResult, sz_BytesResult, sz_TextResult, sz_SignatureResult, sz_TermResult, sz_TermsResult, sz_EquationResult, sz_EquationsResult, sz_KeyResult, sz_BindingResult, sz_RedexResult, sz_NormalResult, sz_AlgebraResult, sz_EntryResult, sz_CompletionResult, sz_TheoryResult, sz_DiskResult, inB_nat, Int.toNat_natCast, get0, get1, get2, get3, get4, get5, get6, get7, get8, Nat.reduceLT, bind_of, List.getElem?_cons_zero, List.getElem?_cons_succ, oInt_int, oBool_bool, oStr_str, oSl_slc, oAgg_agg, oTup_tup, oCons_cons, oNil_nil, sl_cells, hk, hkt, List.getElem?_eq_getElem, enc_int, enc_list, (spec_l1In _ _ _).eq, List.getElem_zip, pairFault, hc.eq]
    rw [wrap_succ (by omega)]
    cases inR vs[k] 0 11 with
    | false => simp
    | true =>
      by_cases e : termFault0 l ts[k] = 0
      · simp [e]
      · simp [e]
  · rw [hz]
    simp only [spec_l6Fault.next0, spec_l6Fault.round0, Int.ofNat_lt, str_inj, beq_dec, bne_dec, cond_dec, cond_nt, if_true, if_false, decide_true, decide_false, cond_true, cond_false, u8_inj, cells_div, sz_int, sz_u8, sz_list, sz_Symbol, sz_Signature, sz_Equation, sz_Binding, sz_Algebra, sz_Entry, sz_Completion, sz_Theory, sz_Put, sz_Disk, sz_Act, sz_IntResult, sz_IntsResult, sz_BytesResult, sz_TextResult, sz_SignatureResult, sz_TermResult, sz_TermsResult, sz_EquationResult, sz_EquationsResult, sz_KeyResult, sz_BindingResult, sz_RedexResult, sz_NormalResult, sz_AlgebraResult, sz_EntryResult, sz_CompletionResult, sz_TheoryResult, sz_DiskResult, inB_nat, Int.toNat_natCast, get0, get1, get2, get3, get4, get5, get6, get7, get8, Nat.reduceLT, bind_of, List.getElem?_cons_zero, List.getElem?_cons_succ, oInt_int, oBool_bool, oStr_str, oSl_slc, oAgg_agg, oTup_tup, oCons_cons, oNil_nil, sl_cells, Nat.lt_irrefl, (spec_l1Rise vs hv).eq]
    cases falls vs <;> rfl
  · rw [findSome_map]
    cases (vs.zip ts).findSome? (pairFault l) <;> rfl
end Ev.Ty
