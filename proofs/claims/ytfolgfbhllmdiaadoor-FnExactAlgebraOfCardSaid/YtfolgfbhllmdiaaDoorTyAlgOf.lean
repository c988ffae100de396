/- AlgebraOf, PlainTheory. -/
import Derived.Test.YtfolgfbhllmdiaaDoorTyAlg
namespace Ev.Ty
open Go Ev
open Enc (enc)
open Sm (sm)
set_option linter.unusedSimpArgs false
set_option linter.unusedVariables false

theorem slc_nil {α : Type} [Enc α] : slc ([] : List α) = T.sl (Enc.sz α) [] := rfl
theorem cells_snoc_int (l : List Int) (x : Int) : cells l ++ [.int .i64 x] = cells (l ++ [x]) := by rw [cells_append, ← enc_int, enc_cells_one]
theorem cells_snoc_list {α : Type} [Enc α] (l : List (List α)) (x : List α) : cells l ++ [slc x] = cells (l ++ [x]) := by rw [cells_append, ← enc_list, enc_cells_one]
theorem cells_snoc_u8 (l : List UInt8) (x : UInt8) : cells l ++ [.int .u8 x.toNat] = cells (l ++ [x]) := by rw [cells_append, ← enc_u8, enc_cells_one]
/-- 0, 1, .. below n. -/
def rise (n : Nat) : List Int := (List.range n).map fun (i : Nat) => (i : Int)
theorem rise_succ (n : Nat) : rise (n + 1) = rise n ++ [(n : Int)] := by simp [rise, List.range_succ]
theorem rise_length (n : Nat) : (rise n).length = n := by simp [rise]
theorem ble_ok {a b : Nat} (h : a ≤ b) : Nat.ble a b = true := Nat.ble_eq_true_of_le h
theorem rise_loop {n : Nat} {S : Nat → Nat → List Int → R} {z : List Int → R} (step : ∀ m k, k < n → S (m + 1) k (rise k) = S m (k + 1) (rise (k + 1))) (stop : ∀ m, S (m + 1) n (rise n) = z (rise n)) {f : Nat} (hf : n < f) :
    S f 0 [] = z (rise n) := by
  have : ∀ m k, k ≤ n → n < m + k → S m k (rise k) = z (rise n) := by
    intro m
    induction m with
    | zero => intros; omega
    | succ m ih =>
      intro k hk hm
      by_cases h : k < n
      · rw [step m k h]; exact ih (k + 1) (by omega) (by omega)
      · obtain rfl : k = n := by omega
        exact stop m
  exact this f 0 (by omega) (by omega)
theorem impl_plainTheory (l : List Symbol) (hs : l.length ≤ 1048576) : Call F.impl_plainTheory [.agg [slc l]] (.agg [slc (rise l.length), slc ([] : List Equation), slc ([] : List Equation)]) := by
  refine call_of rfl (l.length + 1) ((impl_plainTheory.ev _ _).trans ?_)
  simp only [cells_div, sz_Symbol]
  refine rise_loop (n := l.length) (S := fun m k o => impl_plainTheory.at0 (l.length + 1) m (impl_plainTheory.st0 l.length (k : Nat) (cells o))) (z := fun o => some (.agg [slc o, slc ([] : List Equation), slc ([] : List Equation)], [])) (fun m k h => ?_) (fun m => ?_) (by omega)
  · simp only [impl_plainTheory.next0, impl_plainTheory.round0, Int.ofNat_lt, str_inj, beq_dec, bne_dec, cond_dec, cond_nt, if_true, if_false, decide_true, decide_false, cond_true, cond_false, u8_inj, cells_div, sz_int, sz_u8, sz_list, sz_Symbol, sz_Signature, sz_Equation, sz_Binding, sz_Algebra, sz_Entry, sz_Completion, sz_Theory, sz_Put, sz_Disk, sz_Act, sz_IntResult, sz_IntsResult, sz_BytesResult, sz_TextResult, sz_SignatureResult, sz_TermResult, sz_TermsResult, sz_EquationResult, sz_EquationsResult, sz_KeyResult, sz_BindingResult, sz_RedexResult, sz_NormalResult, sz_AlgebraResult, sz_EntryResult, sz_CompletionResult, sz_TheoryResult, sz_DiskResult, inB_nat, Int.toNat_natCast, get0, get1, get2, get3, get4, get5, get6, get7, get8, Nat.reduceLT, bind_of, List.getElem?_cons_zero, List.getElem?_cons_succ, oInt_int, oBool_bool, oStr_str, oSl_slc, oAgg_agg, oTup_tup, oCons_cons, oNil_nil, sl_cells, h, cells_length, rise_length, sz_int, cells_snoc_int, ← rise_succ]
    rw [wrap_succ (by omega), cond_pos (ble_ok (by omega))]
  · simp only [impl_plainTheory.next0, impl_plainTheory.round0, Int.ofNat_lt, str_inj, beq_dec, bne_dec, cond_dec, cond_nt, if_true, if_false, decide_true, decide_false, cond_true, cond_false, u8_inj, cells_div, sz_int, sz_u8, sz_list, sz_Symbol, sz_Signature, sz_Equation, sz_Binding, sz_Algebra, sz_Entry, sz_Completion, sz_Theory, sz_Put, sz_Disk, sz_Act, sz_IntResult, sz_IntsResult, sz_BytesResult, sz_TextResult, sz_SignatureResult, sz_TermResult, sz_TermsResult, sz_EquationResult, sz_EquationsResult, sz_KeyResult, sz_BindingResult, sz_RedexResult, sz_NormalResult, sz_AlgebraResult, sz_EntryResult, sz_CompletionResult, sz_TheoryResult, sz_DiskResult, inB_nat, Int.toNat_natCast, get0, get1, get2, get3, get4, get5, get6, get7, get8, Nat.reduceLT, bind_of, List.getElem?_cons_zero, List.getElem?_cons_succ, oInt_int, oBool_bool, oStr_str, oSl_slc, oAgg_agg, oTup_tup, oCons_cons, oNil_nil, sl_cells, Nat.lt_irrefl, slc_nil, sz_Equation, sz_int]
theorem spec_l2Rise (n : Nat) (hs : n ≤ 1048576) : Call F.spec_l2Rise [.int .i64 n] (slc (rise n)) := by
  refine call_of rfl (n + 1) ((spec_l2Rise.ev _ _).trans ?_)
  refine rise_loop (n := n) (S := fun m k o => spec_l2Rise.at0 (n + 1) m (spec_l2Rise.st0 n (k : Nat) (cells o))) (z := fun o => some (slc o, [])) (fun m k h => ?_) (fun m => ?_) (by omega)
  · simp only [spec_l2Rise.next0, spec_l2Rise.round0, Int.ofNat_lt, str_inj, beq_dec, bne_dec, cond_dec, cond_nt, if_true, if_false, decide_true, decide_false, cond_true, cond_false, u8_inj, cells_div, sz_int, sz_u8, sz_list, sz_Symbol, sz_Signature, sz_Equation, sz_Binding, sz_Algebra, sz_Entry, sz_Completion, sz_Theory, sz_Put, sz_Disk, sz_Act, sz_IntResult, sz_IntsResult, sz_BytesResult, sz_TextResult, sz_SignatureResult, sz_TermResult, sz_TermsResult, sz_EquationResult, sz_EquationsResult, sz_KeyResult, sz_BindingResult, sz_RedexResult, sz_NormalResult, sz_AlgebraResult, sz_EntryResult, sz_CompletionResult, sz_TheoryResult, sz_DiskResult, inB_nat, Int.toNat_natCast, get0, get1, get2, get3, get4, get5, get6, get7, get8, Nat.reduceLT, bind_of, List.getElem?_cons_zero, List.getElem?_cons_succ, oInt_int, oBool_bool, oStr_str, oSl_slc, oAgg_agg, oTup_tup, oCons_cons, oNil_nil, sl_cells, h, cells_length, rise_length, sz_int, cells_snoc_int, ← rise_succ]
    rw [wrap_succ (by omega), cond_pos (ble_ok (by omega))]
  · simp only [spec_l2Rise.next0, spec_l2Rise.round0, Int.ofNat_lt, str_inj, beq_dec, bne_dec, cond_dec, cond_nt, if_true, if_false, decide_true, decide_false, cond_true, cond_false, u8_inj, cells_div, sz_int, sz_u8, sz_list, sz_Symbol, sz_Signature, sz_Equation, sz_Binding, sz_Algebra, sz_Entry, sz_Completion, sz_Theory, sz_Put, sz_Disk, sz_Act, sz_IntResult, sz_IntsResult, sz_BytesResult, sz_TextResult, sz_SignatureResult, sz_TermResult, sz_TermsResult, sz_EquationResult, sz_EquationsResult, sz_KeyResult, sz_BindingResult, sz_RedexResult, sz_NormalResult, sz_AlgebraResult, sz_EntryResult, sz_CompletionResult, sz_TheoryResult, sz_DiskResult, inB_nat, Int.toNat_natCast, get0, get1, get2, get3, get4, get5, get6, get7, get8, Nat.reduceLT, bind_of, List.getElem?_cons_zero, List.getElem?_cons_succ, oInt_int, oBool_bool, oStr_str, oSl_slc, oAgg_agg, oTup_tup, oCons_cons, oNil_nil, sl_cells, Nat.lt_irrefl]
theorem spec_l13Plain (l : List Symbol) (hs : l.length ≤ 1048576) : Call F.spec_l13Plain [.rref [slc l] 0] (.agg [slc (rise l.length), slc ([] : List Equation), slc ([] : List Equation)]) := by
  refine call_of rfl 0 ((spec_l13Plain.ev _ _).trans ?_)
  simp only [Int.ofNat_lt, str_inj, beq_dec, bne_dec, cond_dec, cond_nt, if_true, if_false, decide_true, decide_false, cond_true, cond_false, u8_inj, cells_div, sz_int, sz_u8, sz_list, sz_Symbol, sz_Signature, sz_Equation, sz_Binding, sz_Algebra, sz_Entry, sz_Completion, sz_Theory, sz_Put, sz_Disk, sz_Act, sz_IntResult, sz_IntsResult, sz_BytesResult, sz_TextResult, sz_SignatureResult, sz_TermResult, sz_TermsResult, sz_EquationResult, sz_EquationsResult, sz_KeyResult, sz_BindingResult, sz_RedexResult, sz_NormalResult, sz_AlgebraResult, sz_EntryResult, sz_CompletionResult, sz_TheoryResult, sz_DiskResult, inB_nat, Int.toNat_natCast, get0, get1, get2, get3, get4, get5, get6, get7, get8, Nat.reduceLT, bind_of, List.getElem?_cons_zero, List.getElem?_cons_succ, oInt_int, oBool_bool, oStr_str, oSl_slc, oAgg_agg, oTup_tup, oCons_cons, oNil_nil, sl_cells, (spec_l2Rise _ hs).eq, slc_nil, sz_Equation, sz_int]
def plainTheoryR (s : Signature) : TheoryResult := if sigFault s = 0 then ⟨0, ⟨rise s.symbols.length, [], []⟩⟩ else ⟨sigFault s, ⟨[], [], []⟩⟩
theorem plainTheoryR_sm (s : Signature) (hs : sm 1048576 s) : sm 67108864 (plainTheoryR s) := by
  unfold plainTheoryR
  have h := hs.1
  split
  · exact ⟨⟨by rw [rise_length]; omega, fun _ _ => trivial⟩, ⟨by simp, by simp⟩, ⟨by simp, by simp⟩⟩
  · exact ⟨⟨by simp, by simp⟩, ⟨by simp, by simp⟩, ⟨by simp, by simp⟩⟩
theorem impl_PlainTheory (s : Signature) (hs : sm 1048576 s) : Call F.impl_PlainTheory [.agg [slc s.symbols]] (.agg (enc (plainTheoryR s))) := by
  refine call_of rfl 0 ((impl_PlainTheory.ev _ _).trans ?_)
  have h1 := hs.1
  simp only [Int.ofNat_lt, str_inj, beq_dec, bne_dec, cond_dec, cond_nt, if_true, if_false, decide_true, decide_false, cond_true, cond_false, u8_inj, cells_div, sz_int, sz_u8, sz_list, sz_Symbol, sz_Signature, sz_Equation, sz_Binding, sz_Algebra, sz_Entry, sz_Completion, sz_Theory, sz_Put, sz_Disk, sz_Act, sz_IntResult, sz_IntsResult, sz_BytesResult, sz_TextResult, sz_SignatureResult, sz_TermResult, sz_TermsResult, sz_EquationResult, sz_EquationsResult, sz_KeyResult, sz_BindingResult, sz_RedexResult, sz_NormalResult, sz_AlgebraResult, sz_EntryResult, sz_CompletionResult, sz_TheoryResult, sz_DiskResult, inB_nat, Int.toNat_natCast, get0, get1, get2, get3, get4, get5, get6, get7, get8, Nat.reduceLT, bind_of, List.getElem?_cons_zero, List.getElem?_cons_succ, oInt_int, oBool_bool, oStr_str, oSl_slc, oAgg_agg, oTup_tup, oCons_cons, oNil_nil, sl_cells, (impl_SignatureFault s.symbols (by omega)).eq, (impl_plainTheory s.symbols h1).eq, plainTheoryR]
  by_cases h : sigFault s = 0
  · simp only [h, Int.ofNat_lt, str_inj, beq_dec, bne_dec, cond_dec, cond_nt, if_true, if_false, decide_true, decide_false, cond_true, cond_false, u8_inj, cells_div, sz_int, sz_u8, sz_list, sz_Symbol, sz_Signature, sz_Equation, sz_Binding, sz_Algebra, sz_Entry, sz_Completion, sz_Theory, sz_Put, sz_Disk, sz_Act, sz_IntResult, sz_IntsResult, sz_BytesResult, sz_TextResult, sz_SignatureResult, sz_TermResult, sz_TermsResult, sz_EquationResult, sz_EquationsResult, sz_KeyResult, sz_BindingResult, sz_RedexResult, sz_NormalResult, sz_AlgebraResult, sz_EntryResult, sz_CompletionResult, sz_TheoryResult, sz_DiskResult, inB_nat, Int.toNat_natCast, get0, get1, get2, get3, get4, get5, get6, get7, get8, Nat.reduceLT, bind_of, List.getElem?_cons_zero, List.getElem?_cons_succ, oInt_int, oBool_bool, oStr_str, oSl_slc, oAgg_agg, oTup_tup, oCons_cons, oNil_nil, sl_cells, enc_TheoryResult]
  · simp only [h, Int.ofNat_lt, str_inj, beq_dec, bne_dec, cond_dec, cond_nt, if_true, if_false, decide_true, decide_false, cond_true, cond_false, u8_inj, cells_div, sz_int, sz_u8, sz_list, sz_Symbol, sz_Signature, sz_Equation, sz_Binding, sz_Algebra, sz_Entry, sz_Completion, sz_Theory, sz_Put, sz_Disk, sz_Act, sz_IntResult, sz_IntsResult, sz_BytesResult, sz_TextResult, sz_SignatureResult, sz_TermResult, sz_TermsResult, sz_EquationResult, sz_EquationsResult, sz_KeyResult, sz_BindingResult, sz_RedexResult, sz_NormalResult, sz_AlgebraResult, sz_EntryResult, sz_CompletionResult, sz_TheoryResult, sz_DiskResult, inB_nat, Int.toNat_natCast, get0, get1, get2, get3, get4, get5, get6, get7, get8, Nat.reduceLT, bind_of, List.getElem?_cons_zero, List.getElem?_cons_succ, oInt_int, oBool_bool, oStr_str, oSl_slc, oAgg_agg, oTup_tup, oCons_cons, oNil_nil, sl_cells, enc_TheoryResult, slc_nil, sz_Equation, sz_int]
theorem spec_PlainTheory (s : Signature) (hs : sm 1048576 s) : Call F.spec_PlainTheory [.agg [slc s.symbols]] (.agg (enc (plainTheoryR s))) := by
  refine call_of rfl 0 ((spec_PlainTheory.ev _ _).trans ?_)
  have h1 := hs.1
  simp only [Int.ofNat_lt, str_inj, beq_dec, bne_dec, cond_dec, cond_nt, if_true, if_false, decide_true, decide_false, cond_true, cond_false, u8_inj, cells_div, sz_int, sz_u8, sz_list, sz_Symbol, sz_Signature, sz_Equation, sz_Binding, sz_Algebra, sz_Entry, sz_Completion, sz_Theory, sz_Put, sz_Disk, sz_Act, sz_IntResult, sz_IntsResult, sz_BytesResult, sz_TextResult, sz_SignatureResult, sz_TermResult, sz_TermsResult, sz_EquationResult, sz_EquationsResult, sz_KeyResult, sz_BindingResult, sz_RedexResult, sz_NormalResult, sz_AlgebraResult, sz_EntryResult, sz_CompletionResult, sz_TheoryResult, sz_DiskResult, inB_nat, Int.toNat_natCast, get0, get1, get2, get3, get4, get5, get6, get7, get8, Nat.reduceLT, bind_of, List.getElem?_cons_zero, List.getElem?_cons_succ, oInt_int, oBool_bool, oStr_str, oSl_slc, oAgg_agg, oTup_tup, oCons_cons, oNil_nil, sl_cells, (spec_SignatureFault s.symbols (by omega)).eq, (spec_l13Plain s.symbols h1).eq, plainTheoryR]
  by_cases h : sigFault s = 0
  · simp only [h, Int.ofNat_lt, str_inj, beq_dec, bne_dec, cond_dec, cond_nt, if_true, if_false, decide_true, decide_false, cond_true, cond_false, u8_inj, cells_div, sz_int, sz_u8, sz_list, sz_Symbol, sz_Signature, sz_Equation, sz_Binding, sz_Algebra, sz_Entry, sz_Completion, sz_Theory, sz_Put, sz_Disk, sz_Act, sz_IntResult, sz_IntsResult, sz_BytesResult, sz_TextResult, sz_SignatureResult, sz_TermResult, sz_TermsResult, sz_EquationResult, sz_EquationsResult, sz_KeyResult, sz_BindingResult, sz_RedexResult, sz_NormalResult, sz_AlgebraResult, sz_EntryResult, sz_CompletionResult, sz_TheoryResult, sz_DiskResult, inB_nat, Int.toNat_natCast, get0, get1, get2, get3, get4, get5, get6, get7, get8, Nat.reduceLT, bind_of, List.getElem?_cons_zero, List.getElem?_cons_succ, oInt_int, oBool_bool, oStr_str, oSl_slc, oAgg_agg, oTup_tup, oCons_cons, oNil_nil, sl_cells, enc_TheoryResult]
  · simp only [h, Int.ofNat_lt, str_inj, beq_dec, bne_dec, cond_dec, cond_nt, if_true, if_false, decide_true, decide_false, cond_true, cond_false, u8_inj, cells_div, sz_int, sz_u8, sz_list, sz_Symbol, sz_Signature, sz_Equation, sz_Binding, sz_Algebra, sz_Entry, sz_Completion, sz_Theory, sz_Put, sz_Disk, sz_Act, sz_IntResult, sz_IntsResult, sz_BytesResult, sz_TextResult, sz_SignatureResult, sz_TermResult, sz_TermsResult, sz_EquationResult, sz_EquationsResult, sz_KeyResult, sz_BindingResult, sz_RedexResult, sz_NormalResult, sz_AlgebraResult, sz_EntryResult, sz_CompletionResult, sz_TheoryResult, sz_DiskResult, inB_nat, Int.toNat_natCast, get0, get1, get2, get3, get4, get5, get6, get7, get8, Nat.reduceLT, bind_of, List.getElem?_cons_zero, List.getElem?_cons_succ, oInt_int, oBool_bool, oStr_str, oSl_slc, oAgg_agg, oTup_tup, oCons_cons, oNil_nil, sl_cells, enc_TheoryResult, slc_nil, sz_Equation, sz_int]

def lcg (s : Int) : Int := (227 * s + 1) % 65521
theorem lcg_in (s : Int) : 0 ≤ lcg s ∧ lcg s ≤ 65520 := by unfold lcg; omega
theorem lcg_eq {s : Int} (h : 0 ≤ s ∧ s ≤ 65520) : Int.tmod (IntKind.wrap .i64 (IntKind.wrap .i64 (227 * s) + 1)) 65521 = lcg s := by
  rw [wrap64 (x := 227 * s) (by omega), wrap64 (by omega), Int.tmod_eq_emod_of_nonneg (by omega)]; rfl
/-- So many numbers drawn. -/
def draws (z : Int) : Nat → Int → List Int → Int × List Int
  | 0, s, t => (s, t)
  | n + 1, s, t => draws z n (lcg s) (t ++ [lcg s % z])
theorem draws_in (z : Int) : ∀ n s t, 0 ≤ s ∧ s ≤ 65520 → (0 ≤ (draws z n s t).1 ∧ (draws z n s t).1 ≤ 65520) ∧ (draws z n s t).2.length = t.length + n
  | 0, s, t, h => ⟨h, rfl⟩
  | n + 1, s, t, h => by
    have := draws_in z n (lcg s) (t ++ [lcg s % z]) (lcg_in s)
    refine ⟨this.1, this.2.trans ?_⟩
    simp; omega
theorem draws_loop {z : Int} {c : Nat} {S : Nat → Nat → Int → List Int → R} {y : Int → List Int → R}
    (step : ∀ m j s t, j < c → 0 ≤ s ∧ s ≤ 65520 → t.length = j → S (m + 1) j s t = S m (j + 1) (lcg s) (t ++ [lcg s % z]))
    (stop : ∀ m s t, 0 ≤ s ∧ s ≤ 65520 → t.length = c → S (m + 1) c s t = y s t) {f : Nat} (hf : c < f) (s : Int) (hs : 0 ≤ s ∧ s ≤ 65520) :
    S f 0 s [] = y (draws z c s []).1 (draws z c s []).2 := by
  have : ∀ n m j s t, j + n = c → n < m → 0 ≤ s ∧ s ≤ 65520 → t.length = j → S m j s t = y (draws z n s t).1 (draws z n s t).2 := by
    intro n
    induction n with
    | zero => intro m j s t hj hm hs ht
              obtain ⟨m, rfl⟩ : ∃ q, m = q + 1 := ⟨m - 1, by omega⟩
              obtain rfl : j = c := by omega
              exact stop m s t hs ht
    | succ n ih =>
      intro m j s t hj hm hs ht
      obtain ⟨m, rfl⟩ : ∃ q, m = q + 1 := ⟨m - 1, by omega⟩
      rw [step m j s t (by omega) hs ht]
      exact ih m (j + 1) _ _ (by omega) (by omega) (lcg_in s) (by simp [ht])
  exact this c f 0 s [] (by omega) hf hs rfl
def tabStep (z : Nat) (p : Int × List (List Int)) (x : Symbol) : Int × List (List Int) := ((draws z (z ^ x.arity.toNat) p.1 []).1, p.2 ++ [(draws z (z ^ x.arity.toNat) p.1 []).2])
def algebraOfR (s : Signature) (z seed : Int) : AlgebraResult :=
  if sigFault s = 0 then if inR z 1 3 = true ∧ inR seed 0 65520 = true then ⟨0, ⟨z, (s.symbols.foldl (tabStep z.toNat) (seed, [])).2⟩⟩ else ⟨3, ⟨0, []⟩⟩ else ⟨sigFault s, ⟨0, []⟩⟩
def tabI (k : Nat) (p : Int × List (List Int)) : Prop := (0 ≤ p.1 ∧ p.1 ≤ 65520) ∧ p.2.length = k ∧ ∀ t ∈ p.2, t.length ≤ 9
theorem pow_le9 {z r : Nat} (hz : z ≤ 3) (hr : r ≤ 2) : z ^ r ≤ 9 := Nat.le_trans (Nat.pow_le_pow_left hz r) (Nat.le_trans (Nat.pow_le_pow_right (by omega) hr) (by decide))
theorem tabI_step {z : Nat} (hz : z ≤ 3) {x : Symbol} (hx : 0 ≤ x.arity ∧ x.arity ≤ 2) {k : Nat} {p : Int × List (List Int)} (h : tabI k p) : tabI (k + 1) (tabStep z p x) := by
  obtain ⟨h1, h2, h3⟩ := h
  have hd := draws_in z (z ^ x.arity.toNat) p.1 [] h1
  have h9 := pow_le9 (r := x.arity.toNat) hz (by omega)
  refine ⟨hd.1, by simp [tabStep, h2], fun t ht => ?_⟩
  rcases List.mem_append.1 ht with h | h
  · exact h3 t h
  · rw [List.mem_singleton] at h
    subst h
    rw [hd.2]; simp; omega
theorem tabI_zero {seed : Int} (h : 0 ≤ seed ∧ seed ≤ 65520) : tabI 0 (seed, []) := ⟨h, rfl, by simp⟩
theorem algebraOfR_sm (s : Signature) (z seed : Int) (hs : sm 1048576 s) : sm 67108864 (algebraOfR s z seed) := by
  unfold algebraOfR
  have h := hs.1
  split
  · rename_i h0
    split
    · rename_i h1
      have hz := inR_iff.1 h1.1
      have hz3 : z.toNat ≤ 3 := by omega
      have hi := fold_inv (l := s.symbols) (g := tabStep z.toNat) tabI (fun k p hk hp => tabI_step hz3 (((sigOk_iff s).1 h0).arity _ (List.getElem_mem hk)) hp) (seed, []) (tabI_zero (inR_iff.1 h1.2))
      exact ⟨Nat.le_trans (Nat.le_of_eq hi.2.1) (by omega), fun t ht => ⟨by have := hi.2.2 t ht; omega, fun _ _ => trivial⟩⟩
    · exact ⟨by simp, by simp⟩
  · exact ⟨by simp, by simp⟩
theorem impl_AlgebraOf (s : Signature) (z seed : Int) (hs : sm 1048576 s) : Call F.impl_AlgebraOf [.agg [slc s.symbols], .int .i64 z, .int .i64 seed] (.agg (enc (algebraOfR s z seed))) := by
  obtain ⟨l⟩ := s
  have hl : l.length ≤ 1048576 := hs.1
  refine call_of rfl (l.length + 10) ((impl_AlgebraOf.ev _ _ _ _).trans ?_)
  simp only [Int.ofNat_lt, str_inj, beq_dec, bne_dec, cond_dec, cond_nt, if_true, if_false, decide_true, decide_false, cond_true, cond_false, u8_inj, cells_div, sz_int, sz_u8, sz_list, sz_Symbol, sz_Signature, sz_Equation, sz_Binding, sz_Algebra, sz_Entry, sz_Completion, sz_Theory, sz_Put, sz_Disk, sz_Act, sz_IntResult, sz_IntsResult, sz_BytesResult, sz_TextResult, sz_SignatureResult, sz_TermResult, sz_TermsResult, sz_EquationResult, sz_EquationsResult, sz_KeyResult, sz_BindingResult, sz_RedexResult, sz_NormalResult, sz_AlgebraResult, sz_EntryResult, sz_CompletionResult, sz_TheoryResult, sz_DiskResult, inB_nat, Int.toNat_natCast, get0, get1, get2, get3, get4, get5, get6, get7, get8, Nat.reduceLT, bind_of, List.getElem?_cons_zero, List.getElem?_cons_succ, oInt_int, oBool_bool, oStr_str, oSl_slc, oAgg_agg, oTup_tup, oCons_cons, oNil_nil, sl_cells, (impl_SignatureFault l (by omega)).eq, (impl_within _ _ _).eq, algebraOfR]
  by_cases h0 : sigFault ⟨l⟩ = 0
  case neg => simp only [h0, Int.ofNat_lt, str_inj, beq_dec, bne_dec, cond_dec, cond_nt, if_true, if_false, decide_true, decide_false, cond_true, cond_false, u8_inj, cells_div, sz_int, sz_u8, sz_list, sz_Symbol, sz_Signature, sz_Equation, sz_Binding, sz_Algebra, sz_Entry, sz_Completion, sz_Theory, sz_Put, sz_Disk, sz_Act, sz_IntResult, sz_IntsResult, sz_BytesResult, sz_TextResult, sz_SignatureResult, sz_TermResult, sz_TermsResult, sz_EquationResult, sz_EquationsResult, sz_KeyResult, sz_BindingResult, sz_RedexResult, sz_NormalResult, sz_AlgebraResult, sz_EntryResult, sz_CompletionResult, sz_TheoryResult, sz_DiskResult, inB_nat, Int.toNat_natCast, get0, get1, get2, get3, get4, get5, get6, get7, get8, Nat.reduceLT, bind_of, List.getElem?_cons_zero, List.getElem?_cons_succ, oInt_int, oBool_bool, oStr_str, oSl_slc, oAgg_agg, oTup_tup, oCons_cons, oNil_nil, sl_cells, enc_AlgebraResult, slc_nil, Bool.not_false]
  simp only [h0, Int.ofNat_lt, str_inj, beq_dec, bne_dec, cond_dec, cond_nt, if_true, if_false, decide_true, decide_false, cond_true, cond_false, u8_inj, cells_div, sz_int, sz_u8, sz_list, sz_Symbol, sz_Signature, sz_Equation, sz_Binding, sz_Algebra, sz_Entry, sz_Completion, sz_Theory, sz_Put, sz_Disk, sz_Act, sz_IntResult, sz_IntsResult, sz_BytesResult, sz_TextResult, sz_SignatureResult, sz_TermResult, sz_TermsResult, sz_EquationResult, sz_EquationsResult, sz_KeyResult, sz_BindingResult, sz_RedexResult, sz_NormalResult, sz_AlgebraResult, sz_EntryResult, sz_CompletionResult, sz_TheoryResult, sz_DiskResult, inB_nat, Int.toNat_natCast, get0, get1, get2, get3, get4, get5, get6, get7, get8, Nat.reduceLT, bind_of, List.getElem?_cons_zero, List.getElem?_cons_succ, oInt_int, oBool_bool, oStr_str, oSl_slc, oAgg_agg, oTup_tup, oCons_cons, oNil_nil, sl_cells, Bool.not_true]
  cases h1 : inR z 1 3 with
  | false => simp only [Int.ofNat_lt, str_inj, beq_dec, bne_dec, cond_dec, cond_nt, if_true, if_false, decide_true, decide_false, cond_true, cond_false, u8_inj, cells_div, sz_int, sz_u8, sz_list, sz_Symbol, sz_Signature, sz_Equation, sz_Binding, sz_Algebra, sz_Entry, sz_Completion, sz_Theory, sz_Put, sz_Disk, sz_Act, sz_IntResult, sz_IntsResult, sz_BytesResult, sz_TextResult, sz_SignatureResult, sz_TermResult, sz_TermsResult, sz_EquationResult, sz_EquationsResult, sz_KeyResult, sz_BindingResult, sz_RedexResult, sz_NormalResult, sz_AlgebraResult, sz_EntryResult, sz_CompletionResult, sz_TheoryResult, sz_DiskResult, inB_nat, Int.toNat_natCast, get0, get1, get2, get3, get4, get5, get6, get7, get8, Nat.reduceLT, bind_of, List.getElem?_cons_zero, List.getElem?_cons_succ, oInt_int, oBool_bool, oStr_str, oSl_slc, oAgg_agg, oTup_tup, oCons_cons, oNil_nil, sl_cells, enc_AlgebraResult, slc_nil, Bool.not_false, false_and, Bool.false_eq_true]
  | true =>
    cases h2 : inR seed 0 65520 with
    | false => simp only [Int.ofNat_lt, str_inj, beq_dec, bne_dec, cond_dec, cond_nt, if_true, if_false, decide_true, decide_false, cond_true, cond_false, u8_inj, cells_div, sz_int, sz_u8, sz_list, sz_Symbol, sz_Signature, sz_Equation, sz_Binding, sz_Algebra, sz_Entry, sz_Completion, sz_Theory, sz_Put, sz_Disk, sz_Act, sz_IntResult, sz_IntsResult, sz_BytesResult, sz_TextResult, sz_SignatureResult, sz_TermResult, sz_TermsResult, sz_EquationResult, sz_EquationsResult, sz_KeyResult, sz_BindingResult, sz_RedexResult, sz_NormalResult, sz_AlgebraResult, sz_EntryResult, sz_CompletionResult, sz_TheoryResult, sz_DiskResult, inB_nat, Int.toNat_natCast, get0, get1, get2, get3, get4, get5, get6, get7, get8, Nat.reduceLT, bind_of, List.getElem?_cons_zero, List.getElem?_cons_succ, oInt_int, oBool_bool, oStr_str, oSl_slc, oAgg_agg, oTup_tup, oCons_cons, oNil_nil, sl_cells, enc_AlgebraResult, slc_nil, Bool.not_false, and_false, Bool.false_eq_true, Bool.not_true]
    | true =>
      simp only [Int.ofNat_lt, str_inj, beq_dec, bne_dec, cond_dec, cond_nt, if_true, if_false, decide_true, decide_false, cond_true, cond_false, u8_inj, cells_div, sz_int, sz_u8, sz_list, sz_Symbol, sz_Signature, sz_Equation, sz_Binding, sz_Algebra, sz_Entry, sz_Completion, sz_Theory, sz_Put, sz_Disk, sz_Act, sz_IntResult, sz_IntsResult, sz_BytesResult, sz_TextResult, sz_SignatureResult, sz_TermResult, sz_TermsResult, sz_EquationResult, sz_EquationsResult, sz_KeyResult, sz_BindingResult, sz_RedexResult, sz_NormalResult, sz_AlgebraResult, sz_EntryResult, sz_CompletionResult, sz_TheoryResult, sz_DiskResult, inB_nat, Int.toNat_natCast, get0, get1, get2, get3, get4, get5, get6, get7, get8, Nat.reduceLT, bind_of, List.getElem?_cons_zero, List.getElem?_cons_succ, oInt_int, oBool_bool, oStr_str, oSl_slc, oAgg_agg, oTup_tup, oCons_cons, oNil_nil, sl_cells, Bool.not_true, and_self]
      have hz := inR_iff.1 h1
      have hseed := inR_iff.1 h2
      obtain ⟨z, rfl⟩ : ∃ n : Nat, z = n := ⟨z.toNat, by omega⟩
      have ok := (sigOk_iff _).1 h0
      have hz3 : z ≤ 3 := by omega
      have key := fold_loop (l := l) (f := l.length + 10) (S := fun m k (p : Int × List (List Int)) => impl_AlgebraOf.at0 (l.length + 10) m (impl_AlgebraOf.st0 z p.1 (cells l) l.length (k : Nat) 0 0 z (cells p.2))) (g := tabStep z) (z := fun (p : Int × List (List Int)) => some (.agg (enc (⟨0, ⟨z, p.2⟩⟩ : AlgebraResult)), [])) tabI (fun m k p h hp => ?_) (fun k p h hp => tabI_step hz3 (ok.arity _ (List.getElem_mem h)) hp) (fun m p hp => ?_) (seed, []) (tabI_zero hseed) (by omega)
      · exact key
      · have hx := ok.arity _ (List.getElem_mem h)
        have h9 := pow_le9 (z := z) (r := l[k].arity.toNat) (by omega) (by omega)
        have hpw := (impl_power z l[k].arity.toNat (by omega) (by omega)).eq
        rw [Int.toNat_of_nonneg hx.1] at hpw
        simp only [impl_AlgebraOf.next0, impl_AlgebraOf.round0, Int.ofNat_lt, str_inj, beq_dec, bne_dec, cond_dec, cond_nt, if_true, if_false, decide_true, decide_false, cond_true, cond_false, u8_inj, cells_div, sz_int, sz_u8, sz_list, sz_Symbol, sz_Signature, sz_Equation, sz_Binding, sz_Algebra, sz_Entry, sz_Completion, sz_Theory, sz_Put, sz_Disk, sz_Act, sz_IntResult, sz_IntsResult, sz_BytesResult, sz_TextResult, sz_SignatureResult, sz_TermResult, sz_TermsResult, sz_EquationResult, sz_EquationsResult, sz_KeyResult, sz_BindingResult, sz_RedexResult, sz_NormalResult, sz_AlgebraResult, sz_EntryResult, sz_CompletionResult, sz_TheoryResult, sz_DiskResult, inB_nat, Int.toNat_natCast, get0, get1, get2, get3, get4, get5, get6, get7, get8, Nat.reduceLT, bind_of, List.getElem?_cons_zero, List.getElem?_cons_succ, oInt_int, oBool_bool, oStr_str, oSl_slc, oAgg_agg, oTup_tup, oCons_cons, oNil_nil, sl_cells, h, List.getElem?_eq_getElem, enc_Symbol, hpw]
        refine draws_loop (z := z) (c := z ^ l[k].arity.toNat) (S := fun m' j s t => impl_AlgebraOf.at2 (l.length + 10) (impl_AlgebraOf.at0 (l.length + 10) m) m' (impl_AlgebraOf.st2 z s (cells l) l.length (k : Nat) ((z ^ l[k].arity.toNat : Nat) : Int) (j : Nat) 0 0 z (cells p.2) (cells t)))
          (y := fun s t => impl_AlgebraOf.at0 (l.length + 10) m (impl_AlgebraOf.st0 z s (cells l) l.length ((k + 1 : Nat) : Int) 0 0 z (cells (p.2 ++ [t])))) (fun m' j s t hj hs ht => ?_) (fun m' s t hs ht => ?_) (by omega) p.1 hp.1
        · have hz0 : ¬ ((z : Int) = 0) := by omega
          simp only [impl_AlgebraOf.next2, impl_AlgebraOf.round2, Int.ofNat_lt, str_inj, beq_dec, bne_dec, cond_dec, cond_nt, if_true, if_false, decide_true, decide_false, cond_true, cond_false, u8_inj, cells_div, sz_int, sz_u8, sz_list, sz_Symbol, sz_Signature, sz_Equation, sz_Binding, sz_Algebra, sz_Entry, sz_Completion, sz_Theory, sz_Put, sz_Disk, sz_Act, sz_IntResult, sz_IntsResult, sz_BytesResult, sz_TextResult, sz_SignatureResult, sz_TermResult, sz_TermsResult, sz_EquationResult, sz_EquationsResult, sz_KeyResult, sz_BindingResult, sz_RedexResult, sz_NormalResult, sz_AlgebraResult, sz_EntryResult, sz_CompletionResult, sz_TheoryResult, sz_DiskResult, inB_nat, Int.toNat_natCast, get0, get1, get2, get3, get4, get5, get6, get7, get8, Nat.reduceLT, bind_of, List.getElem?_cons_zero, List.getElem?_cons_succ, oInt_int, oBool_bool, oStr_str, oSl_slc, oAgg_agg, oTup_tup, oCons_cons, oNil_nil, sl_cells, hj, hz0, lcg_eq hs, cells_length, ht]
          rw [cond_pos (ble_ok (by omega)), Int.tmod_eq_emod_of_nonneg (lcg_in s).1, cells_snoc_int, wrap_succ (by omega)]
        · have := hp.2.1
          simp only [impl_AlgebraOf.next2, impl_AlgebraOf.round2, Int.ofNat_lt, str_inj, beq_dec, bne_dec, cond_dec, cond_nt, if_true, if_false, decide_true, decide_false, cond_true, cond_false, u8_inj, cells_div, sz_int, sz_u8, sz_list, sz_Symbol, sz_Signature, sz_Equation, sz_Binding, sz_Algebra, sz_Entry, sz_Completion, sz_Theory, sz_Put, sz_Disk, sz_Act, sz_IntResult, sz_IntsResult, sz_BytesResult, sz_TextResult, sz_SignatureResult, sz_TermResult, sz_TermsResult, sz_EquationResult, sz_EquationsResult, sz_KeyResult, sz_BindingResult, sz_RedexResult, sz_NormalResult, sz_AlgebraResult, sz_EntryResult, sz_CompletionResult, sz_TheoryResult, sz_DiskResult, inB_nat, Int.toNat_natCast, get0, get1, get2, get3, get4, get5, get6, get7, get8, Nat.reduceLT, bind_of, List.getElem?_cons_zero, List.getElem?_cons_succ, oInt_int, oBool_bool, oStr_str, oSl_slc, oAgg_agg, oTup_tup, oCons_cons, oNil_nil, sl_cells, Nat.lt_irrefl, cells_length, hp.2.1]
          rw [cond_pos (ble_ok (by omega)), cells_snoc_list, wrap_succ (by omega)]
      · simp only [impl_AlgebraOf.next0, impl_AlgebraOf.round0, Int.ofNat_lt, str_inj, beq_dec, bne_dec, cond_dec, cond_nt, if_true, if_false, decide_true, decide_false, cond_true, cond_false, u8_inj, cells_div, sz_int, sz_u8, sz_list, sz_Symbol, sz_Signature, sz_Equation, sz_Binding, sz_Algebra, sz_Entry, sz_Completion, sz_Theory, sz_Put, sz_Disk, sz_Act, sz_IntResult, sz_IntsResult, sz_BytesResult, sz_TextResult, sz_SignatureResult, sz_TermResult, sz_TermsResult, sz_EquationResult, sz_EquationsResult, sz_KeyResult, sz_BindingResult, sz_RedexResult, sz_NormalResult, sz_AlgebraResult, sz_EntryResult, sz_CompletionResult, sz_TheoryResult, sz_DiskResult, inB_nat, Int.toNat_natCast, get0, get1, get2, get3, get4, get5, get6, get7, get8, Nat.reduceLT, bind_of, List.getElem?_cons_zero, List.getElem?_cons_succ, oInt_int, oBool_bool, oStr_str, oSl_slc, oAgg_agg, oTup_tup, oCons_cons, oNil_nil, sl_cells, Nat.lt_irrefl, enc_AlgebraResult]
theorem spec_l10Make (l : List Symbol) (ok : SigOk ⟨l⟩) (z : Nat) (seed : Int) (hz : 1 ≤ z ∧ z ≤ 3) (hseed : 0 ≤ seed ∧ seed ≤ 65520) :
    Call F.spec_l10Make [.rref [slc l] 0, .int .i64 z, .int .i64 seed] (.agg [.int .i64 z, slc (l.foldl (tabStep z) (seed, [])).2]) := by
  refine call_of rfl (l.length + 10) ((spec_l10Make.ev _ _ _ _).trans ?_)
  have hle : l.length ≤ 6 := ok.le
  have hz3 : z ≤ 3 := hz.2
  show spec_l10Make.at0 (l.length + 10) (l.length + 10) (spec_l10Make.st0 (cells l) z seed 0 0 z []) = _
  have key := fold_loop (l := l) (f := l.length + 10) (S := fun m k (p : Int × List (List Int)) => spec_l10Make.at0 (l.length + 10) m (spec_l10Make.st0 (cells l) z p.1 (k : Nat) 0 z (cells p.2))) (g := tabStep z) (z := fun (p : Int × List (List Int)) => some (.agg [.int .i64 z, slc p.2], [])) tabI (fun m k p h hp => ?_) (fun k p h hp => tabI_step hz3 (ok.arity _ (List.getElem_mem h)) hp) (fun m p hp => ?_) (seed, []) (tabI_zero hseed) (by omega)
  · exact key
  · have hx := ok.arity _ (List.getElem_mem h)
    have h9 := pow_le9 (z := z) (r := l[k].arity.toNat) (by omega) (by omega)
    have hpw := (spec_l10Pow z l[k].arity.toNat (by omega) (by omega)).eq
    rw [Int.toNat_of_nonneg hx.1] at hpw
    simp only [spec_l10Make.next0, spec_l10Make.round0, Int.ofNat_lt, str_inj, beq_dec, bne_dec, cond_dec, cond_nt, if_true, if_false, decide_true, decide_false, cond_true, cond_false, u8_inj, cells_div, sz_int, sz_u8, sz_list, sz_Symbol, sz_Signature, sz_Equation, sz_Binding, sz_Algebra, sz_Entry, sz_Completion, sz_Theory, sz_Put, sz_Disk, sz_Act, sz_IntResult, sz_IntsResult, sz_BytesResult, sz_TextResult, sz_SignatureResult, sz_TermResult, sz_TermsResult, sz_EquationResult, sz_EquationsResult, sz_KeyResult, sz_BindingResult, sz_RedexResult, sz_NormalResult, sz_AlgebraResult, sz_EntryResult, sz_CompletionResult, sz_TheoryResult, sz_DiskResult, inB_nat, Int.toNat_natCast, get0, get1, get2, get3, get4, get5, get6, get7, get8, Nat.reduceLT, bind_of, List.getElem?_cons_zero, List.getElem?_cons_succ, oInt_int, oBool_bool, oStr_str, oSl_slc, oAgg_agg, oTup_tup, oCons_cons, oNil_nil, sl_cells, h, List.getElem?_eq_getElem, enc_Symbol, hpw]
    refine (draws_loop (z := z) (c := z ^ l[k].arity.toNat) (S := fun m' j s t => spec_l10Make.at2 (l.length + 10) (spec_l10Make.at0 (l.length + 10) m) m' (spec_l10Make.st2 (cells l) z s (k : Nat) (((z ^ l[k].arity.toNat : Nat) : Int) - (j : Nat)) 0 z (cells p.2) (cells t)))
      (y := fun s t => spec_l10Make.at0 (l.length + 10) m (spec_l10Make.st0 (cells l) z s ((k + 1 : Nat) : Int) 0 z (cells (p.2 ++ [t])))) (fun m' j s t hj hs ht => ?_) (fun m' s t hs ht => ?_) (by omega) p.1 hp.1)
    · have hz0 : ¬ ((z : Int) = 0) := by omega
      have hj0 : ((z ^ l[k].arity.toNat : Nat) : Int) - (j : Nat) > 0 := by omega
      have hj1 : IntKind.wrap .i64 (((z ^ l[k].arity.toNat : Nat) : Int) - (j : Nat) - 1) = ((z ^ l[k].arity.toNat : Nat) : Int) - ((j + 1 : Nat) : Int) := by rw [wrap64 (by omega)]; omega
      simp only [spec_l10Make.next2, spec_l10Make.round2, Int.ofNat_lt, str_inj, beq_dec, bne_dec, cond_dec, cond_nt, if_true, if_false, decide_true, decide_false, cond_true, cond_false, u8_inj, cells_div, sz_int, sz_u8, sz_list, sz_Symbol, sz_Signature, sz_Equation, sz_Binding, sz_Algebra, sz_Entry, sz_Completion, sz_Theory, sz_Put, sz_Disk, sz_Act, sz_IntResult, sz_IntsResult, sz_BytesResult, sz_TextResult, sz_SignatureResult, sz_TermResult, sz_TermsResult, sz_EquationResult, sz_EquationsResult, sz_KeyResult, sz_BindingResult, sz_RedexResult, sz_NormalResult, sz_AlgebraResult, sz_EntryResult, sz_CompletionResult, sz_TheoryResult, sz_DiskResult, inB_nat, Int.toNat_natCast, get0, get1, get2, get3, get4, get5, get6, get7, get8, Nat.reduceLT, bind_of, List.getElem?_cons_zero, List.getElem?_cons_succ, oInt_int, oBool_bool, oStr_str, oSl_slc, oAgg_agg, oTup_tup, oCons_cons, oNil_nil, sl_cells, hj0, hj1, hz0, lcg_eq hs, cells_length, ht]
      rw [cond_pos (ble_ok (by omega)), Int.tmod_eq_emod_of_nonneg (lcg_in s).1, cells_snoc_int]
    · have := hp.2.1
      have hj0 : ¬ (((z ^ l[k].arity.toNat : Nat) : Int) - ((z ^ l[k].arity.toNat : Nat) : Int) > 0) := by omega
      simp only [spec_l10Make.next2, spec_l10Make.round2, Int.ofNat_lt, str_inj, beq_dec, bne_dec, cond_dec, cond_nt, if_true, if_false, decide_true, decide_false, cond_true, cond_false, u8_inj, cells_div, sz_int, sz_u8, sz_list, sz_Symbol, sz_Signature, sz_Equation, sz_Binding, sz_Algebra, sz_Entry, sz_Completion, sz_Theory, sz_Put, sz_Disk, sz_Act, sz_IntResult, sz_IntsResult, sz_BytesResult, sz_TextResult, sz_SignatureResult, sz_TermResult, sz_TermsResult, sz_EquationResult, sz_EquationsResult, sz_KeyResult, sz_BindingResult, sz_RedexResult, sz_NormalResult, sz_AlgebraResult, sz_EntryResult, sz_CompletionResult, sz_TheoryResult, sz_DiskResult, inB_nat, Int.toNat_natCast, get0, get1, get2, get3, get4, get5, get6, get7, get8, Nat.reduceLT, bind_of, List.getElem?_cons_zero, List.getElem?_cons_succ, oInt_int, oBool_bool, oStr_str, oSl_slc, oAgg_agg, oTup_tup, oCons_cons, oNil_nil, sl_cells, hj0, cells_length, hp.2.1]
      rw [cond_pos (ble_ok (by omega)), cells_snoc_list, wrap_succ (by omega)]
  · simp only [spec_l10Make.next0, spec_l10Make.round0, Int.ofNat_lt, str_inj, beq_dec, bne_dec, cond_dec, cond_nt, if_true, if_false, decide_true, decide_false, cond_true, cond_false, u8_inj, cells_div, sz_int, sz_u8, sz_list, sz_Symbol, sz_Signature, sz_Equation, sz_Binding, sz_Algebra, sz_Entry, sz_Completion, sz_Theory, sz_Put, sz_Disk, sz_Act, sz_IntResult, sz_IntsResult, sz_BytesResult, sz_TextResult, sz_SignatureResult, sz_TermResult, sz_TermsResult, sz_EquationResult, sz_EquationsResult, sz_KeyResult, sz_BindingResult, sz_RedexResult, sz_NormalResult, sz_AlgebraResult, sz_EntryResult, sz_CompletionResult, sz_TheoryResult, sz_DiskResult, inB_nat, Int.toNat_natCast, get0, get1, get2, get3, get4, get5, get6, get7, get8, Nat.reduceLT, bind_of, List.getElem?_cons_zero, List.getElem?_cons_succ, oInt_int, oBool_bool, oStr_str, oSl_slc, oAgg_agg, oTup_tup, oCons_cons, oNil_nil, sl_cells, Nat.lt_irrefl]
theorem spec_AlgebraOf (s : Signature) (z seed : Int) (hs : sm 1048576 s) : Call F.spec_AlgebraOf [.agg [slc s.symbols], .int .i64 z, .int .i64 seed] (.agg (enc (algebraOfR s z seed))) := by
  obtain ⟨l⟩ := s
  have hl : l.length ≤ 1048576 := hs.1
  refine call_of rfl 0 ((spec_AlgebraOf.ev _ _ _ _).trans ?_)
  simp only [Int.ofNat_lt, str_inj, beq_dec, bne_dec, cond_dec, cond_nt, if_true, if_false, decide_true, decide_false, cond_true, cond_false, u8_inj, cells_div, sz_int, sz_u8, sz_list, sz_Symbol, sz_Signature, sz_Equation, sz_Binding, sz_Algebra, sz_Entry, sz_Completion, sz_Theory, sz_Put, sz_Disk, sz_Act, sz_IntResult, sz_IntsResult, sz_BytesResult, sz_TextResult, sz_SignatureResult, sz_TermResult, sz_TermsResult, sz_EquationResult, sz_EquationsResult, sz_KeyResult, sz_BindingResult, sz_RedexResult, sz_NormalResult, sz_AlgebraResult, sz_EntryResult, sz_CompletionResult, sz_TheoryResult, sz_DiskResult, inB_nat, Int.toNat_natCast, get0, get1, get2, get3, get4, get5, get6, get7, get8, Nat.reduceLT, bind_of, List.getElem?_cons_zero, List.getElem?_cons_succ, oInt_int, oBool_bool, oStr_str, oSl_slc, oAgg_agg, oTup_tup, oCons_cons, oNil_nil, sl_cells, (spec_SignatureFault l (by omega)).eq, (spec_l1In _ _ _).eq, algebraOfR]
  by_cases h0 : sigFault ⟨l⟩ = 0
  case neg => simp only [h0, Int.ofNat_lt, str_inj, beq_dec, bne_dec, cond_dec, cond_nt, if_true, if_false, decide_true, decide_false, cond_true, cond_false, u8_inj, cells_div, sz_int, sz_u8, sz_list, sz_Symbol, sz_Signature, sz_Equation, sz_Binding, sz_Algebra, sz_Entry, sz_Completion, sz_Theory, sz_Put, sz_Disk, sz_Act, sz_IntResult, sz_IntsResult, sz_BytesResult, sz_TextResult, sz_SignatureResult, sz_TermResult, sz_TermsResult, sz_EquationResult, sz_EquationsResult, sz_KeyResult, sz_BindingResult, sz_RedexResult, sz_NormalResult, sz_AlgebraResult, sz_EntryResult, sz_CompletionResult, sz_TheoryResult, sz_DiskResult, inB_nat, Int.toNat_natCast, get0, get1, get2, get3, get4, get5, get6, get7, get8, Nat.reduceLT, bind_of, List.getElem?_cons_zero, List.getElem?_cons_succ, oInt_int, oBool_bool, oStr_str, oSl_slc, oAgg_agg, oTup_tup, oCons_cons, oNil_nil, sl_cells, enc_AlgebraResult, slc_nil, Bool.not_false]
  simp only [h0, Int.ofNat_lt, str_inj, beq_dec, bne_dec, cond_dec, cond_nt, if_true, if_false, decide_true, decide_false, cond_true, cond_false, u8_inj, cells_div, sz_int, sz_u8, sz_list, sz_Symbol, sz_Signature, sz_Equation, sz_Binding, sz_Algebra, sz_Entry, sz_Completion, sz_Theory, sz_Put, sz_Disk, sz_Act, sz_IntResult, sz_IntsResult, sz_BytesResult, sz_TextResult, sz_SignatureResult, sz_TermResult, sz_TermsResult, sz_EquationResult, sz_EquationsResult, sz_KeyResult, sz_BindingResult, sz_RedexResult, sz_NormalResult, sz_AlgebraResult, sz_EntryResult, sz_CompletionResult, sz_TheoryResult, sz_DiskResult, inB_nat, Int.toNat_natCast, get0, get1, get2, get3, get4, get5, get6, get7, get8, Nat.reduceLT, bind_of, List.getElem?_cons_zero, List.getElem?_cons_succ, oInt_int, oBool_bool, oStr_str, oSl_slc, oAgg_agg, oTup_tup, oCons_cons, oNil_nil, sl_cells, Bool.not_true]
  cases h1 : inR z 1 3 with
  | false => simp only [Int.ofNat_lt, str_inj, beq_dec, bne_dec, cond_dec, cond_nt, if_true, if_false, decide_true, decide_false, cond_true, cond_false, u8_inj, cells_div, sz_int, sz_u8, sz_list, sz_Symbol, sz_Signature, sz_Equation, sz_Binding, sz_Algebra, sz_Entry, sz_Completion, sz_Theory, sz_Put, sz_Disk, sz_Act, sz_IntResult, sz_IntsResult, sz_BytesResult, sz_TextResult, sz_SignatureResult, sz_TermResult, sz_TermsResult, sz_EquationResult, sz_EquationsResult, sz_KeyResult, sz_BindingResult, sz_RedexResult, sz_NormalResult, sz_AlgebraResult, sz_EntryResult, sz_CompletionResult, sz_TheoryResult, sz_DiskResult, inB_nat, Int.toNat_natCast, get0, get1, get2, get3, get4, get5, get6, get7, get8, Nat.reduceLT, bind_of, List.getElem?_cons_zero, List.getElem?_cons_succ, oInt_int, oBool_bool, oStr_str, oSl_slc, oAgg_agg, oTup_tup, oCons_cons, oNil_nil, sl_cells, enc_AlgebraResult, slc_nil, Bool.not_false, false_and, Bool.false_eq_true]
  | true =>
    cases h2 : inR seed 0 65520 with
    | false => simp only [Int.ofNat_lt, str_inj, beq_dec, bne_dec, cond_dec, cond_nt, if_true, if_false, decide_true, decide_false, cond_true, cond_false, u8_inj, cells_div, sz_int, sz_u8, sz_list, sz_Symbol, sz_Signature, sz_Equation, sz_Binding, sz_Algebra, sz_Entry, sz_Completion, sz_Theory, sz_Put, sz_Disk, sz_Act, sz_IntResult, sz_IntsResult, sz_BytesResult, sz_TextResult, sz_SignatureResult, sz_TermResult, sz_TermsResult, sz_EquationResult, sz_EquationsResult, sz_KeyResult, sz_BindingResult, sz_RedexResult, sz_NormalResult, sz_AlgebraResult, sz_EntryResult, sz_CompletionResult, sz_TheoryResult, sz_DiskResult, inB_nat, Int.toNat_natCast, get0, get1, get2, get3, get4, get5, get6, get7, get8, Nat.reduceLT, bind_of, List.getElem?_cons_zero, List.getElem?_cons_succ, oInt_int, oBool_bool, oStr_str, oSl_slc, oAgg_agg, oTup_tup, oCons_cons, oNil_nil, sl_cells, enc_AlgebraResult, slc_nil, Bool.not_false, and_false, Bool.false_eq_true, Bool.not_true]
    | true =>
      have hz := inR_iff.1 h1
      have hseed := inR_iff.1 h2
      obtain ⟨z, rfl⟩ : ∃ n : Nat, z = n := ⟨z.toNat, by omega⟩
      have ok := (sigOk_iff _).1 h0
      simp only [Int.ofNat_lt, str_inj, beq_dec, bne_dec, cond_dec, cond_nt, if_true, if_false, decide_true, decide_false, cond_true, cond_false, u8_inj, cells_div, sz_int, sz_u8, sz_list, sz_Symbol, sz_Signature, sz_Equation, sz_Binding, sz_Algebra, sz_Entry, sz_Completion, sz_Theory, sz_Put, sz_Disk, sz_Act, sz_IntResult, sz_IntsResult, sz_BytesResult, sz_TextResult, sz_SignatureResult, sz_TermResult, sz_TermsResult, sz_EquationResult, sz_EquationsResult, sz_KeyResult, sz_BindingResult, sz_RedexResult, sz_NormalResult, sz_AlgebraResult, sz_EntryResult, sz_CompletionResult, sz_TheoryResult, sz_DiskResult, inB_nat, Int.toNat_natCast, get0, get1, get2, get3, get4, get5, get6, get7, get8, Nat.reduceLT, bind_of, List.getElem?_cons_zero, List.getElem?_cons_succ, oInt_int, oBool_bool, oStr_str, oSl_slc, oAgg_agg, oTup_tup, oCons_cons, oNil_nil, sl_cells, Bool.not_true, and_self, (spec_l10Make l ok z seed (by omega) hseed).eq, enc_AlgebraResult]
end Ev.Ty
