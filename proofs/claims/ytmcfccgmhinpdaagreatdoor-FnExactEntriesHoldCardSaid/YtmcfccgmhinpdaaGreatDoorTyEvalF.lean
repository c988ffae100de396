/- Values of terms: the functions that compute them. -/
import Derived.Test.YtmcfccgmhinpdaaGreatDoorTyEval
namespace Ev.Ty
open Go Ev
open Enc (enc)
open Sm (sm)
set_option linter.unusedSimpArgs false
set_option linter.unusedVariables false

theorem getD_of {α : Type} {v : List α} {i : Nat} {d : α} (h : i < v.length) : v.getD i d = v[i] := by simp [h]
section
variable {l : List Symbol} {z : Int} {tb : List (List Int)} (al : AlgOk l z tb) {vs : List Int} (hv : vs.length = 6) (hr : ∀ n ∈ vs, 0 ≤ n ∧ n ≤ z - 1)
include al hv hr
theorem impl_Algebra_evalAt {t : List Int} (ht : t.length ≤ 4294967296) : ∀ (x : Tm) (r : List Int) (e : Nat), t.drop e = x.flat ++ r → x.ok (ar l) → x.syms l.length → x.low 6 →
    Call F.impl_Algebra_evalAt [.agg [.int .i64 z, slc tb], .agg [slc l], slc vs, slc t, .int .i64 e] (.tup [.int .i64 (x.eval z tb vs), .int .i64 (e + x.flat.length : Nat)]) := by
  intro x
  induction x with
  | v n =>
    intro r e he ok hs hl
    obtain ⟨h1, h2, h3⟩ := at_head he
    have ok : n < 0 := ok
    have hl : -6 ≤ n := hl
    refine call_of rfl 4 ((impl_Algebra_evalAt.ev _ _ _ _ _ _ _).trans ?_)
    obtain ⟨y, hy⟩ : ∃ y : Nat, -1 - n = y := ⟨(-1 - n).toNat, by omega⟩
    have hyv : y < vs.length := by omega
    have hyl : vs[y]? = some vs[y] := List.getElem?_eq_getElem hyv
    have hw : IntKind.wrap .i64 (-1 - n) = y := by rw [wrap64 (by omega), hy]
    simp only [Int.ofNat_lt, str_inj, beq_dec, bne_dec, cond_dec, cond_nt, if_true, if_false, decide_true, decide_false, cond_true, cond_false, u8_inj, cells_div, sz_int, sz_u8, sz_list, sz_Symbol, sz_Signature, sz_Equation, sz_Binding, sz_Algebra, sz_Entry, sz_Completion, sz_Theory, sz_Put, sz_Disk, sz_Act, sz_IntResult, sz_IntsResult, sz_BytesResult, sz_TextResult, sz_SignatureResult, sz_TermResult, sz_TermsResult, sz_EquationResult, sz_EquationsResult, sz_KeyResult, sz_BindingResult, sz_RedexResult, sz_NormalResult, sz_AlgebraResult, sz_EntryResult, sz_CompletionResult, sz_TheoryResult, sz_DiskResult, inB_nat, Int.toNat_natCast, get0, get1, get2, get3, get4, get5, get6, get7, get8, Nat.reduceLT, bind_of, List.getElem?_cons_zero, List.getElem?_cons_succ, oInt_int, oBool_bool, oStr_str, oSl_slc, oAgg_agg, oTup_tup, oCons_cons, oNil_nil, sl_cells, h1, h2, enc_int, Tm.head, ok, hw, hyv, hyl]
    rw [wrap_succ (by omega)]
    simp only [Tm.eval, hy, Int.toNat_natCast, getD_of hyv, Tm.flat, List.length_singleton]
  | k n =>
    intro r e he ok hs hl
    obtain ⟨h1, h2, h3⟩ := at_head he
    obtain ⟨y, rfl, hy, hy', r1, r2, r3, r4⟩ := row_at al ok.1 hs
    have hyl : l[y]? = some l[y] := List.getElem?_eq_getElem hy
    have hyt : tb[y]? = some tb[y] := List.getElem?_eq_getElem hy'
    rw [ok.2, Nat.pow_zero] at r1
    have hn : ¬ ((y : Int) < 0) := by omega
    have h0 : (0 : Nat) < tb[y].length := by omega
    have h0l : tb[y][0]? = some tb[y][0] := List.getElem?_eq_getElem h0
    refine call_of rfl 4 ((impl_Algebra_evalAt.ev _ _ _ _ _ _ _).trans ?_)
    simp only [Int.ofNat_lt, str_inj, beq_dec, bne_dec, cond_dec, cond_nt, if_true, if_false, decide_true, decide_false, cond_true, cond_false, u8_inj, cells_div, sz_int, sz_u8, sz_list, sz_Symbol, sz_Signature, sz_Equation, sz_Binding, sz_Algebra, sz_Entry, sz_Completion, sz_Theory, sz_Put, sz_Disk, sz_Act, sz_IntResult, sz_IntsResult, sz_BytesResult, sz_TextResult, sz_SignatureResult, sz_TermResult, sz_TermsResult, sz_EquationResult, sz_EquationsResult, sz_KeyResult, sz_BindingResult, sz_RedexResult, sz_NormalResult, sz_AlgebraResult, sz_EntryResult, sz_CompletionResult, sz_TheoryResult, sz_DiskResult, inB_nat, Int.toNat_natCast, get0, get1, get2, get3, get4, get5, get6, get7, get8, Nat.reduceLT, bind_of, List.getElem?_cons_zero, List.getElem?_cons_succ, oInt_int, oBool_bool, oStr_str, oSl_slc, oAgg_agg, oTup_tup, oCons_cons, oNil_nil, sl_cells, h1, h2, enc_int, Tm.head, hn, hy, hyl, enc_Symbol, r4, ok.2]
    refine (impl_Algebra_evalAt.next0 4 3 _).trans ((impl_Algebra_evalAt.round0 _ _ _ _ _ _ _ _ _ _ _ _).trans ?_)
    rw [wrap_succ (by omega)]
    have hz0 : inB 0 tb[y].length = true := by rw [show (0 : Int) = ((0 : Nat) : Int) from rfl, inB_nat]; simpa using h0
    simp only [Int.ofNat_lt, str_inj, beq_dec, bne_dec, cond_dec, cond_nt, if_true, if_false, decide_true, decide_false, cond_true, cond_false, u8_inj, cells_div, sz_int, sz_u8, sz_list, sz_Symbol, sz_Signature, sz_Equation, sz_Binding, sz_Algebra, sz_Entry, sz_Completion, sz_Theory, sz_Put, sz_Disk, sz_Act, sz_IntResult, sz_IntsResult, sz_BytesResult, sz_TextResult, sz_SignatureResult, sz_TermResult, sz_TermsResult, sz_EquationResult, sz_EquationsResult, sz_KeyResult, sz_BindingResult, sz_RedexResult, sz_NormalResult, sz_AlgebraResult, sz_EntryResult, sz_CompletionResult, sz_TheoryResult, sz_DiskResult, inB_nat, Int.toNat_natCast, get0, get1, get2, get3, get4, get5, get6, get7, get8, Nat.reduceLT, bind_of, List.getElem?_cons_zero, List.getElem?_cons_succ, oInt_int, oBool_bool, oStr_str, oSl_slc, oAgg_agg, oTup_tup, oCons_cons, oNil_nil, sl_cells, hy', hyt, enc_list, hz0, Int.toNat_zero, h0l, enc_int, Int.lt_irrefl, Int.ofNat_zero, Int.natCast_zero]
    simp only [Tm.eval, Int.toNat_natCast, getD_of hy', getD_of h0, Tm.flat, List.length_singleton]
  | u n x ihx =>
    intro r e he ok hs hl
    obtain ⟨h1, h2, h3⟩ := at_head he
    obtain ⟨y, rfl, hy, hy', r1, r2, r3, r4⟩ := row_at al ok.1 hs.1
    have hyl : l[y]? = some l[y] := List.getElem?_eq_getElem hy
    have hyt : tb[y]? = some tb[y] := List.getElem?_eq_getElem hy'
    rw [ok.2.1, Nat.pow_one] at r1
    have hn : ¬ ((y : Int) < 0) := by omega
    obtain ⟨i1, i2⟩ := Tm.eval_range al hv hr ok.2.2 hs.2 hl
    obtain ⟨q, hq⟩ : ∃ q : Nat, x.eval z tb vs = q := ⟨(x.eval z tb vs).toNat, by omega⟩
    have hz := al.size
    have h0 : q < tb[y].length := by omega
    have h0l : tb[y][q]? = some tb[y][q] := List.getElem?_eq_getElem h0
    have he1 : t.drop (e + 1) = x.flat ++ r := at_next (q := [(y : Int)]) (by simpa [Tm.flat] using he)
    have c1 := ihx r (e + 1) he1 ok.2.2 hs.2 hl
    refine call_of rfl 4 ((impl_Algebra_evalAt.ev _ _ _ _ _ _ _).trans ?_)
    simp only [Int.ofNat_lt, str_inj, beq_dec, bne_dec, cond_dec, cond_nt, if_true, if_false, decide_true, decide_false, cond_true, cond_false, u8_inj, cells_div, sz_int, sz_u8, sz_list, sz_Symbol, sz_Signature, sz_Equation, sz_Binding, sz_Algebra, sz_Entry, sz_Completion, sz_Theory, sz_Put, sz_Disk, sz_Act, sz_IntResult, sz_IntsResult, sz_BytesResult, sz_TextResult, sz_SignatureResult, sz_TermResult, sz_TermsResult, sz_EquationResult, sz_EquationsResult, sz_KeyResult, sz_BindingResult, sz_RedexResult, sz_NormalResult, sz_AlgebraResult, sz_EntryResult, sz_CompletionResult, sz_TheoryResult, sz_DiskResult, inB_nat, Int.toNat_natCast, get0, get1, get2, get3, get4, get5, get6, get7, get8, Nat.reduceLT, bind_of, List.getElem?_cons_zero, List.getElem?_cons_succ, oInt_int, oBool_bool, oStr_str, oSl_slc, oAgg_agg, oTup_tup, oCons_cons, oNil_nil, sl_cells, h1, h2, enc_int, Tm.head, hn, hy, hyl, enc_Symbol, r4, ok.2.1]
    rw [wrap_succ (by omega)]
    refine (impl_Algebra_evalAt.next0 4 3 _).trans ((impl_Algebra_evalAt.round0 _ _ _ _ _ _ _ _ _ _ _ _).trans ?_)
    simp only [Int.ofNat_lt, str_inj, beq_dec, bne_dec, cond_dec, cond_nt, if_true, if_false, decide_true, decide_false, cond_true, cond_false, u8_inj, cells_div, sz_int, sz_u8, sz_list, sz_Symbol, sz_Signature, sz_Equation, sz_Binding, sz_Algebra, sz_Entry, sz_Completion, sz_Theory, sz_Put, sz_Disk, sz_Act, sz_IntResult, sz_IntsResult, sz_BytesResult, sz_TextResult, sz_SignatureResult, sz_TermResult, sz_TermsResult, sz_EquationResult, sz_EquationsResult, sz_KeyResult, sz_BindingResult, sz_RedexResult, sz_NormalResult, sz_AlgebraResult, sz_EntryResult, sz_CompletionResult, sz_TheoryResult, sz_DiskResult, inB_nat, Int.toNat_natCast, get0, get1, get2, get3, get4, get5, get6, get7, get8, Nat.reduceLT, bind_of, List.getElem?_cons_zero, List.getElem?_cons_succ, oInt_int, oBool_bool, oStr_str, oSl_slc, oAgg_agg, oTup_tup, oCons_cons, oNil_nil, sl_cells, c1.eq, hq, show ((1 : Nat) : Int) = 1 from rfl, show ((2 : Nat) : Int) = 2 from rfl, Int.reduceLT, Int.reduceAdd, wrap64 (x := 0 * z) (by omega), wrap64 (x := 0 * z + (q : Int)) (by omega), wrap64 (x := (1 : Int)) (by omega)]
    refine (impl_Algebra_evalAt.next0 4 2 _).trans ((impl_Algebra_evalAt.round0 _ _ _ _ _ _ _ _ _ _ _ _).trans ?_)
    simp only [Int.ofNat_lt, str_inj, beq_dec, bne_dec, cond_dec, cond_nt, if_true, if_false, decide_true, decide_false, cond_true, cond_false, u8_inj, cells_div, sz_int, sz_u8, sz_list, sz_Symbol, sz_Signature, sz_Equation, sz_Binding, sz_Algebra, sz_Entry, sz_Completion, sz_Theory, sz_Put, sz_Disk, sz_Act, sz_IntResult, sz_IntsResult, sz_BytesResult, sz_TextResult, sz_SignatureResult, sz_TermResult, sz_TermsResult, sz_EquationResult, sz_EquationsResult, sz_KeyResult, sz_BindingResult, sz_RedexResult, sz_NormalResult, sz_AlgebraResult, sz_EntryResult, sz_CompletionResult, sz_TheoryResult, sz_DiskResult, inB_nat, Int.toNat_natCast, get0, get1, get2, get3, get4, get5, get6, get7, get8, Nat.reduceLT, bind_of, List.getElem?_cons_zero, List.getElem?_cons_succ, oInt_int, oBool_bool, oStr_str, oSl_slc, oAgg_agg, oTup_tup, oCons_cons, oNil_nil, sl_cells, show ((1 : Nat) : Int) = 1 from rfl, show ((2 : Nat) : Int) = 2 from rfl, Int.reduceLT, Int.reduceAdd, Int.zero_mul, Int.zero_add, hy', hyt, enc_list, h0, h0l, enc_int]
    simp only [Tm.eval, hq, Int.toNat_natCast, getD_of hy', getD_of h0, Tm.flat, List.length_cons]
    rw [show e + 1 + x.flat.length = e + (x.flat.length + 1) by omega]
  | b n x w ihx ihw =>
    intro r e he ok hs hl
    obtain ⟨h1, h2, h3⟩ := at_head he
    obtain ⟨y, rfl, hy, hy', r1, r2, r3, r4⟩ := row_at al ok.1 hs.1
    have hyl : l[y]? = some l[y] := List.getElem?_eq_getElem hy
    have hyt : tb[y]? = some tb[y] := List.getElem?_eq_getElem hy'
    rw [ok.2.1] at r1
    have hn : ¬ ((y : Int) < 0) := by omega
    obtain ⟨i1, i2⟩ := Tm.eval_range al hv hr ok.2.2.1 hs.2.1 hl.1
    obtain ⟨j1, j2⟩ := Tm.eval_range al hv hr ok.2.2.2 hs.2.2 hl.2
    obtain ⟨q, hq⟩ : ∃ q : Nat, x.eval z tb vs = q := ⟨(x.eval z tb vs).toNat, by omega⟩
    obtain ⟨p, hp⟩ : ∃ p : Nat, w.eval z tb vs = p := ⟨(w.eval z tb vs).toNat, by omega⟩
    obtain ⟨zn, hzn⟩ : ∃ zn : Nat, z = zn := ⟨z.toNat, by have := al.size; omega⟩
    have hz := al.size
    have h0 : q * zn + p < tb[y].length := by
      rw [r1]
      have : zn = 1 ∨ zn = 2 ∨ zn = 3 := by omega
      rcases this with h | h | h <;> subst h <;> subst hzn <;> simp <;> omega
    have hb : q * zn ≤ 6 := by
      have h4 : q ≤ 2 := by omega
      have h5 : zn ≤ 3 := by omega
      exact Nat.mul_le_mul h4 h5
    have h0l : tb[y][q * zn + p]? = some tb[y][q * zn + p] := List.getElem?_eq_getElem h0
    have he1 : t.drop (e + 1) = x.flat ++ (w.flat ++ r) := at_next (q := [(y : Int)]) (by simpa [Tm.flat] using he)
    have he2 : t.drop (e + 1 + x.flat.length) = w.flat ++ r := at_next he1
    have c1 := ihx _ (e + 1) he1 ok.2.2.1 hs.2.1 hl.1
    have c2 := ihw _ _ he2 ok.2.2.2 hs.2.2 hl.2
    refine call_of rfl 4 ((impl_Algebra_evalAt.ev _ _ _ _ _ _ _).trans ?_)
    simp only [Int.ofNat_lt, str_inj, beq_dec, bne_dec, cond_dec, cond_nt, if_true, if_false, decide_true, decide_false, cond_true, cond_false, u8_inj, cells_div, sz_int, sz_u8, sz_list, sz_Symbol, sz_Signature, sz_Equation, sz_Binding, sz_Algebra, sz_Entry, sz_Completion, sz_Theory, sz_Put, sz_Disk, sz_Act, sz_IntResult, sz_IntsResult, sz_BytesResult, sz_TextResult, sz_SignatureResult, sz_TermResult, sz_TermsResult, sz_EquationResult, sz_EquationsResult, sz_KeyResult, sz_BindingResult, sz_RedexResult, sz_NormalResult, sz_AlgebraResult, sz_EntryResult, sz_CompletionResult, sz_TheoryResult, sz_DiskResult, inB_nat, Int.toNat_natCast, get0, get1, get2, get3, get4, get5, get6, get7, get8, Nat.reduceLT, bind_of, List.getElem?_cons_zero, List.getElem?_cons_succ, oInt_int, oBool_bool, oStr_str, oSl_slc, oAgg_agg, oTup_tup, oCons_cons, oNil_nil, sl_cells, h1, h2, enc_int, Tm.head, hn, hy, hyl, enc_Symbol, r4, ok.2.1]
    rw [wrap_succ (by omega)]
    refine (impl_Algebra_evalAt.next0 4 3 _).trans ((impl_Algebra_evalAt.round0 _ _ _ _ _ _ _ _ _ _ _ _).trans ?_)
    simp only [Int.ofNat_lt, str_inj, beq_dec, bne_dec, cond_dec, cond_nt, if_true, if_false, decide_true, decide_false, cond_true, cond_false, u8_inj, cells_div, sz_int, sz_u8, sz_list, sz_Symbol, sz_Signature, sz_Equation, sz_Binding, sz_Algebra, sz_Entry, sz_Completion, sz_Theory, sz_Put, sz_Disk, sz_Act, sz_IntResult, sz_IntsResult, sz_BytesResult, sz_TextResult, sz_SignatureResult, sz_TermResult, sz_TermsResult, sz_EquationResult, sz_EquationsResult, sz_KeyResult, sz_BindingResult, sz_RedexResult, sz_NormalResult, sz_AlgebraResult, sz_EntryResult, sz_CompletionResult, sz_TheoryResult, sz_DiskResult, inB_nat, Int.toNat_natCast, get0, get1, get2, get3, get4, get5, get6, get7, get8, Nat.reduceLT, bind_of, List.getElem?_cons_zero, List.getElem?_cons_succ, oInt_int, oBool_bool, oStr_str, oSl_slc, oAgg_agg, oTup_tup, oCons_cons, oNil_nil, sl_cells, c1.eq, hq, show ((1 : Nat) : Int) = 1 from rfl, show ((2 : Nat) : Int) = 2 from rfl, Int.reduceLT, Int.reduceAdd, wrap64 (x := 0 * z) (by omega), wrap64 (x := 0 * z + (q : Int)) (by omega), wrap64 (x := (1 : Int)) (by omega)]
    refine (impl_Algebra_evalAt.next0 4 2 _).trans ((impl_Algebra_evalAt.round0 _ _ _ _ _ _ _ _ _ _ _ _).trans ?_)
    have hm : ((q : Int) * z) = ((q * zn : Nat) : Int) := by rw [hzn]; simp
    simp only [Int.ofNat_lt, str_inj, beq_dec, bne_dec, cond_dec, cond_nt, if_true, if_false, decide_true, decide_false, cond_true, cond_false, u8_inj, cells_div, sz_int, sz_u8, sz_list, sz_Symbol, sz_Signature, sz_Equation, sz_Binding, sz_Algebra, sz_Entry, sz_Completion, sz_Theory, sz_Put, sz_Disk, sz_Act, sz_IntResult, sz_IntsResult, sz_BytesResult, sz_TextResult, sz_SignatureResult, sz_TermResult, sz_TermsResult, sz_EquationResult, sz_EquationsResult, sz_KeyResult, sz_BindingResult, sz_RedexResult, sz_NormalResult, sz_AlgebraResult, sz_EntryResult, sz_CompletionResult, sz_TheoryResult, sz_DiskResult, inB_nat, Int.toNat_natCast, get0, get1, get2, get3, get4, get5, get6, get7, get8, Nat.reduceLT, bind_of, List.getElem?_cons_zero, List.getElem?_cons_succ, oInt_int, oBool_bool, oStr_str, oSl_slc, oAgg_agg, oTup_tup, oCons_cons, oNil_nil, sl_cells, c2.eq, hp, show ((1 : Nat) : Int) = 1 from rfl, show ((2 : Nat) : Int) = 2 from rfl, Int.reduceLT, Int.reduceAdd, Int.zero_mul, Int.zero_add, hm, wrap64 (x := ((q * zn : Nat) : Int)) (by omega), wrap64 (x := ((q * zn : Nat) : Int) + (p : Int)) (by omega), wrap64 (x := (2 : Int)) (by omega)]
    refine (impl_Algebra_evalAt.next0 4 1 _).trans ((impl_Algebra_evalAt.round0 _ _ _ _ _ _ _ _ _ _ _ _).trans ?_)
    have hc : ((q * zn : Nat) : Int) + (p : Int) = ((q * zn + p : Nat) : Int) := by omega
    simp only [Int.ofNat_lt, str_inj, beq_dec, bne_dec, cond_dec, cond_nt, if_true, if_false, decide_true, decide_false, cond_true, cond_false, u8_inj, cells_div, sz_int, sz_u8, sz_list, sz_Symbol, sz_Signature, sz_Equation, sz_Binding, sz_Algebra, sz_Entry, sz_Completion, sz_Theory, sz_Put, sz_Disk, sz_Act, sz_IntResult, sz_IntsResult, sz_BytesResult, sz_TextResult, sz_SignatureResult, sz_TermResult, sz_TermsResult, sz_EquationResult, sz_EquationsResult, sz_KeyResult, sz_BindingResult, sz_RedexResult, sz_NormalResult, sz_AlgebraResult, sz_EntryResult, sz_CompletionResult, sz_TheoryResult, sz_DiskResult, inB_nat, Int.toNat_natCast, get0, get1, get2, get3, get4, get5, get6, get7, get8, Nat.reduceLT, bind_of, List.getElem?_cons_zero, List.getElem?_cons_succ, oInt_int, oBool_bool, oStr_str, oSl_slc, oAgg_agg, oTup_tup, oCons_cons, oNil_nil, sl_cells, show ((1 : Nat) : Int) = 1 from rfl, show ((2 : Nat) : Int) = 2 from rfl, Int.reduceLT, Int.reduceAdd, hc, hy', hyt, enc_list, h0, h0l, enc_int]
    simp only [Tm.eval, hq, hp, hm, hc, Int.toNat_natCast, getD_of hy', getD_of h0, Tm.flat, List.length_cons, List.length_append]
    rw [show e + 1 + x.flat.length + w.flat.length = e + (x.flat.length + w.flat.length + 1) by omega]
theorem spec_l10Eval {t : List Int} (hn : ∀ n ∈ t, nodeOk l n = true) (ht : t.length ≤ 4294967296) : ∀ (x : Tm) (r : List Int) (e : Nat), t.drop e = x.flat ++ r → x.ok (ar l) → x.syms l.length → x.low 6 →
    Call F.spec_l10Eval [.rref [slc l] 0, .rref [.int .i64 z, slc tb] 0, slc vs, slc t, .int .i64 e] (.int .i64 (x.eval z tb vs)) := by
  have ends : ∀ (x : Tm) (r : List Int) (e : Nat), t.drop e = x.flat ++ r → x.ok (ar l) → Call F.spec_l3End [.rref [slc l] 0, slc t, .int .i64 e] (.int .i64 (e + x.flat.length : Nat)) := fun x r e he ok => by
    have h3 := (at_head he).2.2
    have := spec_l3End al.sig t hn ht e (by omega)
    rw [he, Tm.skip_flat (fun n hn => ar_neg l hn) x r 0 ok, skip_zero] at this
    have hl : (t.drop e).length = x.flat.length + r.length := by rw [he, List.length_append]
    rw [List.length_drop] at hl
    rwa [show endRes (-1) t (some r) = ((e + x.flat.length : Nat) : Int) by simp only [endRes]; omega] at this
  intro x
  induction x with
  | v n =>
    intro r e he ok hs hl
    obtain ⟨h1, h2, h3⟩ := at_head he
    have ok : n < 0 := ok
    have hl : -6 ≤ n := hl
    refine call_of rfl 4 ((spec_l10Eval.ev _ _ _ _ _ _ _).trans ?_)
    obtain ⟨y, hy⟩ : ∃ y : Nat, -1 - n = y := ⟨(-1 - n).toNat, by omega⟩
    have hyv : y < vs.length := by omega
    have hyl : vs[y]? = some vs[y] := List.getElem?_eq_getElem hyv
    have hw : IntKind.wrap .i64 (-1 - n) = y := by rw [wrap64 (by omega), hy]
    simp only [Int.ofNat_lt, str_inj, beq_dec, bne_dec, cond_dec, cond_nt, if_true, if_false, decide_true, decide_false, cond_true, cond_false, u8_inj, cells_div, sz_int, sz_u8, sz_list, sz_Symbol, sz_Signature, sz_Equation, sz_Binding, sz_Algebra, sz_Entry, sz_Completion, sz_Theory, sz_Put, sz_Disk, sz_Act, sz_IntResult, sz_IntsResult, sz_BytesResult, sz_TextResult, sz_SignatureResult, sz_TermResult, sz_TermsResult, sz_EquationResult, sz_EquationsResult, sz_KeyResult, sz_BindingResult, sz_RedexResult, sz_NormalResult, sz_AlgebraResult, sz_EntryResult, sz_CompletionResult, sz_TheoryResult, sz_DiskResult, inB_nat, Int.toNat_natCast, get0, get1, get2, get3, get4, get5, get6, get7, get8, Nat.reduceLT, bind_of, List.getElem?_cons_zero, List.getElem?_cons_succ, oInt_int, oBool_bool, oStr_str, oSl_slc, oAgg_agg, oTup_tup, oCons_cons, oNil_nil, sl_cells, h1, h2, enc_int, Tm.head, ok, hw, hyv, hyl]
    simp only [Tm.eval, hy, Int.toNat_natCast, getD_of hyv]
  | k n =>
    intro r e he ok hs hl
    obtain ⟨h1, h2, h3⟩ := at_head he
    obtain ⟨y, rfl, hy, hy', r1, r2, r3, r4⟩ := row_at al ok.1 hs
    have hyl : l[y]? = some l[y] := List.getElem?_eq_getElem hy
    have hyt : tb[y]? = some tb[y] := List.getElem?_eq_getElem hy'
    rw [ok.2, Nat.pow_zero] at r1
    have hn : ¬ ((y : Int) < 0) := by omega
    have h0 : (0 : Nat) < tb[y].length := by omega
    have h0l : tb[y][0]? = some tb[y][0] := List.getElem?_eq_getElem h0
    refine call_of rfl 4 ((spec_l10Eval.ev _ _ _ _ _ _ _).trans ?_)
    simp only [Int.ofNat_lt, str_inj, beq_dec, bne_dec, cond_dec, cond_nt, if_true, if_false, decide_true, decide_false, cond_true, cond_false, u8_inj, cells_div, sz_int, sz_u8, sz_list, sz_Symbol, sz_Signature, sz_Equation, sz_Binding, sz_Algebra, sz_Entry, sz_Completion, sz_Theory, sz_Put, sz_Disk, sz_Act, sz_IntResult, sz_IntsResult, sz_BytesResult, sz_TextResult, sz_SignatureResult, sz_TermResult, sz_TermsResult, sz_EquationResult, sz_EquationsResult, sz_KeyResult, sz_BindingResult, sz_RedexResult, sz_NormalResult, sz_AlgebraResult, sz_EntryResult, sz_CompletionResult, sz_TheoryResult, sz_DiskResult, inB_nat, Int.toNat_natCast, get0, get1, get2, get3, get4, get5, get6, get7, get8, Nat.reduceLT, bind_of, List.getElem?_cons_zero, List.getElem?_cons_succ, oInt_int, oBool_bool, oStr_str, oSl_slc, oAgg_agg, oTup_tup, oCons_cons, oNil_nil, sl_cells, h1, h2, enc_int, Tm.head, hn]
    refine (spec_l10Eval.next0 4 3 _).trans ((spec_l10Eval.round0 _ _ _ _ _ _ _ _ _ _ _).trans ?_)
    have hz0 : inB 0 tb[y].length = true := by rw [show (0 : Int) = ((0 : Nat) : Int) from rfl, inB_nat]; simpa using h0
    simp only [Int.ofNat_lt, str_inj, beq_dec, bne_dec, cond_dec, cond_nt, if_true, if_false, decide_true, decide_false, cond_true, cond_false, u8_inj, cells_div, sz_int, sz_u8, sz_list, sz_Symbol, sz_Signature, sz_Equation, sz_Binding, sz_Algebra, sz_Entry, sz_Completion, sz_Theory, sz_Put, sz_Disk, sz_Act, sz_IntResult, sz_IntsResult, sz_BytesResult, sz_TextResult, sz_SignatureResult, sz_TermResult, sz_TermsResult, sz_EquationResult, sz_EquationsResult, sz_KeyResult, sz_BindingResult, sz_RedexResult, sz_NormalResult, sz_AlgebraResult, sz_EntryResult, sz_CompletionResult, sz_TheoryResult, sz_DiskResult, inB_nat, Int.toNat_natCast, get0, get1, get2, get3, get4, get5, get6, get7, get8, Nat.reduceLT, bind_of, List.getElem?_cons_zero, List.getElem?_cons_succ, oInt_int, oBool_bool, oStr_str, oSl_slc, oAgg_agg, oTup_tup, oCons_cons, oNil_nil, sl_cells, h1, h2, enc_int, Tm.head, hy, hyl, enc_Symbol, r4, ok.2, hy', hyt, enc_list, hz0, Int.toNat_zero, h0l, Int.lt_irrefl, Int.ofNat_zero, Int.natCast_zero]
    simp only [Tm.eval, Int.toNat_natCast, getD_of hy', getD_of h0]
  | u n x ihx =>
    intro r e he ok hs hl
    obtain ⟨h1, h2, h3⟩ := at_head he
    obtain ⟨y, rfl, hy, hy', r1, r2, r3, r4⟩ := row_at al ok.1 hs.1
    have hyl : l[y]? = some l[y] := List.getElem?_eq_getElem hy
    have hyt : tb[y]? = some tb[y] := List.getElem?_eq_getElem hy'
    rw [ok.2.1, Nat.pow_one] at r1
    have hn : ¬ ((y : Int) < 0) := by omega
    obtain ⟨i1, i2⟩ := Tm.eval_range al hv hr ok.2.2 hs.2 hl
    obtain ⟨q, hq⟩ : ∃ q : Nat, x.eval z tb vs = q := ⟨(x.eval z tb vs).toNat, by omega⟩
    have hz := al.size
    have h0 : q < tb[y].length := by omega
    have h0l : tb[y][q]? = some tb[y][q] := List.getElem?_eq_getElem h0
    have he1 : t.drop (e + 1) = x.flat ++ r := at_next (q := [(y : Int)]) (by simpa [Tm.flat] using he)
    have c1 := ihx r (e + 1) he1 ok.2.2 hs.2 hl
    have d1 := ends x r (e + 1) he1 ok.2.2
    refine call_of rfl 4 ((spec_l10Eval.ev _ _ _ _ _ _ _).trans ?_)
    simp only [Int.ofNat_lt, str_inj, beq_dec, bne_dec, cond_dec, cond_nt, if_true, if_false, decide_true, decide_false, cond_true, cond_false, u8_inj, cells_div, sz_int, sz_u8, sz_list, sz_Symbol, sz_Signature, sz_Equation, sz_Binding, sz_Algebra, sz_Entry, sz_Completion, sz_Theory, sz_Put, sz_Disk, sz_Act, sz_IntResult, sz_IntsResult, sz_BytesResult, sz_TextResult, sz_SignatureResult, sz_TermResult, sz_TermsResult, sz_EquationResult, sz_EquationsResult, sz_KeyResult, sz_BindingResult, sz_RedexResult, sz_NormalResult, sz_AlgebraResult, sz_EntryResult, sz_CompletionResult, sz_TheoryResult, sz_DiskResult, inB_nat, Int.toNat_natCast, get0, get1, get2, get3, get4, get5, get6, get7, get8, Nat.reduceLT, bind_of, List.getElem?_cons_zero, List.getElem?_cons_succ, oInt_int, oBool_bool, oStr_str, oSl_slc, oAgg_agg, oTup_tup, oCons_cons, oNil_nil, sl_cells, h1, h2, enc_int, Tm.head, hn]
    rw [wrap_succ (by omega)]
    refine (spec_l10Eval.next0 4 3 _).trans ((spec_l10Eval.round0 _ _ _ _ _ _ _ _ _ _ _).trans ?_)
    simp only [Int.ofNat_lt, str_inj, beq_dec, bne_dec, cond_dec, cond_nt, if_true, if_false, decide_true, decide_false, cond_true, cond_false, u8_inj, cells_div, sz_int, sz_u8, sz_list, sz_Symbol, sz_Signature, sz_Equation, sz_Binding, sz_Algebra, sz_Entry, sz_Completion, sz_Theory, sz_Put, sz_Disk, sz_Act, sz_IntResult, sz_IntsResult, sz_BytesResult, sz_TextResult, sz_SignatureResult, sz_TermResult, sz_TermsResult, sz_EquationResult, sz_EquationsResult, sz_KeyResult, sz_BindingResult, sz_RedexResult, sz_NormalResult, sz_AlgebraResult, sz_EntryResult, sz_CompletionResult, sz_TheoryResult, sz_DiskResult, inB_nat, Int.toNat_natCast, get0, get1, get2, get3, get4, get5, get6, get7, get8, Nat.reduceLT, bind_of, List.getElem?_cons_zero, List.getElem?_cons_succ, oInt_int, oBool_bool, oStr_str, oSl_slc, oAgg_agg, oTup_tup, oCons_cons, oNil_nil, sl_cells, h1, h2, enc_int, Tm.head, hy, hyl, enc_Symbol, r4, ok.2.1, c1.eq, d1.eq, hq, show ((1 : Nat) : Int) = 1 from rfl, show ((2 : Nat) : Int) = 2 from rfl, Int.reduceLT, Int.reduceAdd, wrap64 (x := 0 * z) (by omega), wrap64 (x := 0 * z + (q : Int)) (by omega), wrap64 (x := (1 : Int)) (by omega)]
    refine (spec_l10Eval.next0 4 2 _).trans ((spec_l10Eval.round0 _ _ _ _ _ _ _ _ _ _ _).trans ?_)
    simp only [Int.ofNat_lt, str_inj, beq_dec, bne_dec, cond_dec, cond_nt, if_true, if_false, decide_true, decide_false, cond_true, cond_false, u8_inj, cells_div, sz_int, sz_u8, sz_list, sz_Symbol, sz_Signature, sz_Equation, sz_Binding, sz_Algebra, sz_Entry, sz_Completion, sz_Theory, sz_Put, sz_Disk, sz_Act, sz_IntResult, sz_IntsResult, sz_BytesResult, sz_TextResult, sz_SignatureResult, sz_TermResult, sz_TermsResult, sz_EquationResult, sz_EquationsResult, sz_KeyResult, sz_BindingResult, sz_RedexResult, sz_NormalResult, sz_AlgebraResult, sz_EntryResult, sz_CompletionResult, sz_TheoryResult, sz_DiskResult, inB_nat, Int.toNat_natCast, get0, get1, get2, get3, get4, get5, get6, get7, get8, Nat.reduceLT, bind_of, List.getElem?_cons_zero, List.getElem?_cons_succ, oInt_int, oBool_bool, oStr_str, oSl_slc, oAgg_agg, oTup_tup, oCons_cons, oNil_nil, sl_cells, h1, h2, enc_int, Tm.head, hy, hyl, enc_Symbol, r4, ok.2.1, show ((1 : Nat) : Int) = 1 from rfl, show ((2 : Nat) : Int) = 2 from rfl, Int.reduceLT, Int.reduceAdd, Int.zero_mul, Int.zero_add, hy', hyt, enc_list, h0, h0l]
    simp only [Tm.eval, hq, Int.toNat_natCast, getD_of hy', getD_of h0]
  | b n x w ihx ihw =>
    intro r e he ok hs hl
    obtain ⟨h1, h2, h3⟩ := at_head he
    obtain ⟨y, rfl, hy, hy', r1, r2, r3, r4⟩ := row_at al ok.1 hs.1
    have hyl : l[y]? = some l[y] := List.getElem?_eq_getElem hy
    have hyt : tb[y]? = some tb[y] := List.getElem?_eq_getElem hy'
    rw [ok.2.1] at r1
    have hn : ¬ ((y : Int) < 0) := by omega
    obtain ⟨i1, i2⟩ := Tm.eval_range al hv hr ok.2.2.1 hs.2.1 hl.1
    obtain ⟨j1, j2⟩ := Tm.eval_range al hv hr ok.2.2.2 hs.2.2 hl.2
    obtain ⟨q, hq⟩ : ∃ q : Nat, x.eval z tb vs = q := ⟨(x.eval z tb vs).toNat, by omega⟩
    obtain ⟨p, hp⟩ : ∃ p : Nat, w.eval z tb vs = p := ⟨(w.eval z tb vs).toNat, by omega⟩
    obtain ⟨zn, hzn⟩ : ∃ zn : Nat, z = zn := ⟨z.toNat, by have := al.size; omega⟩
    have hz := al.size
    have h0 : q * zn + p < tb[y].length := by
      rw [r1]
      have : zn = 1 ∨ zn = 2 ∨ zn = 3 := by omega
      rcases this with h | h | h <;> subst h <;> subst hzn <;> simp <;> omega
    have hb : q * zn ≤ 6 := by
      have h4 : q ≤ 2 := by omega
      have h5 : zn ≤ 3 := by omega
      exact Nat.mul_le_mul h4 h5
    have h0l : tb[y][q * zn + p]? = some tb[y][q * zn + p] := List.getElem?_eq_getElem h0
    have he1 : t.drop (e + 1) = x.flat ++ (w.flat ++ r) := at_next (q := [(y : Int)]) (by simpa [Tm.flat] using he)
    have he2 : t.drop (e + 1 + x.flat.length) = w.flat ++ r := at_next he1
    have c1 := ihx _ (e + 1) he1 ok.2.2.1 hs.2.1 hl.1
    have d1 := ends x _ (e + 1) he1 ok.2.2.1
    have c2 := ihw _ _ he2 ok.2.2.2 hs.2.2 hl.2
    have d2 := ends w _ _ he2 ok.2.2.2
    refine call_of rfl 4 ((spec_l10Eval.ev _ _ _ _ _ _ _).trans ?_)
    simp only [Int.ofNat_lt, str_inj, beq_dec, bne_dec, cond_dec, cond_nt, if_true, if_false, decide_true, decide_false, cond_true, cond_false, u8_inj, cells_div, sz_int, sz_u8, sz_list, sz_Symbol, sz_Signature, sz_Equation, sz_Binding, sz_Algebra, sz_Entry, sz_Completion, sz_Theory, sz_Put, sz_Disk, sz_Act, sz_IntResult, sz_IntsResult, sz_BytesResult, sz_TextResult, sz_SignatureResult, sz_TermResult, sz_TermsResult, sz_EquationResult, sz_EquationsResult, sz_KeyResult, sz_BindingResult, sz_RedexResult, sz_NormalResult, sz_AlgebraResult, sz_EntryResult, sz_CompletionResult, sz_TheoryResult, sz_DiskResult, inB_nat, Int.toNat_natCast, get0, get1, get2, get3, get4, get5, get6, get7, get8, Nat.reduceLT, bind_of, List.getElem?_cons_zero, List.getElem?_cons_succ, oInt_int, oBool_bool, oStr_str, oSl_slc, oAgg_agg, oTup_tup, oCons_cons, oNil_nil, sl_cells, h1, h2, enc_int, Tm.head, hn]
    rw [wrap_succ (by omega)]
    refine (spec_l10Eval.next0 4 3 _).trans ((spec_l10Eval.round0 _ _ _ _ _ _ _ _ _ _ _).trans ?_)
    simp only [Int.ofNat_lt, str_inj, beq_dec, bne_dec, cond_dec, cond_nt, if_true, if_false, decide_true, decide_false, cond_true, cond_false, u8_inj, cells_div, sz_int, sz_u8, sz_list, sz_Symbol, sz_Signature, sz_Equation, sz_Binding, sz_Algebra, sz_Entry, sz_Completion, sz_Theory, sz_Put, sz_Disk, sz_Act, sz_IntResult, sz_IntsResult, sz_BytesResult, sz_TextResult, sz_SignatureResult, sz_TermResult, sz_TermsResult, sz_EquationResult, sz_EquationsResult, sz_KeyResult, sz_BindingResult, sz_RedexResult, sz_NormalResult, sz_AlgebraResult, sz_EntryResult, sz_CompletionResult, sz_TheoryResult, sz_DiskResult, inB_nat, Int.toNat_natCast, get0, get1, get2, get3, get4, get5, get6, get7, get8, Nat.reduceLT, bind_of, List.getElem?_cons_zero, List.getElem?_cons_succ, oInt_int, oBool_bool, oStr_str, oSl_slc, oAgg_agg, oTup_tup, oCons_cons, oNil_nil, sl_cells, h1, h2, enc_int, Tm.head, hy, hyl, enc_Symbol, r4, ok.2.1, c1.eq, d1.eq, hq, show ((1 : Nat) : Int) = 1 from rfl, show ((2 : Nat) : Int) = 2 from rfl, Int.reduceLT, Int.reduceAdd, wrap64 (x := 0 * z) (by omega), wrap64 (x := 0 * z + (q : Int)) (by omega), wrap64 (x := (1 : Int)) (by omega)]
    refine (spec_l10Eval.next0 4 2 _).trans ((spec_l10Eval.round0 _ _ _ _ _ _ _ _ _ _ _).trans ?_)
    have hm : ((q : Int) * z) = ((q * zn : Nat) : Int) := by rw [hzn]; simp
    simp only [Int.ofNat_lt, str_inj, beq_dec, bne_dec, cond_dec, cond_nt, if_true, if_false, decide_true, decide_false, cond_true, cond_false, u8_inj, cells_div, sz_int, sz_u8, sz_list, sz_Symbol, sz_Signature, sz_Equation, sz_Binding, sz_Algebra, sz_Entry, sz_Completion, sz_Theory, sz_Put, sz_Disk, sz_Act, sz_IntResult, sz_IntsResult, sz_BytesResult, sz_TextResult, sz_SignatureResult, sz_TermResult, sz_TermsResult, sz_EquationResult, sz_EquationsResult, sz_KeyResult, sz_BindingResult, sz_RedexResult, sz_NormalResult, sz_AlgebraResult, sz_EntryResult, sz_CompletionResult, sz_TheoryResult, sz_DiskResult, inB_nat, Int.toNat_natCast, get0, get1, get2, get3, get4, get5, get6, get7, get8, Nat.reduceLT, bind_of, List.getElem?_cons_zero, List.getElem?_cons_succ, oInt_int, oBool_bool, oStr_str, oSl_slc, oAgg_agg, oTup_tup, oCons_cons, oNil_nil, sl_cells, h1, h2, enc_int, Tm.head, hy, hyl, enc_Symbol, r4, ok.2.1, c2.eq, d2.eq, hp, show ((1 : Nat) : Int) = 1 from rfl, show ((2 : Nat) : Int) = 2 from rfl, Int.reduceLT, Int.reduceAdd, Int.zero_mul, Int.zero_add, hm, wrap64 (x := ((q * zn : Nat) : Int)) (by omega), wrap64 (x := ((q * zn : Nat) : Int) + (p : Int)) (by omega), wrap64 (x := (2 : Int)) (by omega)]
    refine (spec_l10Eval.next0 4 1 _).trans ((spec_l10Eval.round0 _ _ _ _ _ _ _ _ _ _ _).trans ?_)
    have hc : ((q * zn : Nat) : Int) + (p : Int) = ((q * zn + p : Nat) : Int) := by omega
    simp only [Int.ofNat_lt, str_inj, beq_dec, bne_dec, cond_dec, cond_nt, if_true, if_false, decide_true, decide_false, cond_true, cond_false, u8_inj, cells_div, sz_int, sz_u8, sz_list, sz_Symbol, sz_Signature, sz_Equation, sz_Binding, sz_Algebra, sz_Entry, sz_Completion, sz_Theory, sz_Put, sz_Disk, sz_Act, sz_IntResult, sz_IntsResult, sz_BytesResult, sz_TextResult, sz_SignatureResult, sz_TermResult, sz_TermsResult, sz_EquationResult, sz_EquationsResult, sz_KeyResult, sz_BindingResult, sz_RedexResult, sz_NormalResult, sz_AlgebraResult, sz_EntryResult, sz_CompletionResult, sz_TheoryResult, sz_DiskResult, inB_nat, Int.toNat_natCast, get0, get1, get2, get3, get4, get5, get6, get7, get8, Nat.reduceLT, bind_of, List.getElem?_cons_zero, List.getElem?_cons_succ, oInt_int, oBool_bool, oStr_str, oSl_slc, oAgg_agg, oTup_tup, oCons_cons, oNil_nil, sl_cells, h1, h2, enc_int, Tm.head, hy, hyl, enc_Symbol, r4, ok.2.1, show ((1 : Nat) : Int) = 1 from rfl, show ((2 : Nat) : Int) = 2 from rfl, Int.reduceLT, Int.reduceAdd, hc, hy', hyt, enc_list, h0, h0l]
    simp only [Tm.eval, hq, hp, hm, hc, Int.toNat_natCast, getD_of hy', getD_of h0]
end
end Ev.Ty
