/- An equation in an algebra, for all values of its variables. -/
import Derived.Test.YtmcfccgmhinpdaaGreatDoorTyRules
namespace Ev.Ty
open Go Ev
open Enc (enc)
open Sm (sm)
set_option linter.unusedSimpArgs false
set_option linter.unusedVariables false

/-- The k lowest digits of n, the lowest first. -/
def digs (z : Nat) : Nat → Nat → List Int
  | 0, _ => []
  | k + 1, n => ((n % z : Nat) : Int) :: digs z k (n / z)
def odo (z : Nat) : List Int → List Int
  | [] => []
  | x :: r => if x + 1 < z then (x + 1) :: r else 0 :: odo z r
theorem digs_length (z : Nat) : ∀ k n, (digs z k n).length = k
  | 0, _ => rfl
  | k + 1, n => by rw [digs, List.length_cons, digs_length z k]
theorem digs_range {z : Nat} (hz : 0 < z) : ∀ k n, ∀ x ∈ digs z k n, 0 ≤ x ∧ x ≤ (z : Int) - 1
  | 0, _ => by simp [digs]
  | k + 1, n => by
    intro x hx
    rw [digs, List.mem_cons] at hx
    rcases hx with rfl | hx
    · have := Nat.mod_lt n hz; omega
    · exact digs_range hz k _ x hx
theorem odo_digs {z : Nat} (hz : 0 < z) : ∀ k n, odo z (digs z k n) = digs z k (n + 1)
  | 0, _ => rfl
  | k + 1, n => by
    rw [digs, odo, digs]
    have hm := Nat.mod_lt n hz
    have hd := Nat.div_add_mod n z
    by_cases h : n % z + 1 < z
    · have e1 : (n + 1) % z = n % z + 1 := by
        rw [Nat.add_mod, Nat.mod_eq_of_lt (show 1 < z by omega), Nat.mod_eq_of_lt h]
      have e2 : (n + 1) / z = n / z := by
        rw [Nat.div_eq_iff hz]
        constructor <;> (have := Nat.mul_comm z (n / z); omega)
      rw [if_pos (by omega), e1, e2]; rfl
    · have e0 : n + 1 = (n / z + 1) * z := by
        rw [Nat.add_mul, Nat.one_mul, Nat.mul_comm (n / z) z]; omega
      have e1 : (n + 1) % z = 0 := by rw [e0, Nat.mul_mod_left]
      have e2 : (n + 1) / z = n / z + 1 := by rw [e0, Nat.mul_div_cancel _ hz]
      rw [if_neg (by omega), e1, e2, odo_digs hz k]; rfl
theorem digs_zero (z : Nat) : ∀ k, digs z k 0 = List.replicate k 0
  | 0 => rfl
  | k + 1 => by rw [digs, Nat.zero_mod, Nat.zero_div, digs_zero z k, List.replicate_succ]; rfl

noncomputable def differ (l : List Symbol) (z : Nat) (tb : List (List Int)) (e : Equation) (n : Nat) : Bool :=
  decide ((treeOf l e.left).eval z tb (digs z 6 n) ≠ (treeOf l e.right).eval z tb (digs z 6 n))
noncomputable def holdsB (l : List Symbol) (z : Nat) (tb : List (List Int)) (e : Equation) : Bool := !(List.range (z ^ 6)).any (differ l z tb e)
section
variable {l : List Symbol} {z : Nat} {tb : List (List Int)} (al : AlgOk l z tb)
include al
theorem impl_Algebra_eval_ok {vs t : List Int} (hv : vs.length = 6) (hr : ∀ n ∈ vs, 0 ≤ n ∧ n ≤ (z : Int) - 1) (to : TermOk l t) (hlow : ∀ n ∈ t, -6 ≤ n) :
    Call F.impl_Algebra_eval [.agg [.int .i64 z, slc tb], .agg [slc l], slc vs, slc t] (.int .i64 ((treeOf l t).eval z tb vs)) := by
  obtain ⟨o1, o2⟩ := treeOf_spec al.sig to
  have hle := to.le
  have hl6 : (treeOf l t).low 6 := Tm.low_of fun n hn => by rw [← o2] at hn; exact hlow n hn
  have hsy : (treeOf l t).syms l.length := Tm.syms_of o1 fun n hn => to.node n (by rw [o2]; exact hn)
  have he := impl_Algebra_evalAt al hv hr (by omega : t.length ≤ 4294967296) (treeOf l t) [] 0 (by rw [List.drop_zero, List.append_nil]; exact o2) o1 hsy hl6
  refine call_of rfl 0 ((impl_Algebra_eval.ev _ _ _ _ _ _).trans ?_)
  simp only [Int.ofNat_lt, str_inj, beq_dec, bne_dec, cond_dec, cond_nt, if_true, if_false, decide_true, decide_false, cond_true, cond_false, u8_inj, cells_div, sz_int, sz_u8, sz_list, sz_Symbol, sz_Signature, sz_Equation, sz_Binding, sz_Algebra, sz_Entry, sz_Completion, sz_Theory, sz_Put, sz_Disk, sz_Act, sz_IntResult, sz_IntsResult, sz_BytesResult, sz_TextResult, sz_SignatureResult, sz_TermResult, sz_TermsResult, sz_EquationResult, sz_EquationsResult, sz_KeyResult, sz_BindingResult, sz_RedexResult, sz_NormalResult, sz_AlgebraResult, sz_EntryResult, sz_CompletionResult, sz_TheoryResult, sz_DiskResult, inB_nat, Int.toNat_natCast, get0, get1, get2, get3, get4, get5, get6, get7, get8, Nat.reduceLT, bind_of, List.getElem?_cons_zero, List.getElem?_cons_succ, oInt_int, oBool_bool, oStr_str, oSl_slc, oAgg_agg, oTup_tup, oCons_cons, oNil_nil, sl_cells, show LIM F.impl_Algebra_evalAt [.agg [.int .i64 z, slc tb], .agg [slc l], slc vs, slc t, .int .i64 0] = _ from he]
theorem spec_l10Eval_ok {vs t : List Int} (hv : vs.length = 6) (hr : ∀ n ∈ vs, 0 ≤ n ∧ n ≤ (z : Int) - 1) (to : TermOk l t) (hlow : ∀ n ∈ t, -6 ≤ n) :
    Call F.spec_l10Eval [.rref [slc l] 0, .rref [.int .i64 z, slc tb] 0, slc vs, slc t, .int .i64 0] (.int .i64 ((treeOf l t).eval z tb vs)) := by
  obtain ⟨o1, o2⟩ := treeOf_spec al.sig to
  have hle := to.le
  have hl6 : (treeOf l t).low 6 := Tm.low_of fun n hn => by rw [← o2] at hn; exact hlow n hn
  have hsy : (treeOf l t).syms l.length := Tm.syms_of o1 fun n hn => to.node n (by rw [o2]; exact hn)
  exact spec_l10Eval al hv hr to.node (by omega) (treeOf l t) [] 0 (by rw [List.drop_zero, List.append_nil]; exact o2) o1 hsy hl6
theorem pow6 : z ^ 6 ≤ 729 ∧ 0 < z ∧ z ≤ 3 := by
  have := al.size
  have h1 : 1 ≤ z := by omega
  have h3 : z ≤ 3 := by omega
  refine ⟨?_, by omega, h3⟩
  have : z = 1 ∨ z = 2 ∨ z = 3 := by omega
  rcases this with rfl | rfl | rfl <;> decide
theorem impl_Algebra_holds {e : Equation} (ho : EqOk l e) : Call F.impl_Algebra_holds [.agg [.int .i64 z, slc tb], .agg [slc l], .agg [slc e.left, slc e.right]] (.bool (holdsB l z tb e)) := by
  obtain ⟨h729, hz0, hz3⟩ := pow6 al
  have hp := impl_power z 6 hz3 (by omega)
  refine call_of rfl 1000 ((impl_Algebra_holds.ev _ _ _ _ _ _).trans ?_)
  have inner : ∀ (L0 : St → R) (k : Nat), k < 729 → ∀ m j (v : List Int), v.length = 6 → (∀ x ∈ v, 0 ≤ x ∧ x ≤ (z : Int) - 1) → j ≤ 6 → 6 < m + j →
      impl_Algebra_holds.at2 1000 L0 m (impl_Algebra_holds.st2 (z ^ 6 : Nat) (k : Nat) ((6 : Nat) : Int) (j : Nat) z (cells tb) (cells l) (cells e.left) (cells e.right) (cells v)) =
        L0 (impl_Algebra_holds.st0 (z ^ 6 : Nat) ((k + 1 : Nat) : Int) z (cells tb) (cells l) (cells e.left) (cells e.right) (cells (v.take j ++ odo z (v.drop j)))) := by
    intro L0 k hk m
    induction m with
    | zero => intros; omega
    | succ m ih =>
      intro j v hv hr hj hm
      by_cases h : j < 6
      · have hjv : j < v.length := by omega
        have hlk : v[j]? = some v[j] := List.getElem?_eq_getElem hjv
        obtain ⟨b1, b2⟩ := hr v[j] (List.getElem_mem hjv)
        have hls : ∀ x : Int, (v.set j x)[j]? = some x := fun x => by rw [List.getElem?_set_self hjv]
        have hdc : decide (j * 1 + 1 ≤ (cells v).length) = true := by rw [cells_length, sz_int]; exact decide_eq_true (by omega)
        have hdc' : ∀ x : Int, decide (j * 1 + 1 ≤ (cells (v.set j x)).length) = true := fun x => by rw [cells_length, sz_int, List.length_set]; exact decide_eq_true (by omega)
        simp only [impl_Algebra_holds.next2, impl_Algebra_holds.round2, Int.ofNat_lt, str_inj, beq_dec, bne_dec, cond_dec, cond_nt, if_true, if_false, decide_true, decide_false, cond_true, cond_false, u8_inj, cells_div, sz_int, sz_u8, sz_list, sz_Symbol, sz_Signature, sz_Equation, sz_Binding, sz_Algebra, sz_Entry, sz_Completion, sz_Theory, sz_Put, sz_Disk, sz_Act, sz_IntResult, sz_IntsResult, sz_BytesResult, sz_TextResult, sz_SignatureResult, sz_TermResult, sz_TermsResult, sz_EquationResult, sz_EquationsResult, sz_KeyResult, sz_BindingResult, sz_RedexResult, sz_NormalResult, sz_AlgebraResult, sz_EntryResult, sz_CompletionResult, sz_TheoryResult, sz_DiskResult, inB_nat, Int.toNat_natCast, get0, get1, get2, get3, get4, get5, get6, get7, get8, Nat.reduceLT, bind_of, List.getElem?_cons_zero, List.getElem?_cons_succ, oInt_int, oBool_bool, oStr_str, oSl_slc, oAgg_agg, oTup_tup, oCons_cons, oNil_nil, sl_cells, h, hjv, hlk, enc_int, hdc]
        rw [wrap_succ (by omega), wrap_succ (by omega), wrap64 (show -9223372036854775808 ≤ v[j] + 1 ∧ v[j] + 1 < 9223372036854775808 by omega)]
        simp only [set_Int hjv, Int.ofNat_lt, str_inj, beq_dec, bne_dec, cond_dec, cond_nt, if_true, if_false, decide_true, decide_false, cond_true, cond_false, u8_inj, cells_div, sz_int, sz_u8, sz_list, sz_Symbol, sz_Signature, sz_Equation, sz_Binding, sz_Algebra, sz_Entry, sz_Completion, sz_Theory, sz_Put, sz_Disk, sz_Act, sz_IntResult, sz_IntsResult, sz_BytesResult, sz_TextResult, sz_SignatureResult, sz_TermResult, sz_TermsResult, sz_EquationResult, sz_EquationsResult, sz_KeyResult, sz_BindingResult, sz_RedexResult, sz_NormalResult, sz_AlgebraResult, sz_EntryResult, sz_CompletionResult, sz_TheoryResult, sz_DiskResult, inB_nat, Int.toNat_natCast, get0, get1, get2, get3, get4, get5, get6, get7, get8, Nat.reduceLT, bind_of, List.getElem?_cons_zero, List.getElem?_cons_succ, oInt_int, oBool_bool, oStr_str, oSl_slc, oAgg_agg, oTup_tup, oCons_cons, oNil_nil, sl_cells, List.length_set, hjv, hls, enc_int, hdc']
        rw [List.drop_eq_getElem_cons hjv, odo]
        by_cases hx : v[j] + 1 < (z : Int)
        · simp only [hx, Int.ofNat_lt, str_inj, beq_dec, bne_dec, cond_dec, cond_nt, if_true, if_false, decide_true, decide_false, cond_true, cond_false, u8_inj, cells_div, sz_int, sz_u8, sz_list, sz_Symbol, sz_Signature, sz_Equation, sz_Binding, sz_Algebra, sz_Entry, sz_Completion, sz_Theory, sz_Put, sz_Disk, sz_Act, sz_IntResult, sz_IntsResult, sz_BytesResult, sz_TextResult, sz_SignatureResult, sz_TermResult, sz_TermsResult, sz_EquationResult, sz_EquationsResult, sz_KeyResult, sz_BindingResult, sz_RedexResult, sz_NormalResult, sz_AlgebraResult, sz_EntryResult, sz_CompletionResult, sz_TheoryResult, sz_DiskResult, inB_nat, Int.toNat_natCast, get0, get1, get2, get3, get4, get5, get6, get7, get8, Nat.reduceLT, bind_of, List.getElem?_cons_zero, List.getElem?_cons_succ, oInt_int, oBool_bool, oStr_str, oSl_slc, oAgg_agg, oTup_tup, oCons_cons, oNil_nil, sl_cells]
          rw [List.set_eq_take_append_cons_drop, if_pos hjv]
        · simp only [hx, Int.ofNat_lt, str_inj, beq_dec, bne_dec, cond_dec, cond_nt, if_true, if_false, decide_true, decide_false, cond_true, cond_false, u8_inj, cells_div, sz_int, sz_u8, sz_list, sz_Symbol, sz_Signature, sz_Equation, sz_Binding, sz_Algebra, sz_Entry, sz_Completion, sz_Theory, sz_Put, sz_Disk, sz_Act, sz_IntResult, sz_IntsResult, sz_BytesResult, sz_TextResult, sz_SignatureResult, sz_TermResult, sz_TermsResult, sz_EquationResult, sz_EquationsResult, sz_KeyResult, sz_BindingResult, sz_RedexResult, sz_NormalResult, sz_AlgebraResult, sz_EntryResult, sz_CompletionResult, sz_TheoryResult, sz_DiskResult, inB_nat, Int.toNat_natCast, get0, get1, get2, get3, get4, get5, get6, get7, get8, Nat.reduceLT, bind_of, List.getElem?_cons_zero, List.getElem?_cons_succ, oInt_int, oBool_bool, oStr_str, oSl_slc, oAgg_agg, oTup_tup, oCons_cons, oNil_nil, sl_cells]
          rw [set_Int (by rw [List.length_set]; exact hjv), List.set_set, ih (j + 1) (v.set j 0) (by rw [List.length_set]; exact hv) (fun x hx' => by
            rcases List.mem_or_eq_of_mem_set hx' with h' | rfl
            · exact hr x h'
            · omega) (by omega) (by omega)]
          rw [List.drop_set_of_lt (by omega), List.take_succ_eq_append_getElem (by rw [List.length_set]; exact hjv), List.getElem_set_self, List.take_set_of_le (Nat.le_refl _), List.append_assoc, List.singleton_append, if_pos (by rw [cells_length, sz_int, List.length_set]; omega)]
      · obtain rfl : j = 6 := by omega
        simp only [impl_Algebra_holds.next2, impl_Algebra_holds.round2, Int.ofNat_lt, str_inj, beq_dec, bne_dec, cond_dec, cond_nt, if_true, if_false, decide_true, decide_false, cond_true, cond_false, u8_inj, cells_div, sz_int, sz_u8, sz_list, sz_Symbol, sz_Signature, sz_Equation, sz_Binding, sz_Algebra, sz_Entry, sz_Completion, sz_Theory, sz_Put, sz_Disk, sz_Act, sz_IntResult, sz_IntsResult, sz_BytesResult, sz_TextResult, sz_SignatureResult, sz_TermResult, sz_TermsResult, sz_EquationResult, sz_EquationsResult, sz_KeyResult, sz_BindingResult, sz_RedexResult, sz_NormalResult, sz_AlgebraResult, sz_EntryResult, sz_CompletionResult, sz_TheoryResult, sz_DiskResult, inB_nat, Int.toNat_natCast, get0, get1, get2, get3, get4, get5, get6, get7, get8, Nat.reduceLT, bind_of, List.getElem?_cons_zero, List.getElem?_cons_succ, oInt_int, oBool_bool, oStr_str, oSl_slc, oAgg_agg, oTup_tup, oCons_cons, oNil_nil, sl_cells, Nat.lt_irrefl]
        rw [wrap_succ (by omega), List.drop_of_length_le (by omega), odo, List.append_nil, List.take_of_length_le (by omega)]
  have outer := any_loop (n := z ^ 6) (bad := differ l z tb e) (r := some (.bool false, [])) (z := some (.bool true, []))
    (S := fun m k => impl_Algebra_holds.at0 1000 m (impl_Algebra_holds.st0 (z ^ 6 : Nat) (k : Nat) z (cells tb) (cells l) (cells e.left) (cells e.right) (cells (digs z 6 k)))) (f := 1000)
    (fun m k hk => by
      have hdl := digs_length z 6 k
      have hdr := digs_range hz0 6 k
      simp only [impl_Algebra_holds.next0, impl_Algebra_holds.round0, Int.ofNat_lt, str_inj, beq_dec, bne_dec, cond_dec, cond_nt, if_true, if_false, decide_true, decide_false, cond_true, cond_false, u8_inj, cells_div, sz_int, sz_u8, sz_list, sz_Symbol, sz_Signature, sz_Equation, sz_Binding, sz_Algebra, sz_Entry, sz_Completion, sz_Theory, sz_Put, sz_Disk, sz_Act, sz_IntResult, sz_IntsResult, sz_BytesResult, sz_TextResult, sz_SignatureResult, sz_TermResult, sz_TermsResult, sz_EquationResult, sz_EquationsResult, sz_KeyResult, sz_BindingResult, sz_RedexResult, sz_NormalResult, sz_AlgebraResult, sz_EntryResult, sz_CompletionResult, sz_TheoryResult, sz_DiskResult, inB_nat, Int.toNat_natCast, get0, get1, get2, get3, get4, get5, get6, get7, get8, Nat.reduceLT, bind_of, List.getElem?_cons_zero, List.getElem?_cons_succ, oInt_int, oBool_bool, oStr_str, oSl_slc, oAgg_agg, oTup_tup, oCons_cons, oNil_nil, sl_cells, hk, (impl_Algebra_eval_ok al hdl hdr ho.left ho.lowL).eq, (impl_Algebra_eval_ok al hdl hdr ho.right ho.lowR).eq, differ, hdl]
      have hin := inner (impl_Algebra_holds.at0 1000 m) k (by omega) 1000 0 (digs z 6 k) hdl hdr (by omega) (by omega)
      rw [List.take_zero, List.nil_append, List.drop_zero, odo_digs hz0] at hin
      by_cases hne : (treeOf l e.left).eval z tb (digs z 6 k) = (treeOf l e.right).eval z tb (digs z 6 k)
      · simp only [hne, Int.ofNat_lt, str_inj, beq_dec, bne_dec, cond_dec, cond_nt, if_true, if_false, decide_true, decide_false, cond_true, cond_false, u8_inj, cells_div, sz_int, sz_u8, sz_list, sz_Symbol, sz_Signature, sz_Equation, sz_Binding, sz_Algebra, sz_Entry, sz_Completion, sz_Theory, sz_Put, sz_Disk, sz_Act, sz_IntResult, sz_IntsResult, sz_BytesResult, sz_TextResult, sz_SignatureResult, sz_TermResult, sz_TermsResult, sz_EquationResult, sz_EquationsResult, sz_KeyResult, sz_BindingResult, sz_RedexResult, sz_NormalResult, sz_AlgebraResult, sz_EntryResult, sz_CompletionResult, sz_TheoryResult, sz_DiskResult, inB_nat, Int.toNat_natCast, get0, get1, get2, get3, get4, get5, get6, get7, get8, Nat.reduceLT, bind_of, List.getElem?_cons_zero, List.getElem?_cons_succ, oInt_int, oBool_bool, oStr_str, oSl_slc, oAgg_agg, oTup_tup, oCons_cons, oNil_nil, sl_cells, ne_eq, not_true_eq_false, Bool.false_eq_true]
        exact hin
      · simp only [hne, Int.ofNat_lt, str_inj, beq_dec, bne_dec, cond_dec, cond_nt, if_true, if_false, decide_true, decide_false, cond_true, cond_false, u8_inj, cells_div, sz_int, sz_u8, sz_list, sz_Symbol, sz_Signature, sz_Equation, sz_Binding, sz_Algebra, sz_Entry, sz_Completion, sz_Theory, sz_Put, sz_Disk, sz_Act, sz_IntResult, sz_IntsResult, sz_BytesResult, sz_TextResult, sz_SignatureResult, sz_TermResult, sz_TermsResult, sz_EquationResult, sz_EquationsResult, sz_KeyResult, sz_BindingResult, sz_RedexResult, sz_NormalResult, sz_AlgebraResult, sz_EntryResult, sz_CompletionResult, sz_TheoryResult, sz_DiskResult, inB_nat, Int.toNat_natCast, get0, get1, get2, get3, get4, get5, get6, get7, get8, Nat.reduceLT, bind_of, List.getElem?_cons_zero, List.getElem?_cons_succ, oInt_int, oBool_bool, oStr_str, oSl_slc, oAgg_agg, oTup_tup, oCons_cons, oNil_nil, sl_cells, ne_eq, not_false_eq_true])
    (fun m => by simp only [impl_Algebra_holds.next0, impl_Algebra_holds.round0, Int.ofNat_lt, str_inj, beq_dec, bne_dec, cond_dec, cond_nt, if_true, if_false, decide_true, decide_false, cond_true, cond_false, u8_inj, cells_div, sz_int, sz_u8, sz_list, sz_Symbol, sz_Signature, sz_Equation, sz_Binding, sz_Algebra, sz_Entry, sz_Completion, sz_Theory, sz_Put, sz_Disk, sz_Act, sz_IntResult, sz_IntsResult, sz_BytesResult, sz_TextResult, sz_SignatureResult, sz_TermResult, sz_TermsResult, sz_EquationResult, sz_EquationsResult, sz_KeyResult, sz_BindingResult, sz_RedexResult, sz_NormalResult, sz_AlgebraResult, sz_EntryResult, sz_CompletionResult, sz_TheoryResult, sz_DiskResult, inB_nat, Int.toNat_natCast, get0, get1, get2, get3, get4, get5, get6, get7, get8, Nat.reduceLT, bind_of, List.getElem?_cons_zero, List.getElem?_cons_succ, oInt_int, oBool_bool, oStr_str, oSl_slc, oAgg_agg, oTup_tup, oCons_cons, oNil_nil, sl_cells, Nat.lt_irrefl]) (by omega)
  simp only [Int.ofNat_lt, str_inj, beq_dec, bne_dec, cond_dec, cond_nt, if_true, if_false, decide_true, decide_false, cond_true, cond_false, u8_inj, cells_div, sz_int, sz_u8, sz_list, sz_Symbol, sz_Signature, sz_Equation, sz_Binding, sz_Algebra, sz_Entry, sz_Completion, sz_Theory, sz_Put, sz_Disk, sz_Act, sz_IntResult, sz_IntsResult, sz_BytesResult, sz_TextResult, sz_SignatureResult, sz_TermResult, sz_TermsResult, sz_EquationResult, sz_EquationsResult, sz_KeyResult, sz_BindingResult, sz_RedexResult, sz_NormalResult, sz_AlgebraResult, sz_EntryResult, sz_CompletionResult, sz_TheoryResult, sz_DiskResult, inB_nat, Int.toNat_natCast, get0, get1, get2, get3, get4, get5, get6, get7, get8, Nat.reduceLT, bind_of, List.getElem?_cons_zero, List.getElem?_cons_succ, oInt_int, oBool_bool, oStr_str, oSl_slc, oAgg_agg, oTup_tup, oCons_cons, oNil_nil, sl_cells, show LIM F.impl_power [.int .i64 z, .int .i64 6] = _ from hp]
  rw [digs_zero] at outer
  refine Eq.trans outer ?_
  unfold holdsB
  cases (List.range (z ^ 6)).any (differ l z tb e) <;> rfl
theorem spec_l10Holds {e : Equation} (ho : EqOk l e) : Call F.spec_l10Holds [.rref [slc l] 0, .rref [.int .i64 z, slc tb] 0, .rref [slc e.left, slc e.right] 0] (.bool (holdsB l z tb e)) := by
  obtain ⟨h729, hz0, hz3⟩ := pow6 al
  have hp := spec_l10Pow z 6 hz3 (by omega)
  refine call_of rfl 1000 ((spec_l10Holds.ev _ _ _ _ _ _).trans ?_)
  have inner : ∀ (L0 : St → R) (k : Nat), k < 729 → ∀ m j x (acc : List Int), acc.length = j → j ≤ 6 → 6 < m + j → acc ++ digs z (6 - j) x = digs z 6 k → x ≤ 729 →
      spec_l10Holds.at2 1000 L0 m (spec_l10Holds.st2 (cells l) z (cells tb) (cells e.left) (cells e.right) (k : Nat) (x : Nat) (j : Nat) (cells acc)) =
        if differ l z tb e k = true then some (.bool false, []) else L0 (spec_l10Holds.st0 (cells l) z (cells tb) (cells e.left) (cells e.right) ((k + 1 : Nat) : Int)) := by
    intro L0 k hk m
    induction m with
    | zero => intros; omega
    | succ m ih =>
      intro j x acc hacc hj hm hd hx
      by_cases h : j < 6
      · have h6 : ((j : Nat) : Int) < 6 := by omega
        have hzi : ¬ ((z : Nat) : Int) = 0 := by omega
        have hble : Nat.ble (((cells acc).length + 1) * 8) (140737488355328 * 1) = true := by
          rw [Nat.ble_eq, cells_length, sz_int]; omega
        have hdiv : x / z ≤ x := Nat.div_le_self _ _
        rw [show 6 - j = (6 - (j + 1)) + 1 by omega, digs] at hd
        have hdm : Int.tdiv (x : Nat) (z : Nat) = ((x / z : Nat) : Int) := rfl
        generalize x / z = q at hdiv hdm hd
        simp only [spec_l10Holds.next2, spec_l10Holds.round2, Int.ofNat_lt, str_inj, beq_dec, bne_dec, cond_dec, cond_nt, if_true, if_false, decide_true, decide_false, cond_true, cond_false, u8_inj, cells_div, sz_int, sz_u8, sz_list, sz_Symbol, sz_Signature, sz_Equation, sz_Binding, sz_Algebra, sz_Entry, sz_Completion, sz_Theory, sz_Put, sz_Disk, sz_Act, sz_IntResult, sz_IntsResult, sz_BytesResult, sz_TextResult, sz_SignatureResult, sz_TermResult, sz_TermsResult, sz_EquationResult, sz_EquationsResult, sz_KeyResult, sz_BindingResult, sz_RedexResult, sz_NormalResult, sz_AlgebraResult, sz_EntryResult, sz_CompletionResult, sz_TheoryResult, sz_DiskResult, inB_nat, Int.toNat_natCast, get0, get1, get2, get3, get4, get5, get6, get7, get8, Nat.reduceLT, bind_of, List.getElem?_cons_zero, List.getElem?_cons_succ, oInt_int, oBool_bool, oStr_str, oSl_slc, oAgg_agg, oTup_tup, oCons_cons, oNil_nil, sl_cells, h6, hzi, hble]
        rw [hdm, show Int.tmod (x : Nat) (z : Nat) = ((x % z : Nat) : Int) from rfl, wrap_succ (by omega), wrap64 (by omega), cells_snoc_int]
        refine ih (j + 1) q (acc ++ [((x % z : Nat) : Int)]) (by rw [List.length_append, hacc]; rfl) (by omega) (by omega) ?_ (by omega)
        rw [List.append_assoc, List.singleton_append]
        exact hd
      · obtain rfl : j = 6 := by omega
        rw [Nat.sub_self, digs, List.append_nil] at hd
        subst hd
        have hdl := digs_length z 6 k
        have hdr := digs_range hz0 6 k
        have h6 : ¬ ((6 : Nat) : Int) < 6 := by omega
        simp only [spec_l10Holds.next2, spec_l10Holds.round2, Int.ofNat_lt, str_inj, beq_dec, bne_dec, cond_dec, cond_nt, if_true, if_false, decide_true, decide_false, cond_true, cond_false, u8_inj, cells_div, sz_int, sz_u8, sz_list, sz_Symbol, sz_Signature, sz_Equation, sz_Binding, sz_Algebra, sz_Entry, sz_Completion, sz_Theory, sz_Put, sz_Disk, sz_Act, sz_IntResult, sz_IntsResult, sz_BytesResult, sz_TextResult, sz_SignatureResult, sz_TermResult, sz_TermsResult, sz_EquationResult, sz_EquationsResult, sz_KeyResult, sz_BindingResult, sz_RedexResult, sz_NormalResult, sz_AlgebraResult, sz_EntryResult, sz_CompletionResult, sz_TheoryResult, sz_DiskResult, inB_nat, Int.toNat_natCast, get0, get1, get2, get3, get4, get5, get6, get7, get8, Nat.reduceLT, bind_of, List.getElem?_cons_zero, List.getElem?_cons_succ, oInt_int, oBool_bool, oStr_str, oSl_slc, oAgg_agg, oTup_tup, oCons_cons, oNil_nil, sl_cells, h6, (spec_l10Eval_ok al hdl hdr ho.left ho.lowL).eq, (spec_l10Eval_ok al hdl hdr ho.right ho.lowR).eq, differ]
        rw [wrap_succ (by omega)]
        by_cases hne : (treeOf l e.left).eval z tb (digs z 6 k) = (treeOf l e.right).eval z tb (digs z 6 k)
        · simp only [hne, Int.ofNat_lt, str_inj, beq_dec, bne_dec, cond_dec, cond_nt, if_true, if_false, decide_true, decide_false, cond_true, cond_false, u8_inj, cells_div, sz_int, sz_u8, sz_list, sz_Symbol, sz_Signature, sz_Equation, sz_Binding, sz_Algebra, sz_Entry, sz_Completion, sz_Theory, sz_Put, sz_Disk, sz_Act, sz_IntResult, sz_IntsResult, sz_BytesResult, sz_TextResult, sz_SignatureResult, sz_TermResult, sz_TermsResult, sz_EquationResult, sz_EquationsResult, sz_KeyResult, sz_BindingResult, sz_RedexResult, sz_NormalResult, sz_AlgebraResult, sz_EntryResult, sz_CompletionResult, sz_TheoryResult, sz_DiskResult, inB_nat, Int.toNat_natCast, get0, get1, get2, get3, get4, get5, get6, get7, get8, Nat.reduceLT, bind_of, List.getElem?_cons_zero, List.getElem?_cons_succ, oInt_int, oBool_bool, oStr_str, oSl_slc, oAgg_agg, oTup_tup, oCons_cons, oNil_nil, sl_cells, ne_eq, not_true_eq_false, Bool.false_eq_true]
        · simp only [hne, Int.ofNat_lt, str_inj, beq_dec, bne_dec, cond_dec, cond_nt, if_true, if_false, decide_true, decide_false, cond_true, cond_false, u8_inj, cells_div, sz_int, sz_u8, sz_list, sz_Symbol, sz_Signature, sz_Equation, sz_Binding, sz_Algebra, sz_Entry, sz_Completion, sz_Theory, sz_Put, sz_Disk, sz_Act, sz_IntResult, sz_IntsResult, sz_BytesResult, sz_TextResult, sz_SignatureResult, sz_TermResult, sz_TermsResult, sz_EquationResult, sz_EquationsResult, sz_KeyResult, sz_BindingResult, sz_RedexResult, sz_NormalResult, sz_AlgebraResult, sz_EntryResult, sz_CompletionResult, sz_TheoryResult, sz_DiskResult, inB_nat, Int.toNat_natCast, get0, get1, get2, get3, get4, get5, get6, get7, get8, Nat.reduceLT, bind_of, List.getElem?_cons_zero, List.getElem?_cons_succ, oInt_int, oBool_bool, oStr_str, oSl_slc, oAgg_agg, oTup_tup, oCons_cons, oNil_nil, sl_cells, ne_eq, not_false_eq_true]
  have outer := any_loop (n := z ^ 6) (bad := differ l z tb e) (r := some (.bool false, [])) (z := some (.bool true, []))
    (S := fun m k => spec_l10Holds.at0 1000 m (spec_l10Holds.st0 (cells l) z (cells tb) (cells e.left) (cells e.right) (k : Nat))) (f := 1000)
    (fun m k hk => by
      simp only [spec_l10Holds.next0, spec_l10Holds.round0, Int.ofNat_lt, str_inj, beq_dec, bne_dec, cond_dec, cond_nt, if_true, if_false, decide_true, decide_false, cond_true, cond_false, u8_inj, cells_div, sz_int, sz_u8, sz_list, sz_Symbol, sz_Signature, sz_Equation, sz_Binding, sz_Algebra, sz_Entry, sz_Completion, sz_Theory, sz_Put, sz_Disk, sz_Act, sz_IntResult, sz_IntsResult, sz_BytesResult, sz_TextResult, sz_SignatureResult, sz_TermResult, sz_TermsResult, sz_EquationResult, sz_EquationsResult, sz_KeyResult, sz_BindingResult, sz_RedexResult, sz_NormalResult, sz_AlgebraResult, sz_EntryResult, sz_CompletionResult, sz_TheoryResult, sz_DiskResult, inB_nat, Int.toNat_natCast, get0, get1, get2, get3, get4, get5, get6, get7, get8, Nat.reduceLT, bind_of, List.getElem?_cons_zero, List.getElem?_cons_succ, oInt_int, oBool_bool, oStr_str, oSl_slc, oAgg_agg, oTup_tup, oCons_cons, oNil_nil, sl_cells, show LIM F.spec_l10Pow [.int .i64 z, .int .i64 6] = _ from hp, hk]
      exact inner (spec_l10Holds.at0 1000 m) k (by omega) 1000 0 k [] rfl (by omega) (by omega) (by simp) (by omega))
    (fun m => by simp only [spec_l10Holds.next0, spec_l10Holds.round0, Int.ofNat_lt, str_inj, beq_dec, bne_dec, cond_dec, cond_nt, if_true, if_false, decide_true, decide_false, cond_true, cond_false, u8_inj, cells_div, sz_int, sz_u8, sz_list, sz_Symbol, sz_Signature, sz_Equation, sz_Binding, sz_Algebra, sz_Entry, sz_Completion, sz_Theory, sz_Put, sz_Disk, sz_Act, sz_IntResult, sz_IntsResult, sz_BytesResult, sz_TextResult, sz_SignatureResult, sz_TermResult, sz_TermsResult, sz_EquationResult, sz_EquationsResult, sz_KeyResult, sz_BindingResult, sz_RedexResult, sz_NormalResult, sz_AlgebraResult, sz_EntryResult, sz_CompletionResult, sz_TheoryResult, sz_DiskResult, inB_nat, Int.toNat_natCast, get0, get1, get2, get3, get4, get5, get6, get7, get8, Nat.reduceLT, bind_of, List.getElem?_cons_zero, List.getElem?_cons_succ, oInt_int, oBool_bool, oStr_str, oSl_slc, oAgg_agg, oTup_tup, oCons_cons, oNil_nil, sl_cells, show LIM F.spec_l10Pow [.int .i64 z, .int .i64 6] = _ from hp, Nat.lt_irrefl]) (by omega)
  refine Eq.trans outer ?_
  unfold holdsB
  cases (List.range (z ^ 6)).any (differ l z tb e) <;> rfl
end
end Ev.Ty
