/- Terms: where one ends, what is wrong with one. -/
import Derived.Test.YtmcfccgmhinpdaaGreatDoorTyAlg
namespace Ev.Ty
open Go Ev
open Enc (enc)
open Sm (sm)
set_option linter.unusedSimpArgs false
set_option linter.unusedVariables false

/-- How many arguments a node has. -/
def ar (l : List Symbol) (n : Int) : Nat := if n < 0 then 0 else ((l[n.toNat]?).map fun x => x.arity.toNat).getD 0
def nodeOk (l : List Symbol) (n : Int) : Bool := inR n 0 (l.length - 1) || inR n (-12) (-1)
/-- What stands behind so many terms. -/
def skip (a : Int → Nat) : Nat → List Int → Option (List Int)
  | 0, l => some l
  | _ + 1, [] => none
  | k + 1, n :: l => skip a (k + a n) l
def termFault0 (l : List Symbol) (t : List Int) : Int :=
  if t.length < 1 ∨ 24 < t.length then 2 else if t.any (fun n => !nodeOk l n) then 3 else if skip (ar l) 1 t = some [] then 0 else 1
def termFault (s : Signature) (t : List Int) : Int := if sigFault s ≠ 0 then sigFault s else termFault0 s.symbols t

section
variable {a : Int → Nat}
@[simp] theorem skip_zero (l : List Int) : skip a 0 l = some l := by cases l <;> rfl
theorem skip_suffix : ∀ {l r : List Int} {k : Nat}, skip a k l = some r → ∃ p, l = p ++ r ∧ (0 < k → 0 < p.length)
  | l, r, 0, h => by rw [skip_zero] at h; cases h; exact ⟨[], rfl, by omega⟩
  | [], r, k + 1, h => by cases h
  | n :: l, r, k + 1, h => by
    obtain ⟨p, hp, _⟩ := skip_suffix (l := l) (k := k + a n) h
    exact ⟨n :: p, by rw [hp]; rfl, by simp⟩
theorem skip_add : ∀ (l : List Int) (j k : Nat), skip a (j + k) l = (skip a j l).bind (skip a k)
  | l, 0, k => by simp
  | [], j + 1, k => by rw [Nat.add_right_comm]; rfl
  | n :: l, j + 1, k => by
    rw [Nat.add_right_comm]
    show skip a (j + k + a n) l = (skip a (j + a n) l).bind (skip a k)
    rw [Nat.add_right_comm, skip_add l (j + a n) k]
/-- By the place in the whole list. -/
theorem skip_at {t r : List Int} {e k : Nat} (h : skip a k (t.drop e) = some r) : r = t.drop (t.length - r.length) ∧ r.length ≤ t.length - e ∧ (0 < k → r.length < t.length - e) := by
  obtain ⟨p, hp, hk⟩ := skip_suffix h
  have hl : (t.drop e).length = p.length + r.length := by rw [hp, List.length_append]
  rw [List.length_drop] at hl
  refine ⟨?_, by omega, fun h0 => by have := hk h0; omega⟩
  have h1 : t.length - r.length = e + p.length ∨ t.length ≤ e := by omega
  rcases h1 with h1 | h1
  · rw [h1, ← List.drop_drop, hp, List.drop_left]
  · have : r.length = 0 := by omega
    rw [List.eq_nil_of_length_eq_zero this]
    simp
end

theorem nodeOk_iff {l : List Symbol} {n : Int} : nodeOk l n = true ↔ (0 ≤ n ∧ n < l.length) ∨ (-12 ≤ n ∧ n ≤ -1) := by
  unfold nodeOk
  rw [Bool.or_eq_true, inR_iff, inR_iff]
  omega
section
variable {l : List Symbol} (ok : SigOk ⟨l⟩)
include ok
theorem ar_le (n : Int) : ar l n ≤ 2 := by
  unfold ar
  split
  · omega
  · cases h : l[n.toNat]? with
    | none => simp
    | some x =>
      have := ok.arity x (List.mem_of_getElem? h)
      simp; omega
theorem impl_isNode (n : Int) : Call F.impl_isNode [.agg [slc l], .int .i64 n] (.bool (nodeOk l n)) := by
  have hle := ok.le
  have h1 : Call F.impl_isSymbol [.agg [slc l], .int .i64 n] (.bool (inR n 0 (l.length - 1))) := by
    refine call_of rfl 0 ((impl_isSymbol.ev _ _ _).trans ?_)
    simp only [Int.ofNat_lt, str_inj, beq_dec, bne_dec, cond_dec, cond_nt, if_true, if_false, decide_true, decide_false, cond_true, cond_false, u8_inj, cells_div, sz_int, sz_u8, sz_list, sz_Symbol, sz_Signature, sz_Equation, sz_Binding, sz_Algebra, sz_Entry, sz_Completion, sz_Theory, sz_Put, sz_Disk, sz_Act, sz_IntResult, sz_IntsResult, sz_BytesResult, sz_TextResult, sz_SignatureResult, sz_TermResult, sz_TermsResult, sz_EquationResult, sz_EquationsResult, sz_KeyResult, sz_BindingResult, sz_RedexResult, sz_NormalResult, sz_AlgebraResult, sz_EntryResult, sz_CompletionResult, sz_TheoryResult, sz_DiskResult, inB_nat, Int.toNat_natCast, get0, get1, get2, get3, get4, get5, get6, get7, get8, Nat.reduceLT, bind_of, List.getElem?_cons_zero, List.getElem?_cons_succ, oInt_int, oBool_bool, oStr_str, oSl_slc, oAgg_agg, oTup_tup, oCons_cons, oNil_nil, sl_cells, wrap64 (x := (l.length : Int) - 1) (by simp at hle; omega), (impl_within _ _ _).eq]
  refine call_of rfl 0 ((impl_isNode.ev _ _ _).trans ?_)
  simp only [Int.ofNat_lt, str_inj, beq_dec, bne_dec, cond_dec, cond_nt, if_true, if_false, decide_true, decide_false, cond_true, cond_false, u8_inj, cells_div, sz_int, sz_u8, sz_list, sz_Symbol, sz_Signature, sz_Equation, sz_Binding, sz_Algebra, sz_Entry, sz_Completion, sz_Theory, sz_Put, sz_Disk, sz_Act, sz_IntResult, sz_IntsResult, sz_BytesResult, sz_TextResult, sz_SignatureResult, sz_TermResult, sz_TermsResult, sz_EquationResult, sz_EquationsResult, sz_KeyResult, sz_BindingResult, sz_RedexResult, sz_NormalResult, sz_AlgebraResult, sz_EntryResult, sz_CompletionResult, sz_TheoryResult, sz_DiskResult, inB_nat, Int.toNat_natCast, get0, get1, get2, get3, get4, get5, get6, get7, get8, Nat.reduceLT, bind_of, List.getElem?_cons_zero, List.getElem?_cons_succ, oInt_int, oBool_bool, oStr_str, oSl_slc, oAgg_agg, oTup_tup, oCons_cons, oNil_nil, sl_cells, h1.eq, (impl_within _ _ _).eq, nodeOk]
  cases inR n 0 (l.length - 1) <;> simp [Int.ofNat_lt, str_inj, beq_dec, bne_dec, cond_dec, cond_nt, if_true, if_false, decide_true, decide_false, cond_true, cond_false, u8_inj, cells_div, sz_int, sz_u8, sz_list, sz_Symbol, sz_Signature, sz_Equation, sz_Binding, sz_Algebra, sz_Entry, sz_Completion, sz_Theory, sz_Put, sz_Disk, sz_Act, sz_IntResult, sz_IntsResult, sz_BytesResult, sz_TextResult, sz_SignatureResult, sz_TermResult, sz_TermsResult, sz_EquationResult, sz_EquationsResult, sz_KeyResult, sz_BindingResult, sz_RedexResult, sz_NormalResult, sz_AlgebraResult, sz_EntryResult, sz_CompletionResult, sz_TheoryResult, sz_DiskResult, inB_nat, Int.toNat_natCast, get0, get1, get2, get3, get4, get5, get6, get7, get8, Nat.reduceLT, bind_of, List.getElem?_cons_zero, List.getElem?_cons_succ, oInt_int, oBool_bool, oStr_str, oSl_slc, oAgg_agg, oTup_tup, oCons_cons, oNil_nil, sl_cells]
theorem spec_l3Node (n : Int) : Call F.spec_l3Node [.rref [slc l] 0, .int .i64 n] (.bool (nodeOk l n)) := by
  have hle := ok.le
  have h1 : Call F.spec_l2Symbol [.rref [slc l] 0, .int .i64 n] (.bool (inR n 0 (l.length - 1))) := by
    refine call_of rfl 0 ((spec_l2Symbol.ev _ _ _).trans ?_)
    simp only [Int.ofNat_lt, str_inj, beq_dec, bne_dec, cond_dec, cond_nt, if_true, if_false, decide_true, decide_false, cond_true, cond_false, u8_inj, cells_div, sz_int, sz_u8, sz_list, sz_Symbol, sz_Signature, sz_Equation, sz_Binding, sz_Algebra, sz_Entry, sz_Completion, sz_Theory, sz_Put, sz_Disk, sz_Act, sz_IntResult, sz_IntsResult, sz_BytesResult, sz_TextResult, sz_SignatureResult, sz_TermResult, sz_TermsResult, sz_EquationResult, sz_EquationsResult, sz_KeyResult, sz_BindingResult, sz_RedexResult, sz_NormalResult, sz_AlgebraResult, sz_EntryResult, sz_CompletionResult, sz_TheoryResult, sz_DiskResult, inB_nat, Int.toNat_natCast, get0, get1, get2, get3, get4, get5, get6, get7, get8, Nat.reduceLT, bind_of, List.getElem?_cons_zero, List.getElem?_cons_succ, oInt_int, oBool_bool, oStr_str, oSl_slc, oAgg_agg, oTup_tup, oCons_cons, oNil_nil, sl_cells, wrap64 (x := (l.length : Int) - 1) (by simp at hle; omega), (spec_l1In _ _ _).eq]
  refine call_of rfl 0 ((spec_l3Node.ev _ _ _).trans ?_)
  simp only [Int.ofNat_lt, str_inj, beq_dec, bne_dec, cond_dec, cond_nt, if_true, if_false, decide_true, decide_false, cond_true, cond_false, u8_inj, cells_div, sz_int, sz_u8, sz_list, sz_Symbol, sz_Signature, sz_Equation, sz_Binding, sz_Algebra, sz_Entry, sz_Completion, sz_Theory, sz_Put, sz_Disk, sz_Act, sz_IntResult, sz_IntsResult, sz_BytesResult, sz_TextResult, sz_SignatureResult, sz_TermResult, sz_TermsResult, sz_EquationResult, sz_EquationsResult, sz_KeyResult, sz_BindingResult, sz_RedexResult, sz_NormalResult, sz_AlgebraResult, sz_EntryResult, sz_CompletionResult, sz_TheoryResult, sz_DiskResult, inB_nat, Int.toNat_natCast, get0, get1, get2, get3, get4, get5, get6, get7, get8, Nat.reduceLT, bind_of, List.getElem?_cons_zero, List.getElem?_cons_succ, oInt_int, oBool_bool, oStr_str, oSl_slc, oAgg_agg, oTup_tup, oCons_cons, oNil_nil, sl_cells, h1.eq, (spec_l1In _ _ _).eq, nodeOk]
  cases inR n 0 (l.length - 1) <;> simp [Int.ofNat_lt, str_inj, beq_dec, bne_dec, cond_dec, cond_nt, if_true, if_false, decide_true, decide_false, cond_true, cond_false, u8_inj, cells_div, sz_int, sz_u8, sz_list, sz_Symbol, sz_Signature, sz_Equation, sz_Binding, sz_Algebra, sz_Entry, sz_Completion, sz_Theory, sz_Put, sz_Disk, sz_Act, sz_IntResult, sz_IntsResult, sz_BytesResult, sz_TextResult, sz_SignatureResult, sz_TermResult, sz_TermsResult, sz_EquationResult, sz_EquationsResult, sz_KeyResult, sz_BindingResult, sz_RedexResult, sz_NormalResult, sz_AlgebraResult, sz_EntryResult, sz_CompletionResult, sz_TheoryResult, sz_DiskResult, inB_nat, Int.toNat_natCast, get0, get1, get2, get3, get4, get5, get6, get7, get8, Nat.reduceLT, bind_of, List.getElem?_cons_zero, List.getElem?_cons_succ, oInt_int, oBool_bool, oStr_str, oSl_slc, oAgg_agg, oTup_tup, oCons_cons, oNil_nil, sl_cells]
theorem ar_eq {n : Int} (hn : 0 ≤ n) (h : n.toNat < l.length) : (l[n.toNat]).arity = (ar l n : Nat) := by
  have := ok.arity l[n.toNat] (List.getElem_mem h)
  unfold ar
  rw [if_neg (by omega), List.getElem?_eq_getElem h]
  simp; omega
theorem impl_arityOf (n : Int) (h : nodeOk l n = true) : Call F.impl_arityOf [.agg [slc l], .int .i64 n] (.int .i64 (ar l n : Nat)) := by
  refine call_of rfl 0 ((impl_arityOf.ev _ _ _).trans ?_)
  rw [nodeOk_iff] at h
  by_cases hn : n < 0
  · simp [hn, ar]
  · obtain ⟨m, rfl⟩ : ∃ m : Nat, n = m := ⟨n.toNat, by omega⟩
    have hm : m < l.length := by omega
    have e := ar_eq ok (n := m) (by omega) (by simpa using hm)
    have hl : l[m]? = some l[m] := List.getElem?_eq_getElem hm
    have hn' : ¬ ((m : Int) < 0) := by omega
    simp only [Int.ofNat_lt, str_inj, beq_dec, bne_dec, cond_dec, cond_nt, if_true, if_false, decide_true, decide_false, cond_true, cond_false, u8_inj, cells_div, sz_int, sz_u8, sz_list, sz_Symbol, sz_Signature, sz_Equation, sz_Binding, sz_Algebra, sz_Entry, sz_Completion, sz_Theory, sz_Put, sz_Disk, sz_Act, sz_IntResult, sz_IntsResult, sz_BytesResult, sz_TextResult, sz_SignatureResult, sz_TermResult, sz_TermsResult, sz_EquationResult, sz_EquationsResult, sz_KeyResult, sz_BindingResult, sz_RedexResult, sz_NormalResult, sz_AlgebraResult, sz_EntryResult, sz_CompletionResult, sz_TheoryResult, sz_DiskResult, inB_nat, Int.toNat_natCast, get0, get1, get2, get3, get4, get5, get6, get7, get8, Nat.reduceLT, bind_of, List.getElem?_cons_zero, List.getElem?_cons_succ, oInt_int, oBool_bool, oStr_str, oSl_slc, oAgg_agg, oTup_tup, oCons_cons, oNil_nil, sl_cells, hn', hm, hl, enc_Symbol]
    simp at e
    rw [e]
/-- Where so many terms end, by places. -/
def endRes (none' : Int) (t : List Int) (r : Option (List Int)) : Int := match r with
  | some r => ((t.length - r.length : Nat) : Int)
  | none => none'
theorem impl_endOf (t : List Int) (ht : ∀ n ∈ t, nodeOk l n = true) (hl : t.length ≤ 4294967296) (e : Nat) (he : e ≤ t.length) :
    Call F.impl_endOf [.agg [slc l], slc t, .int .i64 e] (.int .i64 (endRes (t.length + 1) t (skip (ar l) 1 (t.drop e)))) := by
  have loop : ∀ m k o, k ≤ t.length → t.length + 1 < m + k → o ≤ 2 * k + 1 →
      impl_endOf.at0 (t.length + 2) m (impl_endOf.st0 (cells t) (k : Nat) (o : Nat) (cells l)) = some (.int .i64 (endRes (t.length + 1) t (skip (ar l) o (t.drop k))), []) := by
    intro m
    induction m with
    | zero => intros; omega
    | succ m ih =>
      intro k o hk hm ho
      simp only [impl_endOf.next0, impl_endOf.round0, Int.ofNat_lt, str_inj, beq_dec, bne_dec, cond_dec, cond_nt, if_true, if_false, decide_true, decide_false, cond_true, cond_false, u8_inj, cells_div, sz_int, sz_u8, sz_list, sz_Symbol, sz_Signature, sz_Equation, sz_Binding, sz_Algebra, sz_Entry, sz_Completion, sz_Theory, sz_Put, sz_Disk, sz_Act, sz_IntResult, sz_IntsResult, sz_BytesResult, sz_TextResult, sz_SignatureResult, sz_TermResult, sz_TermsResult, sz_EquationResult, sz_EquationsResult, sz_KeyResult, sz_BindingResult, sz_RedexResult, sz_NormalResult, sz_AlgebraResult, sz_EntryResult, sz_CompletionResult, sz_TheoryResult, sz_DiskResult, inB_nat, Int.toNat_natCast, get0, get1, get2, get3, get4, get5, get6, get7, get8, Nat.reduceLT, bind_of, List.getElem?_cons_zero, List.getElem?_cons_succ, oInt_int, oBool_bool, oStr_str, oSl_slc, oAgg_agg, oTup_tup, oCons_cons, oNil_nil, sl_cells, gt_iff_lt, ge_iff_le]
      cases o with
      | zero =>
        rw [if_neg (by omega), skip_zero]
        simp only [endRes, List.length_drop]
        congr 3; omega
      | succ o =>
        rw [if_pos (by omega)]
        by_cases h : k < t.length
        · have hk' : t[k]? = some t[k] := List.getElem?_eq_getElem h
          have hn := ht t[k] (List.getElem_mem h)
          have h2 := ar_le ok t[k]
          rw [if_neg (by omega)]
          simp only [h, hk', Int.ofNat_lt, str_inj, beq_dec, bne_dec, cond_dec, cond_nt, if_true, if_false, decide_true, decide_false, cond_true, cond_false, u8_inj, cells_div, sz_int, sz_u8, sz_list, sz_Symbol, sz_Signature, sz_Equation, sz_Binding, sz_Algebra, sz_Entry, sz_Completion, sz_Theory, sz_Put, sz_Disk, sz_Act, sz_IntResult, sz_IntsResult, sz_BytesResult, sz_TextResult, sz_SignatureResult, sz_TermResult, sz_TermsResult, sz_EquationResult, sz_EquationsResult, sz_KeyResult, sz_BindingResult, sz_RedexResult, sz_NormalResult, sz_AlgebraResult, sz_EntryResult, sz_CompletionResult, sz_TheoryResult, sz_DiskResult, inB_nat, Int.toNat_natCast, get0, get1, get2, get3, get4, get5, get6, get7, get8, Nat.reduceLT, bind_of, List.getElem?_cons_zero, List.getElem?_cons_succ, oInt_int, oBool_bool, oStr_str, oSl_slc, oAgg_agg, oTup_tup, oCons_cons, oNil_nil, sl_cells, enc_int, (impl_arityOf ok t[k] hn).eq]
          rw [wrap_succ (by omega), wrap64 (x := ((ar l t[k] : Nat) : Int) - 1) (by omega), wrap64 (by omega)]
          rw [show ((o + 1 : Nat) : Int) + (((ar l t[k] : Nat) : Int) - 1) = ((o + ar l t[k] : Nat) : Int) by omega]
          rw [ih (k + 1) (o + ar l t[k]) (by omega) (by omega) (by omega), List.drop_eq_getElem_cons h]
          rfl
        · obtain rfl : k = t.length := by omega
          rw [if_pos (by omega), wrap64 (by omega), List.drop_of_length_le (Nat.le_refl _)]
          rfl
  refine call_of rfl (t.length + 2) ((impl_endOf.ev _ _ _ _).trans ?_)
  have := loop (t.length + 2) e 1 he (by omega) (by omega)
  exact this
theorem spec_l3End (t : List Int) (ht : ∀ n ∈ t, nodeOk l n = true) (hl : t.length ≤ 4294967296) (e : Nat) (he : e ≤ t.length) :
    Call F.spec_l3End [.rref [slc l] 0, slc t, .int .i64 e] (.int .i64 (endRes (-1) t (skip (ar l) 1 (t.drop e)))) := by
  obtain ⟨d, hd⟩ : ∃ d, d = t.length - e := ⟨_, rfl⟩
  induction d using Nat.strongRecOn generalizing e with
  | ind d ih =>
  refine call_of rfl 4 ((spec_l3End.ev _ _ _ _).trans ?_)
  simp only [Int.ofNat_lt, str_inj, beq_dec, bne_dec, cond_dec, cond_nt, if_true, if_false, decide_true, decide_false, cond_true, cond_false, u8_inj, cells_div, sz_int, sz_u8, sz_list, sz_Symbol, sz_Signature, sz_Equation, sz_Binding, sz_Algebra, sz_Entry, sz_Completion, sz_Theory, sz_Put, sz_Disk, sz_Act, sz_IntResult, sz_IntsResult, sz_BytesResult, sz_TextResult, sz_SignatureResult, sz_TermResult, sz_TermsResult, sz_EquationResult, sz_EquationsResult, sz_KeyResult, sz_BindingResult, sz_RedexResult, sz_NormalResult, sz_AlgebraResult, sz_EntryResult, sz_CompletionResult, sz_TheoryResult, sz_DiskResult, inB_nat, Int.toNat_natCast, get0, get1, get2, get3, get4, get5, get6, get7, get8, Nat.reduceLT, bind_of, List.getElem?_cons_zero, List.getElem?_cons_succ, oInt_int, oBool_bool, oStr_str, oSl_slc, oAgg_agg, oTup_tup, oCons_cons, oNil_nil, sl_cells, ge_iff_le]
  by_cases h : e < t.length
  case neg =>
    obtain rfl : e = t.length := by omega
    rw [if_pos (by omega), List.drop_of_length_le (Nat.le_refl _)]
    rfl
  have hk' : t[e]? = some t[e] := List.getElem?_eq_getElem h
  have hn := ht t[e] (List.getElem_mem h)
  have h2 := ar_le ok t[e]
  rw [if_neg (by omega)]
  simp only [h, hk', Int.ofNat_lt, str_inj, beq_dec, bne_dec, cond_dec, cond_nt, if_true, if_false, decide_true, decide_false, cond_true, cond_false, u8_inj, cells_div, sz_int, sz_u8, sz_list, sz_Symbol, sz_Signature, sz_Equation, sz_Binding, sz_Algebra, sz_Entry, sz_Completion, sz_Theory, sz_Put, sz_Disk, sz_Act, sz_IntResult, sz_IntsResult, sz_BytesResult, sz_TextResult, sz_SignatureResult, sz_TermResult, sz_TermsResult, sz_EquationResult, sz_EquationsResult, sz_KeyResult, sz_BindingResult, sz_RedexResult, sz_NormalResult, sz_AlgebraResult, sz_EntryResult, sz_CompletionResult, sz_TheoryResult, sz_DiskResult, inB_nat, Int.toNat_natCast, get0, get1, get2, get3, get4, get5, get6, get7, get8, Nat.reduceLT, bind_of, List.getElem?_cons_zero, List.getElem?_cons_succ, oInt_int, oBool_bool, oStr_str, oSl_slc, oAgg_agg, oTup_tup, oCons_cons, oNil_nil, sl_cells, enc_int]
  rw [List.drop_eq_getElem_cons h]
  show _ = some (T.int .i64 (endRes (-1) t (skip (ar l) (0 + ar l t[e]) (t.drop (e + 1)))), [])
  rw [Nat.zero_add, wrap_succ (by omega)]
  by_cases hneg : t[e] < 0
  · rw [if_pos hneg]
    have : ar l t[e] = 0 := by unfold ar; rw [if_pos hneg]
    rw [this, skip_zero]
    simp only [endRes, List.length_drop]
    congr 3; omega
  rw [if_neg hneg]
  rw [nodeOk_iff] at hn
  obtain ⟨y, hy⟩ : ∃ y : Nat, t[e] = y := ⟨t[e].toNat, by omega⟩
  have hym : y < l.length := by omega
  have hyl : l[y]? = some l[y] := List.getElem?_eq_getElem hym
  have hya : l[y].arity = (ar l t[e] : Nat) := by
    have := ar_eq ok (n := t[e]) (by omega) (by omega)
    simpa [hy] using this
  have loop : ∀ m i k, e < k → k ≤ t.length → i ≤ ar l t[e] → ar l t[e] < m + i →
      spec_l3End.at0 4 m (spec_l3End.st0 (cells l) (cells t) e (k : Nat) (i : Nat)) = some (.int .i64 (endRes (-1) t (skip (ar l) (ar l t[e] - i) (t.drop k))), []) := by
    intro m
    induction m with
    | zero => intros; omega
    | succ m ihm =>
      intro i k hk1 hk2 hi hm
      simp only [spec_l3End.next0, spec_l3End.round0, Int.ofNat_lt, str_inj, beq_dec, bne_dec, cond_dec, cond_nt, if_true, if_false, decide_true, decide_false, cond_true, cond_false, u8_inj, cells_div, sz_int, sz_u8, sz_list, sz_Symbol, sz_Signature, sz_Equation, sz_Binding, sz_Algebra, sz_Entry, sz_Completion, sz_Theory, sz_Put, sz_Disk, sz_Act, sz_IntResult, sz_IntsResult, sz_BytesResult, sz_TextResult, sz_SignatureResult, sz_TermResult, sz_TermsResult, sz_EquationResult, sz_EquationsResult, sz_KeyResult, sz_BindingResult, sz_RedexResult, sz_NormalResult, sz_AlgebraResult, sz_EntryResult, sz_CompletionResult, sz_TheoryResult, sz_DiskResult, inB_nat, Int.toNat_natCast, get0, get1, get2, get3, get4, get5, get6, get7, get8, Nat.reduceLT, bind_of, List.getElem?_cons_zero, List.getElem?_cons_succ, oInt_int, oBool_bool, oStr_str, oSl_slc, oAgg_agg, oTup_tup, oCons_cons, oNil_nil, sl_cells, h, hk', enc_int]
      simp only [hy, Int.ofNat_lt, str_inj, beq_dec, bne_dec, cond_dec, cond_nt, if_true, if_false, decide_true, decide_false, cond_true, cond_false, u8_inj, cells_div, sz_int, sz_u8, sz_list, sz_Symbol, sz_Signature, sz_Equation, sz_Binding, sz_Algebra, sz_Entry, sz_Completion, sz_Theory, sz_Put, sz_Disk, sz_Act, sz_IntResult, sz_IntsResult, sz_BytesResult, sz_TextResult, sz_SignatureResult, sz_TermResult, sz_TermsResult, sz_EquationResult, sz_EquationsResult, sz_KeyResult, sz_BindingResult, sz_RedexResult, sz_NormalResult, sz_AlgebraResult, sz_EntryResult, sz_CompletionResult, sz_TheoryResult, sz_DiskResult, inB_nat, Int.toNat_natCast, get0, get1, get2, get3, get4, get5, get6, get7, get8, Nat.reduceLT, bind_of, List.getElem?_cons_zero, List.getElem?_cons_succ, oInt_int, oBool_bool, oStr_str, oSl_slc, oAgg_agg, oTup_tup, oCons_cons, oNil_nil, sl_cells, hym, hyl, enc_Symbol, hya]
      by_cases hia : i < ar l t[e]
      · rw [hy] at hia
        rw [if_pos hia, (ih (t.length - k) (by omega) k hk2 rfl).eq]
        simp only [Int.ofNat_lt, str_inj, beq_dec, bne_dec, cond_dec, cond_nt, if_true, if_false, decide_true, decide_false, cond_true, cond_false, u8_inj, cells_div, sz_int, sz_u8, sz_list, sz_Symbol, sz_Signature, sz_Equation, sz_Binding, sz_Algebra, sz_Entry, sz_Completion, sz_Theory, sz_Put, sz_Disk, sz_Act, sz_IntResult, sz_IntsResult, sz_BytesResult, sz_TextResult, sz_SignatureResult, sz_TermResult, sz_TermsResult, sz_EquationResult, sz_EquationsResult, sz_KeyResult, sz_BindingResult, sz_RedexResult, sz_NormalResult, sz_AlgebraResult, sz_EntryResult, sz_CompletionResult, sz_TheoryResult, sz_DiskResult, inB_nat, Int.toNat_natCast, get0, get1, get2, get3, get4, get5, get6, get7, get8, Nat.reduceLT, bind_of, List.getElem?_cons_zero, List.getElem?_cons_succ, oInt_int, oBool_bool, oStr_str, oSl_slc, oAgg_agg, oTup_tup, oCons_cons, oNil_nil, sl_cells]
        rw [← hy] at hia
        rw [show ar l ((y : Nat) : Int) - i = 1 + (ar l t[e] - (i + 1)) by rw [hy]; rw [hy] at hia; omega, skip_add]
        cases hs : skip (ar l) 1 (t.drop k) with
        | none => rfl
        | some r =>
          obtain ⟨hr1, hr2, hr3⟩ := skip_at hs
          have hr4 := hr3 (by omega)
          have hnn : ¬ endRes (-1) t (some r) < 0 := by show ¬ ((t.length - r.length : Nat) : Int) < 0; omega
          rw [if_neg hnn, wrap_succ (by omega), show endRes (-1) t (some r) = ((t.length - r.length : Nat) : Int) from rfl, ihm (i + 1) (t.length - r.length) (by omega) (by omega) (by omega) (by omega), ← hr1]
          rfl
      · have : i = ar l t[e] := by omega
        rw [if_neg (by rw [← hy]; exact hia), show ar l ((y : Nat) : Int) - i = 0 by rw [← hy]; omega, skip_zero]
        simp only [endRes, List.length_drop]
        congr 3; omega
  have := loop 4 0 (e + 1) (by omega) (by omega) (by omega) (by omega)
  exact this
end

theorem any_nodes {l : List Symbol} {t : List Int} : (t.any fun n => !nodeOk l n) = false ↔ ∀ n ∈ t, nodeOk l n = true := by
  rw [List.any_eq_false]; simp
theorem skip_whole {a : Int → Nat} {t : List Int} : (endRes (t.length + 1) t (skip a 1 t) = t.length ↔ skip a 1 t = some []) ∧ (endRes (-1) t (skip a 1 t) = t.length ↔ skip a 1 t = some []) := by
  cases h : skip a 1 t with
  | none => simp [endRes]; omega
  | some r =>
    obtain ⟨p, hp, _⟩ := skip_suffix h
    have : r.length ≤ t.length := by rw [hp]; simp
    cases r with
    | nil => simp [endRes]
    | cons x r =>
      simp only [List.length_cons] at this
      refine ⟨⟨fun h => ?_, fun h => by cases h⟩, ⟨fun h => ?_, fun h => by cases h⟩⟩ <;> (simp only [endRes, List.length_cons] at h; omega)
theorem slices_ContainsFunc_Sint64_at1_impl_TermFault_1 (l : List Symbol) (ok : SigOk ⟨l⟩) (t : List Int) (hs : t.length ≤ 4294967296) :
    Call F.slices_ContainsFunc_Sint64 [slc t, .clo F.impl_TermFault_1 [.rref [slc l] 0]] (.bool (t.any fun n => !nodeOk l n)) := by
  have hi : Call F.slices_IndexFunc_Sint64 [slc t, .clo F.impl_TermFault_1 [.rref [slc l] 0]] (.int .i64 (idx (fun n => !nodeOk l n) t)) := by
    refine call_of rfl (t.length + 1) ((slices_IndexFunc_Sint64_at1_impl_TermFault_1.ev _ _ _).trans ?_)
    refine idx_loop (S := fun m k => slices_IndexFunc_Sint64_at1_impl_TermFault_1.at0 (t.length + 1) m (slices_IndexFunc_Sint64_at1_impl_TermFault_1.st0 (cells t) _ _ (k : Nat))) (fun m k h => ?_) (fun m => ?_) (Nat.lt_succ_self _)
    · have hlk : t[k]? = some t[k] := List.getElem?_eq_getElem h
      have hc : Call F.impl_TermFault_1 [.int .i64 t[k], .rref [slc l] 0] (.bool (!nodeOk l t[k])) := by
        refine call_of rfl 0 ((impl_TermFault_1.ev _ _ _).trans ?_)
        simp only [Int.ofNat_lt, str_inj, beq_dec, bne_dec, cond_dec, cond_nt, if_true, if_false, decide_true, decide_false, cond_true, cond_false, u8_inj, cells_div, sz_int, sz_u8, sz_list, sz_Symbol, sz_Signature, sz_Equation, sz_Binding, sz_Algebra, sz_Entry, sz_Completion, sz_Theory, sz_Put, sz_Disk, sz_Act, sz_IntResult, sz_IntsResult, sz_BytesResult, sz_TextResult, sz_SignatureResult, sz_TermResult, sz_TermsResult, sz_EquationResult, sz_EquationsResult, sz_KeyResult, sz_BindingResult, sz_RedexResult, sz_NormalResult, sz_AlgebraResult, sz_EntryResult, sz_CompletionResult, sz_TheoryResult, sz_DiskResult, inB_nat, Int.toNat_natCast, get0, get1, get2, get3, get4, get5, get6, get7, get8, Nat.reduceLT, bind_of, List.getElem?_cons_zero, List.getElem?_cons_succ, oInt_int, oBool_bool, oStr_str, oSl_slc, oAgg_agg, oTup_tup, oCons_cons, oNil_nil, sl_cells, (impl_isNode ok _).eq]
      simp only [slices_IndexFunc_Sint64_at1_impl_TermFault_1.next0, slices_IndexFunc_Sint64_at1_impl_TermFault_1.round0, Int.ofNat_lt, str_inj, beq_dec, bne_dec, cond_dec, cond_nt, if_true, if_false, decide_true, decide_false, cond_true, cond_false, u8_inj, cells_div, sz_int, sz_u8, sz_list, sz_Symbol, sz_Signature, sz_Equation, sz_Binding, sz_Algebra, sz_Entry, sz_Completion, sz_Theory, sz_Put, sz_Disk, sz_Act, sz_IntResult, sz_IntsResult, sz_BytesResult, sz_TextResult, sz_SignatureResult, sz_TermResult, sz_TermsResult, sz_EquationResult, sz_EquationsResult, sz_KeyResult, sz_BindingResult, sz_RedexResult, sz_NormalResult, sz_AlgebraResult, sz_EntryResult, sz_CompletionResult, sz_TheoryResult, sz_DiskResult, inB_nat, Int.toNat_natCast, get0, get1, get2, get3, get4, get5, get6, get7, get8, Nat.reduceLT, bind_of, List.getElem?_cons_zero, List.getElem?_cons_succ, oInt_int, oBool_bool, oStr_str, oSl_slc, oAgg_agg, oTup_tup, oCons_cons, oNil_nil, sl_cells, h, hlk, enc_int, hc.eq]
      rw [wrap_succ (by omega)]
      cases nodeOk l t[k] <;> rfl
    · simp only [slices_IndexFunc_Sint64_at1_impl_TermFault_1.next0, slices_IndexFunc_Sint64_at1_impl_TermFault_1.round0, Int.ofNat_lt, str_inj, beq_dec, bne_dec, cond_dec, cond_nt, if_true, if_false, decide_true, decide_false, cond_true, cond_false, u8_inj, cells_div, sz_int, sz_u8, sz_list, sz_Symbol, sz_Signature, sz_Equation, sz_Binding, sz_Algebra, sz_Entry, sz_Completion, sz_Theory, sz_Put, sz_Disk, sz_Act, sz_IntResult, sz_IntsResult, sz_BytesResult, sz_TextResult, sz_SignatureResult, sz_TermResult, sz_TermsResult, sz_EquationResult, sz_EquationsResult, sz_KeyResult, sz_BindingResult, sz_RedexResult, sz_NormalResult, sz_AlgebraResult, sz_EntryResult, sz_CompletionResult, sz_TheoryResult, sz_DiskResult, inB_nat, Int.toNat_natCast, get0, get1, get2, get3, get4, get5, get6, get7, get8, Nat.reduceLT, bind_of, List.getElem?_cons_zero, List.getElem?_cons_succ, oInt_int, oBool_bool, oStr_str, oSl_slc, oAgg_agg, oTup_tup, oCons_cons, oNil_nil, sl_cells, Nat.lt_irrefl]
  refine call_of rfl 0 ((slices_ContainsFunc_Sint64_at1_impl_TermFault_1.ev _ _ _).trans ?_)
  simp only [Int.ofNat_lt, str_inj, beq_dec, bne_dec, cond_dec, cond_nt, if_true, if_false, decide_true, decide_false, cond_true, cond_false, u8_inj, cells_div, sz_int, sz_u8, sz_list, sz_Symbol, sz_Signature, sz_Equation, sz_Binding, sz_Algebra, sz_Entry, sz_Completion, sz_Theory, sz_Put, sz_Disk, sz_Act, sz_IntResult, sz_IntsResult, sz_BytesResult, sz_TextResult, sz_SignatureResult, sz_TermResult, sz_TermsResult, sz_EquationResult, sz_EquationsResult, sz_KeyResult, sz_BindingResult, sz_RedexResult, sz_NormalResult, sz_AlgebraResult, sz_EntryResult, sz_CompletionResult, sz_TheoryResult, sz_DiskResult, inB_nat, Int.toNat_natCast, get0, get1, get2, get3, get4, get5, get6, get7, get8, Nat.reduceLT, bind_of, List.getElem?_cons_zero, List.getElem?_cons_succ, oInt_int, oBool_bool, oStr_str, oSl_slc, oAgg_agg, oTup_tup, oCons_cons, oNil_nil, sl_cells, hi.eq, idx_nonneg]
theorem impl_TermFault (l : List Symbol) (hs : l.length ≤ 4294967296) (t : List Int) (ht : t.length ≤ 4294967296) : Call F.impl_TermFault [.agg [slc l], slc t] (.int .i64 (termFault ⟨l⟩ t)) := by
  refine call_of rfl 0 ((impl_TermFault.ev _ _ _).trans ?_)
  simp only [Int.ofNat_lt, str_inj, beq_dec, bne_dec, cond_dec, cond_nt, if_true, if_false, decide_true, decide_false, cond_true, cond_false, u8_inj, cells_div, sz_int, sz_u8, sz_list, sz_Symbol, sz_Signature, sz_Equation, sz_Binding, sz_Algebra, sz_Entry, sz_Completion, sz_Theory, sz_Put, sz_Disk, sz_Act, sz_IntResult, sz_IntsResult, sz_BytesResult, sz_TextResult, sz_SignatureResult, sz_TermResult, sz_TermsResult, sz_EquationResult, sz_EquationsResult, sz_KeyResult, sz_BindingResult, sz_RedexResult, sz_NormalResult, sz_AlgebraResult, sz_EntryResult, sz_CompletionResult, sz_TheoryResult, sz_DiskResult, inB_nat, Int.toNat_natCast, get0, get1, get2, get3, get4, get5, get6, get7, get8, Nat.reduceLT, bind_of, List.getElem?_cons_zero, List.getElem?_cons_succ, oInt_int, oBool_bool, oStr_str, oSl_slc, oAgg_agg, oTup_tup, oCons_cons, oNil_nil, sl_cells, (impl_SignatureFault l hs).eq, termFault, termFault0, gt_iff_lt]
  by_cases h1 : sigFault ⟨l⟩ = 0
  case neg => simp only [h1, Int.ofNat_lt, str_inj, beq_dec, bne_dec, cond_dec, cond_nt, if_true, if_false, decide_true, decide_false, cond_true, cond_false, u8_inj, cells_div, sz_int, sz_u8, sz_list, sz_Symbol, sz_Signature, sz_Equation, sz_Binding, sz_Algebra, sz_Entry, sz_Completion, sz_Theory, sz_Put, sz_Disk, sz_Act, sz_IntResult, sz_IntsResult, sz_BytesResult, sz_TextResult, sz_SignatureResult, sz_TermResult, sz_TermsResult, sz_EquationResult, sz_EquationsResult, sz_KeyResult, sz_BindingResult, sz_RedexResult, sz_NormalResult, sz_AlgebraResult, sz_EntryResult, sz_CompletionResult, sz_TheoryResult, sz_DiskResult, inB_nat, Int.toNat_natCast, get0, get1, get2, get3, get4, get5, get6, get7, get8, Nat.reduceLT, bind_of, List.getElem?_cons_zero, List.getElem?_cons_succ, oInt_int, oBool_bool, oStr_str, oSl_slc, oAgg_agg, oTup_tup, oCons_cons, oNil_nil, sl_cells, ne_eq, not_false_eq_true]
  have ok := (sigOk_iff _).1 h1
  simp only [h1, Int.ofNat_lt, str_inj, beq_dec, bne_dec, cond_dec, cond_nt, if_true, if_false, decide_true, decide_false, cond_true, cond_false, u8_inj, cells_div, sz_int, sz_u8, sz_list, sz_Symbol, sz_Signature, sz_Equation, sz_Binding, sz_Algebra, sz_Entry, sz_Completion, sz_Theory, sz_Put, sz_Disk, sz_Act, sz_IntResult, sz_IntsResult, sz_BytesResult, sz_TextResult, sz_SignatureResult, sz_TermResult, sz_TermsResult, sz_EquationResult, sz_EquationsResult, sz_KeyResult, sz_BindingResult, sz_RedexResult, sz_NormalResult, sz_AlgebraResult, sz_EntryResult, sz_CompletionResult, sz_TheoryResult, sz_DiskResult, inB_nat, Int.toNat_natCast, get0, get1, get2, get3, get4, get5, get6, get7, get8, Nat.reduceLT, bind_of, List.getElem?_cons_zero, List.getElem?_cons_succ, oInt_int, oBool_bool, oStr_str, oSl_slc, oAgg_agg, oTup_tup, oCons_cons, oNil_nil, sl_cells, ne_eq, not_true_eq_false]
  by_cases h2 : t.length < 1
  · have h2' : (t.length : Int) < 1 := by omega
    simp only [h2, h2', Int.ofNat_lt, str_inj, beq_dec, bne_dec, cond_dec, cond_nt, if_true, if_false, decide_true, decide_false, cond_true, cond_false, u8_inj, cells_div, sz_int, sz_u8, sz_list, sz_Symbol, sz_Signature, sz_Equation, sz_Binding, sz_Algebra, sz_Entry, sz_Completion, sz_Theory, sz_Put, sz_Disk, sz_Act, sz_IntResult, sz_IntsResult, sz_BytesResult, sz_TextResult, sz_SignatureResult, sz_TermResult, sz_TermsResult, sz_EquationResult, sz_EquationsResult, sz_KeyResult, sz_BindingResult, sz_RedexResult, sz_NormalResult, sz_AlgebraResult, sz_EntryResult, sz_CompletionResult, sz_TheoryResult, sz_DiskResult, inB_nat, Int.toNat_natCast, get0, get1, get2, get3, get4, get5, get6, get7, get8, Nat.reduceLT, bind_of, List.getElem?_cons_zero, List.getElem?_cons_succ, oInt_int, oBool_bool, oStr_str, oSl_slc, oAgg_agg, oTup_tup, oCons_cons, oNil_nil, sl_cells, true_or]
  by_cases h3 : 24 < t.length
  · have h2' : ¬ (t.length : Int) < 1 := by omega
    have h3' : (24 : Int) < t.length := by omega
    simp only [h2, h2', h3, h3', Int.ofNat_lt, str_inj, beq_dec, bne_dec, cond_dec, cond_nt, if_true, if_false, decide_true, decide_false, cond_true, cond_false, u8_inj, cells_div, sz_int, sz_u8, sz_list, sz_Symbol, sz_Signature, sz_Equation, sz_Binding, sz_Algebra, sz_Entry, sz_Completion, sz_Theory, sz_Put, sz_Disk, sz_Act, sz_IntResult, sz_IntsResult, sz_BytesResult, sz_TextResult, sz_SignatureResult, sz_TermResult, sz_TermsResult, sz_EquationResult, sz_EquationsResult, sz_KeyResult, sz_BindingResult, sz_RedexResult, sz_NormalResult, sz_AlgebraResult, sz_EntryResult, sz_CompletionResult, sz_TheoryResult, sz_DiskResult, inB_nat, Int.toNat_natCast, get0, get1, get2, get3, get4, get5, get6, get7, get8, Nat.reduceLT, bind_of, List.getElem?_cons_zero, List.getElem?_cons_succ, oInt_int, oBool_bool, oStr_str, oSl_slc, oAgg_agg, oTup_tup, oCons_cons, oNil_nil, sl_cells, or_true]
  have h2' : ¬ (t.length : Int) < 1 := by omega
  have h3' : ¬ (24 : Int) < t.length := by omega
  simp only [h2, h2', h3, h3', Int.ofNat_lt, str_inj, beq_dec, bne_dec, cond_dec, cond_nt, if_true, if_false, decide_true, decide_false, cond_true, cond_false, u8_inj, cells_div, sz_int, sz_u8, sz_list, sz_Symbol, sz_Signature, sz_Equation, sz_Binding, sz_Algebra, sz_Entry, sz_Completion, sz_Theory, sz_Put, sz_Disk, sz_Act, sz_IntResult, sz_IntsResult, sz_BytesResult, sz_TextResult, sz_SignatureResult, sz_TermResult, sz_TermsResult, sz_EquationResult, sz_EquationsResult, sz_KeyResult, sz_BindingResult, sz_RedexResult, sz_NormalResult, sz_AlgebraResult, sz_EntryResult, sz_CompletionResult, sz_TheoryResult, sz_DiskResult, inB_nat, Int.toNat_natCast, get0, get1, get2, get3, get4, get5, get6, get7, get8, Nat.reduceLT, bind_of, List.getElem?_cons_zero, List.getElem?_cons_succ, oInt_int, oBool_bool, oStr_str, oSl_slc, oAgg_agg, oTup_tup, oCons_cons, oNil_nil, sl_cells, or_self, (slices_ContainsFunc_Sint64_at1_impl_TermFault_1 l ok t ht).eq]
  cases h4 : t.any fun n => !nodeOk l n with
  | true => simp only [Int.ofNat_lt, str_inj, beq_dec, bne_dec, cond_dec, cond_nt, if_true, if_false, decide_true, decide_false, cond_true, cond_false, u8_inj, cells_div, sz_int, sz_u8, sz_list, sz_Symbol, sz_Signature, sz_Equation, sz_Binding, sz_Algebra, sz_Entry, sz_Completion, sz_Theory, sz_Put, sz_Disk, sz_Act, sz_IntResult, sz_IntsResult, sz_BytesResult, sz_TextResult, sz_SignatureResult, sz_TermResult, sz_TermsResult, sz_EquationResult, sz_EquationsResult, sz_KeyResult, sz_BindingResult, sz_RedexResult, sz_NormalResult, sz_AlgebraResult, sz_EntryResult, sz_CompletionResult, sz_TheoryResult, sz_DiskResult, inB_nat, Int.toNat_natCast, get0, get1, get2, get3, get4, get5, get6, get7, get8, Nat.reduceLT, bind_of, List.getElem?_cons_zero, List.getElem?_cons_succ, oInt_int, oBool_bool, oStr_str, oSl_slc, oAgg_agg, oTup_tup, oCons_cons, oNil_nil, sl_cells]
  | false =>
    have hn := any_nodes.1 h4
    have he := impl_endOf ok t hn ht 0 (by omega)
    simp only [Int.ofNat_lt, str_inj, beq_dec, bne_dec, cond_dec, cond_nt, if_true, if_false, decide_true, decide_false, cond_true, cond_false, u8_inj, cells_div, sz_int, sz_u8, sz_list, sz_Symbol, sz_Signature, sz_Equation, sz_Binding, sz_Algebra, sz_Entry, sz_Completion, sz_Theory, sz_Put, sz_Disk, sz_Act, sz_IntResult, sz_IntsResult, sz_BytesResult, sz_TextResult, sz_SignatureResult, sz_TermResult, sz_TermsResult, sz_EquationResult, sz_EquationsResult, sz_KeyResult, sz_BindingResult, sz_RedexResult, sz_NormalResult, sz_AlgebraResult, sz_EntryResult, sz_CompletionResult, sz_TheoryResult, sz_DiskResult, inB_nat, Int.toNat_natCast, get0, get1, get2, get3, get4, get5, get6, get7, get8, Nat.reduceLT, bind_of, List.getElem?_cons_zero, List.getElem?_cons_succ, oInt_int, oBool_bool, oStr_str, oSl_slc, oAgg_agg, oTup_tup, oCons_cons, oNil_nil, sl_cells, Bool.false_eq_true, show LIM F.impl_endOf [.agg [slc l], slc t, .int .i64 0] = _ from he, List.drop_zero]
    by_cases h5 : skip (ar l) 1 t = some []
    · rw [if_pos (skip_whole.1.2 h5), if_pos h5]
    · rw [if_neg fun h => h5 (skip_whole.1.1 h), if_neg h5]
theorem spec_l3Fault (l : List Symbol) (ok : SigOk ⟨l⟩) (t : List Int) (ht : t.length ≤ 4294967296) : Call F.spec_l3Fault [.rref [slc l] 0, slc t] (.int .i64 (termFault0 l t)) := by
  refine call_of rfl (t.length + 1) ((spec_l3Fault.ev _ _ _).trans ?_)
  simp only [Int.ofNat_lt, str_inj, beq_dec, bne_dec, cond_dec, cond_nt, if_true, if_false, decide_true, decide_false, cond_true, cond_false, u8_inj, cells_div, sz_int, sz_u8, sz_list, sz_Symbol, sz_Signature, sz_Equation, sz_Binding, sz_Algebra, sz_Entry, sz_Completion, sz_Theory, sz_Put, sz_Disk, sz_Act, sz_IntResult, sz_IntsResult, sz_BytesResult, sz_TextResult, sz_SignatureResult, sz_TermResult, sz_TermsResult, sz_EquationResult, sz_EquationsResult, sz_KeyResult, sz_BindingResult, sz_RedexResult, sz_NormalResult, sz_AlgebraResult, sz_EntryResult, sz_CompletionResult, sz_TheoryResult, sz_DiskResult, inB_nat, Int.toNat_natCast, get0, get1, get2, get3, get4, get5, get6, get7, get8, Nat.reduceLT, bind_of, List.getElem?_cons_zero, List.getElem?_cons_succ, oInt_int, oBool_bool, oStr_str, oSl_slc, oAgg_agg, oTup_tup, oCons_cons, oNil_nil, sl_cells, termFault0, gt_iff_lt]
  by_cases h2 : t.length < 1
  · have h2' : (t.length : Int) < 1 := by omega
    simp only [h2, h2', Int.ofNat_lt, str_inj, beq_dec, bne_dec, cond_dec, cond_nt, if_true, if_false, decide_true, decide_false, cond_true, cond_false, u8_inj, cells_div, sz_int, sz_u8, sz_list, sz_Symbol, sz_Signature, sz_Equation, sz_Binding, sz_Algebra, sz_Entry, sz_Completion, sz_Theory, sz_Put, sz_Disk, sz_Act, sz_IntResult, sz_IntsResult, sz_BytesResult, sz_TextResult, sz_SignatureResult, sz_TermResult, sz_TermsResult, sz_EquationResult, sz_EquationsResult, sz_KeyResult, sz_BindingResult, sz_RedexResult, sz_NormalResult, sz_AlgebraResult, sz_EntryResult, sz_CompletionResult, sz_TheoryResult, sz_DiskResult, inB_nat, Int.toNat_natCast, get0, get1, get2, get3, get4, get5, get6, get7, get8, Nat.reduceLT, bind_of, List.getElem?_cons_zero, List.getElem?_cons_succ, oInt_int, oBool_bool, oStr_str, oSl_slc, oAgg_agg, oTup_tup, oCons_cons, oNil_nil, sl_cells, true_or]
  by_cases h3 : 24 < t.length
  · have h2' : ¬ (t.length : Int) < 1 := by omega
    have h3' : (24 : Int) < t.length := by omega
    simp only [h2, h2', h3, h3', Int.ofNat_lt, str_inj, beq_dec, bne_dec, cond_dec, cond_nt, if_true, if_false, decide_true, decide_false, cond_true, cond_false, u8_inj, cells_div, sz_int, sz_u8, sz_list, sz_Symbol, sz_Signature, sz_Equation, sz_Binding, sz_Algebra, sz_Entry, sz_Completion, sz_Theory, sz_Put, sz_Disk, sz_Act, sz_IntResult, sz_IntsResult, sz_BytesResult, sz_TextResult, sz_SignatureResult, sz_TermResult, sz_TermsResult, sz_EquationResult, sz_EquationsResult, sz_KeyResult, sz_BindingResult, sz_RedexResult, sz_NormalResult, sz_AlgebraResult, sz_EntryResult, sz_CompletionResult, sz_TheoryResult, sz_DiskResult, inB_nat, Int.toNat_natCast, get0, get1, get2, get3, get4, get5, get6, get7, get8, Nat.reduceLT, bind_of, List.getElem?_cons_zero, List.getElem?_cons_succ, oInt_int, oBool_bool, oStr_str, oSl_slc, oAgg_agg, oTup_tup, oCons_cons, oNil_nil, sl_cells, or_true]
  have h2' : ¬ (t.length : Int) < 1 := by omega
  have h3' : ¬ (24 : Int) < t.length := by omega
  simp only [h2, h2', h3, h3', Int.ofNat_lt, str_inj, beq_dec, bne_dec, cond_dec, cond_nt, if_true, if_false, decide_true, decide_false, cond_true, cond_false, u8_inj, cells_div, sz_int, sz_u8, sz_list, sz_Symbol, sz_Signature, sz_Equation, sz_Binding, sz_Algebra, sz_Entry, sz_Completion, sz_Theory, sz_Put, sz_Disk, sz_Act, sz_IntResult, sz_IntsResult, sz_BytesResult, sz_TextResult, sz_SignatureResult, sz_TermResult, sz_TermsResult, sz_EquationResult, sz_EquationsResult, sz_KeyResult, sz_BindingResult, sz_RedexResult, sz_NormalResult, sz_AlgebraResult, sz_EntryResult, sz_CompletionResult, sz_TheoryResult, sz_DiskResult, inB_nat, Int.toNat_natCast, get0, get1, get2, get3, get4, get5, get6, get7, get8, Nat.reduceLT, bind_of, List.getElem?_cons_zero, List.getElem?_cons_succ, oInt_int, oBool_bool, oStr_str, oSl_slc, oAgg_agg, oTup_tup, oCons_cons, oNil_nil, sl_cells, or_self]
  have step : ∀ m k (h : k < t.length), spec_l3Fault.at0 (t.length + 1) (m + 1) (spec_l3Fault.st0 (cells l) (cells t) (k : Nat)) =
      if (fun n => !nodeOk l n) t[k] = true then some (.int .i64 3, []) else spec_l3Fault.at0 (t.length + 1) m (spec_l3Fault.st0 (cells l) (cells t) ((k + 1 : Nat) : Int)) := fun m k h => by
    have hlk : t[k]? = some t[k] := List.getElem?_eq_getElem h
    simp only [spec_l3Fault.next0, spec_l3Fault.round0, Int.ofNat_lt, str_inj, beq_dec, bne_dec, cond_dec, cond_nt, if_true, if_false, decide_true, decide_false, cond_true, cond_false, u8_inj, cells_div, sz_int, sz_u8, sz_list, sz_Symbol, sz_Signature, sz_Equation, sz_Binding, sz_Algebra, sz_Entry, sz_Completion, sz_Theory, sz_Put, sz_Disk, sz_Act, sz_IntResult, sz_IntsResult, sz_BytesResult, sz_TextResult, sz_SignatureResult, sz_TermResult, sz_TermsResult, sz_EquationResult, sz_EquationsResult, sz_KeyResult, sz_BindingResult, sz_RedexResult, sz_NormalResult, sz_AlgebraResult, sz_EntryResult, sz_CompletionResult, sz_TheoryResult, sz_DiskResult, inB_nat, Int.toNat_natCast, get0, get1, get2, get3, get4, get5, get6, get7, get8, Nat.reduceLT, bind_of, List.getElem?_cons_zero, List.getElem?_cons_succ, oInt_int, oBool_bool, oStr_str, oSl_slc, oAgg_agg, oTup_tup, oCons_cons, oNil_nil, sl_cells, h, hlk, enc_int, (spec_l3Node ok _).eq]
    rw [wrap_succ (by omega)]
    by_cases hb : nodeOk l t[k] = true <;> simp [hb]
  cases h4 : t.any fun n => !nodeOk l n with
  | true =>
    refine (hit_loop (p := fun n => !nodeOk l n) (r := some (.int .i64 3, [])) (S := fun m k => spec_l3Fault.at0 (t.length + 1) m (spec_l3Fault.st0 (cells l) (cells t) (k : Nat))) step h4 (Nat.lt_succ_self _)).trans ?_
    simp only [Int.ofNat_lt, str_inj, beq_dec, bne_dec, cond_dec, cond_nt, if_true, if_false, decide_true, decide_false, cond_true, cond_false, u8_inj, cells_div, sz_int, sz_u8, sz_list, sz_Symbol, sz_Signature, sz_Equation, sz_Binding, sz_Algebra, sz_Entry, sz_Completion, sz_Theory, sz_Put, sz_Disk, sz_Act, sz_IntResult, sz_IntsResult, sz_BytesResult, sz_TextResult, sz_SignatureResult, sz_TermResult, sz_TermsResult, sz_EquationResult, sz_EquationsResult, sz_KeyResult, sz_BindingResult, sz_RedexResult, sz_NormalResult, sz_AlgebraResult, sz_EntryResult, sz_CompletionResult, sz_TheoryResult, sz_DiskResult, inB_nat, Int.toNat_natCast, get0, get1, get2, get3, get4, get5, get6, get7, get8, Nat.reduceLT, bind_of, List.getElem?_cons_zero, List.getElem?_cons_succ, oInt_int, oBool_bool, oStr_str, oSl_slc, oAgg_agg, oTup_tup, oCons_cons, oNil_nil, sl_cells]
  | false =>
    have hn := any_nodes.1 h4
    have he := spec_l3End ok t hn ht 0 (by omega)
    refine (any_loopL (p := fun n => !nodeOk l n) (r := some (.int .i64 3, [])) (S := fun m k => spec_l3Fault.at0 (t.length + 1) m (spec_l3Fault.st0 (cells l) (cells t) (k : Nat))) (z := if skip (ar l) 1 t = some [] then some (.int .i64 0, []) else some (.int .i64 1, [])) step (fun m => ?_) (Nat.lt_succ_self _)).trans ?_
    · simp only [spec_l3Fault.next0, spec_l3Fault.round0, Int.ofNat_lt, str_inj, beq_dec, bne_dec, cond_dec, cond_nt, if_true, if_false, decide_true, decide_false, cond_true, cond_false, u8_inj, cells_div, sz_int, sz_u8, sz_list, sz_Symbol, sz_Signature, sz_Equation, sz_Binding, sz_Algebra, sz_Entry, sz_Completion, sz_Theory, sz_Put, sz_Disk, sz_Act, sz_IntResult, sz_IntsResult, sz_BytesResult, sz_TextResult, sz_SignatureResult, sz_TermResult, sz_TermsResult, sz_EquationResult, sz_EquationsResult, sz_KeyResult, sz_BindingResult, sz_RedexResult, sz_NormalResult, sz_AlgebraResult, sz_EntryResult, sz_CompletionResult, sz_TheoryResult, sz_DiskResult, inB_nat, Int.toNat_natCast, get0, get1, get2, get3, get4, get5, get6, get7, get8, Nat.reduceLT, bind_of, List.getElem?_cons_zero, List.getElem?_cons_succ, oInt_int, oBool_bool, oStr_str, oSl_slc, oAgg_agg, oTup_tup, oCons_cons, oNil_nil, sl_cells, Nat.lt_irrefl, show LIM F.spec_l3End [.rref [slc l] 0, slc t, .int .i64 0] = _ from he, List.drop_zero]
      by_cases h5 : skip (ar l) 1 t = some []
      · rw [if_pos (skip_whole.2.2 h5), if_pos h5]
      · rw [if_neg fun h => h5 (skip_whole.2.1 h), if_neg h5]
    · rw [h4]
      simp only [Int.ofNat_lt, str_inj, beq_dec, bne_dec, cond_dec, cond_nt, if_true, if_false, decide_true, decide_false, cond_true, cond_false, u8_inj, cells_div, sz_int, sz_u8, sz_list, sz_Symbol, sz_Signature, sz_Equation, sz_Binding, sz_Algebra, sz_Entry, sz_Completion, sz_Theory, sz_Put, sz_Disk, sz_Act, sz_IntResult, sz_IntsResult, sz_BytesResult, sz_TextResult, sz_SignatureResult, sz_TermResult, sz_TermsResult, sz_EquationResult, sz_EquationsResult, sz_KeyResult, sz_BindingResult, sz_RedexResult, sz_NormalResult, sz_AlgebraResult, sz_EntryResult, sz_CompletionResult, sz_TheoryResult, sz_DiskResult, inB_nat, Int.toNat_natCast, get0, get1, get2, get3, get4, get5, get6, get7, get8, Nat.reduceLT, bind_of, List.getElem?_cons_zero, List.getElem?_cons_succ, oInt_int, oBool_bool, oStr_str, oSl_slc, oAgg_agg, oTup_tup, oCons_cons, oNil_nil, sl_cells, Bool.false_eq_true]
      by_cases h5 : skip (ar l) 1 t = some [] <;> simp only [h5, if_true, if_false]
end Ev.Ty
