/- Steps on the way to RowPackTheory: TyCmp, TyOrd, TyWalk, TyTheory, TyLPackTheory. -/
import Derived.Test.YtmcfccgmhinpdaaGreatDoorM4
section
namespace Ev.Ty
open Go Ev
open Enc (enc)
open Sm (sm)
set_option linter.unusedSimpArgs false
set_option linter.unusedVariables false
def startsN (l : List Symbol) (t : List Int) : Nat → Nat → List Nat
  | 0, _ => []
  | n + 1, p => p :: startsN l t n (endAt l t p)
def starts (l : List Symbol) (t : List Int) (p : Nat) : List Nat := startsN l t (ar l (t.getD p 0)) (p + 1)
theorem startsN_length (l : List Symbol) (t : List Int) : ∀ n p, (startsN l t n p).length = n
  | 0, _ => rfl
  | n + 1, p => by rw [startsN, List.length_cons, startsN_length l t n]
theorem skip_one {l : List Symbol} {t : List Int} {p n : Nat} {r : List Int} (h : skip (ar l) (n + 1) (t.drop p) = some r) : p < t.length ∧ skip (ar l) n (t.drop (endAt l t p)) = some r ∧ p < endAt l t p ∧ endAt l t p ≤ t.length := by
  have hp : p < t.length := by
    rcases Nat.lt_or_ge p t.length with h1 | h1
    · exact h1
    · rw [List.drop_of_length_le h1] at h; cases h
  rw [show n + 1 = 1 + n by omega, skip_add] at h
  cases h1 : skip (ar l) 1 (t.drop p) with
  | none => rw [h1] at h; cases h
  | some q =>
    rw [h1] at h
    have h2 := skip_at h1
    have e : endAt l t p = t.length - q.length := by unfold endAt; rw [h1]
    have h3 := h2.2.2 (by omega)
    refine ⟨hp, ?_, by rw [e]; omega, by rw [e]; omega⟩
    rw [e, ← h2.1]
    exact h
theorem startsN_mem {l : List Symbol} {t : List Int} : ∀ {n p : Nat} {r : List Int}, skip (ar l) n (t.drop p) = some r → ∀ q ∈ startsN l t n p, p ≤ q ∧ q < t.length
  | 0, p, r, h, q, hq => by cases hq
  | n + 1, p, r, h, q, hq => by
    obtain ⟨h1, h2, h3, h4⟩ := skip_one h
    rcases List.mem_cons.1 hq with rfl | hq
    · exact ⟨Nat.le_refl _, h1⟩
    · have := startsN_mem h2 q hq
      exact ⟨by omega, this.2⟩
theorem args_skip {l : List Symbol} {t : List Int} (ok : TermOk l t) {p : Nat} (hp : p < t.length) : ∃ r, skip (ar l) (ar l t[p]) (t.drop (p + 1)) = some r := by
  obtain ⟨q, hq⟩ := skip_inner (p := p) ok.skip (by simpa using hp)
  rw [List.drop_eq_getElem_cons hp, skip] at hq
  exact ⟨q, by simpa using hq⟩
theorem starts_mem {l : List Symbol} {t : List Int} (ok : TermOk l t) {p : Nat} (hp : p < t.length) {q : Nat} (hq : q ∈ starts l t p) : p < q ∧ q < t.length := by
  obtain ⟨r, hr⟩ := args_skip ok hp
  have hd : t.getD p 0 = t[p] := getD_at hp
  unfold starts at hq
  rw [hd] at hq
  have := startsN_mem hr q hq
  exact ⟨by omega, this.2⟩
def rank (o : List Int) (n : Int) : Int := idx (fun x => decide (x = n)) o
def cell (l : List Symbol) (o a b : List Int) (above : Nat → Nat → Bool) (i j : Nat) : Bool :=
  if b.getD j 0 < 0 then decide (0 ≤ a.getD i 0) && decide (b.getD j 0 ∈ subAt l a i)
  else if a.getD i 0 < 0 then false
  else if (starts l a i).any (fun p => decide (subAt l a p = subAt l b j) || above p j) then true
  else if rank o (a.getD i 0) < rank o (b.getD j 0) then false
  else if (starts l b j).any (fun q => !above i q) then false
  else if rank o (b.getD j 0) < rank o (a.getD i 0) then true
  else match ((starts l a i).zip (starts l b j)).find? fun x => !decide (subAt l a x.1 = subAt l b x.2) with
    | some x => above x.1 x.2
    | none => false
theorem cell_congr {l : List Symbol} {o a b : List Int} (ha : TermOk l a) (hb : TermOk l b) {f g : Nat → Nat → Bool} {i j : Nat} (hi : i < a.length) (hj : j < b.length)
    (h : ∀ p q, i ≤ p → j ≤ q → p < a.length → q < b.length → (i < p ∨ j < q) → f p q = g p q) : cell l o a b f i j = cell l o a b g i j := by
  have h1 : (starts l a i).any (fun p => decide (subAt l a p = subAt l b j) || f p j) = (starts l a i).any (fun p => decide (subAt l a p = subAt l b j) || g p j) := by
    rw [Bool.eq_iff_iff, List.any_eq_true, List.any_eq_true]
    constructor
    · rintro ⟨p, hp, h1⟩
      have := starts_mem ha hi hp
      exact ⟨p, hp, by rw [← h p j (by omega) (Nat.le_refl _) this.2 hj (.inl this.1)]; exact h1⟩
    · rintro ⟨p, hp, h1⟩
      have := starts_mem ha hi hp
      exact ⟨p, hp, by rw [h p j (by omega) (Nat.le_refl _) this.2 hj (.inl this.1)]; exact h1⟩
  have h2 : (starts l b j).any (fun q => !f i q) = (starts l b j).any (fun q => !g i q) := by
    rw [Bool.eq_iff_iff, List.any_eq_true, List.any_eq_true]
    constructor
    · rintro ⟨p, hp, h1⟩
      have := starts_mem hb hj hp
      exact ⟨p, hp, by rw [← h i p (Nat.le_refl _) (by omega) hi this.2 (.inr this.1)]; exact h1⟩
    · rintro ⟨p, hp, h1⟩
      have := starts_mem hb hj hp
      exact ⟨p, hp, by rw [h i p (Nat.le_refl _) (by omega) hi this.2 (.inr this.1)]; exact h1⟩
  unfold cell
  rw [h1, h2]
  cases hf : ((starts l a i).zip (starts l b j)).find? fun x => !decide (subAt l a x.1 = subAt l b x.2) with
  | none => rfl
  | some x =>
    have hm := List.mem_of_find?_eq_some hf
    have hm1 := starts_mem ha hi (List.of_mem_zip hm).1
    have hm2 := starts_mem hb hj (List.of_mem_zip hm).2
    simp only [h x.1 x.2 (by omega) (by omega) hm1.2 hm2.2 (.inl hm1.1)]
def gtN (l : List Symbol) (o a b : List Int) : Nat → Nat → Nat → Bool
  | 0, _, _ => false
  | n + 1, i, j => cell l o a b (gtN l o a b n) i j
def gt (l : List Symbol) (o a b : List Int) (i j : Nat) : Bool := gtN l o a b (a.length + b.length + 1) i j
theorem gtN_stable {l : List Symbol} {o a b : List Int} (ha : TermOk l a) (hb : TermOk l b) : ∀ (d n m i j : Nat), i < a.length → j < b.length → (a.length - i) + (b.length - j) ≤ d → d < n → d < m → gtN l o a b n i j = gtN l o a b m i j := by
  intro d
  induction d with
  | zero => intros; omega
  | succ d ih =>
    intro n m i j hi hj hd hn hm
    obtain ⟨n, rfl⟩ : ∃ q, n = q + 1 := ⟨n - 1, by omega⟩
    obtain ⟨m, rfl⟩ : ∃ q, m = q + 1 := ⟨m - 1, by omega⟩
    rw [gtN, gtN]
    exact cell_congr ha hb hi hj fun p q h1 h2 h3 h4 h5 => ih n m p q h3 h4 (by omega) (by omega) (by omega)
theorem gt_eq {l : List Symbol} {o a b : List Int} (ha : TermOk l a) (hb : TermOk l b) {i j : Nat} (hi : i < a.length) (hj : j < b.length) : gt l o a b i j = cell l o a b (gt l o a b) i j := by
  show gtN l o a b (a.length + b.length + 1) i j = _
  rw [gtN]
  exact cell_congr ha hb hi hj fun p q h1 h2 h3 h4 h5 => gtN_stable ha hb ((a.length - p) + (b.length - q)) _ _ p q h3 h4 (Nat.le_refl _) (by omega) (by omega)
def ints (l : List Nat) : List Int := l.map fun (n : Nat) => (n : Int)
section
variable {l : List Symbol} (ok : SigOk ⟨l⟩)
include ok
theorem impl_argumentsOf {t : List Int} (ht : TermOk l t) {p : Nat} (hp : p < t.length) : Call F.impl_argumentsOf [.agg [slc l], slc t, .int .i64 p] (slc (ints (starts l t p))) := by
  have hle := ht.le
  have har := ar_le (l := l) ok t[p]
  refine call_of rfl 4 ((impl_argumentsOf.ev _ _ _ _).trans ?_)
  simp only [Int.ofNat_lt, str_inj, beq_dec, bne_dec, cond_dec, cond_nt, if_true, if_false, decide_true, decide_false, cond_true, cond_false, u8_inj, cells_div, szs, sz_list, inB_nat, Int.toNat_natCast, get0, get1, get2, get3, get4, get5, get6, get7, get8, Nat.reduceLT, bind_of, List.getElem?_cons_zero, List.getElem?_cons_succ, oInt_int, oBool_bool, oStr_str, oSl_slc, oAgg_agg, oTup_tup, oCons_cons, oNil_nil, sl_cells, hp, List.getElem?_eq_getElem, enc_int, (impl_arityOf ok t[p] (ht.node _ (List.getElem_mem hp))).eq]
  rw [wrap_succ (by omega)]
  have loop : ∀ n k q f (out : List Int) r, k + n = ar l t[p] → n < f → skip (ar l) n (t.drop q) = some r → out.length = k →
      impl_argumentsOf.at0 4 f (impl_argumentsOf.st0 (cells t) (q : Nat) (ar l t[p] : Nat) (k : Nat) (cells l) (cells out)) = some (slc (out ++ ints (startsN l t n q)), []) := by
    intro n
    induction n with
    | zero =>
      intro k q f out r hk hf hs ho
      obtain ⟨f, rfl⟩ : ∃ x, f = x + 1 := ⟨f - 1, by omega⟩
      have : ¬ k < ar l t[p] := by omega
      simp only [impl_argumentsOf.next0, impl_argumentsOf.round0, Int.ofNat_lt, str_inj, beq_dec, bne_dec, cond_dec, cond_nt, if_true, if_false, decide_true, decide_false, cond_true, cond_false, u8_inj, cells_div, szs, sz_list, inB_nat, Int.toNat_natCast, get0, get1, get2, get3, get4, get5, get6, get7, get8, Nat.reduceLT, bind_of, List.getElem?_cons_zero, List.getElem?_cons_succ, oInt_int, oBool_bool, oStr_str, oSl_slc, oAgg_agg, oTup_tup, oCons_cons, oNil_nil, sl_cells, this, startsN, ints, List.map_nil, List.append_nil]
    | succ n ih =>
      intro k q f out r hk hf hs ho
      obtain ⟨f, rfl⟩ : ∃ x, f = x + 1 := ⟨f - 1, by omega⟩
      obtain ⟨h1, h2, h3, h4⟩ := skip_one hs
      have hlt : k < ar l t[p] := by omega
      simp only [impl_argumentsOf.next0, impl_argumentsOf.round0, Int.ofNat_lt, str_inj, beq_dec, bne_dec, cond_dec, cond_nt, if_true, if_false, decide_true, decide_false, cond_true, cond_false, u8_inj, cells_div, szs, sz_list, inB_nat, Int.toNat_natCast, get0, get1, get2, get3, get4, get5, get6, get7, get8, Nat.reduceLT, bind_of, List.getElem?_cons_zero, List.getElem?_cons_succ, oInt_int, oBool_bool, oStr_str, oSl_slc, oAgg_agg, oTup_tup, oCons_cons, oNil_nil, sl_cells, hlt, (endOf_at ok ht h1).eq, cells_snoc_int]
      rw [cond_pos (ble_ok (by rw [cells_length, sz_int]; omega)), wrap_succ (by omega)]
      by_cases hn : n = 0
      · subst hn
        obtain ⟨f, rfl⟩ : ∃ x, f = x + 1 := ⟨f - 1, by omega⟩
        have : ¬ k + 1 < ar l t[p] := by omega
        simp only [impl_argumentsOf.next0, impl_argumentsOf.round0, Int.ofNat_lt, str_inj, beq_dec, bne_dec, cond_dec, cond_nt, if_true, if_false, decide_true, decide_false, cond_true, cond_false, u8_inj, cells_div, szs, sz_list, inB_nat, Int.toNat_natCast, get0, get1, get2, get3, get4, get5, get6, get7, get8, Nat.reduceLT, bind_of, List.getElem?_cons_zero, List.getElem?_cons_succ, oInt_int, oBool_bool, oStr_str, oSl_slc, oAgg_agg, oTup_tup, oCons_cons, oNil_nil, sl_cells, this, startsN, ints, List.map_nil, List.map_cons]
      · rw [ih (k + 1) (endAt l t q) f (out ++ [(q : Int)]) r (by omega) (by omega) h2 (by simp [ho])]
        simp [startsN, ints]
  obtain ⟨r, hr⟩ := args_skip ht hp
  have hd : t.getD p 0 = t[p] := getD_at hp
  have := loop (ar l t[p]) 0 (p + 1) 4 [] r (by omega) (by omega) hr (by simp)
  unfold starts
  rw [hd]
  simpa using this
end
theorem mpAt_map : ∀ (l : List (Int × Int × Bool)) (a b : Int) (i j : Nat), (mpAt l a b i).map (·.2) = (mpAt l a b j).map (·.2)
  | [], _, _, _, _ => rfl
  | (x, y, v) :: r, a, b, i, j => by
    rw [mpAt, mpAt]
    cases (a == x && b == y) with
    | true => rfl
    | false => exact mpAt_map r a b (i + 1) (j + 1)
theorem mpFind_cons (x y : Int) (v : Bool) (r : List (Int × Int × Bool)) (a b : Int) : mpFind ((x, y, v) :: r) a b = bif a == x && b == y then some v else mpFind r a b := by
  unfold mpFind
  rw [mpAt]
  cases (a == x && b == y) with
  | true => rfl
  | false => exact mpAt_map r a b 1 0
theorem mpFind_put : ∀ (l : List (Int × Int × Bool)) (x y : Int) (v : Bool) (a b : Int), mpFind (mpPut l x y v) a b = bif a == x && b == y then some v else mpFind l a b
  | [], x, y, v, a, b => by rw [mpPut, mpFind_cons]
  | (x', y', v') :: r, x, y, v, a, b => by
    rw [mpPut]
    cases h : (x == x' && y == y') with
    | true =>
      simp only [Bool.and_eq_true, beq_iff_eq] at h
      obtain ⟨rfl, rfl⟩ := h
      rw [cond_true, mpFind_cons, mpFind_cons]
      cases (a == x && b == y) <;> rfl
    | false =>
      rw [cond_false, mpFind_cons, mpFind_cons, mpFind_put r]
      cases h1 : (a == x' && b == y') with
      | false => rfl
      | true =>
        cases h2 : (a == x && b == y) with
        | false => rfl
        | true =>
          simp only [Bool.and_eq_true, beq_iff_eq] at h1 h2
          obtain ⟨rfl, rfl⟩ := h1
          obtain ⟨rfl, rfl⟩ := h2
          simp at h
def Good (l : List Symbol) (o a b : List Int) (m : List (Int × Int × Bool)) : Prop := ∀ (p q : Nat) (v : Bool), mpFind m p q = some v → v = gt l o a b p q
theorem Good.put {l : List Symbol} {o a b : List Int} {m : List (Int × Int × Bool)} (h : Good l o a b m) (i j : Nat) : Good l o a b (mpPut m i j (gt l o a b i j)) := fun p q v hv => by
  rw [mpFind_put] at hv
  cases hc : (((p : Int) == (i : Int)) && ((q : Int) == (j : Int))) with
  | true =>
    rw [hc, cond_true] at hv
    simp only [Bool.and_eq_true, beq_iff_eq, Int.ofNat_inj] at hc
    obtain ⟨rfl, rfl⟩ := hc
    exact (Option.some.inj hv).symm
  | false => rw [hc, cond_false] at hv; exact h p q v hv
abbrev boxI (l : List Symbol) (o a b : List Int) (m : List (Int × Int × Bool)) : T := .rref [slc l, slc o, slc a, slc b, .mp m] 0
abbrev boxO (l : List Symbol) (o a b : List Int) (m : List (Int × Int × Bool)) : T := .agg [slc l, slc o, slc a, slc b, .mp m]
theorem subAt_length (l : List Symbol) (t : List Int) (p : Nat) : (subAt l t p).length ≤ t.length := by simp [subAt]; omega
section
variable {l : List Symbol} (ok : SigOk ⟨l⟩) {o a b : List Int} (ha : TermOk l a) (hb : TermOk l b)
include ok ha hb
theorem impl_comparer_same (m : List (Int × Int × Bool)) {p q : Nat} (hp : p < a.length) (hq : q < b.length) :
    LIM F.impl_comparer_same [boxI l o a b m, .int .i64 p, .int .i64 q] = some (.bool (decide (subAt l a p = subAt l b q)), [boxO l o a b m]) := by
  refine call2_of rfl 0 ((impl_comparer_same.ev _ _ _ _ _ _ _ _).trans ?_)
  have h1 := subAt_length l a p
  have h2 := ha.le
  simp only [Int.ofNat_lt, str_inj, beq_dec, bne_dec, cond_dec, cond_nt, if_true, if_false, decide_true, decide_false, cond_true, cond_false, u8_inj, cells_div, szs, sz_list, inB_nat, Int.toNat_natCast, get0, get1, get2, get3, get4, get5, get6, get7, get8, Nat.reduceLT, bind_of, List.getElem?_cons_zero, List.getElem?_cons_succ, oInt_int, oBool_bool, oStr_str, oSl_slc, oAgg_agg, oTup_tup, oCons_cons, oNil_nil, sl_cells, (impl_subterm ok ha hp).eq, (impl_subterm ok hb hq).eq, (slices_Equal_Sint64 (subAt l a p) (subAt l b q) (⟨by omega, fun _ _ => trivial⟩)).eq]
omit ok ha hb in
theorem idx_bound (p : Int → Bool) (l : List Int) : -1 ≤ idx p l ∧ idx p l ≤ l.length := by
  rcases idx_spec p l with ⟨h, _⟩ | ⟨i, hi, h, _⟩ <;> omega
def Knows (l : List Symbol) (o a b : List Int) (i j : Nat) : Prop := ∀ m, Good l o a b m → ∃ m', Good l o a b m' ∧
  LIM F.impl_comparer_greater [boxI l o a b m, .int .i64 i, .int .i64 j] = some (.bool (gt l o a b i j), [boxO l o a b m'])
omit ok ha hb in
theorem ints_get {A : List Nat} {k : Nat} (h : k < A.length) : (ints A)[k]? = some ((A[k] : Nat) : Int) := by simp [ints, h]
omit ok ha hb in
theorem ints_length (A : List Nat) : (ints A).length = A.length := by simp [ints]
theorem loop4 {A B : List Nat} (hA : ∀ p ∈ A, p < a.length) (hB : ∀ q ∈ B, q < b.length) (hAB : A.length = B.length) (hle : A.length ≤ 2) (ih : ∀ p ∈ A, ∀ q ∈ B, Knows l o a b p q) :
    ∀ n k f m, k + n = A.length → n < f → Good l o a b m → ∃ m', Good l o a b m' ∧
      impl_comparer_isGreater.at4 8 f (impl_comparer_isGreater.st4 (A.length : Nat) (k : Nat) (cells l) (cells o) (cells a) (cells b) m (cells (ints A)) (cells (ints B))) =
        some (.bool (match ((A.drop k).zip (B.drop k)).find? fun x => !decide (subAt l a x.1 = subAt l b x.2) with | some x => gt l o a b x.1 x.2 | none => false), [boxO l o a b m']) := by
  intro n
  induction n with
  | zero =>
    intro k f m hk hf hm
    obtain ⟨f, rfl⟩ : ∃ x, f = x + 1 := ⟨f - 1, by omega⟩
    have : ¬ k < A.length := by omega
    refine ⟨m, hm, ?_⟩
    simp only [impl_comparer_isGreater.next4, impl_comparer_isGreater.round4, Int.ofNat_lt, str_inj, beq_dec, bne_dec, cond_dec, cond_nt, if_true, if_false, decide_true, decide_false, cond_true, cond_false, u8_inj, cells_div, szs, sz_list, inB_nat, Int.toNat_natCast, get0, get1, get2, get3, get4, get5, get6, get7, get8, Nat.reduceLT, bind_of, List.getElem?_cons_zero, List.getElem?_cons_succ, oInt_int, oBool_bool, oStr_str, oSl_slc, oAgg_agg, oTup_tup, oCons_cons, oNil_nil, sl_cells, this, List.drop_of_length_le (show A.length ≤ k by omega), List.zip_nil_left, List.find?_nil]
  | succ n ihn =>
    intro k f m hk hf hm
    obtain ⟨f, rfl⟩ : ∃ x, f = x + 1 := ⟨f - 1, by omega⟩
    have hkA : k < A.length := by omega
    have hkB : k < B.length := by omega
    have hs := impl_comparer_same ok ha hb (o := o) m (hA _ (List.getElem_mem hkA)) (hB _ (List.getElem_mem hkB))
    rw [List.drop_eq_getElem_cons hkA, List.drop_eq_getElem_cons hkB, List.zip_cons_cons, List.find?_cons]
    by_cases e : subAt l a A[k] = subAt l b B[k]
    · obtain ⟨m', hm', h'⟩ := ihn (k + 1) f m (by omega) (by omega) hm
      refine ⟨m', hm', ?_⟩
      simp only [impl_comparer_isGreater.next4, impl_comparer_isGreater.round4, Int.ofNat_lt, str_inj, beq_dec, bne_dec, cond_dec, cond_nt, if_true, if_false, decide_true, decide_false, cond_true, cond_false, u8_inj, cells_div, szs, sz_list, inB_nat, Int.toNat_natCast, get0, get1, get2, get3, get4, get5, get6, get7, get8, Nat.reduceLT, bind_of, List.getElem?_cons_zero, List.getElem?_cons_succ, oInt_int, oBool_bool, oStr_str, oSl_slc, oAgg_agg, oTup_tup, oCons_cons, oNil_nil, sl_cells, hkA, hkB, ints_get, ints_length, enc_int, hs, e, T.isMp, T.mpL, Bool.not_true]
      rw [wrap_succ (by omega)]
      exact h'
    · obtain ⟨m', hm', h'⟩ := ih _ (List.getElem_mem hkA) _ (List.getElem_mem hkB) m hm
      refine ⟨m', hm', ?_⟩
      simp only [impl_comparer_isGreater.next4, impl_comparer_isGreater.round4, Int.ofNat_lt, str_inj, beq_dec, bne_dec, cond_dec, cond_nt, if_true, if_false, decide_true, decide_false, cond_true, cond_false, u8_inj, cells_div, szs, sz_list, inB_nat, Int.toNat_natCast, get0, get1, get2, get3, get4, get5, get6, get7, get8, Nat.reduceLT, bind_of, List.getElem?_cons_zero, List.getElem?_cons_succ, oInt_int, oBool_bool, oStr_str, oSl_slc, oAgg_agg, oTup_tup, oCons_cons, oNil_nil, sl_cells, hkA, hkB, ints_get, ints_length, enc_int, hs, e, T.isMp, T.mpL, Bool.not_false, h']
omit ok ha hb in
theorem loop2 {i : Nat} {A B : List Nat} {above : Int} {Rest : List (Int × Int × Bool) → R} (hle : B.length ≤ 2) (ih : ∀ q ∈ B, Knows l o a b i q)
    (hrest : ∀ f m, impl_comparer_isGreater.at2 8 (f + 1) (impl_comparer_isGreater.st2 (i : Nat) above (B.length : Nat) (B.length : Nat) (cells l) (cells o) (cells a) (cells b) m (cells (ints A)) (cells (ints B))) = Rest m) :
    ∀ n k f m, k + n = B.length → n < f → Good l o a b m → ∃ m', Good l o a b m' ∧
      impl_comparer_isGreater.at2 8 f (impl_comparer_isGreater.st2 (i : Nat) above (B.length : Nat) (k : Nat) (cells l) (cells o) (cells a) (cells b) m (cells (ints A)) (cells (ints B))) =
        if (B.drop k).any (fun q => !gt l o a b i q) then some (.bool false, [boxO l o a b m']) else Rest m' := by
  intro n
  induction n with
  | zero =>
    intro k f m hk hf hm
    obtain ⟨f, rfl⟩ : ∃ x, f = x + 1 := ⟨f - 1, by omega⟩
    obtain rfl : k = B.length := by omega
    refine ⟨m, hm, ?_⟩
    rw [hrest, List.drop_of_length_le (Nat.le_refl _)]; rfl
  | succ n ihn =>
    intro k f m hk hf hm
    obtain ⟨f, rfl⟩ : ∃ x, f = x + 1 := ⟨f - 1, by omega⟩
    have hkB : k < B.length := by omega
    obtain ⟨m1, hm1, h1⟩ := ih _ (List.getElem_mem hkB) m hm
    rw [List.drop_eq_getElem_cons hkB, List.any_cons]
    cases e : gt l o a b i B[k] with
    | false =>
      refine ⟨m1, hm1, ?_⟩
      simp only [impl_comparer_isGreater.next2, impl_comparer_isGreater.round2, Int.ofNat_lt, str_inj, beq_dec, bne_dec, cond_dec, cond_nt, if_true, if_false, decide_true, decide_false, cond_true, cond_false, u8_inj, cells_div, szs, sz_list, inB_nat, Int.toNat_natCast, get0, get1, get2, get3, get4, get5, get6, get7, get8, Nat.reduceLT, bind_of, List.getElem?_cons_zero, List.getElem?_cons_succ, oInt_int, oBool_bool, oStr_str, oSl_slc, oAgg_agg, oTup_tup, oCons_cons, oNil_nil, sl_cells, hkB, ints_get, ints_length, enc_int, h1, e, T.isMp, T.mpL, Bool.not_false, Bool.true_or]
    | true =>
      obtain ⟨m', hm', h'⟩ := ihn (k + 1) f m1 (by omega) (by omega) hm1
      refine ⟨m', hm', ?_⟩
      simp only [impl_comparer_isGreater.next2, impl_comparer_isGreater.round2, Int.ofNat_lt, str_inj, beq_dec, bne_dec, cond_dec, cond_nt, if_true, if_false, decide_true, decide_false, cond_true, cond_false, u8_inj, cells_div, szs, sz_list, inB_nat, Int.toNat_natCast, get0, get1, get2, get3, get4, get5, get6, get7, get8, Nat.reduceLT, bind_of, List.getElem?_cons_zero, List.getElem?_cons_succ, oInt_int, oBool_bool, oStr_str, oSl_slc, oAgg_agg, oTup_tup, oCons_cons, oNil_nil, sl_cells, hkB, ints_get, ints_length, enc_int, h1, e, T.isMp, T.mpL, Bool.not_true, Bool.false_or]
      rw [wrap_succ (by omega)]
      exact h'
theorem loop0 {i j : Nat} {x y : Int} {A B : List Nat} {Rest : List (Int × Int × Bool) → R} (hj : j < b.length) (hA : ∀ p ∈ A, p < a.length) (hle : A.length ≤ 2) (ih : ∀ p ∈ A, Knows l o a b p j)
    (hrest : ∀ f m, impl_comparer_isGreater.at0 8 (f + 1) (impl_comparer_isGreater.st0 (i : Nat) (j : Nat) x y (A.length : Nat) (A.length : Nat) (cells l) (cells o) (cells a) (cells b) m (cells (ints A)) (cells (ints B))) = Rest m) :
    ∀ n k f m, k + n = A.length → n < f → Good l o a b m → ∃ m', Good l o a b m' ∧
      impl_comparer_isGreater.at0 8 f (impl_comparer_isGreater.st0 (i : Nat) (j : Nat) x y (A.length : Nat) (k : Nat) (cells l) (cells o) (cells a) (cells b) m (cells (ints A)) (cells (ints B))) =
        if (A.drop k).any (fun p => decide (subAt l a p = subAt l b j) || gt l o a b p j) then some (.bool true, [boxO l o a b m']) else Rest m' := by
  intro n
  induction n with
  | zero =>
    intro k f m hk hf hm
    obtain ⟨f, rfl⟩ : ∃ x, f = x + 1 := ⟨f - 1, by omega⟩
    obtain rfl : k = A.length := by omega
    refine ⟨m, hm, ?_⟩
    rw [hrest, List.drop_of_length_le (Nat.le_refl _)]; rfl
  | succ n ihn =>
    intro k f m hk hf hm
    obtain ⟨f, rfl⟩ : ∃ x, f = x + 1 := ⟨f - 1, by omega⟩
    have hkA : k < A.length := by omega
    have hs := impl_comparer_same ok ha hb (o := o) m (hA _ (List.getElem_mem hkA)) hj
    rw [List.drop_eq_getElem_cons hkA, List.any_cons]
    by_cases e : subAt l a A[k] = subAt l b j
    · refine ⟨m, hm, ?_⟩
      simp only [impl_comparer_isGreater.next0, impl_comparer_isGreater.round0, Int.ofNat_lt, str_inj, beq_dec, bne_dec, cond_dec, cond_nt, if_true, if_false, decide_true, decide_false, cond_true, cond_false, u8_inj, cells_div, szs, sz_list, inB_nat, Int.toNat_natCast, get0, get1, get2, get3, get4, get5, get6, get7, get8, Nat.reduceLT, bind_of, List.getElem?_cons_zero, List.getElem?_cons_succ, oInt_int, oBool_bool, oStr_str, oSl_slc, oAgg_agg, oTup_tup, oCons_cons, oNil_nil, sl_cells, hkA, ints_get, ints_length, enc_int, hs, e, T.isMp, T.mpL, Bool.true_or]
    · obtain ⟨m1, hm1, h1⟩ := ih _ (List.getElem_mem hkA) m hm
      cases e2 : gt l o a b A[k] j with
      | true =>
        refine ⟨m1, hm1, ?_⟩
        simp only [impl_comparer_isGreater.next0, impl_comparer_isGreater.round0, Int.ofNat_lt, str_inj, beq_dec, bne_dec, cond_dec, cond_nt, if_true, if_false, decide_true, decide_false, cond_true, cond_false, u8_inj, cells_div, szs, sz_list, inB_nat, Int.toNat_natCast, get0, get1, get2, get3, get4, get5, get6, get7, get8, Nat.reduceLT, bind_of, List.getElem?_cons_zero, List.getElem?_cons_succ, oInt_int, oBool_bool, oStr_str, oSl_slc, oAgg_agg, oTup_tup, oCons_cons, oNil_nil, sl_cells, hkA, ints_get, ints_length, enc_int, hs, e, h1, e2, T.isMp, T.mpL, Bool.true_or, Bool.or_true]
      | false =>
        obtain ⟨m', hm', h'⟩ := ihn (k + 1) f m1 (by omega) (by omega) hm1
        refine ⟨m', hm', ?_⟩
        simp only [impl_comparer_isGreater.next0, impl_comparer_isGreater.round0, Int.ofNat_lt, str_inj, beq_dec, bne_dec, cond_dec, cond_nt, if_true, if_false, decide_true, decide_false, cond_true, cond_false, u8_inj, cells_div, szs, sz_list, inB_nat, Int.toNat_natCast, get0, get1, get2, get3, get4, get5, get6, get7, get8, Nat.reduceLT, bind_of, List.getElem?_cons_zero, List.getElem?_cons_succ, oInt_int, oBool_bool, oStr_str, oSl_slc, oAgg_agg, oTup_tup, oCons_cons, oNil_nil, sl_cells, hkA, ints_get, ints_length, enc_int, hs, e, h1, e2, T.isMp, T.mpL, Bool.false_or, Bool.or_false]
        rw [wrap_succ (by omega)]
        exact h'
omit ok ha hb in
theorem rank_inj {x y : Int} (hx : x ∈ o) (h : rank o x = rank o y) : x = y := by
  unfold rank at h
  rcases idx_spec (fun z : Int => decide (z = x)) o with ⟨h1, hno⟩ | ⟨i, hi, h1, hy1, _⟩
  · have := hno x hx; simp at this
  · rcases idx_spec (fun z : Int => decide (z = y)) o with ⟨h2, _⟩ | ⟨i', hi', h2, hy2, _⟩
    · omega
    · have : i = i' := by omega
      subst this
      simp at hy1 hy2
      rw [← hy1, ← hy2]
omit ok ha hb in
theorem starts_le (ok : SigOk ⟨l⟩) (t : List Int) (p : Nat) : (starts l t p).length ≤ 2 := by
  unfold starts; rw [startsN_length]; exact ar_le ok _
theorem impl_comparer_isGreater (hol : o.length ≤ 1048576) (ho : ∀ n : Int, 0 ≤ n → n < l.length → n ∈ o) {i j : Nat} (hi : i < a.length) (hj : j < b.length)
    (ih : ∀ p q, i ≤ p → j ≤ q → p < a.length → q < b.length → (i < p ∨ j < q) → Knows l o a b p q) (m : List (Int × Int × Bool)) (hm : Good l o a b m) : ∃ m', Good l o a b m' ∧
      LIM F.impl_comparer_isGreater [boxI l o a b m, .int .i64 i, .int .i64 j] = some (.bool (cell l o a b (gt l o a b) i j), [boxO l o a b m']) := by
  have hai : a.getD i 0 = a[i] := getD_at hi
  have hbj : b.getD j 0 = b[j] := getD_at hj
  have hla := ha.le
  have hlb := hb.le
  have hsl := subAt_length l a i
  unfold cell
  rw [hai, hbj]
  by_cases hy : b[j] < 0
  · refine ⟨m, hm, call2_of rfl 8 ((impl_comparer_isGreater.ev _ _ _ _ _ _ _ _).trans ?_)⟩
    by_cases hx : 0 ≤ a[i]
    · have hx' : a[i] ≥ 0 := hx
      simp only [Int.ofNat_lt, str_inj, beq_dec, bne_dec, cond_dec, cond_nt, if_true, if_false, decide_true, decide_false, cond_true, cond_false, u8_inj, cells_div, szs, sz_list, inB_nat, Int.toNat_natCast, get0, get1, get2, get3, get4, get5, get6, get7, get8, Nat.reduceLT, bind_of, List.getElem?_cons_zero, List.getElem?_cons_succ, oInt_int, oBool_bool, oStr_str, oSl_slc, oAgg_agg, oTup_tup, oCons_cons, oNil_nil, sl_cells, hi, hj, List.getElem?_eq_getElem, enc_int, hy, hx', hx, (impl_subterm ok ha hi).eq, (slices_Contains_Sint64 (subAt l a i) b[j] (by omega)).eq, Bool.true_and]
    · have hx' : ¬ a[i] ≥ 0 := hx
      simp only [Int.ofNat_lt, str_inj, beq_dec, bne_dec, cond_dec, cond_nt, if_true, if_false, decide_true, decide_false, cond_true, cond_false, u8_inj, cells_div, szs, sz_list, inB_nat, Int.toNat_natCast, get0, get1, get2, get3, get4, get5, get6, get7, get8, Nat.reduceLT, bind_of, List.getElem?_cons_zero, List.getElem?_cons_succ, oInt_int, oBool_bool, oStr_str, oSl_slc, oAgg_agg, oTup_tup, oCons_cons, oNil_nil, sl_cells, hi, hj, List.getElem?_eq_getElem, enc_int, hy, hx', hx, Bool.false_and]
  by_cases hx : a[i] < 0
  · refine ⟨m, hm, call2_of rfl 8 ((impl_comparer_isGreater.ev _ _ _ _ _ _ _ _).trans ?_)⟩
    simp only [Int.ofNat_lt, str_inj, beq_dec, bne_dec, cond_dec, cond_nt, if_true, if_false, decide_true, decide_false, cond_true, cond_false, u8_inj, cells_div, szs, sz_list, inB_nat, Int.toNat_natCast, get0, get1, get2, get3, get4, get5, get6, get7, get8, Nat.reduceLT, bind_of, List.getElem?_cons_zero, List.getElem?_cons_succ, oInt_int, oBool_bool, oStr_str, oSl_slc, oAgg_agg, oTup_tup, oCons_cons, oNil_nil, sl_cells, hi, hj, List.getElem?_eq_getElem, enc_int, hy, hx]
  have hA : ∀ p ∈ starts l a i, i < p ∧ p < a.length := fun p hp => starts_mem ha hi hp
  have hB : ∀ q ∈ starts l b j, j < q ∧ q < b.length := fun q hq => starts_mem hb hj hq
  have hAl := starts_le ok a i
  have hBl := starts_le ok b j
  have rx : -1 ≤ rank o a[i] ∧ rank o a[i] ≤ o.length := idx_bound _ o
  have ry : -1 ≤ rank o b[j] ∧ rank o b[j] ≤ o.length := idx_bound _ o
  have ix : Call F.slices_Index_Sint64 [slc o, .int .i64 a[i]] (.int .i64 (rank o a[i])) := slices_Index_Sint64 o a[i] (by omega)
  have iy : Call F.slices_Index_Sint64 [slc o, .int .i64 b[j]] (.int .i64 (rank o b[j])) := slices_Index_Sint64 o b[j] (by omega)
  have hw : IntKind.wrap .i64 (rank o a[i] - rank o b[j]) = rank o a[i] - rank o b[j] := wrap64 (by omega)
  generalize hAA : starts l a i = A at hA hAl
  generalize hBB : starts l b j = B at hB hBl
  let Rest2 : List (Int × Int × Bool) → R := fun m => if rank o b[j] < rank o a[i] then some (.bool true, [boxO l o a b m]) else
    impl_comparer_isGreater.at4 8 8 (impl_comparer_isGreater.st4 (A.length : Nat) 0 (cells l) (cells o) (cells a) (cells b) m (cells (ints A)) (cells (ints B)))
  let Rest0 : List (Int × Int × Bool) → R := fun m => if rank o a[i] < rank o b[j] then some (.bool false, [boxO l o a b m]) else
    impl_comparer_isGreater.at2 8 8 (impl_comparer_isGreater.st2 (i : Nat) (rank o a[i] - rank o b[j]) (B.length : Nat) 0 (cells l) (cells o) (cells a) (cells b) m (cells (ints A)) (cells (ints B)))
  obtain ⟨m0, hm0, e0⟩ := loop0 ok ha hb (o := o) (i := i) (j := j) (x := a[i]) (y := b[j]) (A := A) (B := B) (Rest := Rest0) hj (fun p hp => (hA p hp).2) hAl
    (fun p hp => ih p j (by have := hA p hp; omega) (Nat.le_refl _) (hA p hp).2 hj (.inl (hA p hp).1)) (fun f m => by
      simp only [impl_comparer_isGreater.next0, impl_comparer_isGreater.round0, Int.ofNat_lt, str_inj, beq_dec, bne_dec, cond_dec, cond_nt, if_true, if_false, decide_true, decide_false, cond_true, cond_false, u8_inj, cells_div, szs, sz_list, inB_nat, Int.toNat_natCast, get0, get1, get2, get3, get4, get5, get6, get7, get8, Nat.reduceLT, bind_of, List.getElem?_cons_zero, List.getElem?_cons_succ, oInt_int, oBool_bool, oStr_str, oSl_slc, oAgg_agg, oTup_tup, oCons_cons, oNil_nil, sl_cells, Nat.lt_irrefl, ix.eq, iy.eq, hw, ints_length, Rest0]
      by_cases hr : rank o a[i] < rank o b[j]
      · rw [if_pos (by omega), if_pos hr]
      · rw [if_neg (by omega), if_neg hr]) A.length 0 8 m (by omega) (by omega) hm
  have hmain : callK prog Ev.A H LIM 8 F.impl_comparer_isGreater [boxI l o a b m, .int .i64 i, .int .i64 j] = if A.any (fun p => decide (subAt l a p = subAt l b j) || gt l o a b p j) = true then some (.bool true, [boxO l o a b m0]) else Rest0 m0 := by
    refine (impl_comparer_isGreater.ev _ _ _ _ _ _ _ _).trans ?_
    simp only [Int.ofNat_lt, str_inj, beq_dec, bne_dec, cond_dec, cond_nt, if_true, if_false, decide_true, decide_false, cond_true, cond_false, u8_inj, cells_div, szs, sz_list, inB_nat, Int.toNat_natCast, get0, get1, get2, get3, get4, get5, get6, get7, get8, Nat.reduceLT, bind_of, List.getElem?_cons_zero, List.getElem?_cons_succ, oInt_int, oBool_bool, oStr_str, oSl_slc, oAgg_agg, oTup_tup, oCons_cons, oNil_nil, sl_cells, hi, hj, List.getElem?_eq_getElem, enc_int, hy, hx, (impl_argumentsOf ok ha hi).eq, (impl_argumentsOf ok hb hj).eq, hAA, hBB, ints_length]
    simpa using e0
  by_cases c1 : A.any (fun p => decide (subAt l a p = subAt l b j) || gt l o a b p j) = true
  · refine ⟨m0, hm0, call2_of rfl 8 (hmain.trans ?_)⟩
    simp only [c1, hy, hx, if_true, if_false]
  rw [if_neg c1] at hmain
  by_cases c2 : rank o a[i] < rank o b[j]
  · refine ⟨m0, hm0, call2_of rfl 8 (hmain.trans ?_)⟩
    simp only [Rest0, c1, c2, hy, hx, if_true, if_false]
    rfl
  obtain ⟨m2, hm2, e2⟩ := loop2 (o := o) (a := a) (b := b) (l := l) (i := i) (A := A) (B := B) (above := rank o a[i] - rank o b[j]) (Rest := Rest2) hBl
    (fun q hq => ih i q (Nat.le_refl _) (by have := hB q hq; omega) hi (hB q hq).2 (.inr (hB q hq).1)) (fun f m => by
      simp only [impl_comparer_isGreater.next2, impl_comparer_isGreater.round2, Int.ofNat_lt, str_inj, beq_dec, bne_dec, cond_dec, cond_nt, if_true, if_false, decide_true, decide_false, cond_true, cond_false, u8_inj, cells_div, szs, sz_list, inB_nat, Int.toNat_natCast, get0, get1, get2, get3, get4, get5, get6, get7, get8, Nat.reduceLT, bind_of, List.getElem?_cons_zero, List.getElem?_cons_succ, oInt_int, oBool_bool, oStr_str, oSl_slc, oAgg_agg, oTup_tup, oCons_cons, oNil_nil, sl_cells, Nat.lt_irrefl, ints_length, Rest2]
      by_cases hr : rank o b[j] < rank o a[i]
      · rw [if_pos (by omega), if_pos hr]
      · rw [if_neg (by omega), if_neg hr]) B.length 0 8 m0 (by omega) (by omega) hm0
  have hmain2 : callK prog Ev.A H LIM 8 F.impl_comparer_isGreater [boxI l o a b m, .int .i64 i, .int .i64 j] = if B.any (fun q => !gt l o a b i q) = true then some (.bool false, [boxO l o a b m2]) else Rest2 m2 := by
    rw [hmain]
    simp only [Rest0, if_neg c2]
    simpa using e2
  by_cases c3 : B.any (fun q => !gt l o a b i q) = true
  · refine ⟨m2, hm2, call2_of rfl 8 (hmain2.trans ?_)⟩
    simp only [c1, c2, c3, hy, hx, if_true, if_false]
    rfl
  rw [if_neg c3] at hmain2
  by_cases c4 : rank o b[j] < rank o a[i]
  · refine ⟨m2, hm2, call2_of rfl 8 (hmain2.trans ?_)⟩
    simp only [Rest2, c1, c2, c3, c4, hy, hx, if_true, if_false]
    rfl
  have hxy : a[i] = b[j] := by
    have n1 := nodeOk_iff.1 (ha.node _ (List.getElem_mem hi))
    have n2 := nodeOk_iff.1 (hb.node _ (List.getElem_mem hj))
    exact rank_inj (ho _ (by omega) (by omega)) (by omega)
  have hAB : A.length = B.length := by
    rw [← hAA, ← hBB]; unfold starts
    rw [startsN_length, startsN_length, hai, hbj, hxy]
  obtain ⟨m4, hm4, e4⟩ := loop4 ok ha hb (o := o) (A := A) (B := B) (fun p hp => (hA p hp).2) (fun q hq => (hB q hq).2) hAB hAl
    (fun p hp q hq => ih p q (by have := hA p hp; omega) (by have := hB q hq; omega) (hA p hp).2 (hB q hq).2 (.inl (hA p hp).1)) A.length 0 8 m2 (by omega) (by omega) hm2
  refine ⟨m4, hm4, call2_of rfl 8 (hmain2.trans ?_)⟩
  simp only [Rest2, c1, c2, c3, c4, hy, hx, if_true, if_false]
  simpa using e4
theorem knows (hol : o.length ≤ 1048576) (ho : ∀ n : Int, 0 ≤ n → n < l.length → n ∈ o) : ∀ (d i j : Nat), i < a.length → j < b.length → (a.length - i) + (b.length - j) ≤ d → Knows l o a b i j := by
  intro d
  induction d with
  | zero => intros; omega
  | succ d ihd =>
    intro i j hi hj hd m hm
    cases hf : mpFind m (i : Int) (j : Int) with
    | some v =>
      refine ⟨m, hm, call2_of rfl 0 ((impl_comparer_greater.ev _ _ _ _ _ _ _ _).trans ?_)⟩
      have := hm i j v hf
      simp only [hf, Option.isSome_some, Option.getD_some, cond_true, this, sl_cells, sz_Symbol, sz_int]
    | none =>
      obtain ⟨m', hm', h'⟩ := impl_comparer_isGreater ok ha hb hol ho hi hj (fun p q h1 h2 h3 h4 h5 => ihd p q h3 h4 (by omega)) m hm
      rw [← gt_eq ha hb hi hj] at h'
      refine ⟨_, hm'.put i j, call2_of rfl 0 ((impl_comparer_greater.ev _ _ _ _ _ _ _ _).trans ?_)⟩
      simp only [Int.ofNat_lt, str_inj, beq_dec, bne_dec, cond_dec, cond_nt, if_true, if_false, decide_true, decide_false, cond_true, cond_false, u8_inj, cells_div, szs, sz_list, inB_nat, Int.toNat_natCast, get0, get1, get2, get3, get4, get5, get6, get7, get8, Nat.reduceLT, bind_of, List.getElem?_cons_zero, List.getElem?_cons_succ, oInt_int, oBool_bool, oStr_str, oSl_slc, oAgg_agg, oTup_tup, oCons_cons, oNil_nil, sl_cells, hf, Option.isSome_none, h', T.isMp, T.mpL]
theorem impl_isGreater (hol : o.length ≤ 1048576) (ho : ∀ n : Int, 0 ≤ n → n < l.length → n ∈ o) : Call F.impl_isGreater [.agg [slc l], slc o, slc a, slc b] (.bool (gt l o a b 0 0)) := by
  have h1 := ha.pos
  have h2 := hb.pos
  obtain ⟨m', _, h'⟩ := knows ok ha hb hol ho (a.length + b.length) 0 0 (by omega) (by omega) (by omega) [] (fun p q v hv => by simp [mpFind, mpAt] at hv)
  refine call_of rfl 0 ((impl_isGreater.ev _ _ _ _ _).trans ?_)
  have h' : LIM F.impl_comparer_greater [boxI l o a b [], .int .i64 0, .int .i64 0] = some (.bool (gt l o a b 0 0), [boxO l o a b m']) := h'
  simp only [Int.ofNat_lt, str_inj, beq_dec, bne_dec, cond_dec, cond_nt, if_true, if_false, decide_true, decide_false, cond_true, cond_false, u8_inj, cells_div, szs, sz_list, inB_nat, Int.toNat_natCast, get0, get1, get2, get3, get4, get5, get6, get7, get8, Nat.reduceLT, bind_of, List.getElem?_cons_zero, List.getElem?_cons_succ, oInt_int, oBool_bool, oStr_str, oSl_slc, oAgg_agg, oTup_tup, oCons_cons, oNil_nil, sl_cells, h', T.isMp, T.mpL]
end
theorem spec_l2Rank (o : List Int) (x : Int) (hl : o.length ≤ 4294967296) : Call F.spec_l2Rank [slc o, .int .i64 x] (.int .i64 (rank o x)) := by
  refine call_of rfl (o.length + 1) ((spec_l2Rank.ev _ _ _).trans ?_)
  refine idx_loop (S := fun m k => spec_l2Rank.at0 (o.length + 1) m (spec_l2Rank.st0 (cells o) x (k : Nat))) (fun m k h => ?_) (fun m => ?_) (Nat.lt_succ_self _)
  · have hlk : o[k]? = some o[k] := List.getElem?_eq_getElem h
    simp only [spec_l2Rank.next0, spec_l2Rank.round0, Int.ofNat_lt, str_inj, beq_dec, bne_dec, cond_dec, cond_nt, if_true, if_false, decide_true, decide_false, cond_true, cond_false, u8_inj, cells_div, szs, sz_list, inB_nat, Int.toNat_natCast, get0, get1, get2, get3, get4, get5, get6, get7, get8, Nat.reduceLT, bind_of, List.getElem?_cons_zero, List.getElem?_cons_succ, oInt_int, oBool_bool, oStr_str, oSl_slc, oAgg_agg, oTup_tup, oCons_cons, oNil_nil, sl_cells, h, hlk, enc_int, decide_eq_true_eq]
    rw [wrap_succ (by omega)]
  · simp only [spec_l2Rank.next0, spec_l2Rank.round0, Int.ofNat_lt, str_inj, beq_dec, bne_dec, cond_dec, cond_nt, if_true, if_false, decide_true, decide_false, cond_true, cond_false, u8_inj, cells_div, szs, sz_list, inB_nat, Int.toNat_natCast, get0, get1, get2, get3, get4, get5, get6, get7, get8, Nat.reduceLT, bind_of, List.getElem?_cons_zero, List.getElem?_cons_succ, oInt_int, oBool_bool, oStr_str, oSl_slc, oAgg_agg, oTup_tup, oCons_cons, oNil_nil, sl_cells, Nat.lt_irrefl]
section
variable {l : List Symbol} (ok : SigOk ⟨l⟩)
include ok
theorem spec_l7Starts {t : List Int} (ht : TermOk l t) {p : Nat} (hp : p < t.length) (hn : 0 ≤ t[p]) : Call F.spec_l7Starts [.rref [slc l] 0, slc t, .int .i64 p] (slc (ints (starts l t p))) := by
  have hle := ht.le
  have har := ar_le (l := l) ok t[p]
  have hnode := nodeOk_iff.1 (ht.node _ (List.getElem_mem hp))
  have hls : l.length ≤ 6 := ok.le
  obtain ⟨u, hu⟩ : ∃ u : Nat, t[p] = u := ⟨t[p].toNat, by omega⟩
  have hul : u < l.length := by omega
  have hare : (l[u]).arity = (ar l t[p] : Nat) := by
    have := ar_eq ok (n := t[p]) hn (by rw [hu]; simpa using hul)
    simpa [hu] using this
  refine call_of rfl 4 ((spec_l7Starts.ev _ _ _ _).trans ?_)
  rw [wrap_succ (by omega)]
  have loop : ∀ n k q f (out : List Int) r, k + n = ar l t[p] → n < f → skip (ar l) n (t.drop q) = some r → out.length = k →
      spec_l7Starts.at0 4 f (spec_l7Starts.st0 (cells l) (cells t) (p : Nat) (q : Nat) (k : Nat) (cells out)) = some (slc (out ++ ints (startsN l t n q)), []) := by
    intro n
    induction n with
    | zero =>
      intro k q f out r hk hf hs ho
      obtain ⟨f, rfl⟩ : ∃ x, f = x + 1 := ⟨f - 1, by omega⟩
      have : ¬ k < ar l t[p] := by omega
      simp only [spec_l7Starts.next0, spec_l7Starts.round0, Int.ofNat_lt, str_inj, beq_dec, bne_dec, cond_dec, cond_nt, if_true, if_false, decide_true, decide_false, cond_true, cond_false, u8_inj, cells_div, szs, sz_list, inB_nat, Int.toNat_natCast, get0, get1, get2, get3, get4, get5, get6, get7, get8, Nat.reduceLT, bind_of, List.getElem?_cons_zero, List.getElem?_cons_succ, oInt_int, oBool_bool, oStr_str, oSl_slc, oAgg_agg, oTup_tup, oCons_cons, oNil_nil, sl_cells, hp, List.getElem?_eq_getElem, enc_int, hu, hul, enc_Symbol, hare, startsN, ints, List.map_nil, List.append_nil]
      rw [← hu, if_neg this]
    | succ n ih =>
      intro k q f out r hk hf hs ho
      obtain ⟨f, rfl⟩ : ∃ x, f = x + 1 := ⟨f - 1, by omega⟩
      obtain ⟨h1, h2, h3, h4⟩ := skip_one hs
      have hlt : k < ar l t[p] := by omega
      simp only [spec_l7Starts.next0, spec_l7Starts.round0, Int.ofNat_lt, str_inj, beq_dec, bne_dec, cond_dec, cond_nt, if_true, if_false, decide_true, decide_false, cond_true, cond_false, u8_inj, cells_div, szs, sz_list, inB_nat, Int.toNat_natCast, get0, get1, get2, get3, get4, get5, get6, get7, get8, Nat.reduceLT, bind_of, List.getElem?_cons_zero, List.getElem?_cons_succ, oInt_int, oBool_bool, oStr_str, oSl_slc, oAgg_agg, oTup_tup, oCons_cons, oNil_nil, sl_cells, hp, List.getElem?_eq_getElem, enc_int, hu, hul, enc_Symbol, hare, (l3End_at ok ht h1).eq, cells_snoc_int]
      rw [← hu, if_pos hlt, cond_pos (ble_ok (by rw [cells_length, sz_int]; omega)), wrap_succ (by omega), ih (k + 1) (endAt l t q) f (out ++ [(q : Int)]) r (by omega) (by omega) h2 (by simp [ho])]
      simp [startsN, ints]
  obtain ⟨r, hr⟩ := args_skip ht hp
  have hd : t.getD p 0 = t[p] := getD_at hp
  have := loop (ar l t[p]) 0 (p + 1) 4 [] r (by omega) (by omega) hr (by simp)
  unfold starts
  rw [hd]
  simpa using this
theorem spec_l7Equal {a b : List Int} (ha : TermOk l a) (hb : TermOk l b) {i j : Nat} (hi : i < a.length) (hj : j < b.length) : Call F.spec_l7Equal [.rref [slc l] 0, slc a, .int .i64 i, slc b, .int .i64 j] (.bool (decide (subAt l a i = subAt l b j))) := by
  refine call_of rfl 0 ((spec_l7Equal.ev _ _ _ _ _ _).trans ?_)
  obtain ⟨h1, h2, _⟩ := endAt_spec ha hi
  obtain ⟨h3, h4, _⟩ := endAt_spec hb hj
  have h5 := subAt_length l a i
  have h6 := ha.le
  have hs := (spec_l1Same (subAt l a i) (subAt l b j) ⟨by omega, fun _ _ => trivial⟩).eq
  simp only [Int.ofNat_lt, str_inj, beq_dec, bne_dec, cond_dec, cond_nt, if_true, if_false, decide_true, decide_false, cond_true, cond_false, u8_inj, cells_div, szs, sz_list, inB_nat, Int.toNat_natCast, get0, get1, get2, get3, get4, get5, get6, get7, get8, Nat.reduceLT, bind_of, List.getElem?_cons_zero, List.getElem?_cons_succ, oInt_int, oBool_bool, oStr_str, oSl_slc, oAgg_agg, oTup_tup, oCons_cons, oNil_nil, sl_cells, (l3End_at ok ha hi).eq, (l3End_at ok hb hj).eq]
  rw [cond_pos (by simp; omega), cond_pos (by simp; omega), slc_cut, slc_cut]
  unfold subAt at hs ⊢
  simp only [hs, Int.ofNat_lt, str_inj, beq_dec, bne_dec, cond_dec, cond_nt, if_true, if_false, decide_true, decide_false, cond_true, cond_false, u8_inj, cells_div, szs, sz_list, inB_nat, Int.toNat_natCast, get0, get1, get2, get3, get4, get5, get6, get7, get8, Nat.reduceLT, bind_of, List.getElem?_cons_zero, List.getElem?_cons_succ, oInt_int, oBool_bool, oStr_str, oSl_slc, oAgg_agg, oTup_tup, oCons_cons, oNil_nil, sl_cells]
omit ok in
theorem sz_bool : Enc.sz Bool = 1 := rfl
omit ok in
theorem enc_bool (b : Bool) : enc b = [.bool b] := rfl
omit ok in
theorem bget {T : List Bool} {k : Nat} (h : k < T.length) : (cells T)[k * 1]? = some (.bool (T.getD k false)) := by
  rw [get0 (l := T) (k := 1) (i := k) rfl, List.getElem?_eq_getElem h, List.getD_eq_getElem?_getD, List.getElem?_eq_getElem h]; rfl
omit ok in
theorem bgetD {T : List Bool} {k : Nat} (h : k < T.length) : T[k]? = some (T.getD k false) := by
  rw [List.getElem?_eq_getElem h, List.getD_eq_getElem?_getD, List.getElem?_eq_getElem h]; rfl
omit ok in
theorem at_bound {i j la lb : Nat} (hi : i < la) (hj : j < lb) : i * lb + j < la * lb := by
  have : i * lb + lb ≤ la * lb := by rw [← Nat.succ_mul]; exact Nat.mul_le_mul_right _ hi
  omega
omit ok in
theorem at_wrap {i j la lb : Nat} (hi : i < la) (hj : j < lb) (ha : la ≤ 24) (hb : lb ≤ 24) : IntKind.wrap .i64 (IntKind.wrap .i64 ((i : Int) * (lb : Int)) + (j : Int)) = ((i * lb + j : Nat) : Int) := by
  have h1 := at_bound hi hj
  have h2 : la * lb ≤ 24 * 24 := Nat.mul_le_mul ha hb
  have e1 : IntKind.wrap .i64 ((i : Int) * (lb : Int)) = ((i * lb : Nat) : Int) := by rw [← Int.natCast_mul]; exact wrap64 (by omega)
  rw [e1, ← Int.natCast_add]; exact wrap64 (by omega)
section
variable {o a b : List Int} (ha : TermOk l a) (hb : TermOk l b) {T : List Bool} (hT : T.length = a.length * b.length)
include ha hb hT
theorem cell4 {A B : List Nat} (hAl : A.length ≤ 2) (hA : ∀ p ∈ A, p < a.length) (hB : ∀ q ∈ B, q < b.length) :
    ∀ n k f, k + n = A.length → n < f →
      spec_l7Cell.at4 8 f (spec_l7Cell.st4 (cells l) (cells a) (cells b) (cells T) (b.length : Nat) (k : Nat) (cells (ints A)) (cells (ints B))) =
        some (.bool (match ((A.drop k).zip (B.drop k)).find? fun x => !decide (subAt l a x.1 = subAt l b x.2) with | some x => T.getD (x.1 * b.length + x.2) false | none => false), []) := by
  have hla := ha.le
  have hlb := hb.le
  intro n
  induction n with
  | zero =>
    intro k f hk hf
    obtain ⟨f, rfl⟩ : ∃ x, f = x + 1 := ⟨f - 1, by omega⟩
    have : ¬ k < A.length := by omega
    simp only [spec_l7Cell.next4, spec_l7Cell.round4, Int.ofNat_lt, str_inj, beq_dec, bne_dec, cond_dec, cond_nt, if_true, if_false, decide_true, decide_false, cond_true, cond_false, u8_inj, cells_div, szs, sz_list, inB_nat, Int.toNat_natCast, get0, get1, get2, get3, get4, get5, get6, get7, get8, Nat.reduceLT, bind_of, List.getElem?_cons_zero, List.getElem?_cons_succ, oInt_int, oBool_bool, oStr_str, oSl_slc, oAgg_agg, oTup_tup, oCons_cons, oNil_nil, sl_cells, ints_length, this, List.drop_of_length_le (show A.length ≤ k by omega), List.zip_nil_left, List.find?_nil]
  | succ n ihn =>
    intro k f hk hf
    obtain ⟨f, rfl⟩ : ∃ x, f = x + 1 := ⟨f - 1, by omega⟩
    have hkA : k < A.length := by omega
    by_cases hkB : k < B.length
    · have hp := hA _ (List.getElem_mem hkA)
      have hq := hB _ (List.getElem_mem hkB)
      have hs := (spec_l7Equal ok ha hb hp hq).eq
      rw [List.drop_eq_getElem_cons hkA, List.drop_eq_getElem_cons hkB, List.zip_cons_cons, List.find?_cons]
      by_cases e : subAt l a A[k] = subAt l b B[k]
      · have := ihn (k + 1) f (by omega) (by omega)
        simp only [spec_l7Cell.next4, spec_l7Cell.round4, Int.ofNat_lt, str_inj, beq_dec, bne_dec, cond_dec, cond_nt, if_true, if_false, decide_true, decide_false, cond_true, cond_false, u8_inj, cells_div, szs, sz_list, inB_nat, Int.toNat_natCast, get0, get1, get2, get3, get4, get5, get6, get7, get8, Nat.reduceLT, bind_of, List.getElem?_cons_zero, List.getElem?_cons_succ, oInt_int, oBool_bool, oStr_str, oSl_slc, oAgg_agg, oTup_tup, oCons_cons, oNil_nil, sl_cells, hkA, hkB, ints_get, ints_length, enc_int, hs, e, Bool.not_true]
        rw [wrap_succ (by omega)]
        exact this
      · have hin : A[k] * b.length + B[k] < T.length := by rw [hT]; exact at_bound hp hq
        simp only [spec_l7Cell.next4, spec_l7Cell.round4, Int.ofNat_lt, str_inj, beq_dec, bne_dec, cond_dec, cond_nt, if_true, if_false, decide_true, decide_false, cond_true, cond_false, u8_inj, cells_div, szs, sz_list, inB_nat, Int.toNat_natCast, get0, get1, get2, get3, get4, get5, get6, get7, get8, Nat.reduceLT, bind_of, List.getElem?_cons_zero, List.getElem?_cons_succ, oInt_int, oBool_bool, oStr_str, oSl_slc, oAgg_agg, oTup_tup, oCons_cons, oNil_nil, sl_cells, hkA, hkB, ints_get, ints_length, enc_int, hs, e, Bool.not_false, at_wrap hp hq hla hlb, hin, bgetD hin, enc_bool, sz_bool]
    · simp only [spec_l7Cell.next4, spec_l7Cell.round4, Int.ofNat_lt, str_inj, beq_dec, bne_dec, cond_dec, cond_nt, if_true, if_false, decide_true, decide_false, cond_true, cond_false, u8_inj, cells_div, szs, sz_list, inB_nat, Int.toNat_natCast, get0, get1, get2, get3, get4, get5, get6, get7, get8, Nat.reduceLT, bind_of, List.getElem?_cons_zero, List.getElem?_cons_succ, oInt_int, oBool_bool, oStr_str, oSl_slc, oAgg_agg, oTup_tup, oCons_cons, oNil_nil, sl_cells, hkA, hkB, ints_get, ints_length, List.drop_of_length_le (show B.length ≤ k by omega), List.zip_nil_right, List.find?_nil]
omit ok in
theorem cell2 {i j : Nat} {A B : List Nat} {Rest : R} (hi : i < a.length) (hB : ∀ q ∈ B, q < b.length) (hBl : B.length ≤ 2)
    (hrest : ∀ f, spec_l7Cell.at2 8 (f + 1) (spec_l7Cell.st2 (cells l) (cells a) (cells b) (i : Nat) (j : Nat) (cells T) (b.length : Nat) (B.length : Nat) (cells (ints A)) (cells (ints B))) = Rest) :
    ∀ n k f, k + n = B.length → n < f →
      spec_l7Cell.at2 8 f (spec_l7Cell.st2 (cells l) (cells a) (cells b) (i : Nat) (j : Nat) (cells T) (b.length : Nat) (k : Nat) (cells (ints A)) (cells (ints B))) =
        if (B.drop k).any (fun q => !T.getD (i * b.length + q) false) then some (.bool false, []) else Rest := by
  have hla := ha.le
  have hlb := hb.le
  intro n
  induction n with
  | zero =>
    intro k f hk hf
    obtain ⟨f, rfl⟩ : ∃ x, f = x + 1 := ⟨f - 1, by omega⟩
    obtain rfl : k = B.length := by omega
    rw [hrest, List.drop_of_length_le (Nat.le_refl _)]; rfl
  | succ n ihn =>
    intro k f hk hf
    obtain ⟨f, rfl⟩ : ∃ x, f = x + 1 := ⟨f - 1, by omega⟩
    have hkB : k < B.length := by omega
    have hq := hB _ (List.getElem_mem hkB)
    have hin : i * b.length + B[k] < T.length := by rw [hT]; exact at_bound hi hq
    have := ihn (k + 1) f (by omega) (by omega)
    rw [List.drop_eq_getElem_cons hkB, List.any_cons]
    simp only [spec_l7Cell.next2, spec_l7Cell.round2, Int.ofNat_lt, str_inj, beq_dec, bne_dec, cond_dec, cond_nt, if_true, if_false, decide_true, decide_false, cond_true, cond_false, u8_inj, cells_div, szs, sz_list, inB_nat, Int.toNat_natCast, get0, get1, get2, get3, get4, get5, get6, get7, get8, Nat.reduceLT, bind_of, List.getElem?_cons_zero, List.getElem?_cons_succ, oInt_int, oBool_bool, oStr_str, oSl_slc, oAgg_agg, oTup_tup, oCons_cons, oNil_nil, sl_cells, hkB, ints_get, ints_length, enc_int, at_wrap hi hq hla hlb, hin, bgetD hin, enc_bool, sz_bool]
    cases T.getD (i * b.length + B[k]) false with
    | false => simp
    | true =>
      rw [wrap_succ (by omega)]
      simp only [Int.ofNat_lt, str_inj, beq_dec, bne_dec, cond_dec, cond_nt, if_true, if_false, decide_true, decide_false, cond_true, cond_false, u8_inj, cells_div, szs, sz_list, inB_nat, Int.toNat_natCast, get0, get1, get2, get3, get4, get5, get6, get7, get8, Nat.reduceLT, bind_of, List.getElem?_cons_zero, List.getElem?_cons_succ, oInt_int, oBool_bool, oStr_str, oSl_slc, oAgg_agg, oTup_tup, oCons_cons, oNil_nil, sl_cells, Bool.not_true, Bool.false_or]
      exact this
theorem cell0 {o : List Int} {i j : Nat} {A : List Nat} {Rest : R} (hj : j < b.length) (hA : ∀ p ∈ A, p < a.length) (hAl : A.length ≤ 2)
    (hrest : ∀ f, spec_l7Cell.at0 8 (f + 1) (spec_l7Cell.st0 (cells l) (cells o) (cells a) (cells b) (i : Nat) (j : Nat) (cells T) (b.length : Nat) (A.length : Nat) (cells (ints A))) = Rest) :
    ∀ n k f, k + n = A.length → n < f →
      spec_l7Cell.at0 8 f (spec_l7Cell.st0 (cells l) (cells o) (cells a) (cells b) (i : Nat) (j : Nat) (cells T) (b.length : Nat) (k : Nat) (cells (ints A))) =
        if (A.drop k).any (fun p => decide (subAt l a p = subAt l b j) || T.getD (p * b.length + j) false) then some (.bool true, []) else Rest := by
  have hla := ha.le
  have hlb := hb.le
  intro n
  induction n with
  | zero =>
    intro k f hk hf
    obtain ⟨f, rfl⟩ : ∃ x, f = x + 1 := ⟨f - 1, by omega⟩
    obtain rfl : k = A.length := by omega
    rw [hrest, List.drop_of_length_le (Nat.le_refl _)]; rfl
  | succ n ihn =>
    intro k f hk hf
    obtain ⟨f, rfl⟩ : ∃ x, f = x + 1 := ⟨f - 1, by omega⟩
    have hkA : k < A.length := by omega
    have hp := hA _ (List.getElem_mem hkA)
    have hin : A[k] * b.length + j < T.length := by rw [hT]; exact at_bound hp hj
    have := ihn (k + 1) f (by omega) (by omega)
    rw [List.drop_eq_getElem_cons hkA, List.any_cons]
    simp only [spec_l7Cell.next0, spec_l7Cell.round0, Int.ofNat_lt, str_inj, beq_dec, bne_dec, cond_dec, cond_nt, if_true, if_false, decide_true, decide_false, cond_true, cond_false, u8_inj, cells_div, szs, sz_list, inB_nat, Int.toNat_natCast, get0, get1, get2, get3, get4, get5, get6, get7, get8, Nat.reduceLT, bind_of, List.getElem?_cons_zero, List.getElem?_cons_succ, oInt_int, oBool_bool, oStr_str, oSl_slc, oAgg_agg, oTup_tup, oCons_cons, oNil_nil, sl_cells, hkA, ints_get, ints_length, enc_int, at_wrap hp hj hla hlb, hin, bgetD hin, enc_bool, sz_bool, (spec_l7Equal ok ha hb hp hj).eq]
    cases T.getD (A[k] * b.length + j) false with
    | true => simp
    | false =>
      by_cases e : subAt l a A[k] = subAt l b j
      · simp [e]
      · rw [wrap_succ (by omega)]
        simp only [Int.ofNat_lt, str_inj, beq_dec, bne_dec, cond_dec, cond_nt, if_true, if_false, decide_true, decide_false, cond_true, cond_false, u8_inj, cells_div, szs, sz_list, inB_nat, Int.toNat_natCast, get0, get1, get2, get3, get4, get5, get6, get7, get8, Nat.reduceLT, bind_of, List.getElem?_cons_zero, List.getElem?_cons_succ, oInt_int, oBool_bool, oStr_str, oSl_slc, oAgg_agg, oTup_tup, oCons_cons, oNil_nil, sl_cells, e, Bool.or_false, Bool.false_or]
        exact this
theorem spec_l7Cell (hol : o.length ≤ 1048576) (ho : ∀ n : Int, 0 ≤ n → n < l.length → n ∈ o) {i j : Nat} (hi : i < a.length) (hj : j < b.length) :
    Call F.spec_l7Cell [.rref [slc l] 0, slc o, slc a, slc b, .int .i64 i, .int .i64 j, slc T] (.bool (cell l o a b (fun p q => T.getD (p * b.length + q) false) i j)) := by
  have hai : a.getD i 0 = a[i] := getD_at hi
  have hbj : b.getD j 0 = b[j] := getD_at hj
  have hla := ha.le
  have hlb := hb.le
  have hsl := subAt_length l a i
  obtain ⟨h1, h2, _⟩ := endAt_spec ha hi
  unfold cell
  rw [hai, hbj]
  refine call_of rfl 8 ((spec_l7Cell.ev _ _ _ _ _ _ _ _).trans ?_)
  by_cases hy : b[j] < 0
  · by_cases hx : 0 ≤ a[i]
    · have hx' : a[i] ≥ 0 := hx
      have hc := (spec_l3Count (subAt l a i) b[j] (by omega)).eq
      have hm : decide (((List.count b[j] (subAt l a i) : Nat) : Int) > 0) = decide (b[j] ∈ subAt l a i) := by
        rw [decide_eq_decide, ← List.count_pos_iff]; omega
      simp only [Int.ofNat_lt, str_inj, beq_dec, bne_dec, cond_dec, cond_nt, if_true, if_false, decide_true, decide_false, cond_true, cond_false, u8_inj, cells_div, szs, sz_list, inB_nat, Int.toNat_natCast, get0, get1, get2, get3, get4, get5, get6, get7, get8, Nat.reduceLT, bind_of, List.getElem?_cons_zero, List.getElem?_cons_succ, oInt_int, oBool_bool, oStr_str, oSl_slc, oAgg_agg, oTup_tup, oCons_cons, oNil_nil, sl_cells, hi, hj, List.getElem?_eq_getElem, enc_int, hy, hx', hx, (l3End_at ok ha hi).eq, Bool.true_and]
      rw [cond_pos (by simp; omega), slc_cut]
      unfold subAt at hc hm ⊢
      simp only [hc, Int.ofNat_lt, str_inj, beq_dec, bne_dec, cond_dec, cond_nt, if_true, if_false, decide_true, decide_false, cond_true, cond_false, u8_inj, cells_div, szs, sz_list, inB_nat, Int.toNat_natCast, get0, get1, get2, get3, get4, get5, get6, get7, get8, Nat.reduceLT, bind_of, List.getElem?_cons_zero, List.getElem?_cons_succ, oInt_int, oBool_bool, oStr_str, oSl_slc, oAgg_agg, oTup_tup, oCons_cons, oNil_nil, sl_cells, hm]
    · have hx' : ¬ a[i] ≥ 0 := hx
      simp only [Int.ofNat_lt, str_inj, beq_dec, bne_dec, cond_dec, cond_nt, if_true, if_false, decide_true, decide_false, cond_true, cond_false, u8_inj, cells_div, szs, sz_list, inB_nat, Int.toNat_natCast, get0, get1, get2, get3, get4, get5, get6, get7, get8, Nat.reduceLT, bind_of, List.getElem?_cons_zero, List.getElem?_cons_succ, oInt_int, oBool_bool, oStr_str, oSl_slc, oAgg_agg, oTup_tup, oCons_cons, oNil_nil, sl_cells, hi, hj, List.getElem?_eq_getElem, enc_int, hy, hx', hx, Bool.false_and]
  by_cases hx : a[i] < 0
  · simp only [Int.ofNat_lt, str_inj, beq_dec, bne_dec, cond_dec, cond_nt, if_true, if_false, decide_true, decide_false, cond_true, cond_false, u8_inj, cells_div, szs, sz_list, inB_nat, Int.toNat_natCast, get0, get1, get2, get3, get4, get5, get6, get7, get8, Nat.reduceLT, bind_of, List.getElem?_cons_zero, List.getElem?_cons_succ, oInt_int, oBool_bool, oStr_str, oSl_slc, oAgg_agg, oTup_tup, oCons_cons, oNil_nil, sl_cells, hi, hj, List.getElem?_eq_getElem, enc_int, hy, hx]
  have hA : ∀ p ∈ starts l a i, i < p ∧ p < a.length := fun p hp => starts_mem ha hi hp
  have hB : ∀ q ∈ starts l b j, j < q ∧ q < b.length := fun q hq => starts_mem hb hj hq
  have hAl := starts_le ok a i
  have hBl := starts_le ok b j
  have ix := (spec_l2Rank o a[i] (by omega)).eq
  have iy := (spec_l2Rank o b[j] (by omega)).eq
  have sa := (spec_l7Starts ok ha hi (by omega)).eq
  have sb := (spec_l7Starts ok hb hj (by omega)).eq
  have hne : (rank o b[j] < rank o a[i]) ↔ (¬ rank o a[i] < rank o b[j]) ∧ a[i] ≠ b[j] := by
    have n1 := nodeOk_iff.1 (ha.node _ (List.getElem_mem hi))
    constructor
    · intro h
      refine ⟨by omega, fun e => ?_⟩
      rw [e] at h; omega
    · rintro ⟨h1, h2⟩
      rcases Int.lt_or_le (rank o b[j]) (rank o a[i]) with h | h
      · exact h
      · exact absurd (rank_inj (ho _ (by omega) (by omega)) (by omega)) h2
  generalize hAA : starts l a i = A at hA hAl sa
  generalize hBB : starts l b j = B at hB hBl sb
  have e4 := cell4 ok ha hb hT (A := A) (B := B) hAl (fun p hp => (hA p hp).2) (fun q hq => (hB q hq).2) A.length 0 8 (by omega) (by omega)
  let Rest2 : R := if a[i] ≠ b[j] then some (.bool true, []) else some (.bool (match ((A.drop 0).zip (B.drop 0)).find? fun x => !decide (subAt l a x.1 = subAt l b x.2) with | some x => T.getD (x.1 * b.length + x.2) false | none => false), [])
  have e2 := cell2 (l := l) ha hb hT (i := i) (j := j) (A := A) (B := B) (Rest := Rest2) hi (fun q hq => (hB q hq).2) hBl (fun f => by
    simp only [spec_l7Cell.next2, spec_l7Cell.round2, Int.ofNat_lt, str_inj, beq_dec, bne_dec, cond_dec, cond_nt, if_true, if_false, decide_true, decide_false, cond_true, cond_false, u8_inj, cells_div, szs, sz_list, inB_nat, Int.toNat_natCast, get0, get1, get2, get3, get4, get5, get6, get7, get8, Nat.reduceLT, bind_of, List.getElem?_cons_zero, List.getElem?_cons_succ, oInt_int, oBool_bool, oStr_str, oSl_slc, oAgg_agg, oTup_tup, oCons_cons, oNil_nil, sl_cells, Nat.lt_irrefl, ints_length, hi, hj, List.getElem?_eq_getElem, enc_int, Rest2]
    by_cases e : a[i] = b[j]
    · simp only [e, Int.ofNat_lt, str_inj, beq_dec, bne_dec, cond_dec, cond_nt, if_true, if_false, decide_true, decide_false, cond_true, cond_false, u8_inj, cells_div, szs, sz_list, inB_nat, Int.toNat_natCast, get0, get1, get2, get3, get4, get5, get6, get7, get8, Nat.reduceLT, bind_of, List.getElem?_cons_zero, List.getElem?_cons_succ, oInt_int, oBool_bool, oStr_str, oSl_slc, oAgg_agg, oTup_tup, oCons_cons, oNil_nil, sl_cells]
      rw [if_neg (fun h => h rfl)]
      exact e4
    · simp [e]) B.length 0 8 (by omega) (by omega)
  let Rest0 : R := if rank o a[i] < rank o b[j] then some (.bool false, []) else if (B.drop 0).any (fun q => !T.getD (i * b.length + q) false) then some (.bool false, []) else Rest2
  have e0 := cell0 ok ha hb hT (o := o) (i := i) (j := j) (A := A) (Rest := Rest0) hj (fun p hp => (hA p hp).2) hAl (fun f => by
    simp only [spec_l7Cell.next0, spec_l7Cell.round0, Int.ofNat_lt, str_inj, beq_dec, bne_dec, cond_dec, cond_nt, if_true, if_false, decide_true, decide_false, cond_true, cond_false, u8_inj, cells_div, szs, sz_list, inB_nat, Int.toNat_natCast, get0, get1, get2, get3, get4, get5, get6, get7, get8, Nat.reduceLT, bind_of, List.getElem?_cons_zero, List.getElem?_cons_succ, oInt_int, oBool_bool, oStr_str, oSl_slc, oAgg_agg, oTup_tup, oCons_cons, oNil_nil, sl_cells, Nat.lt_irrefl, ints_length, hi, hj, List.getElem?_eq_getElem, enc_int, ix, iy, sb, Rest0]
    by_cases hr : rank o a[i] < rank o b[j]
    · rw [if_pos hr, if_pos hr]
    · rw [if_neg hr, if_neg hr]
      exact e2) A.length 0 8 (by omega) (by omega)
  simp only [Int.ofNat_lt, str_inj, beq_dec, bne_dec, cond_dec, cond_nt, if_true, if_false, decide_true, decide_false, cond_true, cond_false, u8_inj, cells_div, szs, sz_list, inB_nat, Int.toNat_natCast, get0, get1, get2, get3, get4, get5, get6, get7, get8, Nat.reduceLT, bind_of, List.getElem?_cons_zero, List.getElem?_cons_succ, oInt_int, oBool_bool, oStr_str, oSl_slc, oAgg_agg, oTup_tup, oCons_cons, oNil_nil, sl_cells, hi, hj, List.getElem?_eq_getElem, enc_int, hy, hx, sa]
  refine Eq.trans e0 ?_
  simp only [Rest0, Rest2, List.drop_zero]
  by_cases c1 : A.any (fun p => decide (subAt l a p = subAt l b j) || T.getD (p * b.length + j) false) = true
  · rw [if_pos c1, if_pos c1]
  rw [if_neg c1, if_neg c1]
  by_cases c2 : rank o a[i] < rank o b[j]
  · rw [if_pos c2, if_pos c2]
  rw [if_neg c2, if_neg c2]
  by_cases c3 : B.any (fun q => !T.getD (i * b.length + q) false) = true
  · rw [if_pos c3, if_pos c3]
  rw [if_neg c3, if_neg c3]
  by_cases c4 : rank o b[j] < rank o a[i]
  · rw [if_pos c4, if_pos (hne.1 c4).2]
  · rw [if_neg c4, if_neg (fun h => c4 (hne.2 ⟨c2, h⟩))]
end
omit ok in
theorem set_Bool {T : List Bool} {k : Nat} (h : k < T.length) (v : Bool) : setCells (cells T) (k * 1) [.bool v] = cells (T.set k v) := cells_set T 1 k rfl v h
omit ok in
theorem rep_Bool (n : Nat) : repT n [.bool false] = cells (List.replicate n false) := cells_rep n false
def Done (l : List Symbol) (o a b : List Int) (T : List Bool) (n : Nat) : Prop :=
  T.length = a.length * b.length ∧ ∀ p q, p < a.length → q < b.length → n ≤ p * b.length + q → T.getD (p * b.length + q) false = gt l o a b p q
omit ok in
theorem at_inj {n p q i j : Nat} (hq : q < n) (hj : j < n) (h : p * n + q = i * n + j) : p = i ∧ q = j := by
  rcases Nat.lt_trichotomy p i with h1 | h1 | h1
  · have : (p + 1) * n ≤ i * n := Nat.mul_le_mul_right _ h1
    rw [Nat.succ_mul] at this; omega
  · subst h1; exact ⟨rfl, by omega⟩
  · have : (i + 1) * n ≤ p * n := Nat.mul_le_mul_right _ h1
    rw [Nat.succ_mul] at this; omega
omit ok in
theorem Done.cell {o a b : List Int} (ha : TermOk l a) (hb : TermOk l b) {T : List Bool} {i j : Nat} (hi : i < a.length) (hj : j < b.length) (h : Done l o a b T (i * b.length + (j + 1))) :
    cell l o a b (fun p q => T.getD (p * b.length + q) false) i j = gt l o a b i j := by
  rw [gt_eq ha hb hi hj]
  refine cell_congr ha hb hi hj fun p q h1 h2 h3 h4 h5 => h.2 p q h3 h4 ?_
  have h6 : i * b.length ≤ p * b.length := Nat.mul_le_mul_right _ h1
  rcases h5 with h5 | h5
  · have : (i + 1) * b.length ≤ p * b.length := Nat.mul_le_mul_right _ h5
    rw [Nat.succ_mul] at this; omega
  · omega
omit ok in
theorem Done.set {o a b : List Int} {T : List Bool} {i j : Nat} (hi : i < a.length) (hj : j < b.length) (h : Done l o a b T (i * b.length + (j + 1))) : Done l o a b (T.set (i * b.length + j) (gt l o a b i j)) (i * b.length + j) := by
  have hin := at_bound hi hj
  refine ⟨by rw [List.length_set]; exact h.1, fun p q hp hq hle => ?_⟩
  by_cases e : i * b.length + j = p * b.length + q
  · obtain ⟨rfl, rfl⟩ := at_inj hq hj e.symm
    simp [List.getD_eq_getElem?_getD, h.1, hin]
  · have := h.2 p q hp hq (by omega)
    rw [← this, List.getD_eq_getElem?_getD, List.getD_eq_getElem?_getD, List.getElem?_set_ne e]
theorem table2 {o a b : List Int} (ha : TermOk l a) (hb : TermOk l b) (hol : o.length ≤ 1048576) (ho : ∀ n : Int, 0 ≤ n → n < l.length → n ∈ o) (L0 : St → R) {i : Nat} (hi : i < a.length) :
    ∀ (k f : Nat) (T : List Bool), k ≤ b.length → k < f → Done l o a b T (i * b.length + k) → ∃ T', Done l o a b T' (i * b.length) ∧
      spec_l7Table.at2 25 L0 f (spec_l7Table.st2 (cells l) (cells o) (cells a) (cells b) (b.length : Nat) (i : Nat) ((k : Int) - 1) (cells T)) =
        L0 (spec_l7Table.st0 (cells l) (cells o) (cells a) (cells b) (b.length : Nat) ((i : Int) - 1) (cells T')) := by
  have hla := ha.le
  have hlb := hb.le
  intro k
  induction k with
  | zero =>
    intro f T hk hf hd
    obtain ⟨f, rfl⟩ : ∃ x, f = x + 1 := ⟨f - 1, by omega⟩
    refine ⟨T, by simpa using hd, ?_⟩
    have h1 : ¬ (((0 : Nat) : Int) - 1 ≥ 0) := by omega
    simp only [spec_l7Table.next2, spec_l7Table.round2, cond_dec]
    rw [if_neg h1, wrap64 (by omega)]
  | succ k ih =>
    intro f T hk hf hd
    obtain ⟨f, rfl⟩ : ∃ x, f = x + 1 := ⟨f - 1, by omega⟩
    have hj : k < b.length := by omega
    have hin : i * b.length + k < T.length := by rw [hd.1]; exact at_bound hi hj
    obtain ⟨T', hd', h'⟩ := ih f (T.set (i * b.length + k) (gt l o a b i k)) (by omega) (by omega) (hd.set hi hj)
    refine ⟨T', hd', ?_⟩
    have e : ((k + 1 : Nat) : Int) - 1 = (k : Int) := by omega
    have hc := spec_l7Cell ok ha hb hd.1 hol ho hi hj
    rw [hd.cell ha hb hi hj] at hc
    have h1 : (k : Int) ≥ 0 := by omega
    rw [e]
    simp only [spec_l7Table.next2, spec_l7Table.round2, Int.ofNat_lt, str_inj, beq_dec, bne_dec, cond_dec, cond_nt, if_true, if_false, decide_true, decide_false, cond_true, cond_false, u8_inj, cells_div, szs, sz_list, inB_nat, Int.toNat_natCast, get0, get1, get2, get3, get4, get5, get6, get7, get8, Nat.reduceLT, bind_of, List.getElem?_cons_zero, List.getElem?_cons_succ, oInt_int, oBool_bool, oStr_str, oSl_slc, oAgg_agg, oTup_tup, oCons_cons, oNil_nil, sl_cells, h1, hc.eq, at_wrap hi hj hla hlb, hin, sz_bool]
    rw [wrap64 (by omega), if_pos (by rw [cells_length, sz_bool]; omega), set_Bool hin]
    exact h'
theorem spec_l7Table {o a b : List Int} (ha : TermOk l a) (hb : TermOk l b) (hol : o.length ≤ 1048576) (ho : ∀ n : Int, 0 ≤ n → n < l.length → n ∈ o) :
    ∃ T, Done l o a b T 0 ∧ Call F.spec_l7Table [.rref [slc l] 0, slc o, slc a, slc b] (slc T) := by
  have hla := ha.le
  have hlb := hb.le
  have outer : ∀ (m f : Nat) (T : List Bool), m ≤ a.length → m < f → Done l o a b T (m * b.length) → ∃ T', Done l o a b T' 0 ∧
      spec_l7Table.at0 25 f (spec_l7Table.st0 (cells l) (cells o) (cells a) (cells b) (b.length : Nat) ((m : Int) - 1) (cells T)) = some (slc T', []) := by
    intro m
    induction m with
    | zero =>
      intro f T hm hf hd
      obtain ⟨f, rfl⟩ : ∃ x, f = x + 1 := ⟨f - 1, by omega⟩
      refine ⟨T, by simpa using hd, ?_⟩
      have h1 : ¬ (((0 : Nat) : Int) - 1 ≥ 0) := by omega
      simp only [spec_l7Table.next0, spec_l7Table.round0, cond_dec]
      rw [if_neg h1]; rfl
    | succ m ih =>
      intro f T hm hf hd
      obtain ⟨f, rfl⟩ : ∃ x, f = x + 1 := ⟨f - 1, by omega⟩
      have e : ((m + 1 : Nat) : Int) - 1 = (m : Int) := by omega
      have h1 : (m : Int) ≥ 0 := by omega
      obtain ⟨T1, hd1, h1'⟩ := table2 ok ha hb hol ho (spec_l7Table.at0 25 f) (i := m) (by omega) b.length 25 T (Nat.le_refl _) (by omega) (by rw [← Nat.succ_mul]; exact hd)
      obtain ⟨T', hd', h'⟩ := ih f T1 (by omega) (by omega) hd1
      refine ⟨T', hd', ?_⟩
      rw [e]
      simp only [spec_l7Table.next0, spec_l7Table.round0, cond_dec]
      rw [if_pos h1, wrap64 (by omega), h1', h']
  have hmul : a.length * b.length ≤ 24 * 24 := Nat.mul_le_mul hla hlb
  obtain ⟨T, hd, h⟩ := outer a.length 25 (List.replicate (a.length * b.length) false) (Nat.le_refl _) (by omega) ⟨by simp, fun p q hp hq hle => by have := at_bound hp hq; omega⟩
  refine ⟨T, hd, call_of rfl 25 ((spec_l7Table.ev _ _ _ _ _).trans ?_)⟩
  have hw : IntKind.wrap .i64 ((a.length : Int) * (b.length : Int)) = ((a.length * b.length : Nat) : Int) := by rw [← Int.natCast_mul]; exact wrap64 (by omega)
  simp only [cells_div, sz_int, hw, Int.toNat_natCast, rep_Bool]
  rw [cond_pos (by simp; omega), wrap64 (by omega)]
  exact h
theorem spec_l7Over {o a b : List Int} (ha : TermOk l a) (hb : TermOk l b) (hol : o.length ≤ 1048576) (ho : ∀ n : Int, 0 ≤ n → n < l.length → n ∈ o) :
    Call F.spec_l7Over [.rref [slc l] 0, slc o, slc a, slc b] (.bool (gt l o a b 0 0)) := by
  obtain ⟨T, hd, h⟩ := spec_l7Table ok ha hb hol ho
  have h1 := ha.pos
  have h2 := hb.pos
  have hT : 0 < T.length := by rw [hd.1]; exact Nat.mul_pos h1 h2
  have h3 := hd.2 0 0 h1 h2 (Nat.zero_le _)
  simp only [Nat.zero_mul, Nat.add_zero] at h3
  refine call_of rfl 0 ((spec_l7Over.ev _ _ _ _ _).trans ?_)
  have hg := bget (T := T) (k := 0) hT
  rw [Nat.zero_mul, h3] at hg
  simp only [Int.ofNat_lt, str_inj, beq_dec, bne_dec, cond_dec, cond_nt, if_true, if_false, decide_true, decide_false, cond_true, cond_false, u8_inj, cells_div, szs, sz_list, inB_nat, Int.toNat_natCast, get0, get1, get2, get3, get4, get5, get6, get7, get8, Nat.reduceLT, bind_of, List.getElem?_cons_zero, List.getElem?_cons_succ, oInt_int, oBool_bool, oStr_str, oSl_slc, oAgg_agg, oTup_tup, oCons_cons, oNil_nil, sl_cells, h.eq, sz_bool, hg]
  rw [show inB (0 : Int) T.length = true from (inB_nat 0 T.length).trans (by simpa using hT)]
  rfl
end
end Ev.Ty
end

section
namespace Ev.Ty
open Go Ev
open Enc (enc)
open Sm (sm)
set_option linter.unusedSimpArgs false
set_option linter.unusedVariables false
def orderF (l : List Symbol) (o : List Int) : Int := if o.length ≠ l.length then 2 else if (o.any fun n => !inR n 0 (l.length - 1)) = true then 3 else if twice o = true then 6 else 0
def orderFault (s : Signature) (o : List Int) : Int := if sigFault s ≠ 0 then sigFault s else orderF s.symbols o
theorem pigeon : ∀ (k : Nat) (o : List Int), o.Nodup → (∀ n ∈ o, 0 ≤ n ∧ n < k) → o.length ≤ k
  | 0, o, _, h => by
    cases o with
    | nil => simp
    | cons x o => have := h x (by simp); omega
  | k + 1, o, hn, h => by
    by_cases hk : (k : Int) ∈ o
    · have h1 := List.length_erase_of_mem hk
      have := pigeon k (o.erase (k : Int)) (hn.erase _) fun n hm => by
        have hm' := (hn.mem_erase_iff).1 hm
        have := h n hm'.2
        omega
      omega
    · have := pigeon k o hn fun n hm => by
        have := h n hm
        have : n ≠ (k : Int) := fun e => hk (e ▸ hm)
        omega
      omega
theorem orderOk {l : List Symbol} {o : List Int} (h : orderF l o = 0) : o.length = l.length ∧ ∀ n : Int, 0 ≤ n → n < l.length → n ∈ o := by
  unfold orderF at h
  split at h
  · cases h
  rename_i h1
  split at h
  · cases h
  rename_i h2
  split at h
  · cases h
  rename_i h3
  have h1 : o.length = l.length := by omega
  refine ⟨h1, fun n hn hl => Classical.byContradiction fun hno => ?_⟩
  have hnd : o.Nodup := by
    unfold twice at h3
    simpa using h3
  have hr : ∀ m ∈ o, 0 ≤ m ∧ m < l.length := fun m hm => by
    simp only [List.any_eq_true, not_exists, not_and, Bool.not_eq_true', Bool.not_eq_false] at h2
    have := inR_iff.1 (h2 m hm)
    omega
  have := pigeon l.length (n :: o) (List.nodup_cons.2 ⟨hno, hnd⟩) fun m hm => by
    rcases List.mem_cons.1 hm with rfl | hm
    · exact ⟨hn, hl⟩
    · exact hr m hm
  simp at this
  omega
theorem impl_isSymbol {l : List Symbol} (hs : l.length ≤ 4294967296) (n : Int) : Call F.impl_isSymbol [.agg [slc l], .int .i64 n] (.bool (inR n 0 (l.length - 1))) := by
  refine call_of rfl 0 ((impl_isSymbol.ev _ _ _).trans ?_)
  simp only [Int.ofNat_lt, str_inj, beq_dec, bne_dec, cond_dec, cond_nt, if_true, if_false, decide_true, decide_false, cond_true, cond_false, u8_inj, cells_div, szs, sz_list, inB_nat, Int.toNat_natCast, get0, get1, get2, get3, get4, get5, get6, get7, get8, Nat.reduceLT, bind_of, List.getElem?_cons_zero, List.getElem?_cons_succ, oInt_int, oBool_bool, oStr_str, oSl_slc, oAgg_agg, oTup_tup, oCons_cons, oNil_nil, sl_cells, wrap64 (x := (l.length : Int) - 1) (by omega), (impl_within _ _ _).eq]
theorem spec_l2Symbol {l : List Symbol} (hs : l.length ≤ 4294967296) (n : Int) : Call F.spec_l2Symbol [.rref [slc l] 0, .int .i64 n] (.bool (inR n 0 (l.length - 1))) := by
  refine call_of rfl 0 ((spec_l2Symbol.ev _ _ _).trans ?_)
  simp only [Int.ofNat_lt, str_inj, beq_dec, bne_dec, cond_dec, cond_nt, if_true, if_false, decide_true, decide_false, cond_true, cond_false, u8_inj, cells_div, szs, sz_list, inB_nat, Int.toNat_natCast, get0, get1, get2, get3, get4, get5, get6, get7, get8, Nat.reduceLT, bind_of, List.getElem?_cons_zero, List.getElem?_cons_succ, oInt_int, oBool_bool, oStr_str, oSl_slc, oAgg_agg, oTup_tup, oCons_cons, oNil_nil, sl_cells, wrap64 (x := (l.length : Int) - 1) (by omega), (spec_l1In _ _ _).eq]
theorem take_mem_pairs (o : List Int) : ((List.range o.length).any fun k => o[k]?.any fun x => decide (x ∈ o.take k)) = twice o := by
  have := twice_pairs (fun x : Int => x) o
  rw [List.map_id'] at this
  rw [← this, Bool.eq_iff_iff]
  simp only [List.any_eq_true, List.mem_range]
  constructor
  · rintro ⟨k, hk, h⟩
    rw [List.getElem?_eq_getElem hk, Option.any_some, decide_eq_true_iff] at h
    obtain ⟨j, hj, he⟩ := List.getElem_of_mem h
    rw [List.length_take] at hj
    rw [List.getElem_take] at he
    refine ⟨k, hk, j, by omega, ?_⟩
    rw [List.getElem?_eq_getElem hk, List.getElem?_eq_getElem (show j < o.length by omega)]
    simp [he]
  · rintro ⟨i, hi, j, hj, h⟩
    rw [List.getElem?_eq_getElem hi, List.getElem?_eq_getElem (show j < o.length by omega)] at h
    refine ⟨i, hi, ?_⟩
    rw [List.getElem?_eq_getElem hi, Option.any_some, decide_eq_true_iff]
    have he : o[i] = o[j] := by simpa using h
    rw [he]
    exact List.mem_take_iff_getElem.2 ⟨j, by omega, rfl⟩
theorem impl_OrderFault (l : List Symbol) (hs : l.length ≤ 4294967296) (o : List Int) (ho : o.length ≤ 4294967296) : Call F.impl_OrderFault [.agg [slc l], slc o] (.int .i64 (orderFault ⟨l⟩ o)) := by
  have hi : Call F.slices_IndexFunc_Sint64 [slc o, .clo F.impl_OrderFault_1 [.rref [slc l] 0]] (.int .i64 (idx (fun n => !inR n 0 (l.length - 1)) o)) := by
    refine call_of rfl (o.length + 1) ((slices_IndexFunc_Sint64_at1_impl_OrderFault_1.ev _ _ _).trans ?_)
    simp only [Int.ofNat_lt, str_inj, beq_dec, bne_dec, cond_dec, cond_nt, if_true, if_false, decide_true, decide_false, cond_true, cond_false, u8_inj, cells_div, szs, sz_list, inB_nat, Int.toNat_natCast, get0, get1, get2, get3, get4, get5, get6, get7, get8, Nat.reduceLT, bind_of, List.getElem?_cons_zero, List.getElem?_cons_succ, oInt_int, oBool_bool, oStr_str, oSl_slc, oAgg_agg, oTup_tup, oCons_cons, oNil_nil, sl_cells]
    refine idx_loop (S := fun m k => slices_IndexFunc_Sint64_at1_impl_OrderFault_1.at0 (o.length + 1) m (slices_IndexFunc_Sint64_at1_impl_OrderFault_1.st0 (cells o) (cells l) o.length (k : Nat))) (fun m k h => ?_) (fun m => ?_) (Nat.lt_succ_self _)
    · have hlk : o[k]? = some o[k] := List.getElem?_eq_getElem h
      have hc : Call F.impl_OrderFault_1 [.int .i64 o[k], .rref [slc l] 0] (.bool (!inR o[k] 0 (l.length - 1))) := by
        refine call_of rfl 0 ((impl_OrderFault_1.ev _ _ _).trans ?_)
        simp only [Int.ofNat_lt, str_inj, beq_dec, bne_dec, cond_dec, cond_nt, if_true, if_false, decide_true, decide_false, cond_true, cond_false, u8_inj, cells_div, szs, sz_list, inB_nat, Int.toNat_natCast, get0, get1, get2, get3, get4, get5, get6, get7, get8, Nat.reduceLT, bind_of, List.getElem?_cons_zero, List.getElem?_cons_succ, oInt_int, oBool_bool, oStr_str, oSl_slc, oAgg_agg, oTup_tup, oCons_cons, oNil_nil, sl_cells, (impl_isSymbol hs _).eq]
      simp only [slices_IndexFunc_Sint64_at1_impl_OrderFault_1.next0, slices_IndexFunc_Sint64_at1_impl_OrderFault_1.round0, Int.ofNat_lt, str_inj, beq_dec, bne_dec, cond_dec, cond_nt, if_true, if_false, decide_true, decide_false, cond_true, cond_false, u8_inj, cells_div, szs, sz_list, inB_nat, Int.toNat_natCast, get0, get1, get2, get3, get4, get5, get6, get7, get8, Nat.reduceLT, bind_of, List.getElem?_cons_zero, List.getElem?_cons_succ, oInt_int, oBool_bool, oStr_str, oSl_slc, oAgg_agg, oTup_tup, oCons_cons, oNil_nil, sl_cells, h, hlk, enc_int, hc.eq]
      rw [wrap_succ (by omega)]
      cases inR o[k] 0 (l.length - 1) <;> rfl
    · simp only [slices_IndexFunc_Sint64_at1_impl_OrderFault_1.next0, slices_IndexFunc_Sint64_at1_impl_OrderFault_1.round0, Int.ofNat_lt, str_inj, beq_dec, bne_dec, cond_dec, cond_nt, if_true, if_false, decide_true, decide_false, cond_true, cond_false, u8_inj, cells_div, szs, sz_list, inB_nat, Int.toNat_natCast, get0, get1, get2, get3, get4, get5, get6, get7, get8, Nat.reduceLT, bind_of, List.getElem?_cons_zero, List.getElem?_cons_succ, oInt_int, oBool_bool, oStr_str, oSl_slc, oAgg_agg, oTup_tup, oCons_cons, oNil_nil, sl_cells, Nat.lt_irrefl]
  have hc : Call F.slices_ContainsFunc_Sint64 [slc o, .clo F.impl_OrderFault_1 [.rref [slc l] 0]] (.bool (o.any fun n => !inR n 0 (l.length - 1))) := by
    refine call_of rfl 0 ((slices_ContainsFunc_Sint64_at1_impl_OrderFault_1.ev _ _ _).trans ?_)
    simp only [Int.ofNat_lt, str_inj, beq_dec, bne_dec, cond_dec, cond_nt, if_true, if_false, decide_true, decide_false, cond_true, cond_false, u8_inj, cells_div, szs, sz_list, inB_nat, Int.toNat_natCast, get0, get1, get2, get3, get4, get5, get6, get7, get8, Nat.reduceLT, bind_of, List.getElem?_cons_zero, List.getElem?_cons_succ, oInt_int, oBool_bool, oStr_str, oSl_slc, oAgg_agg, oTup_tup, oCons_cons, oNil_nil, sl_cells, hi.eq, idx_nonneg]
  refine call_of rfl (o.length + 1) ((impl_OrderFault.ev _ _ _).trans ?_)
  simp only [Int.ofNat_lt, str_inj, beq_dec, bne_dec, cond_dec, cond_nt, if_true, if_false, decide_true, decide_false, cond_true, cond_false, u8_inj, cells_div, szs, sz_list, inB_nat, Int.toNat_natCast, get0, get1, get2, get3, get4, get5, get6, get7, get8, Nat.reduceLT, bind_of, List.getElem?_cons_zero, List.getElem?_cons_succ, oInt_int, oBool_bool, oStr_str, oSl_slc, oAgg_agg, oTup_tup, oCons_cons, oNil_nil, sl_cells, (impl_SignatureFault l hs).eq, orderFault, orderF]
  by_cases h1 : sigFault ⟨l⟩ = 0
  case neg => simp only [h1, Int.ofNat_lt, str_inj, beq_dec, bne_dec, cond_dec, cond_nt, if_true, if_false, decide_true, decide_false, cond_true, cond_false, u8_inj, cells_div, szs, sz_list, inB_nat, Int.toNat_natCast, get0, get1, get2, get3, get4, get5, get6, get7, get8, Nat.reduceLT, bind_of, List.getElem?_cons_zero, List.getElem?_cons_succ, oInt_int, oBool_bool, oStr_str, oSl_slc, oAgg_agg, oTup_tup, oCons_cons, oNil_nil, sl_cells, ne_eq, not_false_eq_true]
  by_cases h2 : o.length = l.length
  case neg =>
    have h2' : ¬ ((o.length : Int) = (l.length : Int)) := by omega
    simp only [h1, h2, h2', Int.ofNat_lt, str_inj, beq_dec, bne_dec, cond_dec, cond_nt, if_true, if_false, decide_true, decide_false, cond_true, cond_false, u8_inj, cells_div, szs, sz_list, inB_nat, Int.toNat_natCast, get0, get1, get2, get3, get4, get5, get6, get7, get8, Nat.reduceLT, bind_of, List.getElem?_cons_zero, List.getElem?_cons_succ, oInt_int, oBool_bool, oStr_str, oSl_slc, oAgg_agg, oTup_tup, oCons_cons, oNil_nil, sl_cells, ne_eq, not_true_eq_false, not_false_eq_true]
  have h2' : ((o.length : Int) = (l.length : Int)) := by omega
  cases h3 : o.any fun n => !inR n 0 (l.length - 1) with
  | true =>
    rw [h3] at hc
    simp only [h1, h2', h2, Int.ofNat_lt, str_inj, beq_dec, bne_dec, cond_dec, cond_nt, if_true, if_false, decide_true, decide_false, cond_true, cond_false, u8_inj, cells_div, szs, sz_list, inB_nat, Int.toNat_natCast, get0, get1, get2, get3, get4, get5, get6, get7, get8, Nat.reduceLT, bind_of, List.getElem?_cons_zero, List.getElem?_cons_succ, oInt_int, oBool_bool, oStr_str, oSl_slc, oAgg_agg, oTup_tup, oCons_cons, oNil_nil, sl_cells, ne_eq, not_true_eq_false, hc.eq]
  | false =>
    rw [h3] at hc
    simp only [h1, h2', h2, Int.ofNat_lt, str_inj, beq_dec, bne_dec, cond_dec, cond_nt, if_true, if_false, decide_true, decide_false, cond_true, cond_false, u8_inj, cells_div, szs, sz_list, inB_nat, Int.toNat_natCast, get0, get1, get2, get3, get4, get5, get6, get7, get8, Nat.reduceLT, bind_of, List.getElem?_cons_zero, List.getElem?_cons_succ, oInt_int, oBool_bool, oStr_str, oSl_slc, oAgg_agg, oTup_tup, oCons_cons, oNil_nil, sl_cells, ne_eq, not_true_eq_false, hc.eq]
    rw [← h2', ← h2]
    refine (any_loop (n := o.length) (bad := fun k => o[k]?.any fun x => decide (x ∈ o.take k)) (r := some (.int .i64 6, [])) (z := some (.int .i64 0, []))
      (S := fun m k => impl_OrderFault.at0 (o.length + 1) m (impl_OrderFault.st0 (cells o) (cells o) o.length (k : Nat))) (fun m k h => ?_) (fun m => ?_) (Nat.lt_succ_self _)).trans ?_
    · have hlk : o[k]? = some o[k] := List.getElem?_eq_getElem h
      have hm := (slices_Contains_Sint64 (o.take k) o[k] (by simp; omega)).eq
      simp only [impl_OrderFault.next0, impl_OrderFault.round0, Int.ofNat_lt, str_inj, beq_dec, bne_dec, cond_dec, cond_nt, if_true, if_false, decide_true, decide_false, cond_true, cond_false, u8_inj, cells_div, szs, sz_list, inB_nat, Int.toNat_natCast, get0, get1, get2, get3, get4, get5, get6, get7, get8, Nat.reduceLT, bind_of, List.getElem?_cons_zero, List.getElem?_cons_succ, oInt_int, oBool_bool, oStr_str, oSl_slc, oAgg_agg, oTup_tup, oCons_cons, oNil_nil, sl_cells, h, hlk, enc_int]
      rw [cond_pos (by simp; omega), Nat.zero_mul, List.drop_zero, cells_take o 1 k rfl, sl_cells (k := 1) (l := o.take k) rfl, hm, wrap_succ (by omega)]
      by_cases e : o[k] ∈ o.take k <;> simp [e, Int.ofNat_lt, str_inj, beq_dec, bne_dec, cond_dec, cond_nt, if_true, if_false, decide_true, decide_false, cond_true, cond_false, u8_inj, cells_div, szs, sz_list, inB_nat, Int.toNat_natCast, get0, get1, get2, get3, get4, get5, get6, get7, get8, Nat.reduceLT, bind_of, List.getElem?_cons_zero, List.getElem?_cons_succ, oInt_int, oBool_bool, oStr_str, oSl_slc, oAgg_agg, oTup_tup, oCons_cons, oNil_nil, sl_cells]
    · simp only [impl_OrderFault.next0, impl_OrderFault.round0, Int.ofNat_lt, str_inj, beq_dec, bne_dec, cond_dec, cond_nt, if_true, if_false, decide_true, decide_false, cond_true, cond_false, u8_inj, cells_div, szs, sz_list, inB_nat, Int.toNat_natCast, get0, get1, get2, get3, get4, get5, get6, get7, get8, Nat.reduceLT, bind_of, List.getElem?_cons_zero, List.getElem?_cons_succ, oInt_int, oBool_bool, oStr_str, oSl_slc, oAgg_agg, oTup_tup, oCons_cons, oNil_nil, sl_cells, Nat.lt_irrefl]
    · rw [take_mem_pairs]
      cases twice o <;> rfl
theorem spec_l2Order (l : List Symbol) (hs : l.length ≤ 4294967296) (o : List Int) (ho : o.length ≤ 4294967296) : Call F.spec_l2Order [.rref [slc l] 0, slc o] (.int .i64 (orderF l o)) := by
  obtain ⟨n, hn⟩ : ∃ n, n = o.length + 1 := ⟨_, rfl⟩
  refine call_of rfl n ((spec_l2Order.ev _ _ _).trans ?_)
  simp only [Int.ofNat_lt, str_inj, beq_dec, bne_dec, cond_dec, cond_nt, if_true, if_false, decide_true, decide_false, cond_true, cond_false, u8_inj, cells_div, szs, sz_list, inB_nat, Int.toNat_natCast, get0, get1, get2, get3, get4, get5, get6, get7, get8, Nat.reduceLT, bind_of, List.getElem?_cons_zero, List.getElem?_cons_succ, oInt_int, oBool_bool, oStr_str, oSl_slc, oAgg_agg, oTup_tup, oCons_cons, oNil_nil, sl_cells, orderF]
  by_cases h2 : o.length = l.length
  case neg =>
    have h2' : ¬ ((o.length : Int) = (l.length : Int)) := by omega
    simp only [h2, h2', Int.ofNat_lt, str_inj, beq_dec, bne_dec, cond_dec, cond_nt, if_true, if_false, decide_true, decide_false, cond_true, cond_false, u8_inj, cells_div, szs, sz_list, inB_nat, Int.toNat_natCast, get0, get1, get2, get3, get4, get5, get6, get7, get8, Nat.reduceLT, bind_of, List.getElem?_cons_zero, List.getElem?_cons_succ, oInt_int, oBool_bool, oStr_str, oSl_slc, oAgg_agg, oTup_tup, oCons_cons, oNil_nil, sl_cells, ne_eq, not_true_eq_false, not_false_eq_true]
  have h2' : ((o.length : Int) = (l.length : Int)) := by omega
  simp only [h2', h2, Int.ofNat_lt, str_inj, beq_dec, bne_dec, cond_dec, cond_nt, if_true, if_false, decide_true, decide_false, cond_true, cond_false, u8_inj, cells_div, szs, sz_list, inB_nat, Int.toNat_natCast, get0, get1, get2, get3, get4, get5, get6, get7, get8, Nat.reduceLT, bind_of, List.getElem?_cons_zero, List.getElem?_cons_succ, oInt_int, oBool_bool, oStr_str, oSl_slc, oAgg_agg, oTup_tup, oCons_cons, oNil_nil, sl_cells, ne_eq, not_true_eq_false]
  have two := any_loop (n := o.length) (bad := fun i => (List.range i).any fun j => o[i]?.any fun x => o[j]?.any fun y => decide (x = y))
    (S := fun m i => spec_l2Order.at2 n m (spec_l2Order.st2 (cells o) (i : Nat))) (r := some (.int .i64 6, [])) (z := some (.int .i64 0, []))
    (fun m i h => by
      have hlk : o[i]? = some o[i] := List.getElem?_eq_getElem h
      simp only [spec_l2Order.next2, spec_l2Order.round2, Int.ofNat_lt, str_inj, beq_dec, bne_dec, cond_dec, cond_nt, if_true, if_false, decide_true, decide_false, cond_true, cond_false, u8_inj, cells_div, szs, sz_list, inB_nat, Int.toNat_natCast, get0, get1, get2, get3, get4, get5, get6, get7, get8, Nat.reduceLT, bind_of, List.getElem?_cons_zero, List.getElem?_cons_succ, oInt_int, oBool_bool, oStr_str, oSl_slc, oAgg_agg, oTup_tup, oCons_cons, oNil_nil, sl_cells, h]
      refine any_loop (n := i) (f := n) (bad := fun j => o[i]?.any fun x => o[j]?.any fun y => decide (x = y))
        (S := fun m' j => spec_l2Order.at4 n (spec_l2Order.at2 n m) m' (spec_l2Order.st4 (cells o) (i : Nat) (j : Nat))) (fun m' j hj => ?_) (fun m' => ?_) (by omega)
      · have hj' : j < o.length := by omega
        have hjk : o[j]? = some o[j] := List.getElem?_eq_getElem hj'
        simp only [spec_l2Order.next4, spec_l2Order.round4, Int.ofNat_lt, str_inj, beq_dec, bne_dec, cond_dec, cond_nt, if_true, if_false, decide_true, decide_false, cond_true, cond_false, u8_inj, cells_div, szs, sz_list, inB_nat, Int.toNat_natCast, get0, get1, get2, get3, get4, get5, get6, get7, get8, Nat.reduceLT, bind_of, List.getElem?_cons_zero, List.getElem?_cons_succ, oInt_int, oBool_bool, oStr_str, oSl_slc, oAgg_agg, oTup_tup, oCons_cons, oNil_nil, sl_cells, h, hj, hj', hlk, hjk, enc_int]
        rw [wrap_succ (by omega)]
        by_cases e : o[i] = o[j] <;> simp [e]
      · simp only [spec_l2Order.next4, spec_l2Order.round4, Int.ofNat_lt, str_inj, beq_dec, bne_dec, cond_dec, cond_nt, if_true, if_false, decide_true, decide_false, cond_true, cond_false, u8_inj, cells_div, szs, sz_list, inB_nat, Int.toNat_natCast, get0, get1, get2, get3, get4, get5, get6, get7, get8, Nat.reduceLT, bind_of, List.getElem?_cons_zero, List.getElem?_cons_succ, oInt_int, oBool_bool, oStr_str, oSl_slc, oAgg_agg, oTup_tup, oCons_cons, oNil_nil, sl_cells, Nat.lt_irrefl]
        rw [wrap_succ (by omega)])
    (fun m => by simp only [spec_l2Order.next2, spec_l2Order.round2, Int.ofNat_lt, str_inj, beq_dec, bne_dec, cond_dec, cond_nt, if_true, if_false, decide_true, decide_false, cond_true, cond_false, u8_inj, cells_div, szs, sz_list, inB_nat, Int.toNat_natCast, get0, get1, get2, get3, get4, get5, get6, get7, get8, Nat.reduceLT, bind_of, List.getElem?_cons_zero, List.getElem?_cons_succ, oInt_int, oBool_bool, oStr_str, oSl_slc, oAgg_agg, oTup_tup, oCons_cons, oNil_nil, sl_cells, Nat.lt_irrefl]) (show o.length < n by omega)
  have tp := twice_pairs (fun x : Int => x) o
  rw [List.map_id'] at tp
  rw [tp] at two
  refine (any_loopL (l := o) (p := fun x => !inR x 0 (l.length - 1)) (S := fun m k => spec_l2Order.at0 n m (spec_l2Order.st0 (cells l) (cells o) (k : Nat))) (r := some (.int .i64 3, [])) (z := if twice o = true then some (.int .i64 6, []) else some (.int .i64 0, [])) (fun m k h => ?_) (fun m => ?_) (show o.length < n by omega)).trans ?_
  · have hlk : o[k]? = some o[k] := List.getElem?_eq_getElem h
    simp only [spec_l2Order.next0, spec_l2Order.round0, Int.ofNat_lt, str_inj, beq_dec, bne_dec, cond_dec, cond_nt, if_true, if_false, decide_true, decide_false, cond_true, cond_false, u8_inj, cells_div, szs, sz_list, inB_nat, Int.toNat_natCast, get0, get1, get2, get3, get4, get5, get6, get7, get8, Nat.reduceLT, bind_of, List.getElem?_cons_zero, List.getElem?_cons_succ, oInt_int, oBool_bool, oStr_str, oSl_slc, oAgg_agg, oTup_tup, oCons_cons, oNil_nil, sl_cells, h, hlk, enc_int, (spec_l2Symbol hs _).eq]
    rw [wrap_succ (by omega)]
    cases inR o[k] 0 (l.length - 1) <;> rfl
  · simp only [spec_l2Order.next0, spec_l2Order.round0, Int.ofNat_lt, str_inj, beq_dec, bne_dec, cond_dec, cond_nt, if_true, if_false, decide_true, decide_false, cond_true, cond_false, u8_inj, cells_div, szs, sz_list, inB_nat, Int.toNat_natCast, get0, get1, get2, get3, get4, get5, get6, get7, get8, Nat.reduceLT, bind_of, List.getElem?_cons_zero, List.getElem?_cons_succ, oInt_int, oBool_bool, oStr_str, oSl_slc, oAgg_agg, oTup_tup, oCons_cons, oNil_nil, sl_cells, Nat.lt_irrefl]
    exact two
  · cases o.any fun x => !inR x 0 (l.length - 1) <;> cases twice o <;> rfl
theorem spec_OrderFault (l : List Symbol) (hs : l.length ≤ 4294967296) (o : List Int) (ho : o.length ≤ 4294967296) : Call F.spec_OrderFault [.agg [slc l], slc o] (.int .i64 (orderFault ⟨l⟩ o)) := by
  refine call_of rfl 0 ((spec_OrderFault.ev _ _ _).trans ?_)
  simp only [Int.ofNat_lt, str_inj, beq_dec, bne_dec, cond_dec, cond_nt, if_true, if_false, decide_true, decide_false, cond_true, cond_false, u8_inj, cells_div, szs, sz_list, inB_nat, Int.toNat_natCast, get0, get1, get2, get3, get4, get5, get6, get7, get8, Nat.reduceLT, bind_of, List.getElem?_cons_zero, List.getElem?_cons_succ, oInt_int, oBool_bool, oStr_str, oSl_slc, oAgg_agg, oTup_tup, oCons_cons, oNil_nil, sl_cells, (spec_SignatureFault l hs).eq, (spec_l2Order l hs o ho).eq, orderFault]
  by_cases h1 : sigFault ⟨l⟩ = 0
  · simp only [h1, Int.ofNat_lt, str_inj, beq_dec, bne_dec, cond_dec, cond_nt, if_true, if_false, decide_true, decide_false, cond_true, cond_false, u8_inj, cells_div, szs, sz_list, inB_nat, Int.toNat_natCast, get0, get1, get2, get3, get4, get5, get6, get7, get8, Nat.reduceLT, bind_of, List.getElem?_cons_zero, List.getElem?_cons_succ, oInt_int, oBool_bool, oStr_str, oSl_slc, oAgg_agg, oTup_tup, oCons_cons, oNil_nil, sl_cells, ne_eq, not_true_eq_false]
  · simp only [h1, Int.ofNat_lt, str_inj, beq_dec, bne_dec, cond_dec, cond_nt, if_true, if_false, decide_true, decide_false, cond_true, cond_false, u8_inj, cells_div, szs, sz_list, inB_nat, Int.toNat_natCast, get0, get1, get2, get3, get4, get5, get6, get7, get8, Nat.reduceLT, bind_of, List.getElem?_cons_zero, List.getElem?_cons_succ, oInt_int, oBool_bool, oStr_str, oSl_slc, oAgg_agg, oTup_tup, oCons_cons, oNil_nil, sl_cells, ne_eq, not_false_eq_true]
def falling (l : List Symbol) (o : List Int) (rs : List Equation) : Bool := !rs.any fun e => !gt l o e.left e.right 0 0
def isDecreasingR (s : Signature) (o : List Int) (rs : List Equation) : Bool := decide (orderFault s o = 0) && decide (eqsFault s.symbols rs = 0) && falling s.symbols o rs
theorem sigOk_of {l : List Symbol} (h : sigFault ⟨l⟩ = 0) : SigOk ⟨l⟩ := (sigOk_iff _).1 h
theorem spec_l7Falls {l : List Symbol} (ok : SigOk ⟨l⟩) {o : List Int} (ho : orderF l o = 0) {rs : List Equation} (hr : ∀ e ∈ rs, EqOk l e) (hn : rs.length ≤ 4294967296) :
    Call F.spec_l7Falls [.rref [slc l] 0, slc o, slc rs] (.bool (falling l o rs)) := by
  obtain ⟨h1, h2⟩ := orderOk ho
  have hls : l.length ≤ 6 := ok.le
  refine call_of rfl (rs.length + 1) ((spec_l7Falls.ev _ _ _ _).trans ?_)
  refine (any_loopL (l := rs) (p := fun e => !gt l o e.left e.right 0 0) (r := some (.bool false, [])) (z := some (.bool true, [])) (S := fun m k => spec_l7Falls.at0 (rs.length + 1) m (spec_l7Falls.st0 (cells l) (cells o) (cells rs) (k : Nat))) (fun m k h => ?_) (fun m => ?_) (Nat.lt_succ_self _)).trans ?_
  · have hlk : rs[k]? = some rs[k] := List.getElem?_eq_getElem h
    have he := hr _ (List.getElem_mem h)
    simp only [spec_l7Falls.next0, spec_l7Falls.round0, Int.ofNat_lt, str_inj, beq_dec, bne_dec, cond_dec, cond_nt, if_true, if_false, decide_true, decide_false, cond_true, cond_false, u8_inj, cells_div, szs, sz_list, inB_nat, Int.toNat_natCast, get0, get1, get2, get3, get4, get5, get6, get7, get8, Nat.reduceLT, bind_of, List.getElem?_cons_zero, List.getElem?_cons_succ, oInt_int, oBool_bool, oStr_str, oSl_slc, oAgg_agg, oTup_tup, oCons_cons, oNil_nil, sl_cells, h, hlk, enc_Equation, (spec_l7Over ok he.left he.right (by omega) h2).eq]
    rw [wrap_succ (by omega)]
    cases gt l o rs[k].left rs[k].right 0 0 <;> rfl
  · simp only [spec_l7Falls.next0, spec_l7Falls.round0, Int.ofNat_lt, str_inj, beq_dec, bne_dec, cond_dec, cond_nt, if_true, if_false, decide_true, decide_false, cond_true, cond_false, u8_inj, cells_div, szs, sz_list, inB_nat, Int.toNat_natCast, get0, get1, get2, get3, get4, get5, get6, get7, get8, Nat.reduceLT, bind_of, List.getElem?_cons_zero, List.getElem?_cons_succ, oInt_int, oBool_bool, oStr_str, oSl_slc, oAgg_agg, oTup_tup, oCons_cons, oNil_nil, sl_cells, Nat.lt_irrefl]
  · unfold falling
    cases rs.any fun e => !gt l o e.left e.right 0 0 <;> rfl
theorem spec_IsDecreasing (s : Signature) (o : List Int) (rs : List Equation) (hs : sm 1048576 s) (ho : sm 1048576 o) (hr : sm 1048576 rs) : Call F.spec_IsDecreasing [.agg (enc s), slc o, slc rs] (.bool (isDecreasingR s o rs)) := by
  obtain ⟨l⟩ := s
  have hsl : l.length ≤ 4294967296 := Nat.le_trans hs.1 (by omega)
  have hol : o.length ≤ 4294967296 := Nat.le_trans ho.1 (by omega)
  have hrl : rs.length ≤ 4294967296 := Nat.le_trans hr.1 (by omega)
  show Call F.spec_IsDecreasing [.agg [slc l], slc o, slc rs] _
  refine call_of rfl 0 ((spec_IsDecreasing.ev _ _ _ _).trans ?_)
  simp only [Int.ofNat_lt, str_inj, beq_dec, bne_dec, cond_dec, cond_nt, if_true, if_false, decide_true, decide_false, cond_true, cond_false, u8_inj, cells_div, szs, sz_list, inB_nat, Int.toNat_natCast, get0, get1, get2, get3, get4, get5, get6, get7, get8, Nat.reduceLT, bind_of, List.getElem?_cons_zero, List.getElem?_cons_succ, oInt_int, oBool_bool, oStr_str, oSl_slc, oAgg_agg, oTup_tup, oCons_cons, oNil_nil, sl_cells, (spec_OrderFault l hsl o hol).eq, isDecreasingR]
  by_cases h1 : orderFault ⟨l⟩ o = 0
  case neg => simp only [h1, Int.ofNat_lt, str_inj, beq_dec, bne_dec, cond_dec, cond_nt, if_true, if_false, decide_true, decide_false, cond_true, cond_false, u8_inj, cells_div, szs, sz_list, inB_nat, Int.toNat_natCast, get0, get1, get2, get3, get4, get5, get6, get7, get8, Nat.reduceLT, bind_of, List.getElem?_cons_zero, List.getElem?_cons_succ, oInt_int, oBool_bool, oStr_str, oSl_slc, oAgg_agg, oTup_tup, oCons_cons, oNil_nil, sl_cells, Bool.false_and]
  have h0 : sigFault ⟨l⟩ = 0 := by
    unfold orderFault at h1
    split at h1
    · rename_i h; exact absurd h1 h
    · rename_i h; simpa using h
  have hf : orderF l o = 0 := by unfold orderFault at h1; rw [if_neg (by simpa using h0)] at h1; exact h1
  have ok := sigOk_of h0
  simp only [h1, Int.ofNat_lt, str_inj, beq_dec, bne_dec, cond_dec, cond_nt, if_true, if_false, decide_true, decide_false, cond_true, cond_false, u8_inj, cells_div, szs, sz_list, inB_nat, Int.toNat_natCast, get0, get1, get2, get3, get4, get5, get6, get7, get8, Nat.reduceLT, bind_of, List.getElem?_cons_zero, List.getElem?_cons_succ, oInt_int, oBool_bool, oStr_str, oSl_slc, oAgg_agg, oTup_tup, oCons_cons, oNil_nil, sl_cells, (spec_l5Fault l ok rs (sm_mono (by omega) hr)).eq, Bool.true_and]
  by_cases h2 : eqsFault l rs = 0
  case neg => simp only [h2, Int.ofNat_lt, str_inj, beq_dec, bne_dec, cond_dec, cond_nt, if_true, if_false, decide_true, decide_false, cond_true, cond_false, u8_inj, cells_div, szs, sz_list, inB_nat, Int.toNat_natCast, get0, get1, get2, get3, get4, get5, get6, get7, get8, Nat.reduceLT, bind_of, List.getElem?_cons_zero, List.getElem?_cons_succ, oInt_int, oBool_bool, oStr_str, oSl_slc, oAgg_agg, oTup_tup, oCons_cons, oNil_nil, sl_cells, Bool.false_and]
  simp only [h2, Int.ofNat_lt, str_inj, beq_dec, bne_dec, cond_dec, cond_nt, if_true, if_false, decide_true, decide_false, cond_true, cond_false, u8_inj, cells_div, szs, sz_list, inB_nat, Int.toNat_natCast, get0, get1, get2, get3, get4, get5, get6, get7, get8, Nat.reduceLT, bind_of, List.getElem?_cons_zero, List.getElem?_cons_succ, oInt_int, oBool_bool, oStr_str, oSl_slc, oAgg_agg, oTup_tup, oCons_cons, oNil_nil, sl_cells, (spec_l7Falls ok hf (eqsOk_iff.1 h2).2 hrl).eq, Bool.true_and]
theorem impl_IsDecreasing (s : Signature) (o : List Int) (rs : List Equation) (hs : sm 1048576 s) (ho : sm 1048576 o) (hr : sm 1048576 rs) : Call F.impl_IsDecreasing [.agg (enc s), slc o, slc rs] (.bool (isDecreasingR s o rs)) := by
  obtain ⟨l⟩ := s
  have hsl : l.length ≤ 4294967296 := Nat.le_trans hs.1 (by omega)
  have hol : o.length ≤ 4294967296 := Nat.le_trans ho.1 (by omega)
  have hrl : rs.length ≤ 4294967296 := Nat.le_trans hr.1 (by omega)
  show Call F.impl_IsDecreasing [.agg [slc l], slc o, slc rs] _
  refine call_of rfl 0 ((impl_IsDecreasing.ev _ _ _ _).trans ?_)
  simp only [Int.ofNat_lt, str_inj, beq_dec, bne_dec, cond_dec, cond_nt, if_true, if_false, decide_true, decide_false, cond_true, cond_false, u8_inj, cells_div, szs, sz_list, inB_nat, Int.toNat_natCast, get0, get1, get2, get3, get4, get5, get6, get7, get8, Nat.reduceLT, bind_of, List.getElem?_cons_zero, List.getElem?_cons_succ, oInt_int, oBool_bool, oStr_str, oSl_slc, oAgg_agg, oTup_tup, oCons_cons, oNil_nil, sl_cells, (impl_OrderFault l hsl o hol).eq, isDecreasingR]
  by_cases h1 : orderFault ⟨l⟩ o = 0
  case neg => simp only [h1, Int.ofNat_lt, str_inj, beq_dec, bne_dec, cond_dec, cond_nt, if_true, if_false, decide_true, decide_false, cond_true, cond_false, u8_inj, cells_div, szs, sz_list, inB_nat, Int.toNat_natCast, get0, get1, get2, get3, get4, get5, get6, get7, get8, Nat.reduceLT, bind_of, List.getElem?_cons_zero, List.getElem?_cons_succ, oInt_int, oBool_bool, oStr_str, oSl_slc, oAgg_agg, oTup_tup, oCons_cons, oNil_nil, sl_cells, Bool.false_and]
  have h0 : sigFault ⟨l⟩ = 0 := by
    unfold orderFault at h1
    split at h1
    · rename_i h; exact absurd h1 h
    · rename_i h; simpa using h
  have hf : orderF l o = 0 := by unfold orderFault at h1; rw [if_neg (by simpa using h0)] at h1; exact h1
  have ok := sigOk_of h0
  have heq := impl_EquationsFault l hsl rs (sm_mono (by omega) hr)
  rw [if_neg (by simpa using h0)] at heq
  simp only [h1, Int.ofNat_lt, str_inj, beq_dec, bne_dec, cond_dec, cond_nt, if_true, if_false, decide_true, decide_false, cond_true, cond_false, u8_inj, cells_div, szs, sz_list, inB_nat, Int.toNat_natCast, get0, get1, get2, get3, get4, get5, get6, get7, get8, Nat.reduceLT, bind_of, List.getElem?_cons_zero, List.getElem?_cons_succ, oInt_int, oBool_bool, oStr_str, oSl_slc, oAgg_agg, oTup_tup, oCons_cons, oNil_nil, sl_cells, heq.eq, Bool.true_and]
  by_cases h2 : eqsFault l rs = 0
  case neg => simp only [h2, Int.ofNat_lt, str_inj, beq_dec, bne_dec, cond_dec, cond_nt, if_true, if_false, decide_true, decide_false, cond_true, cond_false, u8_inj, cells_div, szs, sz_list, inB_nat, Int.toNat_natCast, get0, get1, get2, get3, get4, get5, get6, get7, get8, Nat.reduceLT, bind_of, List.getElem?_cons_zero, List.getElem?_cons_succ, oInt_int, oBool_bool, oStr_str, oSl_slc, oAgg_agg, oTup_tup, oCons_cons, oNil_nil, sl_cells, Bool.false_and]
  obtain ⟨h3, h4⟩ := orderOk hf
  have hls : l.length ≤ 6 := ok.le
  have hre := (eqsOk_iff.1 h2).2
  have hi : Call F.slices_IndexFunc_SEquation [slc rs, .clo F.impl_IsDecreasing_1 [.rref [slc l] 0, .rref [slc o] 0]] (.int .i64 (idx (fun e => !gt l o e.left e.right 0 0) rs)) := by
    refine call_of rfl (rs.length + 1) ((slices_IndexFunc_SEquation_at1_impl_IsDecreasing_1.ev _ _ _ _).trans ?_)
    simp only [Int.ofNat_lt, str_inj, beq_dec, bne_dec, cond_dec, cond_nt, if_true, if_false, decide_true, decide_false, cond_true, cond_false, u8_inj, cells_div, szs, sz_list, inB_nat, Int.toNat_natCast, get0, get1, get2, get3, get4, get5, get6, get7, get8, Nat.reduceLT, bind_of, List.getElem?_cons_zero, List.getElem?_cons_succ, oInt_int, oBool_bool, oStr_str, oSl_slc, oAgg_agg, oTup_tup, oCons_cons, oNil_nil, sl_cells]
    refine idx_loop (S := fun m k => slices_IndexFunc_SEquation_at1_impl_IsDecreasing_1.at0 (rs.length + 1) m (slices_IndexFunc_SEquation_at1_impl_IsDecreasing_1.st0 (cells rs) (cells l) (cells o) rs.length (k : Nat))) (fun m k h => ?_) (fun m => ?_) (Nat.lt_succ_self _)
    · have hlk : rs[k]? = some rs[k] := List.getElem?_eq_getElem h
      have he := hre _ (List.getElem_mem h)
      have hc : Call F.impl_IsDecreasing_1 [.agg [slc rs[k].left, slc rs[k].right], .rref [slc l] 0, .rref [slc o] 0] (.bool (!gt l o rs[k].left rs[k].right 0 0)) := by
        refine call_of rfl 0 ((impl_IsDecreasing_1.ev _ _ _ _ _).trans ?_)
        simp only [Int.ofNat_lt, str_inj, beq_dec, bne_dec, cond_dec, cond_nt, if_true, if_false, decide_true, decide_false, cond_true, cond_false, u8_inj, cells_div, szs, sz_list, inB_nat, Int.toNat_natCast, get0, get1, get2, get3, get4, get5, get6, get7, get8, Nat.reduceLT, bind_of, List.getElem?_cons_zero, List.getElem?_cons_succ, oInt_int, oBool_bool, oStr_str, oSl_slc, oAgg_agg, oTup_tup, oCons_cons, oNil_nil, sl_cells, (impl_isGreater ok he.left he.right (by omega) h4).eq]
      simp only [slices_IndexFunc_SEquation_at1_impl_IsDecreasing_1.next0, slices_IndexFunc_SEquation_at1_impl_IsDecreasing_1.round0, Int.ofNat_lt, str_inj, beq_dec, bne_dec, cond_dec, cond_nt, if_true, if_false, decide_true, decide_false, cond_true, cond_false, u8_inj, cells_div, szs, sz_list, inB_nat, Int.toNat_natCast, get0, get1, get2, get3, get4, get5, get6, get7, get8, Nat.reduceLT, bind_of, List.getElem?_cons_zero, List.getElem?_cons_succ, oInt_int, oBool_bool, oStr_str, oSl_slc, oAgg_agg, oTup_tup, oCons_cons, oNil_nil, sl_cells, h, hlk, enc_Equation, hc.eq]
      rw [wrap_succ (by omega)]
      cases gt l o rs[k].left rs[k].right 0 0 <;> rfl
    · simp only [slices_IndexFunc_SEquation_at1_impl_IsDecreasing_1.next0, slices_IndexFunc_SEquation_at1_impl_IsDecreasing_1.round0, Int.ofNat_lt, str_inj, beq_dec, bne_dec, cond_dec, cond_nt, if_true, if_false, decide_true, decide_false, cond_true, cond_false, u8_inj, cells_div, szs, sz_list, inB_nat, Int.toNat_natCast, get0, get1, get2, get3, get4, get5, get6, get7, get8, Nat.reduceLT, bind_of, List.getElem?_cons_zero, List.getElem?_cons_succ, oInt_int, oBool_bool, oStr_str, oSl_slc, oAgg_agg, oTup_tup, oCons_cons, oNil_nil, sl_cells, Nat.lt_irrefl]
  have hc : Call F.slices_ContainsFunc_SEquation [slc rs, .clo F.impl_IsDecreasing_1 [.rref [slc l] 0, .rref [slc o] 0]] (.bool (rs.any fun e => !gt l o e.left e.right 0 0)) := by
    refine call_of rfl 0 ((slices_ContainsFunc_SEquation_at1_impl_IsDecreasing_1.ev _ _ _ _).trans ?_)
    simp only [Int.ofNat_lt, str_inj, beq_dec, bne_dec, cond_dec, cond_nt, if_true, if_false, decide_true, decide_false, cond_true, cond_false, u8_inj, cells_div, szs, sz_list, inB_nat, Int.toNat_natCast, get0, get1, get2, get3, get4, get5, get6, get7, get8, Nat.reduceLT, bind_of, List.getElem?_cons_zero, List.getElem?_cons_succ, oInt_int, oBool_bool, oStr_str, oSl_slc, oAgg_agg, oTup_tup, oCons_cons, oNil_nil, sl_cells, hi.eq, idx_nonneg]
  simp only [h2, Int.ofNat_lt, str_inj, beq_dec, bne_dec, cond_dec, cond_nt, if_true, if_false, decide_true, decide_false, cond_true, cond_false, u8_inj, cells_div, szs, sz_list, inB_nat, Int.toNat_natCast, get0, get1, get2, get3, get4, get5, get6, get7, get8, Nat.reduceLT, bind_of, List.getElem?_cons_zero, List.getElem?_cons_succ, oInt_int, oBool_bool, oStr_str, oSl_slc, oAgg_agg, oTup_tup, oCons_cons, oNil_nil, sl_cells, hc.eq, Bool.true_and]
  rfl
end Ev.Ty
end

section
namespace Ev.Ty
open Go Ev
open Enc (enc)
open Sm (sm)
set_option linter.unusedSimpArgs false
set_option linter.unusedVariables false
theorem TermOk.range {l : List Symbol} (ok : SigOk ⟨l⟩) {t : List Int} (h : TermOk l t) : ∀ n ∈ t, -4611686018427387904 ≤ n ∧ n ≤ 4611686018427387904 := fun n hn => by
  have := nodeOk_iff.1 (h.node n hn)
  have hle : l.length ≤ 6 := ok.le
  omega
theorem impl_fitting (t : List Int) : Call F.impl_fitting [slc t] (.agg (enc (if 24 < t.length then (⟨2, []⟩ : TermResult) else ⟨0, t⟩))) := by
  refine call_of rfl 0 ((impl_fitting.ev _ _).trans ?_)
  simp only [Int.ofNat_lt, str_inj, beq_dec, bne_dec, cond_dec, cond_nt, if_true, if_false, decide_true, decide_false, cond_true, cond_false, u8_inj, cells_div, szs, sz_list, inB_nat, Int.toNat_natCast, get0, get1, get2, get3, get4, get5, get6, get7, get8, Nat.reduceLT, bind_of, List.getElem?_cons_zero, List.getElem?_cons_succ, oInt_int, oBool_bool, oStr_str, oSl_slc, oAgg_agg, oTup_tup, oCons_cons, oNil_nil, sl_cells, gt_iff_lt]
  by_cases h : 24 < t.length
  · have h' : (24 : Int) < t.length := by omega
    simp only [h, h', Int.ofNat_lt, str_inj, beq_dec, bne_dec, cond_dec, cond_nt, if_true, if_false, decide_true, decide_false, cond_true, cond_false, u8_inj, cells_div, szs, sz_list, inB_nat, Int.toNat_natCast, get0, get1, get2, get3, get4, get5, get6, get7, get8, Nat.reduceLT, bind_of, List.getElem?_cons_zero, List.getElem?_cons_succ, oInt_int, oBool_bool, oStr_str, oSl_slc, oAgg_agg, oTup_tup, oCons_cons, oNil_nil, sl_cells, enc_TermResult, slc_nil]
  · have h' : ¬ (24 : Int) < t.length := by omega
    simp only [h, h', Int.ofNat_lt, str_inj, beq_dec, bne_dec, cond_dec, cond_nt, if_true, if_false, decide_true, decide_false, cond_true, cond_false, u8_inj, cells_div, szs, sz_list, inB_nat, Int.toNat_natCast, get0, get1, get2, get3, get4, get5, get6, get7, get8, Nat.reduceLT, bind_of, List.getElem?_cons_zero, List.getElem?_cons_succ, oInt_int, oBool_bool, oStr_str, oSl_slc, oAgg_agg, oTup_tup, oCons_cons, oNil_nil, sl_cells, enc_TermResult]
theorem spec_l3Place (t : List Int) (n : Int) (hl : t.length ≤ 4294967296) : Call F.spec_l3Place [slc t, .int .i64 n] (.bool (inR n 0 (t.length - 1))) := by
  refine call_of rfl 0 ((spec_l3Place.ev _ _ _).trans ?_)
  simp only [Int.ofNat_lt, str_inj, beq_dec, bne_dec, cond_dec, cond_nt, if_true, if_false, decide_true, decide_false, cond_true, cond_false, u8_inj, cells_div, szs, sz_list, inB_nat, Int.toNat_natCast, get0, get1, get2, get3, get4, get5, get6, get7, get8, Nat.reduceLT, bind_of, List.getElem?_cons_zero, List.getElem?_cons_succ, oInt_int, oBool_bool, oStr_str, oSl_slc, oAgg_agg, oTup_tup, oCons_cons, oNil_nil, sl_cells, wrap64 (x := (t.length : Int) - 1) (by omega), (spec_l1In _ _ _).eq]
end Ev.Ty
end

section
namespace Ev.Ty
open Go Ev
open Enc (enc)
open Sm (sm)
set_option linter.unusedSimpArgs false
set_option linter.unusedVariables false
def theoryFault (s : Signature) (t : Theory) : Int :=
  if orderFault s t.order ≠ 0 then orderFault s t.order else if eqsFault s.symbols t.equations ≠ 0 then eqsFault s.symbols t.equations
  else if rulesFault0 s.symbols t.rules ≠ 0 then rulesFault0 s.symbols t.rules else if falling s.symbols t.order t.rules = true then 0 else 10
theorem orderFault_ok {l : List Symbol} {o : List Int} (h : orderFault ⟨l⟩ o = 0) : sigFault ⟨l⟩ = 0 ∧ orderF l o = 0 := by
  unfold orderFault at h
  split at h
  · rename_i h1; exact absurd h h1
  · rename_i h1; exact ⟨by simpa using h1, h⟩
theorem rulesFault0_eqs {l : List Symbol} {rs : List Equation} (h : rulesFault0 l rs = 0) : eqsFault l rs = 0 := by
  unfold rulesFault0 at h
  split at h
  · rename_i h1; exact absurd h h1
  · rename_i h1; simpa using h1
theorem impl_TheoryFault (s : Signature) (t : Theory) (hs : sm 1048576 s) (ht : sm 1048576 t) : Call F.impl_TheoryFault [.agg (enc s), .agg (enc t)] (.int .i64 (theoryFault s t)) := by
  obtain ⟨l⟩ := s
  obtain ⟨o, es, rs⟩ := t
  have hsl : l.length ≤ 4294967296 := Nat.le_trans hs.1 (by omega)
  have ho : sm 1048576 o := ht.1
  have he : sm 1048576 es := ht.2.1
  have hr : sm 1048576 rs := ht.2.2
  have hol : o.length ≤ 4294967296 := Nat.le_trans ho.1 (by omega)
  show Call F.impl_TheoryFault [.agg [slc l], .agg [slc o, slc es, slc rs]] _
  refine call_of rfl 0 ((impl_TheoryFault.ev _ _ _ _ _).trans ?_)
  simp only [Int.ofNat_lt, str_inj, beq_dec, bne_dec, cond_dec, cond_nt, if_true, if_false, decide_true, decide_false, cond_true, cond_false, u8_inj, cells_div, szs, sz_list, inB_nat, Int.toNat_natCast, get0, get1, get2, get3, get4, get5, get6, get7, get8, Nat.reduceLT, bind_of, List.getElem?_cons_zero, List.getElem?_cons_succ, oInt_int, oBool_bool, oStr_str, oSl_slc, oAgg_agg, oTup_tup, oCons_cons, oNil_nil, sl_cells, (impl_OrderFault l hsl o hol).eq, (impl_EquationsFault l hsl es (sm_mono (by omega) he)).eq, (impl_RulesFault l hsl rs (sm_mono (by omega) hr)).eq, (impl_firstCode3 _ _ _).eq, theoryFault]
  by_cases h1 : orderFault ⟨l⟩ o = 0
  case neg => simp only [h1, Int.ofNat_lt, str_inj, beq_dec, bne_dec, cond_dec, cond_nt, if_true, if_false, decide_true, decide_false, cond_true, cond_false, u8_inj, cells_div, szs, sz_list, inB_nat, Int.toNat_natCast, get0, get1, get2, get3, get4, get5, get6, get7, get8, Nat.reduceLT, bind_of, List.getElem?_cons_zero, List.getElem?_cons_succ, oInt_int, oBool_bool, oStr_str, oSl_slc, oAgg_agg, oTup_tup, oCons_cons, oNil_nil, sl_cells, ne_eq, not_false_eq_true]
  obtain ⟨h0, hf⟩ := orderFault_ok h1
  have hrf : rulesFault ⟨l⟩ rs = rulesFault0 l rs := by unfold rulesFault; rw [if_neg (by simpa using h0)]
  simp only [h1, h0, hrf, Int.ofNat_lt, str_inj, beq_dec, bne_dec, cond_dec, cond_nt, if_true, if_false, decide_true, decide_false, cond_true, cond_false, u8_inj, cells_div, szs, sz_list, inB_nat, Int.toNat_natCast, get0, get1, get2, get3, get4, get5, get6, get7, get8, Nat.reduceLT, bind_of, List.getElem?_cons_zero, List.getElem?_cons_succ, oInt_int, oBool_bool, oStr_str, oSl_slc, oAgg_agg, oTup_tup, oCons_cons, oNil_nil, sl_cells, ne_eq, not_true_eq_false]
  by_cases h2 : eqsFault l es = 0
  case neg => simp only [h2, Int.ofNat_lt, str_inj, beq_dec, bne_dec, cond_dec, cond_nt, if_true, if_false, decide_true, decide_false, cond_true, cond_false, u8_inj, cells_div, szs, sz_list, inB_nat, Int.toNat_natCast, get0, get1, get2, get3, get4, get5, get6, get7, get8, Nat.reduceLT, bind_of, List.getElem?_cons_zero, List.getElem?_cons_succ, oInt_int, oBool_bool, oStr_str, oSl_slc, oAgg_agg, oTup_tup, oCons_cons, oNil_nil, sl_cells, not_false_eq_true]
  simp only [h2, Int.ofNat_lt, str_inj, beq_dec, bne_dec, cond_dec, cond_nt, if_true, if_false, decide_true, decide_false, cond_true, cond_false, u8_inj, cells_div, szs, sz_list, inB_nat, Int.toNat_natCast, get0, get1, get2, get3, get4, get5, get6, get7, get8, Nat.reduceLT, bind_of, List.getElem?_cons_zero, List.getElem?_cons_succ, oInt_int, oBool_bool, oStr_str, oSl_slc, oAgg_agg, oTup_tup, oCons_cons, oNil_nil, sl_cells, not_true_eq_false]
  by_cases h3 : rulesFault0 l rs = 0
  case neg => simp only [h3, Int.ofNat_lt, str_inj, beq_dec, bne_dec, cond_dec, cond_nt, if_true, if_false, decide_true, decide_false, cond_true, cond_false, u8_inj, cells_div, szs, sz_list, inB_nat, Int.toNat_natCast, get0, get1, get2, get3, get4, get5, get6, get7, get8, Nat.reduceLT, bind_of, List.getElem?_cons_zero, List.getElem?_cons_succ, oInt_int, oBool_bool, oStr_str, oSl_slc, oAgg_agg, oTup_tup, oCons_cons, oNil_nil, sl_cells, not_false_eq_true]
  have hd := impl_IsDecreasing ⟨l⟩ o rs hs ho hr
  have hd : Call F.impl_IsDecreasing [.agg [slc l], slc o, slc rs] (.bool (falling l o rs)) := by
    have e : isDecreasingR ⟨l⟩ o rs = falling l o rs := by
      unfold isDecreasingR
      rw [h1, rulesFault0_eqs h3]
      simp
    rw [e] at hd
    exact hd
  simp only [h3, Int.ofNat_lt, str_inj, beq_dec, bne_dec, cond_dec, cond_nt, if_true, if_false, decide_true, decide_false, cond_true, cond_false, u8_inj, cells_div, szs, sz_list, inB_nat, Int.toNat_natCast, get0, get1, get2, get3, get4, get5, get6, get7, get8, Nat.reduceLT, bind_of, List.getElem?_cons_zero, List.getElem?_cons_succ, oInt_int, oBool_bool, oStr_str, oSl_slc, oAgg_agg, oTup_tup, oCons_cons, oNil_nil, sl_cells, not_true_eq_false, hd.eq]
  cases falling l o rs <;> rfl
theorem spec_l13Fault {l : List Symbol} (ok : SigOk ⟨l⟩) (h0 : sigFault ⟨l⟩ = 0) (o : List Int) (es rs : List Equation) (ho : sm 1048576 o) (he : sm 1048576 es) (hr : sm 1048576 rs) :
    Call F.spec_l13Fault [.rref [slc l] 0, .rref [slc o, slc es, slc rs] 0] (.int .i64 (theoryFault ⟨l⟩ ⟨o, es, rs⟩)) := by
  have hsl : l.length ≤ 4294967296 := by have : l.length ≤ 6 := ok.le; omega
  have hol : o.length ≤ 4294967296 := Nat.le_trans ho.1 (by omega)
  have hrl : rs.length ≤ 4294967296 := Nat.le_trans hr.1 (by omega)
  have hof : orderFault ⟨l⟩ o = orderF l o := by unfold orderFault; rw [if_neg (by simpa using h0)]
  refine call_of rfl 0 ((spec_l13Fault.ev _ _ _ _ _).trans ?_)
  simp only [Int.ofNat_lt, str_inj, beq_dec, bne_dec, cond_dec, cond_nt, if_true, if_false, decide_true, decide_false, cond_true, cond_false, u8_inj, cells_div, szs, sz_list, inB_nat, Int.toNat_natCast, get0, get1, get2, get3, get4, get5, get6, get7, get8, Nat.reduceLT, bind_of, List.getElem?_cons_zero, List.getElem?_cons_succ, oInt_int, oBool_bool, oStr_str, oSl_slc, oAgg_agg, oTup_tup, oCons_cons, oNil_nil, sl_cells, (spec_l2Order l hsl o hol).eq, (spec_l5Fault l ok es (sm_mono (by omega) he)).eq, (spec_l8Fault l ok rs (sm_mono (by omega) hr)).eq, theoryFault, hof]
  by_cases h1 : orderF l o = 0
  case neg => simp only [h1, Int.ofNat_lt, str_inj, beq_dec, bne_dec, cond_dec, cond_nt, if_true, if_false, decide_true, decide_false, cond_true, cond_false, u8_inj, cells_div, szs, sz_list, inB_nat, Int.toNat_natCast, get0, get1, get2, get3, get4, get5, get6, get7, get8, Nat.reduceLT, bind_of, List.getElem?_cons_zero, List.getElem?_cons_succ, oInt_int, oBool_bool, oStr_str, oSl_slc, oAgg_agg, oTup_tup, oCons_cons, oNil_nil, sl_cells, ne_eq, not_false_eq_true]
  simp only [h1, Int.ofNat_lt, str_inj, beq_dec, bne_dec, cond_dec, cond_nt, if_true, if_false, decide_true, decide_false, cond_true, cond_false, u8_inj, cells_div, szs, sz_list, inB_nat, Int.toNat_natCast, get0, get1, get2, get3, get4, get5, get6, get7, get8, Nat.reduceLT, bind_of, List.getElem?_cons_zero, List.getElem?_cons_succ, oInt_int, oBool_bool, oStr_str, oSl_slc, oAgg_agg, oTup_tup, oCons_cons, oNil_nil, sl_cells, ne_eq, not_true_eq_false]
  by_cases h2 : eqsFault l es = 0
  case neg => simp only [h2, Int.ofNat_lt, str_inj, beq_dec, bne_dec, cond_dec, cond_nt, if_true, if_false, decide_true, decide_false, cond_true, cond_false, u8_inj, cells_div, szs, sz_list, inB_nat, Int.toNat_natCast, get0, get1, get2, get3, get4, get5, get6, get7, get8, Nat.reduceLT, bind_of, List.getElem?_cons_zero, List.getElem?_cons_succ, oInt_int, oBool_bool, oStr_str, oSl_slc, oAgg_agg, oTup_tup, oCons_cons, oNil_nil, sl_cells, not_false_eq_true]
  simp only [h2, Int.ofNat_lt, str_inj, beq_dec, bne_dec, cond_dec, cond_nt, if_true, if_false, decide_true, decide_false, cond_true, cond_false, u8_inj, cells_div, szs, sz_list, inB_nat, Int.toNat_natCast, get0, get1, get2, get3, get4, get5, get6, get7, get8, Nat.reduceLT, bind_of, List.getElem?_cons_zero, List.getElem?_cons_succ, oInt_int, oBool_bool, oStr_str, oSl_slc, oAgg_agg, oTup_tup, oCons_cons, oNil_nil, sl_cells, not_true_eq_false]
  by_cases h3 : rulesFault0 l rs = 0
  case neg => simp only [h3, Int.ofNat_lt, str_inj, beq_dec, bne_dec, cond_dec, cond_nt, if_true, if_false, decide_true, decide_false, cond_true, cond_false, u8_inj, cells_div, szs, sz_list, inB_nat, Int.toNat_natCast, get0, get1, get2, get3, get4, get5, get6, get7, get8, Nat.reduceLT, bind_of, List.getElem?_cons_zero, List.getElem?_cons_succ, oInt_int, oBool_bool, oStr_str, oSl_slc, oAgg_agg, oTup_tup, oCons_cons, oNil_nil, sl_cells, not_false_eq_true]
  simp only [h3, Int.ofNat_lt, str_inj, beq_dec, bne_dec, cond_dec, cond_nt, if_true, if_false, decide_true, decide_false, cond_true, cond_false, u8_inj, cells_div, szs, sz_list, inB_nat, Int.toNat_natCast, get0, get1, get2, get3, get4, get5, get6, get7, get8, Nat.reduceLT, bind_of, List.getElem?_cons_zero, List.getElem?_cons_succ, oInt_int, oBool_bool, oStr_str, oSl_slc, oAgg_agg, oTup_tup, oCons_cons, oNil_nil, sl_cells, not_true_eq_false, (spec_l7Falls ok h1 (eqsOk_iff.1 (rulesFault0_eqs h3)).2 hrl).eq]
  cases falling l o rs <;> rfl
theorem spec_TheoryFault (s : Signature) (t : Theory) (hs : sm 1048576 s) (ht : sm 1048576 t) : Call F.spec_TheoryFault [.agg (enc s), .agg (enc t)] (.int .i64 (theoryFault s t)) := by
  obtain ⟨l⟩ := s
  obtain ⟨o, es, rs⟩ := t
  have hsl : l.length ≤ 4294967296 := Nat.le_trans hs.1 (by omega)
  show Call F.spec_TheoryFault [.agg [slc l], .agg [slc o, slc es, slc rs]] _
  refine call_of rfl 0 ((spec_TheoryFault.ev _ _ _ _ _).trans ?_)
  simp only [Int.ofNat_lt, str_inj, beq_dec, bne_dec, cond_dec, cond_nt, if_true, if_false, decide_true, decide_false, cond_true, cond_false, u8_inj, cells_div, szs, sz_list, inB_nat, Int.toNat_natCast, get0, get1, get2, get3, get4, get5, get6, get7, get8, Nat.reduceLT, bind_of, List.getElem?_cons_zero, List.getElem?_cons_succ, oInt_int, oBool_bool, oStr_str, oSl_slc, oAgg_agg, oTup_tup, oCons_cons, oNil_nil, sl_cells, (spec_SignatureFault l hsl).eq]
  by_cases h0 : sigFault ⟨l⟩ = 0
  case neg =>
    have hof : orderFault ⟨l⟩ o = sigFault ⟨l⟩ := by unfold orderFault; rw [if_pos (by simpa using h0)]
    simp only [h0, Int.ofNat_lt, str_inj, beq_dec, bne_dec, cond_dec, cond_nt, if_true, if_false, decide_true, decide_false, cond_true, cond_false, u8_inj, cells_div, szs, sz_list, inB_nat, Int.toNat_natCast, get0, get1, get2, get3, get4, get5, get6, get7, get8, Nat.reduceLT, bind_of, List.getElem?_cons_zero, List.getElem?_cons_succ, oInt_int, oBool_bool, oStr_str, oSl_slc, oAgg_agg, oTup_tup, oCons_cons, oNil_nil, sl_cells, theoryFault, hof, ne_eq, not_false_eq_true]
  simp only [h0, Int.ofNat_lt, str_inj, beq_dec, bne_dec, cond_dec, cond_nt, if_true, if_false, decide_true, decide_false, cond_true, cond_false, u8_inj, cells_div, szs, sz_list, inB_nat, Int.toNat_natCast, get0, get1, get2, get3, get4, get5, get6, get7, get8, Nat.reduceLT, bind_of, List.getElem?_cons_zero, List.getElem?_cons_succ, oInt_int, oBool_bool, oStr_str, oSl_slc, oAgg_agg, oTup_tup, oCons_cons, oNil_nil, sl_cells, (spec_l13Fault (sigOk_of h0) h0 o es rs ht.1 ht.2.1 ht.2.2).eq]
theorem theoryOk {l : List Symbol} {o : List Int} {es rs : List Equation} (h : theoryFault ⟨l⟩ ⟨o, es, rs⟩ = 0) : SigOk ⟨l⟩ ∧ o.length = l.length ∧ eqsFault l es = 0 ∧ rulesFault0 l rs = 0 := by
  unfold theoryFault at h
  split at h
  · rename_i h1; exact absurd h h1
  rename_i h1
  split at h
  · rename_i h2; exact absurd h h2
  rename_i h2
  split at h
  · rename_i h3; exact absurd h h3
  rename_i h3
  obtain ⟨h0, hf⟩ := orderFault_ok (show orderFault ⟨l⟩ o = 0 by simpa using h1)
  exact ⟨sigOk_of h0, (orderOk hf).1, by simpa using h2, by simpa using h3⟩
def byteOf (x : Int) : UInt8 := UInt8.ofNat (IntKind.wrap .u8 x).toNat
theorem wrap_u8 (x : Int) : IntKind.wrap .u8 x = ((byteOf x).toNat : Int) := by
  have h : 0 ≤ IntKind.wrap .u8 x ∧ IntKind.wrap .u8 x < 256 := by
    show 0 ≤ x % 256 ∧ x % 256 < 256
    omega
  unfold byteOf
  rw [UInt8.toNat_ofNat']
  omega
def nodeByte (n : Int) : UInt8 := if n < 0 then byteOf (IntKind.wrap .i64 (31 - n)) else byteOf (IntKind.wrap .i64 (n + 1))
def packT (t : List Int) : List UInt8 := t.map nodeByte
theorem impl_packed (t : List Int) (ht : t.length ≤ 4294967296) : Call F.impl_packed [slc t] (slc (packT t)) := by
  refine call_of rfl (t.length + 1) ((impl_packed.ev _ _).trans ?_)
  simp only [Int.ofNat_lt, str_inj, beq_dec, bne_dec, cond_dec, cond_nt, if_true, if_false, decide_true, decide_false, cond_true, cond_false, u8_inj, cells_div, szs, sz_list, inB_nat, Int.toNat_natCast, get0, get1, get2, get3, get4, get5, get6, get7, get8, Nat.reduceLT, bind_of, List.getElem?_cons_zero, List.getElem?_cons_succ, oInt_int, oBool_bool, oStr_str, oSl_slc, oAgg_agg, oTup_tup, oCons_cons, oNil_nil, sl_cells]
  have key := run_loop (n := t.length) (f := t.length + 1) (S := fun m k (o : List UInt8) => impl_packed.at0 (t.length + 1) m (impl_packed.st0 (cells t) t.length (k : Nat) (cells o))) (st := fun k => packT (t.take k)) (z := some (slc (packT t), []))
    (fun m k h => ?_) (fun m => ?_) (by omega)
  · simpa [packT] using key
  · have hlk : t[k]? = some t[k] := List.getElem?_eq_getElem h
    have e : packT (t.take (k + 1)) = packT (t.take k) ++ [nodeByte t[k]] := by
      have hk : t.take (k + 1) = t.take k ++ [t[k]] := (List.take_append_getElem h).symm
      unfold packT
      rw [hk, List.map_append]; rfl
    rw [e]
    have hl : (cells (packT (t.take k))).length + 1 ≤ 4294967297 := by rw [cells_length]; simp [packT, show Enc.sz UInt8 = 1 from rfl]; omega
    simp only [impl_packed.next0, impl_packed.round0, Int.ofNat_lt, str_inj, beq_dec, bne_dec, cond_dec, cond_nt, if_true, if_false, decide_true, decide_false, cond_true, cond_false, u8_inj, cells_div, szs, sz_list, inB_nat, Int.toNat_natCast, get0, get1, get2, get3, get4, get5, get6, get7, get8, Nat.reduceLT, bind_of, List.getElem?_cons_zero, List.getElem?_cons_succ, oInt_int, oBool_bool, oStr_str, oSl_slc, oAgg_agg, oTup_tup, oCons_cons, oNil_nil, sl_cells, h, hlk, enc_int, nodeByte]
    rw [wrap_succ (by omega), wrap_u8, cells_snoc_u8, wrap_u8, cells_snoc_u8]
    by_cases hn : t[k] < 0
    · rw [if_pos hn, if_pos hn, cond_pos (ble_ok (by omega))]
    · rw [if_neg hn, if_neg hn, cond_pos (ble_ok (by omega))]
  · simp only [impl_packed.next0, impl_packed.round0, Int.ofNat_lt, str_inj, beq_dec, bne_dec, cond_dec, cond_nt, if_true, if_false, decide_true, decide_false, cond_true, cond_false, u8_inj, cells_div, szs, sz_list, inB_nat, Int.toNat_natCast, get0, get1, get2, get3, get4, get5, get6, get7, get8, Nat.reduceLT, bind_of, List.getElem?_cons_zero, List.getElem?_cons_succ, oInt_int, oBool_bool, oStr_str, oSl_slc, oAgg_agg, oTup_tup, oCons_cons, oNil_nil, sl_cells, Nat.lt_irrefl, List.take_length]
theorem spec_l5Pack (t : List Int) (ht : t.length ≤ 4294967296) : Call F.spec_l5Pack [slc t] (slc (packT t)) := by
  refine call_of rfl (t.length + 1) ((spec_l5Pack.ev _ _).trans ?_)
  have key := run_loop (n := t.length) (f := t.length + 1) (S := fun m k (o : List UInt8) => spec_l5Pack.at0 (t.length + 1) m (spec_l5Pack.st0 (cells t) (k : Nat) (cells o))) (st := fun k => packT (t.take k)) (z := some (slc (packT t), []))
    (fun m k h => ?_) (fun m => ?_) (by omega)
  · simpa [packT] using key
  · have hlk : t[k]? = some t[k] := List.getElem?_eq_getElem h
    have e : packT (t.take (k + 1)) = packT (t.take k) ++ [nodeByte t[k]] := by
      have hk : t.take (k + 1) = t.take k ++ [t[k]] := (List.take_append_getElem h).symm
      unfold packT
      rw [hk, List.map_append]; rfl
    rw [e]
    have hl : (cells (packT (t.take k))).length + 1 ≤ 4294967297 := by rw [cells_length]; simp [packT, show Enc.sz UInt8 = 1 from rfl]; omega
    simp only [spec_l5Pack.next0, spec_l5Pack.round0, Int.ofNat_lt, str_inj, beq_dec, bne_dec, cond_dec, cond_nt, if_true, if_false, decide_true, decide_false, cond_true, cond_false, u8_inj, cells_div, szs, sz_list, inB_nat, Int.toNat_natCast, get0, get1, get2, get3, get4, get5, get6, get7, get8, Nat.reduceLT, bind_of, List.getElem?_cons_zero, List.getElem?_cons_succ, oInt_int, oBool_bool, oStr_str, oSl_slc, oAgg_agg, oTup_tup, oCons_cons, oNil_nil, sl_cells, h, hlk, enc_int, nodeByte]
    rw [wrap_succ (by omega), wrap_u8, cells_snoc_u8, wrap_u8, cells_snoc_u8]
    by_cases hn : t[k] < 0
    · rw [if_pos hn, if_pos hn, cond_pos (ble_ok (by omega))]
    · rw [if_neg hn, if_neg hn, cond_pos (ble_ok (by omega))]
  · simp only [spec_l5Pack.next0, spec_l5Pack.round0, Int.ofNat_lt, str_inj, beq_dec, bne_dec, cond_dec, cond_nt, if_true, if_false, decide_true, decide_false, cond_true, cond_false, u8_inj, cells_div, szs, sz_list, inB_nat, Int.toNat_natCast, get0, get1, get2, get3, get4, get5, get6, get7, get8, Nat.reduceLT, bind_of, List.getElem?_cons_zero, List.getElem?_cons_succ, oInt_int, oBool_bool, oStr_str, oSl_slc, oAgg_agg, oTup_tup, oCons_cons, oNil_nil, sl_cells, Nat.lt_irrefl, List.take_length]
def packE (es : List Equation) : List UInt8 := byteOf es.length :: es.flatMap fun e => packT e.left ++ packT e.right
theorem packE_length {l : List Symbol} : ∀ {es : List Equation}, (∀ e ∈ es, EqOk l e) → (packE es).length ≤ 1 + es.length * 48
  | [], _ => by simp [packE]
  | e :: es, h => by
    have ih := packE_length (es := es) fun x hx => h x (List.mem_cons_of_mem _ hx)
    have he := h e (by simp)
    have h1 := he.left.le
    have h2 := he.right.le
    simp only [packE, List.length_cons, List.flatMap_cons, List.length_append, packT, List.length_map] at ih ⊢
    omega
theorem packE_step {es : List Equation} {k : Nat} (h : k < es.length) (b : UInt8) : (b :: ((es.take (k + 1)).flatMap fun e => packT e.left ++ packT e.right)) = ((b :: ((es.take k).flatMap fun e => packT e.left ++ packT e.right)) ++ packT es[k].left) ++ packT es[k].right := by
  have hk : es.take (k + 1) = es.take k ++ [es[k]] := (List.take_append_getElem h).symm
  rw [hk, List.flatMap_append]; simp
theorem packE_take {l : List Symbol} {es : List Equation} (h : ∀ e ∈ es, EqOk l e) (b : UInt8) (k : Nat) : (b :: ((es.take k).flatMap fun e => packT e.left ++ packT e.right)).length ≤ 1 + es.length * 48 := by
  have := packE_length (es := es.take k) (l := l) fun e he => h e (List.mem_of_mem_take he)
  simp only [packE, List.length_cons] at this ⊢
  have h2 : (es.take k).length ≤ es.length := by simp; omega
  omega
theorem impl_packedEquations {l : List Symbol} (es : List Equation) (he : ∀ e ∈ es, EqOk l e) (hn : es.length ≤ 12) : Call F.impl_packedEquations [slc es] (slc (packE es)) := by
  refine call_of rfl (es.length + 1) ((impl_packedEquations.ev _ _).trans ?_)
  simp only [Int.ofNat_lt, str_inj, beq_dec, bne_dec, cond_dec, cond_nt, if_true, if_false, decide_true, decide_false, cond_true, cond_false, u8_inj, cells_div, szs, sz_list, inB_nat, Int.toNat_natCast, get0, get1, get2, get3, get4, get5, get6, get7, get8, Nat.reduceLT, bind_of, List.getElem?_cons_zero, List.getElem?_cons_succ, oInt_int, oBool_bool, oStr_str, oSl_slc, oAgg_agg, oTup_tup, oCons_cons, oNil_nil, sl_cells]
  have key := run_loop (n := es.length) (f := es.length + 1) (S := fun m k (o : List UInt8) => impl_packedEquations.at0 (es.length + 1) m (impl_packedEquations.st0 (cells es) es.length (k : Nat) (cells o)))
    (st := fun k => byteOf es.length :: ((es.take k).flatMap fun e => packT e.left ++ packT e.right)) (z := some (slc (packE es), []))
    (fun m k h => ?_) (fun m => ?_) (by omega)
  · rw [wrap_u8]
    have e1 : [T.int .u8 ((byteOf es.length).toNat : Int)] = cells [byteOf es.length] := by rw [enc_cells_one]; rfl
    rw [e1]
    simpa using key
  · have hlk : es[k]? = some es[k] := List.getElem?_eq_getElem h
    have hk := he _ (List.getElem_mem h)
    have h1 := hk.left.le
    have h2 := hk.right.le
    have hb := packE_take he (byteOf es.length) k
    rw [packE_step h]
    simp only [impl_packedEquations.next0, impl_packedEquations.round0, Int.ofNat_lt, str_inj, beq_dec, bne_dec, cond_dec, cond_nt, if_true, if_false, decide_true, decide_false, cond_true, cond_false, u8_inj, cells_div, szs, sz_list, inB_nat, Int.toNat_natCast, get0, get1, get2, get3, get4, get5, get6, get7, get8, Nat.reduceLT, bind_of, List.getElem?_cons_zero, List.getElem?_cons_succ, oInt_int, oBool_bool, oStr_str, oSl_slc, oAgg_agg, oTup_tup, oCons_cons, oNil_nil, sl_cells, h, hlk, enc_Equation, (impl_packed es[k].left (by omega)).eq, (impl_packed es[k].right (by omega)).eq, scalars_u8, ← cells_append]
    rw [wrap_succ (by omega), cond_pos (ble_ok (by rw [cells_length, cells_length, sz_u8]; simp only [packT, List.length_map] at *; omega)), cond_pos (ble_ok (by rw [cells_length, cells_length, sz_u8, List.length_append]; simp only [packT, List.length_map] at *; omega))]
  · simp only [impl_packedEquations.next0, impl_packedEquations.round0, Int.ofNat_lt, str_inj, beq_dec, bne_dec, cond_dec, cond_nt, if_true, if_false, decide_true, decide_false, cond_true, cond_false, u8_inj, cells_div, szs, sz_list, inB_nat, Int.toNat_natCast, get0, get1, get2, get3, get4, get5, get6, get7, get8, Nat.reduceLT, bind_of, List.getElem?_cons_zero, List.getElem?_cons_succ, oInt_int, oBool_bool, oStr_str, oSl_slc, oAgg_agg, oTup_tup, oCons_cons, oNil_nil, sl_cells, Nat.lt_irrefl, List.take_length]
    rfl
theorem spec_l5PackAll {l : List Symbol} (es : List Equation) (he : ∀ e ∈ es, EqOk l e) (hn : es.length ≤ 12) : Call F.spec_l5PackAll [slc es] (slc (packE es)) := by
  refine call_of rfl (es.length + 1) ((spec_l5PackAll.ev _ _).trans ?_)
  simp only [Int.ofNat_lt, str_inj, beq_dec, bne_dec, cond_dec, cond_nt, if_true, if_false, decide_true, decide_false, cond_true, cond_false, u8_inj, cells_div, szs, sz_list, inB_nat, Int.toNat_natCast, get0, get1, get2, get3, get4, get5, get6, get7, get8, Nat.reduceLT, bind_of, List.getElem?_cons_zero, List.getElem?_cons_succ, oInt_int, oBool_bool, oStr_str, oSl_slc, oAgg_agg, oTup_tup, oCons_cons, oNil_nil, sl_cells]
  have key := run_loop (n := es.length) (f := es.length + 1) (S := fun m k (o : List UInt8) => spec_l5PackAll.at0 (es.length + 1) m (spec_l5PackAll.st0 (cells es) (k : Nat) (cells o)))
    (st := fun k => byteOf es.length :: ((es.take k).flatMap fun e => packT e.left ++ packT e.right)) (z := some (slc (packE es), []))
    (fun m k h => ?_) (fun m => ?_) (by omega)
  · rw [wrap_u8]
    have e1 : [T.int .u8 ((byteOf es.length).toNat : Int)] = cells [byteOf es.length] := by rw [enc_cells_one]; rfl
    rw [e1]
    simpa using key
  · have hlk : es[k]? = some es[k] := List.getElem?_eq_getElem h
    have hk := he _ (List.getElem_mem h)
    have h1 := hk.left.le
    have h2 := hk.right.le
    have hb := packE_take he (byteOf es.length) k
    rw [packE_step h]
    simp only [spec_l5PackAll.next0, spec_l5PackAll.round0, Int.ofNat_lt, str_inj, beq_dec, bne_dec, cond_dec, cond_nt, if_true, if_false, decide_true, decide_false, cond_true, cond_false, u8_inj, cells_div, szs, sz_list, inB_nat, Int.toNat_natCast, get0, get1, get2, get3, get4, get5, get6, get7, get8, Nat.reduceLT, bind_of, List.getElem?_cons_zero, List.getElem?_cons_succ, oInt_int, oBool_bool, oStr_str, oSl_slc, oAgg_agg, oTup_tup, oCons_cons, oNil_nil, sl_cells, h, hlk, enc_Equation, (spec_l5Pack es[k].left (by omega)).eq, (spec_l5Pack es[k].right (by omega)).eq, scalars_u8, ← cells_append]
    rw [wrap_succ (by omega), cond_pos (ble_ok (by rw [cells_length, cells_length, sz_u8]; simp only [packT, List.length_map] at *; omega)), cond_pos (ble_ok (by rw [cells_length, cells_length, sz_u8, List.length_append]; simp only [packT, List.length_map] at *; omega))]
  · simp only [spec_l5PackAll.next0, spec_l5PackAll.round0, Int.ofNat_lt, str_inj, beq_dec, bne_dec, cond_dec, cond_nt, if_true, if_false, decide_true, decide_false, cond_true, cond_false, u8_inj, cells_div, szs, sz_list, inB_nat, Int.toNat_natCast, get0, get1, get2, get3, get4, get5, get6, get7, get8, Nat.reduceLT, bind_of, List.getElem?_cons_zero, List.getElem?_cons_succ, oInt_int, oBool_bool, oStr_str, oSl_slc, oAgg_agg, oTup_tup, oCons_cons, oNil_nil, sl_cells, Nat.lt_irrefl, List.take_length]
    rfl
def packTh (o : List Int) (es rs : List Equation) : List UInt8 := (o.map byteOf ++ packE es) ++ packE rs
theorem impl_packedTheory {l : List Symbol} (o : List Int) (es rs : List Equation) (ho : o.length ≤ 6) (he : ∀ e ∈ es, EqOk l e) (hen : es.length ≤ 12) (hr : ∀ e ∈ rs, EqOk l e) (hrn : rs.length ≤ 12) :
    Call F.impl_packedTheory [.agg [slc o, slc es, slc rs]] (slc (packTh o es rs)) := by
  refine call_of rfl (o.length + 1) ((impl_packedTheory.ev _ _ _ _).trans ?_)
  simp only [Int.ofNat_lt, str_inj, beq_dec, bne_dec, cond_dec, cond_nt, if_true, if_false, decide_true, decide_false, cond_true, cond_false, u8_inj, cells_div, szs, sz_list, inB_nat, Int.toNat_natCast, get0, get1, get2, get3, get4, get5, get6, get7, get8, Nat.reduceLT, bind_of, List.getElem?_cons_zero, List.getElem?_cons_succ, oInt_int, oBool_bool, oStr_str, oSl_slc, oAgg_agg, oTup_tup, oCons_cons, oNil_nil, sl_cells]
  have h1 := packE_length he
  have h2 := packE_length hr
  have key := run_loop (n := o.length) (f := o.length + 1) (S := fun m k (x : List UInt8) => impl_packedTheory.at0 (o.length + 1) m (impl_packedTheory.st0 (cells o) o.length (k : Nat) (cells o) (cells es) (cells rs) (cells x)))
    (st := fun k => (o.take k).map byteOf) (z := some (slc (packTh o es rs), [])) (fun m k h => ?_) (fun m => ?_) (by omega)
  · simpa using key
  · have hlk : o[k]? = some o[k] := List.getElem?_eq_getElem h
    have e : (o.take (k + 1)).map byteOf = (o.take k).map byteOf ++ [byteOf o[k]] := by
      have hk : o.take (k + 1) = o.take k ++ [o[k]] := (List.take_append_getElem h).symm
      rw [hk, List.map_append]; rfl
    rw [e]
    simp only [impl_packedTheory.next0, impl_packedTheory.round0, Int.ofNat_lt, str_inj, beq_dec, bne_dec, cond_dec, cond_nt, if_true, if_false, decide_true, decide_false, cond_true, cond_false, u8_inj, cells_div, szs, sz_list, inB_nat, Int.toNat_natCast, get0, get1, get2, get3, get4, get5, get6, get7, get8, Nat.reduceLT, bind_of, List.getElem?_cons_zero, List.getElem?_cons_succ, oInt_int, oBool_bool, oStr_str, oSl_slc, oAgg_agg, oTup_tup, oCons_cons, oNil_nil, sl_cells, h, hlk, enc_int]
    rw [wrap_succ (by omega), wrap_u8, cells_snoc_u8, cond_pos (ble_ok (by rw [cells_length, sz_u8]; simp; omega))]
  · simp only [impl_packedTheory.next0, impl_packedTheory.round0, Int.ofNat_lt, str_inj, beq_dec, bne_dec, cond_dec, cond_nt, if_true, if_false, decide_true, decide_false, cond_true, cond_false, u8_inj, cells_div, szs, sz_list, inB_nat, Int.toNat_natCast, get0, get1, get2, get3, get4, get5, get6, get7, get8, Nat.reduceLT, bind_of, List.getElem?_cons_zero, List.getElem?_cons_succ, oInt_int, oBool_bool, oStr_str, oSl_slc, oAgg_agg, oTup_tup, oCons_cons, oNil_nil, sl_cells, Nat.lt_irrefl, List.take_length, (impl_packedEquations es he hen).eq, (impl_packedEquations rs hr hrn).eq, scalars_u8, ← cells_append]
    rw [cond_pos (ble_ok (by rw [cells_length, cells_length, sz_u8, List.length_map]; omega)), cond_pos (ble_ok (by rw [cells_length, cells_length, sz_u8, List.length_append, List.length_map]; omega))]
    rfl
theorem spec_l13Pack {l : List Symbol} (o : List Int) (es rs : List Equation) (ho : o.length ≤ 6) (he : ∀ e ∈ es, EqOk l e) (hen : es.length ≤ 12) (hr : ∀ e ∈ rs, EqOk l e) (hrn : rs.length ≤ 12) :
    Call F.spec_l13Pack [.rref [slc o, slc es, slc rs] 0] (slc (packTh o es rs)) := by
  refine call_of rfl (o.length + 1) ((spec_l13Pack.ev _ _ _ _).trans ?_)
  have h1 := packE_length he
  have h2 := packE_length hr
  have key := run_loop (n := o.length) (f := o.length + 1) (S := fun m k (x : List UInt8) => spec_l13Pack.at0 (o.length + 1) m (spec_l13Pack.st0 (cells o) (cells es) (cells rs) (k : Nat) (cells x)))
    (st := fun k => (o.take k).map byteOf) (z := some (slc (packTh o es rs), [])) (fun m k h => ?_) (fun m => ?_) (by omega)
  · simpa using key
  · have hlk : o[k]? = some o[k] := List.getElem?_eq_getElem h
    have e : (o.take (k + 1)).map byteOf = (o.take k).map byteOf ++ [byteOf o[k]] := by
      have hk : o.take (k + 1) = o.take k ++ [o[k]] := (List.take_append_getElem h).symm
      rw [hk, List.map_append]; rfl
    rw [e]
    simp only [spec_l13Pack.next0, spec_l13Pack.round0, Int.ofNat_lt, str_inj, beq_dec, bne_dec, cond_dec, cond_nt, if_true, if_false, decide_true, decide_false, cond_true, cond_false, u8_inj, cells_div, szs, sz_list, inB_nat, Int.toNat_natCast, get0, get1, get2, get3, get4, get5, get6, get7, get8, Nat.reduceLT, bind_of, List.getElem?_cons_zero, List.getElem?_cons_succ, oInt_int, oBool_bool, oStr_str, oSl_slc, oAgg_agg, oTup_tup, oCons_cons, oNil_nil, sl_cells, h, hlk, enc_int]
    rw [wrap_succ (by omega), wrap_u8, cells_snoc_u8, cond_pos (ble_ok (by rw [cells_length, sz_u8]; simp; omega))]
  · simp only [spec_l13Pack.next0, spec_l13Pack.round0, Int.ofNat_lt, str_inj, beq_dec, bne_dec, cond_dec, cond_nt, if_true, if_false, decide_true, decide_false, cond_true, cond_false, u8_inj, cells_div, szs, sz_list, inB_nat, Int.toNat_natCast, get0, get1, get2, get3, get4, get5, get6, get7, get8, Nat.reduceLT, bind_of, List.getElem?_cons_zero, List.getElem?_cons_succ, oInt_int, oBool_bool, oStr_str, oSl_slc, oAgg_agg, oTup_tup, oCons_cons, oNil_nil, sl_cells, Nat.lt_irrefl, List.take_length, (spec_l5PackAll es he hen).eq, (spec_l5PackAll rs hr hrn).eq, scalars_u8, ← cells_append]
    rw [cond_pos (ble_ok (by rw [cells_length, cells_length, sz_u8, List.length_map]; omega)), cond_pos (ble_ok (by rw [cells_length, cells_length, sz_u8, List.length_append, List.length_map]; omega))]
    rfl
def packTheoryR (s : Signature) (t : Theory) : BytesResult :=
  if theoryFault s t ≠ 0 then ⟨theoryFault s t, []⟩ else if 300 < (packTh t.order t.equations t.rules).length then ⟨2, []⟩ else ⟨0, packTh t.order t.equations t.rules⟩
theorem packTheoryR_sm (s : Signature) (t : Theory) (_ : sm 1048576 s) (_ : sm 1048576 t) : sm 67108864 (packTheoryR s t) := by
  unfold packTheoryR
  split
  · exact ⟨by simp, by simp⟩
  split
  · exact ⟨by simp, by simp⟩
  · exact ⟨show (packTh t.order t.equations t.rules).length ≤ 67108864 by omega, fun _ _ => trivial⟩
theorem impl_PackTheory (s : Signature) (t : Theory) (hs : sm 1048576 s) (ht : sm 1048576 t) : Call F.impl_PackTheory [.agg (enc s), .agg (enc t)] (.agg (enc (packTheoryR s t))) := by
  have hf := impl_TheoryFault s t hs ht
  obtain ⟨l⟩ := s
  obtain ⟨o, es, rs⟩ := t
  have hf : Call F.impl_TheoryFault [.agg [slc l], .agg [slc o, slc es, slc rs]] (.int .i64 (theoryFault ⟨l⟩ ⟨o, es, rs⟩)) := hf
  show Call F.impl_PackTheory [.agg [slc l], .agg [slc o, slc es, slc rs]] _
  refine call_of rfl 0 ((impl_PackTheory.ev _ _ _ _ _).trans ?_)
  simp only [Int.ofNat_lt, str_inj, beq_dec, bne_dec, cond_dec, cond_nt, if_true, if_false, decide_true, decide_false, cond_true, cond_false, u8_inj, cells_div, szs, sz_list, inB_nat, Int.toNat_natCast, get0, get1, get2, get3, get4, get5, get6, get7, get8, Nat.reduceLT, bind_of, List.getElem?_cons_zero, List.getElem?_cons_succ, oInt_int, oBool_bool, oStr_str, oSl_slc, oAgg_agg, oTup_tup, oCons_cons, oNil_nil, sl_cells, hf.eq, packTheoryR, gt_iff_lt]
  by_cases h1 : theoryFault ⟨l⟩ ⟨o, es, rs⟩ = 0
  case neg => simp only [h1, Int.ofNat_lt, str_inj, beq_dec, bne_dec, cond_dec, cond_nt, if_true, if_false, decide_true, decide_false, cond_true, cond_false, u8_inj, cells_div, szs, sz_list, inB_nat, Int.toNat_natCast, get0, get1, get2, get3, get4, get5, get6, get7, get8, Nat.reduceLT, bind_of, List.getElem?_cons_zero, List.getElem?_cons_succ, oInt_int, oBool_bool, oStr_str, oSl_slc, oAgg_agg, oTup_tup, oCons_cons, oNil_nil, sl_cells, ne_eq, not_false_eq_true]; rfl
  obtain ⟨ok, h2, h3, h4⟩ := theoryOk h1
  have hls : l.length ≤ 6 := ok.le
  obtain ⟨q1, q2⟩ := eqsOk_iff.1 h3
  obtain ⟨q3, q4⟩ := eqsOk_iff.1 (rulesFault0_eqs h4)
  simp only [h1, Int.ofNat_lt, str_inj, beq_dec, bne_dec, cond_dec, cond_nt, if_true, if_false, decide_true, decide_false, cond_true, cond_false, u8_inj, cells_div, szs, sz_list, inB_nat, Int.toNat_natCast, get0, get1, get2, get3, get4, get5, get6, get7, get8, Nat.reduceLT, bind_of, List.getElem?_cons_zero, List.getElem?_cons_succ, oInt_int, oBool_bool, oStr_str, oSl_slc, oAgg_agg, oTup_tup, oCons_cons, oNil_nil, sl_cells, ne_eq, not_true_eq_false, (impl_packedTheory o es rs (by omega) q2 q1 q4 q3).eq, sz_u8]
  by_cases h5 : 300 < (packTh o es rs).length
  · rw [if_pos (by omega), if_pos h5]; rfl
  · rw [if_neg (by omega), if_neg h5]; rfl
theorem spec_PackTheory (s : Signature) (t : Theory) (hs : sm 1048576 s) (ht : sm 1048576 t) : Call F.spec_PackTheory [.agg (enc s), .agg (enc t)] (.agg (enc (packTheoryR s t))) := by
  have hf := spec_TheoryFault s t hs ht
  obtain ⟨l⟩ := s
  obtain ⟨o, es, rs⟩ := t
  have hf : Call F.spec_TheoryFault [.agg [slc l], .agg [slc o, slc es, slc rs]] (.int .i64 (theoryFault ⟨l⟩ ⟨o, es, rs⟩)) := hf
  show Call F.spec_PackTheory [.agg [slc l], .agg [slc o, slc es, slc rs]] _
  refine call_of rfl 0 ((spec_PackTheory.ev _ _ _ _ _).trans ?_)
  simp only [Int.ofNat_lt, str_inj, beq_dec, bne_dec, cond_dec, cond_nt, if_true, if_false, decide_true, decide_false, cond_true, cond_false, u8_inj, cells_div, szs, sz_list, inB_nat, Int.toNat_natCast, get0, get1, get2, get3, get4, get5, get6, get7, get8, Nat.reduceLT, bind_of, List.getElem?_cons_zero, List.getElem?_cons_succ, oInt_int, oBool_bool, oStr_str, oSl_slc, oAgg_agg, oTup_tup, oCons_cons, oNil_nil, sl_cells, hf.eq, packTheoryR, gt_iff_lt]
  by_cases h1 : theoryFault ⟨l⟩ ⟨o, es, rs⟩ = 0
  case neg => simp only [h1, Int.ofNat_lt, str_inj, beq_dec, bne_dec, cond_dec, cond_nt, if_true, if_false, decide_true, decide_false, cond_true, cond_false, u8_inj, cells_div, szs, sz_list, inB_nat, Int.toNat_natCast, get0, get1, get2, get3, get4, get5, get6, get7, get8, Nat.reduceLT, bind_of, List.getElem?_cons_zero, List.getElem?_cons_succ, oInt_int, oBool_bool, oStr_str, oSl_slc, oAgg_agg, oTup_tup, oCons_cons, oNil_nil, sl_cells, ne_eq, not_false_eq_true]; rfl
  obtain ⟨ok, h2, h3, h4⟩ := theoryOk h1
  have hls : l.length ≤ 6 := ok.le
  obtain ⟨q1, q2⟩ := eqsOk_iff.1 h3
  obtain ⟨q3, q4⟩ := eqsOk_iff.1 (rulesFault0_eqs h4)
  simp only [h1, Int.ofNat_lt, str_inj, beq_dec, bne_dec, cond_dec, cond_nt, if_true, if_false, decide_true, decide_false, cond_true, cond_false, u8_inj, cells_div, szs, sz_list, inB_nat, Int.toNat_natCast, get0, get1, get2, get3, get4, get5, get6, get7, get8, Nat.reduceLT, bind_of, List.getElem?_cons_zero, List.getElem?_cons_succ, oInt_int, oBool_bool, oStr_str, oSl_slc, oAgg_agg, oTup_tup, oCons_cons, oNil_nil, sl_cells, ne_eq, not_true_eq_false, (spec_l13Pack o es rs (by omega) q2 q1 q4 q3).eq, sz_u8]
  by_cases h5 : 300 < (packTh o es rs).length
  · rw [if_pos (by omega), if_pos h5]; rfl
  · rw [if_neg (by omega), if_neg h5]; rfl
end Ev.Ty
end

section
namespace Ev.Ty
open Go Ev
open Enc (enc)
open Sm (sm)
set_option linter.unusedSimpArgs false
set_option linter.unusedVariables false
set_option maxRecDepth 100000
set_option maxHeartbeats 2000000
theorem laws_FnExactPackTheory (s : Signature) (t : Theory) (h_s : sm maxLen s) (h_t : sm maxLen t) : Call F.laws_FnExactPackTheory [.agg (enc s), .agg (enc t)] (.bool true) := by
  obtain ⟨r0, c0, g0, p0⟩ := laws_szSignature s.symbols 1048576 (by omega) (by omega) h_s
  by_cases n0 : r0 < 0
  · exact call_of rfl 0 ((laws_FnExactPackTheory.ev _ _ _ _ _ ).trans (by simp only [Int.ofNat_lt, str_inj, beq_dec, bne_dec, cond_dec, cond_nt, if_true, if_false, decide_true, decide_false, cond_true, cond_false, u8_inj, cells_div, sz_int, sz_u8, sz_list, sz_Symbol, sz_Signature, sz_Equation, sz_Binding, sz_Algebra, sz_Entry, sz_Completion, sz_Theory, sz_Put, sz_Disk, sz_Act, sz_IntResult, sz_IntsResult, sz_BytesResult, sz_TextResult, sz_SignatureResult, sz_TermResult, sz_TermsResult, sz_EquationResult, sz_EquationsResult, sz_KeyResult, sz_BindingResult, sz_RedexResult, sz_NormalResult, sz_AlgebraResult, sz_EntryResult, sz_CompletionResult, sz_TheoryResult, sz_DiskResult, inB_nat, Int.toNat_natCast, get0, get1, get2, get3, get4, get5, get6, get7, get8, Nat.reduceLT, bind_of, List.getElem?_cons_zero, List.getElem?_cons_succ, oInt_int, oBool_bool, oStr_str, oSl_slc, oAgg_agg, oTup_tup, oCons_cons, oNil_nil, sl_cells, c0.eq, n0]))
  obtain ⟨r1, c1, g1, p1⟩ := laws_szTheory t.order t.equations t.rules r0 (by omega) (by omega) h_t
  by_cases n1 : r1 < 0
  · exact call_of rfl 0 ((laws_FnExactPackTheory.ev _ _ _ _ _ ).trans (by simp only [Int.ofNat_lt, str_inj, beq_dec, bne_dec, cond_dec, cond_nt, if_true, if_false, decide_true, decide_false, cond_true, cond_false, u8_inj, cells_div, sz_int, sz_u8, sz_list, sz_Symbol, sz_Signature, sz_Equation, sz_Binding, sz_Algebra, sz_Entry, sz_Completion, sz_Theory, sz_Put, sz_Disk, sz_Act, sz_IntResult, sz_IntsResult, sz_BytesResult, sz_TextResult, sz_SignatureResult, sz_TermResult, sz_TermsResult, sz_EquationResult, sz_EquationsResult, sz_KeyResult, sz_BindingResult, sz_RedexResult, sz_NormalResult, sz_AlgebraResult, sz_EntryResult, sz_CompletionResult, sz_TheoryResult, sz_DiskResult, inB_nat, Int.toNat_natCast, get0, get1, get2, get3, get4, get5, get6, get7, get8, Nat.reduceLT, bind_of, List.getElem?_cons_zero, List.getElem?_cons_succ, oInt_int, oBool_bool, oStr_str, oSl_slc, oAgg_agg, oTup_tup, oCons_cons, oNil_nil, sl_cells, c0.eq, n0, c1.eq, n1]))
  have q_s := p0 (by omega)
  have s_s := sm_mono (show 1048576 ≤ 4294967296 by omega) q_s
  have m_s := sm_mono (show 1048576 ≤ 67108864 by omega) q_s
  have q_t := p1 (by omega)
  have s_t := sm_mono (show 1048576 ≤ 4294967296 by omega) q_t
  have m_t := sm_mono (show 1048576 ≤ 67108864 by omega) q_t
  have hi : Call F.impl_PackTheory [.agg [slc s.symbols], .agg [slc t.order, slc t.equations, slc t.rules]] (.agg (enc (packTheoryR s t))) := impl_PackTheory s t q_s q_t
  have hp : Call F.spec_PackTheory [.agg [slc s.symbols], .agg [slc t.order, slc t.equations, slc t.rules]] (.agg (enc (packTheoryR s t))) := spec_PackTheory s t q_s q_t
  have hv := packTheoryR_sm s t q_s q_t
  generalize packTheoryR s t = r at hi hp hv
  obtain ⟨w_code, w_bytes⟩ := r
  have hv2 := sm_mono (show 67108864 ≤ 4294967296 by omega) hv
  obtain ⟨x0_0, k0, f0, a0, b0⟩ := laws_markSignature s.symbols 1 (by omega) (by omega) m_s
  have l0 : ¬ k0 < 0 := by omega
  obtain ⟨x1_0, x1_1, x1_2, k1, f1, a1, b1⟩ := laws_markTheory t.order t.equations t.rules k0 (by omega) (by omega) m_t
  have l1 : ¬ k1 < 0 := by omega
  obtain ⟨y0, kr, fr, ar, br, zr⟩ := laws_markBytesResult w_code w_bytes 1 (by omega) (by omega) hv
  have lr : ¬ kr < 0 := by omega
  exact call_of rfl 0 ((laws_FnExactPackTheory.ev _ _ _ _ _ ).trans (by simp only [Int.ofNat_lt, str_inj, beq_dec, bne_dec, cond_dec, cond_nt, if_true, if_false, decide_true, decide_false, cond_true, cond_false, u8_inj, cells_div, sz_int, sz_u8, sz_list, sz_Symbol, sz_Signature, sz_Equation, sz_Binding, sz_Algebra, sz_Entry, sz_Completion, sz_Theory, sz_Put, sz_Disk, sz_Act, sz_IntResult, sz_IntsResult, sz_BytesResult, sz_TextResult, sz_SignatureResult, sz_TermResult, sz_TermsResult, sz_EquationResult, sz_EquationsResult, sz_KeyResult, sz_BindingResult, sz_RedexResult, sz_NormalResult, sz_AlgebraResult, sz_EntryResult, sz_CompletionResult, sz_TheoryResult, sz_DiskResult, inB_nat, Int.toNat_natCast, get0, get1, get2, get3, get4, get5, get6, get7, get8, Nat.reduceLT, bind_of, List.getElem?_cons_zero, List.getElem?_cons_succ, oInt_int, oBool_bool, oStr_str, oSl_slc, oAgg_agg, oTup_tup, oCons_cons, oNil_nil, sl_cells, c0.eq, n0, c1.eq, n1, hi.eq, hp.eq, (laws_toSignature s.symbols s_s).eq, (laws_eqSignature s.symbols _  s_s).eq, (laws_toTheory t.order t.equations t.rules s_t).eq, (laws_eqTheory t.order t.equations t.rules _ _ _  s_t).eq, (laws_eqBytesResult w_code w_bytes _ _  hv2).eq, f0, l0, f1, l1, fr, zr, lr, enc_BytesResult, decide_true, Bool.not_true, cond_false]))
end Ev.Ty
end
