/- Marks: all memory of a value is written over with a running count, and read back. -/
import Derived.Test.YtmcfccgmhinpdaaGreatDoorTyLoops
import Derived.Test.YtmcfccgmhinpdaaGreatDoorXALL
namespace Ev.Ty
open Go Ev
open Enc (enc)
open Sm (sm)
set_option linter.unusedVariables false

theorem call2_of {g : FuncId} {args : List T} {r : T × List T} (hx : X g = none) (n : Nat) (h : callK prog A H LIM n g args = some r) : LIM g args = some r := lim_of hx n h
theorem cells_le {α : Type} [Enc α] {l : List α} {a : Nat} : (a ≤ (cells l).length) = (a ≤ l.length * Enc.sz α) := by rw [cells_length]
/-- Element after element. -/
def chain {α : Type} (h : Int → α → Int → Prop) : Int → List α → Int → Prop
  | k, [], k' => k = k'
  | k, x :: l, k' => ∃ c, h k x c ∧ chain h c l k'
theorem set_same {α : Type} {o : List α} {i : Nat} {x : α} (h : o[i]? = some x) : o.set i x = o := by
  refine List.ext_getElem? fun j => ?_
  rw [List.getElem?_set]
  split
  · rename_i e; subst e
    have := (List.getElem?_eq_some_iff.1 h).1
    rw [if_pos this, h]
  · rfl
theorem mark_loop {α : Type} {l : List α} {k b : Int} {h : Int → α → Int → Prop} {S : Nat → Int → Nat → List α → R} {z : Int → List α → R}
    (step : ∀ m c i (o : List α) (x : α), i < o.length → o.length = l.length → x ∈ l → k ≤ c → c ≤ k + (i : Int) * b →
      ∃ y c', S (m + 1) c i (o.set i x) = S m c' (i + 1) (o.set i y) ∧ h c y c' ∧ c ≤ c' ∧ c' ≤ c + b)
    (stop : ∀ m c (o : List α), o.length = l.length → S (m + 1) c l.length o = z c o) (h0 : 0 ≤ k) (f : Nat) (hf : l.length < f) :
    ∃ l' k', S f k 0 l = z k' l' ∧ l'.length = l.length ∧ chain h k l' k' ∧ k ≤ k' ∧ k' ≤ k + (l.length : Int) * b := by
  have : ∀ m c i o, i ≤ l.length → l.length < m + i → o.length = l.length → o.drop i = l.drop i → k ≤ c → c ≤ k + (i : Int) * b →
      ∃ l' k', S m c i o = z k' l' ∧ l'.length = l.length ∧ l'.take i = o.take i ∧ chain h c (l'.drop i) k' ∧ k ≤ k' ∧ k' ≤ k + (l.length : Int) * b := by
    intro m
    induction m with
    | zero => intros; omega
    | succ m ih =>
      intro c i o hi hm ho hd hc1 hc2
      by_cases hlt : i < l.length
      · have hx : o[i]? = some l[i] := by
          have := congrArg (fun l => l[0]?) hd
          simpa [List.getElem?_drop, List.getElem?_eq_getElem hlt] using this
        obtain ⟨y, c', e, hh, g1, g2⟩ := step m c i o l[i] (by omega) ho (List.getElem_mem hlt) hc1 hc2
        rw [set_same hx] at e
        have hmul : ((i + 1 : Nat) : Int) * b = (i : Int) * b + b := by rw [Int.natCast_add, Int.add_mul]; simp
        obtain ⟨l', k', e', hl', ht, hc, g3, g4⟩ := ih c' (i + 1) (o.set i y) (by omega) (by omega) (by simpa using ho) (by
          rw [List.drop_set_of_lt (by omega)]
          have := congrArg (List.drop 1) hd
          simpa [List.drop_drop, Nat.add_comm] using this) (by omega) (by omega)
        refine ⟨l', k', e.trans e', hl', ?_, ?_, g3, g4⟩
        · have := congrArg (List.take i) ht
          rw [List.take_take, List.take_take, Nat.min_eq_left (by omega), List.take_set_of_le (Nat.le_refl i)] at this
          exact this
        · have hy : l'[i]? = some y := by
            have := congrArg (fun l => l[i]?) ht
            simpa [List.getElem?_take, List.getElem?_set_self (show i < o.length by omega)] using this
          obtain ⟨hi', hy'⟩ := List.getElem?_eq_some_iff.1 hy
          rw [List.drop_eq_getElem_cons hi', hy']
          exact ⟨c', hh, hc⟩
      · obtain rfl : i = l.length := by omega
        refine ⟨o, c, stop m c o ho, ho, rfl, ?_, hc1, hc2⟩
        rw [List.drop_of_length_le (by omega)]; rfl
  obtain ⟨l', k', e, hl, _, hc, g1, g2⟩ := this f k 0 l (by omega) (by omega) rfl rfl (Int.le_refl _) (by simp)
  exact ⟨l', k', e, hl, by simpa using hc, g1, g2⟩
theorem held_loop {α : Type} {l : List α} {h : Int → α → Int → Prop} {S : Nat → Int → Nat → R} {z : Int → R}
    (step : ∀ m c i c' (hi : i < l.length), h c l[i] c' → S (m + 1) c i = S m c' (i + 1))
    (stop : ∀ m c, S (m + 1) c l.length = z c) {k k' : Int} (hc : chain h k l k') {f : Nat} (hf : l.length < f) : S f k 0 = z k' := by
  have : ∀ m c i, i ≤ l.length → l.length < m + i → chain h c (l.drop i) k' → S m c i = z k' := by
    intro m
    induction m with
    | zero => intros; omega
    | succ m ih =>
      intro c i hi hm hc
      by_cases hlt : i < l.length
      · rw [List.drop_eq_getElem_cons hlt] at hc
        obtain ⟨c', hh, hc⟩ := hc
        rw [step m c i c' hlt hh]
        exact ih c' (i + 1) (by omega) (by omega) hc
      · obtain rfl : i = l.length := by omega
        rw [List.drop_of_length_le (Nat.le_refl _)] at hc
        obtain rfl : c = k' := hc
        exact stop m c
  exact this f k 0 (by omega) (by omega) (by simpa using hc)
theorem u8_wrap (c : Int) : IntKind.wrap .u8 c = ((UInt8.ofNat (IntKind.wrap .u8 c).toNat).toNat : Int) := by
  have : 0 ≤ IntKind.wrap .u8 c ∧ IntKind.wrap .u8 c < 256 := by
    unfold IntKind.wrap
    simp [IntKind.signed, IntKind.bits]
    omega
  rw [UInt8.toNat_ofNat']
  omega
theorem fset_gen {α : Type} [Enc α] {o : List α} {i n j : Nat} {x x' : α} {c : T} (hn : Enc.sz α = n) (hi : i < o.length) (hj : j < n)
    (he : (enc x).set j c = enc x') : setCells (cells (o.set i x)) (i * n + j) [c] = cells (o.set i x') := by
  subst hn
  rw [← cells_set o _ i rfl x hi, ← cells_set o _ i rfl x' hi, ← he]
  have hle : i * Enc.sz α + Enc.sz α ≤ o.length * Enc.sz α := by
    rw [← Nat.succ_mul]; exact Nat.mul_le_mul_right _ hi
  have hl := cells_length o
  refine List.ext_getElem? fun q => ?_
  have hlen : (setCells (cells o) (i * Enc.sz α) (enc x)).length = (cells o).length := setCells_len _ _ _
  have l1 : (enc x).length = Enc.sz α := Enc.len x
  have l2 : ((enc x).set j c).length = Enc.sz α := by rw [List.length_set]; exact l1
  rw [setCells_get [c] _ _ _ (by rw [hlen, List.length_singleton]; omega), setCells_get (enc x) _ _ _ (by omega), setCells_get ((enc x).set j c) _ _ _ (by omega), l1, l2, List.length_singleton]
  by_cases hq : i * Enc.sz α + j = q
  · subst hq
    rw [if_pos ⟨by omega, by omega⟩, if_pos ⟨by omega, by omega⟩, List.getElem?_set, if_pos (by omega), if_pos (by omega)]
    simp
  · rw [if_neg (by omega)]
    split
    · rw [List.getElem?_set, if_neg (by omega)]
    · rfl
theorem fsets_gen {α : Type} [Enc α] {o : List α} {i n j : Nat} {x x' : α} {c : T} (hn : Enc.sz α = n) (hi : i < o.length) (hj : j < n)
    (he : (enc x).set j c = enc x') : List.set (cells (o.set i x)) (i * n + j) c = cells (o.set i x') := by
  rw [← fset_gen hn hi hj he]
  have hle : i * n + n ≤ o.length * n := by
    rw [← Nat.succ_mul]; exact Nat.mul_le_mul_right _ hi
  refine List.ext_getElem? fun q => ?_
  have hl : (cells (o.set i x)).length = o.length * n := by rw [cells_length, List.length_set, hn]
  rw [setCells_get _ _ _ _ (by simp; omega), List.getElem?_set, List.length_singleton]
  by_cases hq : i * n + j = q
  · subst hq
    rw [if_pos rfl, if_pos (by omega), if_pos ⟨by omega, by omega⟩]; simp
  · rw [if_neg hq, if_neg (by omega)]
theorem fset_Int {o : List Int} {i : Nat} (hi : i < o.length) {x w : Int} : setCells (cells (o.set i x)) (i * 1) [.int .i64 w] = cells (o.set i w) := fset_gen (n := 1) (j := 0) rfl hi (by decide) rfl
theorem fset_UInt8 {o : List UInt8} {i : Nat} (hi : i < o.length) {x w : UInt8} : setCells (cells (o.set i x)) (i * 1) [.int .u8 (w.toNat : Int)] = cells (o.set i w) := fset_gen (n := 1) (j := 0) rfl hi (by decide) rfl
theorem fset_List {α : Type} [Enc α] {o : List (List α)} {i : Nat} (hi : i < o.length) {x w : List α} : setCells (cells (o.set i x)) (i * 1) [slc w] = cells (o.set i w) := fset_gen (n := 1) (j := 0) rfl hi (by decide) rfl
theorem fsets_List {α : Type} [Enc α] {o : List (List α)} {i : Nat} (hi : i < o.length) {x w : List α} : List.set (cells (o.set i x)) (i * 1) (slc w) = cells (o.set i w) := fsets_gen (n := 1) (j := 0) rfl hi (by decide) rfl
/-- A mark as a text. -/
theorem laws_markText (k : Int) (h : 0 ≤ k ∧ k ≤ 4611686018427387904) : ∃ t : ByteArray, LIM F.laws_markText [.int .i64 k] = some (.str t, []) := by
  have loop : ∀ f (k : Int) (t : ByteArray), 0 ≤ k → k < 2 ^ f → k ≤ 4611686018427387904 → t.size + f ≤ 1000 → ∃ r : ByteArray, laws_markText.at0 64 (f + 1) (laws_markText.st0 k t) = some (.str r, []) := by
    intro f
    induction f with
    | zero =>
      intro k t h0 hk hk2 ht
      obtain rfl : k = 0 := by omega
      refine ⟨ByteArray.mk #[109] ++ t, ?_⟩
      simp only [laws_markText.next0, laws_markText.round0]
      rw [cond_neg (by decide), cond_pos (by rw [decide_eq_true_iff]; show 1 + t.size ≤ _; omega)]
    | succ f ih =>
      intro k t h0 hk hk2 ht
      by_cases hz : k = 0
      · subst hz
        refine ⟨ByteArray.mk #[109] ++ t, ?_⟩
        simp only [laws_markText.next0, laws_markText.round0]
        rw [cond_neg (by decide), cond_pos (by rw [decide_eq_true_iff]; show 1 + t.size ≤ _; omega)]
      · simp only [laws_markText.next0 64 (f + 1), laws_markText.round0]
        rw [cond_pos (by rw [decide_eq_true_iff]; omega)]
        have he : ∀ x : Int, (List.foldl (fun r n => ByteArray.push r (UInt8.ofNat (Int.toNat n))) ByteArray.empty [x]).size = 1 := fun x => rfl
        have hd : Int.tdiv k 10 = k / 10 := Int.tdiv_eq_ediv_of_nonneg h0
        rw [cond_pos (by rw [decide_eq_true_iff, he]; omega), hd, wrap64 (by omega)]
        exact ih _ _ (by omega) (by rw [Int.pow_succ] at hk; omega) (by omega) (by rw [ByteArray.size_append, he]; omega)
  by_cases hz : k ≤ 0
  · exact ⟨_, call2_of rfl 0 ((laws_markText.ev _ _).trans (cond_pos (by rw [decide_eq_true_iff]; exact hz)))⟩
  · obtain ⟨t, e⟩ := loop 63 k (ByteArray.mk #[]) (by omega) (by omega) (by omega) (by decide)
    exact ⟨t, call2_of rfl 64 ((laws_markText.ev _ _).trans ((cond_neg (by rw [decide_eq_false_iff_not]; exact hz)).trans e))⟩
end Ev.Ty
