/- Values of terms in an algebra. -/
import Derived.Test.YtmcfccgmhinpdaaGreatDoorTyTree
namespace Ev.Ty
open Go Ev
open Enc (enc)
open Sm (sm)
set_option linter.unusedSimpArgs false
set_option linter.unusedVariables false

/-- A right algebra of a right signature. -/
structure AlgOk (l : List Symbol) (z : Int) (tb : List (List Int)) : Prop where
  sig : SigOk ⟨l⟩
  size : 1 ≤ z ∧ z ≤ 3
  len : tb.length = l.length
  rows : ∀ (k : Nat) (h : k < l.length) (h' : k < tb.length), tb[k].length = z.toNat ^ (l[k]).arity.toNat ∧ ∀ n ∈ tb[k], 0 ≤ n ∧ n ≤ z - 1
theorem algOk {l : List Symbol} {z : Int} {tb : List (List Int)} (h : algFault ⟨l⟩ ⟨z, tb⟩ = 0) : AlgOk l z tb := by
  unfold algFault at h
  by_cases h1 : sigFault ⟨l⟩ = 0
  case neg => rw [if_pos h1] at h; exact absurd h h1
  rw [if_neg (by simpa using h1)] at h
  split at h
  · cases h
  rename_i h2
  split at h
  · cases h
  rename_i h3
  have h3 : tb.length = l.length := by simpa using h3
  have hn : (l.zip tb).findSome? (tableFault z) = none := by
    cases hx : (l.zip tb).findSome? (tableFault z) with
    | none => rfl
    | some c =>
      simp only [hx] at h
      obtain ⟨x, hx, hf⟩ := List.exists_of_findSome?_eq_some hx
      unfold tableFault at hf
      split at hf
      · cases hf; cases h
      · split at hf
        · cases hf; cases h
        · cases hf
  rw [findSome_none] at hn
  refine ⟨(sigOk_iff _).1 h1, inR_iff.1 (by simpa using h2), h3, fun k hk hk' => ?_⟩
  have hz : (l.zip tb)[k]? = some (l[k], tb[k]) := by
    rw [List.getElem?_zip_eq_some]; exact ⟨List.getElem?_eq_getElem hk, List.getElem?_eq_getElem hk'⟩
  have := hn _ (List.mem_of_getElem? hz)
  unfold tableFault at this
  split at this
  · cases this
  · rename_i h4
    split at this
    · cases this
    · rename_i h5
      refine ⟨by simpa using h4, fun n hn => ?_⟩
      rw [List.any_eq_true] at h5
      have : inR n 0 (z - 1) = true := by
        apply Classical.byContradiction
        intro hc
        exact h5 ⟨n, hn, by simpa using hc⟩
      exact inR_iff.1 this
/-- The value of a tree. -/
def Tm.eval (z : Int) (tb : List (List Int)) (vs : List Int) : Tm → Int
  | v n => vs.getD (-1 - n).toNat 0
  | k n => (tb.getD n.toNat []).getD 0 0
  | u n x => (tb.getD n.toNat []).getD (x.eval z tb vs).toNat 0
  | b n x y => (tb.getD n.toNat []).getD (x.eval z tb vs * z + y.eval z tb vs).toNat 0
/-- All variables are among so many. -/
def Tm.low (m : Int) : Tm → Prop
  | v n => -m ≤ n
  | k _ => True
  | u _ x => x.low m
  | b _ x y => x.low m ∧ y.low m
/-- All its symbols stand in the signature. -/
def Tm.syms (c : Nat) : Tm → Prop
  | v _ => True
  | k n => n < c
  | u n x => n < c ∧ x.syms c
  | b n x y => n < c ∧ x.syms c ∧ y.syms c
theorem Tm.low_of {m : Int} : ∀ {x : Tm}, (∀ n ∈ x.flat, -m ≤ n) → x.low m
  | v n, h => h n (by simp [Tm.flat])
  | k n, _ => trivial
  | u n x, h => Tm.low_of (x := x) fun j hj => h j (by simp [Tm.flat, hj])
  | b n x y, h => ⟨Tm.low_of (x := x) fun j hj => h j (by simp [Tm.flat, hj]), Tm.low_of (x := y) fun j hj => h j (by simp [Tm.flat, hj])⟩
theorem Tm.syms_of {l : List Symbol} {a : Int → Nat} : ∀ {x : Tm}, x.ok a → (∀ n ∈ x.flat, nodeOk l n = true) → x.syms l.length
  | v n, _, h => trivial
  | k n, ok, h => by
    have := nodeOk_iff.1 (h n (by simp [Tm.flat])); have := ok.1
    show n < (l.length : Int)
    omega
  | u n x, ok, h => by
    have := nodeOk_iff.1 (h n (by simp [Tm.flat])); have := ok.1
    exact ⟨by show n < (l.length : Int); omega, Tm.syms_of (x := x) ok.2.2 fun j hj => h j (by simp [Tm.flat, hj])⟩
  | b n x y, ok, h => by
    have := nodeOk_iff.1 (h n (by simp [Tm.flat])); have := ok.1
    exact ⟨by show n < (l.length : Int); omega, Tm.syms_of (x := x) ok.2.2.1 fun j hj => h j (by simp [Tm.flat, hj]), Tm.syms_of (x := y) ok.2.2.2 fun j hj => h j (by simp [Tm.flat, hj])⟩
section
variable {l : List Symbol} {z : Int} {tb : List (List Int)} (al : AlgOk l z tb) {vs : List Int} (hv : vs.length = 6) (hr : ∀ n ∈ vs, 0 ≤ n ∧ n ≤ z - 1)
include al
/-- A row of the tables, at a node. -/
theorem row_at {n : Int} (h0 : 0 ≤ n) (h1 : n < l.length) : ∃ y : Nat, n = y ∧ ∃ (h : y < l.length) (h' : y < tb.length), tb[y].length = z.toNat ^ ar l n ∧ (∀ j ∈ tb[y], 0 ≤ j ∧ j ≤ z - 1) ∧ tb.getD n.toNat [] = tb[y] ∧ (l[y]).arity = (ar l n : Nat) := by
  obtain ⟨y, rfl⟩ : ∃ y : Nat, n = y := ⟨n.toNat, by omega⟩
  have h : y < l.length := by omega
  have h' : y < tb.length := by rw [al.len]; exact h
  obtain ⟨r1, r2⟩ := al.rows y h h'
  have ha : (l[y]).arity = (ar l y : Nat) := by simpa using ar_eq al.sig (n := y) (by omega) (by simpa using h)
  refine ⟨y, rfl, h, h', ?_, r2, by simp [h'], ha⟩
  rw [r1, ha]; simp
include hv hr
theorem Tm.eval_range : ∀ {x : Tm}, x.ok (ar l) → x.syms l.length → x.low 6 → 0 ≤ x.eval z tb vs ∧ x.eval z tb vs ≤ z - 1
  | v n, ok, hs, hl => by
    have ok : n < 0 := ok
    have hl : -6 ≤ n := hl
    have h : (-1 - n).toNat < vs.length := by omega
    have e : vs.getD (-1 - n).toNat 0 = vs[(-1 - n).toNat] := by simp [h]
    show 0 ≤ vs.getD (-1 - n).toNat 0 ∧ vs.getD (-1 - n).toNat 0 ≤ z - 1
    rw [e]; exact hr _ (List.getElem_mem h)
  | k n, ok, hs, hl => by
    obtain ⟨y, rfl, h, h', r1, r2, r3, r4⟩ := row_at al ok.1 hs
    rw [ok.2, Nat.pow_zero] at r1
    have h0 : 0 < tb[y].length := by omega
    show 0 ≤ (tb.getD (y : Int).toNat []).getD 0 0 ∧ (tb.getD (y : Int).toNat []).getD 0 0 ≤ z - 1
    rw [r3, show tb[y].getD 0 0 = tb[y][0] by simp [h0]]
    exact r2 _ (List.getElem_mem h0)
  | u n x, ok, hs, hl => by
    obtain ⟨y, rfl, h, h', r1, r2, r3, r4⟩ := row_at al ok.1 hs.1
    obtain ⟨i1, i2⟩ := Tm.eval_range (x := x) ok.2.2 hs.2 hl
    rw [ok.2.1, Nat.pow_one] at r1
    have h0 : (x.eval z tb vs).toNat < tb[y].length := by omega
    show 0 ≤ (tb.getD (y : Int).toNat []).getD (x.eval z tb vs).toNat 0 ∧ (tb.getD (y : Int).toNat []).getD (x.eval z tb vs).toNat 0 ≤ z - 1
    rw [r3, show tb[y].getD (x.eval z tb vs).toNat 0 = tb[y][(x.eval z tb vs).toNat] by simp [h0]]
    exact r2 _ (List.getElem_mem h0)
  | b n x w, ok, hs, hl => by
    obtain ⟨y, rfl, h, h', r1, r2, r3, r4⟩ := row_at al ok.1 hs.1
    obtain ⟨i1, i2⟩ := Tm.eval_range (x := x) ok.2.2.1 hs.2.1 hl.1
    obtain ⟨j1, j2⟩ := Tm.eval_range (x := w) ok.2.2.2 hs.2.2 hl.2
    rw [ok.2.1] at r1
    have hz := al.size
    have h0 : (x.eval z tb vs * z + w.eval z tb vs).toNat < tb[y].length := by
      rw [r1]
      have : z = 1 ∨ z = 2 ∨ z = 3 := by omega
      rcases this with rfl | rfl | rfl <;> simp <;> omega
    show 0 ≤ (tb.getD (y : Int).toNat []).getD (x.eval z tb vs * z + w.eval z tb vs).toNat 0 ∧ (tb.getD (y : Int).toNat []).getD (x.eval z tb vs * z + w.eval z tb vs).toNat 0 ≤ z - 1
    rw [r3, show tb[y].getD (x.eval z tb vs * z + w.eval z tb vs).toNat 0 = tb[y][(x.eval z tb vs * z + w.eval z tb vs).toNat] by simp [h0]]
    exact r2 _ (List.getElem_mem h0)
end
end Ev.Ty
