/- Terms as trees. -/
import Derived.Test.YtmcfccgmhinpdaaGreatDoorTyTerm
namespace Ev.Ty
open Go Ev
set_option linter.unusedSimpArgs false
set_option linter.unusedVariables false

inductive Tm where
  | v (n : Int)
  | k (n : Int)
  | u (n : Int) (x : Tm)
  | b (n : Int) (x y : Tm)
  deriving DecidableEq
namespace Tm
def flat : Tm → List Int
  | v n => [n]
  | k n => [n]
  | u n x => n :: x.flat
  | b n x y => n :: (x.flat ++ y.flat)
def head : Tm → Int
  | v n => n
  | k n => n
  | u n _ => n
  | b n _ _ => n
/-- A right tree, of nodes with so many arguments. -/
def ok (a : Int → Nat) : Tm → Prop
  | v n => n < 0
  | k n => 0 ≤ n ∧ a n = 0
  | u n x => 0 ≤ n ∧ a n = 1 ∧ x.ok a
  | b n x y => 0 ≤ n ∧ a n = 2 ∧ x.ok a ∧ y.ok a
theorem flat_pos (x : Tm) : 0 < x.flat.length := by cases x <;> simp [flat]
theorem flat_head (x : Tm) : ∃ r, x.flat = x.head :: r := by cases x <;> exact ⟨_, rfl⟩
variable {a : Int → Nat}
theorem skip_flat (ha : ∀ n, n < 0 → a n = 0) : ∀ (x : Tm) (r : List Int) (j : Nat), x.ok a → skip a (j + 1) (x.flat ++ r) = skip a j r
  | v n, r, j, h => by
    show skip a (j + a n) r = _
    rw [ha n h, Nat.add_zero]
  | k n, r, j, h => by
    show skip a (j + a n) r = _
    rw [h.2, Nat.add_zero]
  | u n x, r, j, h => by
    show skip a (j + a n) (x.flat ++ r) = _
    rw [h.2.1]; exact skip_flat ha x r j h.2.2
  | b n x y, r, j, h => by
    show skip a (j + a n) ((x.flat ++ y.flat) ++ r) = _
    rw [h.2.1, List.append_assoc, skip_flat ha x _ (j + 1) h.2.2.1, skip_flat ha y _ j h.2.2.2]
theorem parse (ha : ∀ n, n < 0 → a n = 0) (h2 : ∀ n, a n ≤ 2) : ∀ (m : Nat) (l r : List Int), l.length ≤ m → skip a 1 l = some r → ∃ x : Tm, x.ok a ∧ l = x.flat ++ r
  | _, [], r, _, h => by cases h
  | 0, n :: l, r, hm, h => by simp at hm
  | m + 1, n :: l, r, hm, h => by
    have hm : l.length ≤ m := by simpa using hm
    have h : skip a (0 + a n) l = some r := h
    rw [Nat.zero_add] at h
    by_cases hn : n < 0
    · rw [ha n hn, skip_zero] at h; cases h
      exact ⟨.v n, hn, rfl⟩
    · have := h2 n
      have h3 : a n = 0 ∨ a n = 1 ∨ a n = 2 := by omega
      rcases h3 with h0 | h1 | h2'
      · rw [h0, skip_zero] at h; cases h
        exact ⟨.k n, ⟨by omega, h0⟩, rfl⟩
      · rw [h1] at h
        obtain ⟨x, hx, rfl⟩ := parse ha h2 m l r hm h
        exact ⟨.u n x, ⟨by omega, h1, hx⟩, rfl⟩
      · rw [h2', show 2 = 1 + 1 from rfl, skip_add] at h
        cases hs : skip a 1 l with
        | none => rw [hs] at h; cases h
        | some r1 =>
          rw [hs] at h
          have h9 : skip a 1 r1 = some r := h
          obtain ⟨x, hx, rfl⟩ := parse ha h2 m l r1 hm hs
          obtain ⟨y, hy, rfl⟩ := parse ha h2 m r1 r (by simp at hm; omega) h9
          exact ⟨.b n x y, ⟨by omega, h2', hx, hy⟩, by simp [flat]⟩
end Tm
theorem ar_neg (l : List Symbol) {n : Int} (h : n < 0) : ar l n = 0 := by unfold ar; rw [if_pos h]
/-- A right term is a tree. -/
structure TermOk (l : List Symbol) (t : List Int) : Prop where
  pos : 1 ≤ t.length
  le : t.length ≤ 24
  node : ∀ n ∈ t, nodeOk l n = true
  skip : skip (ar l) 1 t = some []
theorem termOk_iff (l : List Symbol) (t : List Int) : termFault0 l t = 0 ↔ TermOk l t := by
  unfold termFault0
  constructor
  · intro h
    split at h
    · cases h
    · split at h
      · cases h
      · rename_i h1 h2
        split at h
        · rename_i h3
          exact ⟨by omega, by omega, any_nodes.1 (by simpa using h2), h3⟩
        · cases h
  · intro h
    have := h.pos; have := h.le
    rw [if_neg (by omega), if_neg (by rw [any_nodes.2 h.node]; simp), if_pos h.skip]
theorem TermOk.tree {l : List Symbol} {t : List Int} (ok : SigOk ⟨l⟩) (h : TermOk l t) : ∃ x : Tm, x.ok (ar l) ∧ t = x.flat := by
  obtain ⟨x, hx, e⟩ := Tm.parse (fun n hn => ar_neg l hn) (ar_le ok) t.length t [] (Nat.le_refl _) h.skip
  exact ⟨x, hx, by simpa using e⟩
theorem at_head {t r : List Int} {e : Nat} {x : Tm} (h : t.drop e = x.flat ++ r) : e < t.length ∧ t[e]? = some x.head ∧ e + x.flat.length ≤ t.length := by
  have hl : (t.drop e).length = x.flat.length + r.length := by rw [h, List.length_append]
  have hp := x.flat_pos
  rw [List.length_drop] at hl
  refine ⟨by omega, ?_, by omega⟩
  have : (t.drop e)[0]? = some x.head := by
    rw [h]; obtain ⟨r', e'⟩ := x.flat_head; rw [e']; rfl
  rwa [List.getElem?_drop, Nat.add_zero] at this
theorem at_next {t r q : List Int} {e : Nat} (h : t.drop e = q ++ r) : t.drop (e + q.length) = r := by
  rw [← List.drop_drop, h, List.drop_left]
end Ev.Ty
