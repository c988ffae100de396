/- Algebras: what is wrong with one. -/
import Derived.Test.YtmcfccgmhinpdaaGreatDoorTySig
namespace Ev.Ty
open Go Ev
open Enc (enc)
open Sm (sm)
set_option linter.unusedSimpArgs false
set_option linter.unusedVariables false

theorem inR_iff {n a b : Int} : inR n a b = true ↔ a ≤ n ∧ n ≤ b := by unfold inR; simp
theorem inR_false {n a b : Int} : inR n a b = false ↔ ¬ (a ≤ n ∧ n ≤ b) := by unfold inR; simp
/-- What a right signature is. -/
structure SigOk (s : Signature) : Prop where
  pos : 1 ≤ s.symbols.length
  le : s.symbols.length ≤ 6
  name : ∀ x ∈ s.symbols, nameOk x.name = true
  arity : ∀ x ∈ s.symbols, 0 ≤ x.arity ∧ x.arity ≤ 2
  nodup : (s.symbols.map (·.name)).Nodup
  const : ∃ x ∈ s.symbols, x.arity = 0
theorem findSome_none {α β : Type} {f : α → Option β} : ∀ {l : List α}, l.findSome? f = none ↔ ∀ x ∈ l, f x = none
  | [] => by simp
  | x :: l => by
    rw [List.findSome?_cons]
    cases h : f x with
    | some b => simp [h]
    | none => simp [h, findSome_none (l := l)]
theorem sigOk_iff (s : Signature) : sigFault s = 0 ↔ SigOk s := by
  unfold sigFault
  constructor
  · intro h
    split at h
    · cases h
    · rename_i h1
      split at h
      · rename_i c hc
        obtain ⟨x, hx, hf⟩ := List.exists_of_findSome?_eq_some hc
        unfold symFault at hf
        split at hf
        · cases hf; cases h
        · split at hf
          · cases hf; cases h
          · cases hf
      · rename_i hn
        rw [findSome_none] at hn
        split at h
        · cases h
        · rename_i ht
          split at h
          · rename_i ha
            have hx : ∀ x ∈ s.symbols, nameOk x.name = true ∧ inR x.arity 0 2 = true := fun x hx => by
              have := hn x hx
              unfold symFault at this
              split at this
              · cases this
              · split at this
                · cases this
                · rename_i h1 h2; exact ⟨by simpa using h1, by simpa using h2⟩
            refine ⟨by omega, by omega, fun x h => (hx x h).1, fun x h => inR_iff.1 (hx x h).2, ?_, ?_⟩
            · unfold twice at ht; simpa using ht
            · rw [List.any_eq_true] at ha
              obtain ⟨x, h1, h2⟩ := ha
              exact ⟨x, h1, by simpa using h2⟩
          · cases h
  · intro h
    rw [if_neg (by have := h.pos; have := h.le; omega)]
    have : s.symbols.findSome? symFault = none := findSome_none.2 fun x hx => by
      unfold symFault
      rw [if_neg (by simp [h.name x hx]), if_neg (by have := inR_iff.2 (h.arity x hx); simp [this])]
    rw [this]
    simp only
    rw [if_neg (by unfold twice; simpa using h.nodup), if_pos]
    rw [List.any_eq_true]
    obtain ⟨x, h1, h2⟩ := h.const
    exact ⟨x, h1, by simpa using h2⟩

theorem pow_small {z k : Nat} (hz : z ≤ 3) (hk : k ≤ 12) : z ^ k ≤ 531441 :=
  Nat.le_trans (Nat.pow_le_pow_left hz k) (Nat.le_trans (Nat.pow_le_pow_right (by omega) hk) (by decide))
/-- What is wrong with the table of a symbol. -/
def tableFault (z : Int) (x : Symbol × List Int) : Option Int :=
  if x.2.length ≠ z.toNat ^ x.1.arity.toNat then some 2 else if x.2.any (fun n => !inR n 0 (z - 1)) then some 3 else none
def algFault (s : Signature) (a : Algebra) : Int :=
  if sigFault s ≠ 0 then sigFault s
  else if inR a.size 1 3 = false then 3
  else if a.tables.length ≠ s.symbols.length then 2
  else match (s.symbols.zip a.tables).findSome? (tableFault a.size) with
    | some c => c
    | none => 0

theorem cast_ne {a b : Nat} : ((a : Int) = (b : Int)) = (a = b) := by rw [eq_iff_iff]; omega
end Ev.Ty
