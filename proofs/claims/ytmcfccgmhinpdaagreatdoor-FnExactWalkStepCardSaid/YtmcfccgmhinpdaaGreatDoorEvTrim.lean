/- Ev: strings.Trim, by the kit's contract. -/
import Derived.Test.YtmcfccgmhinpdaaGreatDoorEvRow
import Derived.Shelf.Strings.SlTrimAscii
namespace Ev
open Go Go.WideShapes Go.RowKit Go.Proofs Go.Shelf

def trimE : Env → List T → R := fun _ args => match args with
  | [.str s, .str c] => bif decide (s.size ≤ 9223372036854775807) && decide (c.size < 4294967281) && c.data.toList.all (fun b => decide (b.toNat < 128))
      then some (.str ⟨(Lib.trimS s.data.toList c.data.toList).toArray⟩, []) else none
  | _ => none
theorem trim_sound {P : Program} {ρ : Ren} (L : Lays.n160 P ρ) (h116 : (P.info? (ρ.t 116)).map (fun i => (i.zero, i.size)) = some (some (.agg (Array.replicate 256 (.bool false))), 256))
    {fn : Func} (hf : P.funcs[ρ.f 160]? = some fn) (hb : fn.body.isSome = true) (hname : (fn.name == "runtime.NumGoroutine") = false) {E : Env} {args : List T} {r : T × List T} (h : trimE E args = some r) :
    Meets P ⟨none, .sl, true, false, false⟩ (ρ.f 160) args r := by
  unfold trimE at h
  split at h
  case h_2 => cases h
  rename_i s c
  cases hd : decide (s.size ≤ 9223372036854775807) && decide (c.size < 4294967281) && c.data.toList.all (fun b => decide (b.toNat < 128)) with
  | false => rw [hd] at h; cases h
  | true =>
    rw [hd] at h
    cases h
    simp only [Bool.and_eq_true, decide_eq_true_eq] at hd
    refine meets_plain (v := .string ⟨(Lib.trimS s.data.toList c.data.toList).toArray⟩) hf hb hname (fun w => .str _) (fun w I J => Iff.rfl) fun w vs I J hl _ hv => ?_
    have h0 : vs[0]? = some (.string s) := by
      have hlt : 0 < vs.size := by rw [hl]; simp
      have := resV_str (hv 0 (.str s) vs[0] rfl (by simp [hlt]))
      simp [hlt, this]
    have h1 : vs[1]? = some (.string c) := by
      have hlt : 1 < vs.size := by rw [hl]; simp
      have := resV_str (hv 1 (.str c) vs[1] rfl (by simp [hlt]))
      simp [hlt, this]
    have hvs : vs = #[.string s, .string c] := by
      apply Array.ext
      · rw [hl]; rfl
      · intro i h2 h3
        have : i < 2 := by rw [hl] at h2; exact h2
        match i, this with
        | 0, _ => simpa [h2] using h0
        | 1, _ => simpa [h2] using h1
    rw [hvs]
    exact Any.strings_Trim_laid L h116 s c w hd.1.1 hd.1.2 (ascii_of_all hd.2)
end Ev
