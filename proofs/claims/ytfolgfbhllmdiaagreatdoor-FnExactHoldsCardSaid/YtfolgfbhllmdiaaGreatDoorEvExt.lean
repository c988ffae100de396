/- Ev: functions of Go's library whose contracts the kit has proved. -/
import Derived.Test.YtfolgfbhllmdiaaGreatDoorEvRow
namespace Ev
open Go Go.WideShapes Go.RowKit

/-- A function of plain values that tells a plain value and leaves memory as it was. -/
theorem meets_plain {P : Program} {f : FuncId} {fn : Func} {args : List T} {x : T} {v : Value} (hf : P.funcs[f]? = some fn) (hb : fn.body.isSome = true) (hname : (fn.name == "runtime.NumGoroutine") = false)
    (hx : ∀ w, RO w x v []) (hnt : ∀ w I J, ResT w I J true x v [] ↔ RO w x v [])
    (hc : ∀ (w : World) (vs : Array Value) (I J : Nat → Prop), vs.size = args.length → (∀ b, J b → b < w.heap.size) → (∀ (i : Nat) (y : T) (u : Value), args[i]? = some y → vs[i]? = some u → ResV w I J false y u []) →
      Calls P f vs w fun e w' => e = .returned v ∧ Below w.heap.size w w') : Meets P ⟨none, false, true, false⟩ f args (x, []) := by
  intro w I J vs F hp
  obtain rfl : F = [] := hp.none rfl
  obtain ⟨body, hbody⟩ := Option.isSome_iff_exists.1 hb
  have hcall : (callFunc f vs).run P w = .ok (.enter f vs) w := by
    have hne : ¬ fn.name = "runtime.NumGoroutine" := by simpa using hname
    simp [callFunc, hf, hne, hbody]
  unfold Does
  rw [hcall]
  refine Calls.mono (hc w vs I J hp.len hp.lt fun i y u hy hu => hp.vals i y u (fun h => by cases h) hy hu) ?_
  rintro e w' ⟨rfl, hbel⟩
  refine ⟨v, rfl, [], [], ⟨hbel.os, hbel.tape, hbel.output, hbel.size, fun b hb _ => hbel.block b hb⟩, by simp, by simp, ?_, .inl ⟨rfl, rfl, rfl⟩⟩
  exact (hnt _ _ _).2 (hx w')

theorem resV_str {w : World} {I J : Nat → Prop} {s : ByteArray} {v : Value} (h : ResV w I J false (.str s) v []) : v = .string s := by
  have h : El w I J false (.str s) v [] := h
  unfold El at h
  rw [if_neg (by simp)] at h
  cases h.1; rfl
end Ev
