/- Ev: from a law's evaluation to its row. -/
import Derived.Test.YtmcfccgmhinpdaaGreatDoorEvOpen
import Derived.WalkKit
import Derived.ProofKit
import Derived.ShutString
import Derived.ChangeOld
import Derived.SizedLaws
import Derived.Below
import Derived.OpenShut
namespace Ev
open Go Go.WideShapes Go.RowKit

/-- An argument as a tree. -/
def argOf : (s : Sh) → s.Val → T
  | .pair a b, x => .agg (a.enc x.1 ++ b.enc x.2)
  | .unit, _ => .agg []
  | .int k, n => .int k n
  | .bool, b => .bool b
  | .str, x => .str x
  | .sl e, l => .sl e.size (l.flatMap e.enc)

section
variable {H : Type} {enc : TypeId × Value → H} {P : Program} {W : World} {sp : Nat → Bool} {held : Bool}

theorem open_arg {s : Sh} {t : TypeId} {v : Value} {d : DataW H} {ps : List MemPlace} {r : Reach} {b0 : Nat} (hok : okT P s t = true) (hval : Value.okWide P W r b0 t v) (h : DataW.Trod enc P W 0 sp held t v d ps) :
    ∃ x : s.Val, s.wf x ∧ ResV W (Here W) (Here W) false (argOf s x) v [] := by
  obtain ⟨fuel, hf⟩ := h
  obtain ⟨x, h1, h2, h3⟩ := (open_both (enc := enc) (spare := sp) (held := held) s).1 t fuel _ _ hok hf
  refine ⟨x, h1, ?_⟩
  have one : ∀ {y : T}, v.cells.toList = [v] → s.enc x = [y] → RB W (Here W) (Here W) y v := fun {y} e1 e2 => h3 0 y v (by rw [e2]; rfl) (by rw [e1]; rfl)
  cases s with
  | int k =>
    rw [okT] at hok
    split at hok
    · rename_i k' hu
      obtain ⟨n, rfl⟩ := okWide_int hu hval
      exact RB.notAgg (one rfl rfl)
    · cases hok
  | bool =>
    rw [okT] at hok
    split at hok
    · rename_i hu
      obtain ⟨n, rfl⟩ := okWide_bool hu hval
      exact RB.notAgg (one rfl rfl)
    · cases hok
  | str =>
    rw [okT] at hok
    split at hok
    · rename_i hu
      obtain ⟨n, rfl⟩ := okWide_string hu hval
      exact RB.notAgg (one rfl rfl)
    · cases hok
  | sl e =>
    rw [okT] at hok
    split at hok
    · rename_i te hu
      obtain ⟨a, len, cap, rfl⟩ := okWide_slice hu hval
      exact RB.notAgg (one rfl rfl)
    · cases hok
  | pair a b =>
    rw [okT] at hok
    split at hok
    · rename_i fs hu
      obtain ⟨cs, rfl, _⟩ := okWide_struct hu hval
      exact ⟨cs, fun _ => [], rfl, by simpa [Value.cells, Sh.enc] using h2, ND.nil _, by simp [flat], fun i y u hy hu => ⟨h3 i y u hy (by simpa [Value.cells] using hu), rfl⟩⟩
    · cases hok
  | unit =>
    rw [okT] at hok
    split at hok
    · rename_i fs hu
      obtain ⟨cs, rfl, _⟩ := okWide_struct hu hval
      exact ⟨cs, fun _ => [], rfl, by simpa [Value.cells, Sh.enc] using h2, ND.nil _, by simp [flat], fun i y u hy => by simp at hy⟩
    · cases hok

/-- A function with a body: what its call does. -/
theorem calls_of_does {f : FuncId} {fn : Func} {vs : Array Value} {R : Value → World → Prop} (hf : P.funcs[f]? = some fn) (hb : fn.body.isSome = true) (hname : (fn.name == "runtime.NumGoroutine") = false) (h : Does P f vs W R) :
    Calls P f vs W fun e w' => ∃ v, e = .returned v ∧ R v w' := by
  obtain ⟨body, hbody⟩ := Option.isSome_iff_exists.1 hb
  have hcall : (callFunc f vs).run P W = .ok (.enter f vs) W := by
    have hne : ¬ fn.name = "runtime.NumGoroutine" := by simpa using hname
    simp [callFunc, hf, hne, hbody]
  unfold Does at h
  rw [hcall] at h
  exact h

/-- A law that gives true. -/
theorem law_calls {at_ : Attr} {f : FuncId} {fn : Func} {args : List T} {vs : Array Value} (hat : at_.turn = none) (hf : P.funcs[f]? = some fn) (hb : fn.body.isSome = true) (hname : (fn.name == "runtime.NumGoroutine") = false)
    (hm : Meets P at_ f args (.bool true, [])) (hl : vs.size = args.length) (hv : ∀ (i : Nat) (x : T) (v : Value), args[i]? = some x → vs[i]? = some v → ResV W (Here W) (Here W) false x v []) :
    Calls P f vs W fun e w' => e = .returned (.bool true) ∧ Below W.heap.size W w' := by
  have hp : Pre at_ args W (Here W) (Here W) vs [] := ⟨fun _ h => h, hl, fun i x v _ => hv i x v, fun i hi => (by rw [hat] at hi; cases hi), fun _ => rfl, by simp, fun _ h => h⟩
  refine Calls.mono (calls_of_does hf hb hname (hm W _ _ vs [] hp)) ?_
  rintro e w' ⟨v, rfl, Fr, Fo, hd⟩
  have hres : v = .bool true := by
    have : El w' (aftI (Here W) W w' [] Fr Fo) (aftI (Here W) W w' [] Fr Fo) at_.own (.bool true) v Fr := hd.res
    unfold El at this
    split at this
    · cases this; rfl
    · exact RB.bool_inv this.1
  exact ⟨by rw [hres], hd.kp.os, hd.kp.tape, hd.kp.output, hd.kp.size, fun k hk => hd.kp.block k hk (by simp)⟩
end
end Ev
/- Ev: loops taken out of their function. -/
namespace Ev
open Go

def bodyOf (P : Program) (f : FuncId) : Code := match P.funcs[f]? with
  | some fn => match fn.body with
    | some c => c
    | none => .skip
  | none => .skip
/-- A piece of code, by its place. -/
def subCode : List Nat → Code → Code
  | [], c => c
  | 0 :: p, .seq a _ => subCode p a
  | _ :: p, .seq _ b => subCode p b
  | 0 :: p, .cond _ a _ => subCode p a
  | _ :: p, .cond _ _ b => subCode p b
  | _ :: p, .block _ c => subCode p c
  | _ :: p, .loop c => subCode p c
  | _, c => c
/-- What stands round a piece of code. -/
inductive Ct where
  | seq (blk : Nat) (b : Code)
  | block (i : Nat)
section
variable (P : Program) (A : Attrs) (H : Hints) (E : Env) (n : Nat)
def ctxK : List Ct → (Ex → St → R) → Ex → St → R
  | [], K => K
  | .seq blk b :: r, K => fun e s => match e with
    | .normal => codeK P A H E n blk b s (ctxK r K)
    | e => ctxK r K e s
  | .block i :: r, K => fun e s => match e with
    | .exit j => bif Nat.beq i j then ctxK r K .normal s else ctxK r K (.exit j) s
    | e => ctxK r K e s
/-- The way round: to the next round, or out. -/
def backK (blk : Nat) (K : Ex → St → R) (L : St → R) : Ex → St → R := fun e s => match e with
  | .normal => L (ghosts s (H.loops blk))
  | e => K e s
def roundK (blk : Nat) (c : Code) (K : Ex → St → R) (L : St → R) (s : St) : R := codeK P A H E n blk c s (backK H blk K L)
def loopAt (blk : Nat) (c : Code) (K : Ex → St → R) (m : Nat) (s : St) : R :=
  loopK (fun s K => codeK P A H E n blk c s fun e s => match e with
    | .normal => K .normal (ghosts s (H.loops blk))
    | e => K e s) m s K
theorem loopAt_zero (blk : Nat) (c : Code) (K : Ex → St → R) (s : St) : loopAt P A H E n blk c K 0 s = none := rfl
theorem loopAt_succ (blk : Nat) (c : Code) (K : Ex → St → R) (m : Nat) (s : St) : loopAt P A H E n blk c K (m + 1) s = roundK P A H E n blk c K (loopAt P A H E n blk c K m) s := by
  unfold roundK
  show codeK P A H E n blk c s _ = codeK P A H E n blk c s _
  congr 1
  funext e s
  cases e <;> rfl
end
/-- The end of a function. -/
def endOf (P : Program) (A : Attrs) (f : FuncId) : Ex → St → R := fun e s => match P.funcs[f]? with
  | some fn => match e with
    | .exit _ => none
    | _ => endK P A f fn s
  | none => none
end Ev
/- Ev: functions of Go's library whose contracts the kit has proved. -/
namespace Ev
open Go Go.WideShapes Go.RowKit

/-- A function of plain values that tells a plain value and leaves memory as it was. -/
theorem meets_plain {P : Program} {f : FuncId} {fn : Func} {args : List T} {x : T} {v : Value} (hf : P.funcs[f]? = some fn) (hb : fn.body.isSome = true) (hname : (fn.name == "runtime.NumGoroutine") = false)
    (hx : ∀ w, RO w x v []) (hnt : ∀ w I J, ResT w I J true x v [] ↔ RO w x v [])
    (hc : ∀ (w : World) (vs : Array Value) (I J : Nat → Prop), vs.size = args.length → (∀ b, J b → b < w.heap.size) → (∀ (i : Nat) (y : T) (u : Value), args[i]? = some y → vs[i]? = some u → ResV w I J false y u []) →
      Calls P f vs w fun e w' => e = .returned v ∧ Below w.heap.size w w') : Meets P ⟨none, .sl, true, false, false⟩ f args (x, []) := by
  intro w I J vs F hp
  obtain rfl : F = [] := hp.none rfl
  obtain ⟨body, hbody⟩ := Option.isSome_iff_exists.1 hb
  have hcall : (callFunc f vs).run P w = .ok (.enter f vs) w := by
    have hne : ¬ fn.name = "runtime.NumGoroutine" := by simpa using hname
    simp [callFunc, hf, hne, hbody]
  unfold Does
  rw [hcall]
  refine Calls.mono (hc w vs I J hp.len hp.lt fun i y u hy hu => hp.vals i y u (fun h => by cases h) hy hu) ?_
  rintro e w' ⟨rfl, hbel⟩
  refine ⟨v, rfl, [], [], ⟨hbel.os, hbel.tape, hbel.output, hbel.size, fun b hb _ => hbel.block b hb⟩, by simp, by simp, ?_, .inl ⟨rfl, rfl, rfl⟩⟩
  exact (hnt _ _ _).2 (hx w')

theorem resV_str {w : World} {I J : Nat → Prop} {s : ByteArray} {v : Value} (h : ResV w I J false (.str s) v []) : v = .string s := by
  have h : El w I J false (.str s) v [] := h
  unfold El at h
  rw [if_neg (by simp)] at h
  cases h.1; rfl
theorem does_calls {P : Program} {f : FuncId} {fn : Func} {vs : Array Value} {w : World} {R : Value → World → Prop} (hf : P.funcs[f]? = some fn) (hb : fn.body.isSome = true) (hname : (fn.name == "runtime.NumGoroutine") = false)
    (hc : Calls P f vs w fun e w' => ∃ v, e = .returned v ∧ R v w') : Does P f vs w R := by
  obtain ⟨body, hbody⟩ := Option.isSome_iff_exists.1 hb
  have hcall : (callFunc f vs).run P w = .ok (.enter f vs) w := by
    have hne : ¬ fn.name = "runtime.NumGoroutine" := by simpa using hname
    simp [callFunc, hf, hne, hbody]
  unfold Does
  rw [hcall]
  exact hc
end Ev
