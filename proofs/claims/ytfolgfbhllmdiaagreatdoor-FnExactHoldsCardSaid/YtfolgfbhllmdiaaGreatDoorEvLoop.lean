/- Ev: loops taken out of their function. -/
import Derived.Test.YtfolgfbhllmdiaaGreatDoorEvRow
namespace Ev
open Go

def bodyOf (P : Program) (f : FuncId) : Code := match P.funcs[f]? with
  | some fn => match fn.body with
    | some c => c
    | none => .skip
  | none => .skip
/-- A piece of code, by its place. -/
def subCode : List Nat → Code → Code
  | [], c => c
  | 0 :: p, .seq a _ => subCode p a
  | _ :: p, .seq _ b => subCode p b
  | 0 :: p, .cond _ a _ => subCode p a
  | _ :: p, .cond _ _ b => subCode p b
  | _ :: p, .block _ c => subCode p c
  | _ :: p, .loop c => subCode p c
  | _, c => c
/-- What stands round a piece of code. -/
inductive Ct where
  | seq (blk : Nat) (b : Code)
  | block (i : Nat)
section
variable (P : Program) (A : Attrs) (H : Hints) (E : Env) (n : Nat)
def ctxK : List Ct → (Ex → St → R) → Ex → St → R
  | [], K => K
  | .seq blk b :: r, K => fun e s => match e with
    | .normal => codeK P A H E n blk b s (ctxK r K)
    | e => ctxK r K e s
  | .block i :: r, K => fun e s => match e with
    | .exit j => bif Nat.beq i j then ctxK r K .normal s else ctxK r K (.exit j) s
    | e => ctxK r K e s
/-- The way round: to the next round, or out. -/
def backK (blk : Nat) (K : Ex → St → R) (L : St → R) : Ex → St → R := fun e s => match e with
  | .normal => L (ghosts s (H.loops blk))
  | e => K e s
def roundK (blk : Nat) (c : Code) (K : Ex → St → R) (L : St → R) (s : St) : R := codeK P A H E n blk c s (backK H blk K L)
def loopAt (blk : Nat) (c : Code) (K : Ex → St → R) (m : Nat) (s : St) : R :=
  loopK (fun s K => codeK P A H E n blk c s fun e s => match e with
    | .normal => K .normal (ghosts s (H.loops blk))
    | e => K e s) m s K
theorem loopAt_zero (blk : Nat) (c : Code) (K : Ex → St → R) (s : St) : loopAt P A H E n blk c K 0 s = none := rfl
theorem loopAt_succ (blk : Nat) (c : Code) (K : Ex → St → R) (m : Nat) (s : St) : loopAt P A H E n blk c K (m + 1) s = roundK P A H E n blk c K (loopAt P A H E n blk c K m) s := by
  unfold roundK
  show codeK P A H E n blk c s _ = codeK P A H E n blk c s _
  congr 1
  funext e s
  cases e <;> rfl
end
/-- The end of a function. -/
def endOf (P : Program) (A : Attrs) (f : FuncId) : Ex → St → R := fun e s => match P.funcs[f]? with
  | some fn => match e with
    | .exit _ => none
    | _ => endK P A f fn s
  | none => none
end Ev
