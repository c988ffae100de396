/- Ev: an abstract interpreter of the model's code over trees: the definitions. -/
import GoSem.Machine.Return
import GoSem.Core.Region
import Derived.Calls
import Derived.Laws.Sem
namespace Ev
open Go
abbrev Key := Nat

/-- What one cell of memory holds, read to the bottom (a tree); 'agg' and 'tup' stand in arguments and results alone. -/
inductive T where
  | int (k : IntKind) (n : Int)
  | bool (b : Bool)
  | str (s : ByteArray)
  | sl (sz : Nat) (cells : List T)
  | agg (cells : List T)
  | tup (parts : List T)
  | rref (cells : List T) (q : Nat)
  | clo (fn : FuncId) (caps : List T)
  | hole
  | mp (l : List (Int × Int × Bool))
  deriving Inhabited

/-- A tree that leads to no memory. -/
def T.scalar : T → Bool
  | .int _ _ | .bool _ | .str _ => true
  | _ => false

/-- One cell of a frame. -/
inductive C where
  | t (x : T)
  | nil
  | ptr (k : Key) (q : Nat)
  | obj (k : Key)
  | undef
  | view (x : T)

/-- What a slot of a frame holds: one cell; a struct's or array's cells; several results; a closure made here; nothing ('skip': an operation left out); anything. -/
inductive V where
  | one (c : C)
  | agg (cs : List C)
  | tup (ps : List (Bool × List C))
  | clo (fn : FuncId) (cs : List C)
  | skip
  | any

/-- What the frame has made: a variable's block, a slice of its own. 'free': nothing leads there. 'lent': a slice of its own, lent out: nothing is written. 'opn': a slice of its own, some of whose cells are named one by one. 'mp': a map. -/
inductive Ob where
  | box (cells : List C)
  | arr (own deep : Bool) (sz : Nat) (cells : List T)
  | free
  | gone
  | moved (k : Key)
  | lent (deep : Bool) (sz : Nat) (cells : List T)
  | opn (sz : Nat) (cells : List T) (ws : List (Nat × C))
  | mp (l : List (Int × Int × Bool))
def Ob.isLent : Ob → Bool
  | .lent _ _ _ => true
  | _ => false

structure St where
  tm : List (Nat × V)
  ob : List (Key × Ob)

abbrev R := Option (T × List T)
abbrev Env := FuncId → List T → R

def look {α : Type} (d : α) : List (Nat × α) → Nat → α
  | [], _ => d
  | (j, v) :: r, i => bif Nat.beq j i then v else look d r i
def put {α : Type} : List (Nat × α) → Nat → α → List (Nat × α)
  | [], i, v => [(i, v)]
  | (j, u) :: r, i, v => bif Nat.beq j i then (i, v) :: r else (j, u) :: put r i v
def St.getT (s : St) (i : Nat) : V := look .any s.tm i
def St.getO (s : St) (k : Key) : Ob := look .free s.ob k
def St.setT (s : St) (i : Nat) (v : V) : St := ⟨put s.tm i v, s.ob⟩
def St.setO (s : St) (k : Key) (o : Ob) : St := ⟨s.tm, put s.ob k o⟩

/-- What an operation does: local steps, so that operations that touch different things change places. -/
inductive Prog where
  | done
  | fail
  | getT (i : Nat) (f : V → Prog)
  | getO (k : Key) (f : Ob → Prog)
  | setT (i : Nat) (v : V) (p : Prog)
  | setO (k : Key) (o : Ob) (p : Prog)
  | ite (b : Bool) (p q : Prog)
  | asInt (k : IntKind) (x : T) (f : Int → Prog)
  | asBool (x : T) (f : Bool → Prog)
  | asStr (x : T) (f : ByteArray → Prog)
  | asSl (sz : Nat) (x : T) (f : List T → Prog)
  | asAgg (x : T) (f : List T → Prog)
  | asTup (x : T) (f : List T → Prog)
  | uncons (l : List T) (f : T → List T → Prog)
  | unnil (l : List T) (p : Prog)
  | onSome (x : Option T) (f : T → Prog)
  | onRef (x : T) (p : Prog)
  | onClo (x : T) (p : Prog)
  | call (f : FuncId) (args : List T) (k : T → List T → Prog)

structure Log where
  rdT : List Nat
  wrT : List Nat
  rdO : List Key
  wrO : List Key

/-- What a tree is, of the wanted sort. -/
def oInt (k : IntKind) : T → Option Int
  | .int k' n => bif decide (k' = k) then some n else none
  | _ => none
def oBool : T → Option Bool
  | .bool b => some b
  | _ => none
def oStr : T → Option ByteArray
  | .str b => some b
  | _ => none
def oSl (sz : Nat) : T → Option (List T)
  | .sl sz' c => bif Nat.beq sz' sz then some c else none
  | _ => none
def oAgg : T → Option (List T)
  | .agg c => some c
  | _ => none
def oTup : T → Option (List T)
  | .tup c => some c
  | _ => none
def oCons : List T → Option (T × List T)
  | a :: r => some (a, r)
  | [] => none
def oNil : List T → Option Unit
  | [] => some ()
  | _ :: _ => none
def oRef : T → Option Unit
  | .rref _ _ => some ()
  | _ => none
def oClo : T → Option Unit
  | .clo _ _ => some ()
  | _ => none

def runP (E : Env) : Prog → St → Log → (St → Log → R) → R
  | .done, s, l, K => K s l
  | .fail, _, _, _ => none
  | .getT i f, s, l, K => runP E (f (s.getT i)) s { l with rdT := i :: l.rdT } K
  | .getO k f, s, l, K => runP E (f (s.getO k)) s { l with rdO := k :: l.rdO } K
  | .setT i v p, s, l, K => runP E p (s.setT i v) { l with wrT := i :: l.wrT } K
  | .setO k o p, s, l, K => runP E p (s.setO k o) { l with wrO := k :: l.wrO } K
  | .ite b p q, s, l, K => bif b then runP E p s l K else runP E q s l K
  | .asInt k x f, s, l, K => (oInt k x).bind fun n => runP E (f n) s l K
  | .asBool x f, s, l, K => (oBool x).bind fun b => runP E (f b) s l K
  | .asStr x f, s, l, K => (oStr x).bind fun b => runP E (f b) s l K
  | .asSl sz x f, s, l, K => (oSl sz x).bind fun c => runP E (f c) s l K
  | .asAgg x f, s, l, K => (oAgg x).bind fun c => runP E (f c) s l K
  | .asTup x f, s, l, K => (oTup x).bind fun c => runP E (f c) s l K
  | .uncons l' f, s, l, K => (oCons l').bind fun q => runP E (f q.1 q.2) s l K
  | .unnil l' p, s, l, K => (oNil l').bind fun _ => runP E p s l K
  | .onSome x f, s, l, K => x.bind fun a => runP E (f a) s l K
  | .onRef x p, s, l, K => (oRef x).bind fun _ => runP E p s l K
  | .onClo x p, s, l, K => (oClo x).bind fun _ => runP E p s l K
  | .call g args k, s, l, K => (E g args).bind fun r => runP E (k r.1 r.2) s l K

/-! ## types -/
def cellTys (P : Program) : Nat → TypeId → List TypeId
  | 0, _ => []
  | n + 1, t => match P.underlying t with
    | some (.struct fs) => fs.toList.flatMap fun f => cellTys P n f.type
    | some (.array m e) => (List.replicate m (cellTys P n e)).flatten
    | _ => [t]
def isAggT (P : Program) (t : TypeId) : Bool :=
  match P.underlying t with | some (.struct _) | some (.array _ _) => true | _ => false
def sizeT (P : Program) (t : TypeId) : Nat := match P.info? t with | some i => i.size | none => 0
def bytesT (P : Program) (t : TypeId) : Nat := match P.info? t with | some i => i.bytes | none => 0
/-- The size of a slice type's elements. -/
def strideT (P : Program) (t : TypeId) : Nat := match P.underlying t with | some (.slice e) => sizeT P e | _ => 1
/-- The type is known, its size is its cells'. -/
def tyOk (P : Program) (t : TypeId) : Bool :=
  (P.info? t).isSome && (P.underlying t).isSome && Nat.beq (sizeT P t) (cellTys P 8 t).length && (isAggT P t || Nat.beq (sizeT P t) 1)
/-- No value of the type leads to memory. -/
def flatT (P : Program) (t : TypeId) : Bool :=
  (cellTys P 8 t).all fun c => match P.underlying c with | some (.int _) | some .bool | some .string => true | _ => false
def flatTs (P : Program) (t : TypeId) : Bool :=
  match P.underlying t with | some (.tuple ts) => ts.toList.all (flatT P) | _ => flatT P t

def ofC : Value → C
  | .int k n => .t (.int k n)
  | .bool b => .t (.bool b)
  | .string s => .t (.str s)
  | .slice none 0 0 => .nil
  | _ => .undef
def ofVal : Value → V
  | .agg cs => bif cs.toList.all (·.oneCell') then .agg (cs.toList.map ofC) else .any
  | .int k n => .one (.t (.int k n))
  | .bool b => .one (.t (.bool b))
  | .string s => .one (.t (.str s))
  | .slice none 0 0 => .one .nil
  | _ => .any
def zeroC (P : Program) (t : TypeId) : Option (List C) :=
  match P.info? t with
  | some i => match i.zero with
    | some v => bif v.cells.toList.all (·.oneCell') && Nat.beq v.cells.size i.size then some (v.cells.toList.map ofC) else none
    | none => none
  | none => none
def V.cells : V → List C
  | .one c => [c]
  | .agg cs => cs
  | _ => []

/-! ## reading operands, typed reading of trees -/
def getV (x : Operand) (f : V → Prog) : Prog :=
  match x with
  | .tmp i => .getT i f
  | .const v => f (ofVal v)
  | .func g => f (.one (.t (.clo g [])))
  | .global _ => .fail
def setD (d : Option Nat) (v : V) : Prog := match d with | some d => .setT d v .done | none => .fail
/-- A tree read as a cell of a type. -/
def asTy (P : Program) (t : TypeId) (x : T) (f : T → Prog) : Prog :=
  match P.underlying t with
  | some (.int k) => .asInt k x fun n => f (.int k n)
  | some .bool => .asBool x fun b => f (.bool b)
  | some .string => .asStr x fun s => f (.str s)
  | some (.slice e) => .asSl (sizeT P e) x fun cs => f (.sl (sizeT P e) cs)
  | some (.func _ _ _) => .onClo x (f x)
  | some (.pointer _) => .onRef x (f x)
  | _ => .fail
/-- n cells of trees from place q on. -/
def readTs (P : Program) (cells : List T) : Nat → List TypeId → (List C → Prog) → Prog
  | _, [], f => f []
  | q, t :: ts, f => .onSome cells[q]? fun x => asTy P t x fun x => readTs P cells (q + 1) ts fun r => f (.t x :: r)
def mkV (P : Program) (t : TypeId) (cs : List C) : V := bif isAggT P t then .agg cs else .one (cs.headD .undef)
/-- Some cell of the type leads to memory by a slice. -/
def hasSl (P : Program) (t : TypeId) : Bool := !flatT P t

/-- A cell type whose values lead nowhere. -/
def flatC (P : Program) (t : TypeId) : Bool := match P.underlying t with | some (.int _) | some .bool | some .string => true | _ => false
/-- A cell as a tree, for memory of its own (what is stored into a slice, or returned): an own slice moves out of its object.
The flag says whether all memory behind it is its own. -/
def moveC (P : Program) (t : TypeId) (c : C) (f : T → Bool → Prog) : Prog :=
  match c with
  | .t x => bif flatC P t then .ite x.scalar (f x true) .fail else f x false
  | .nil => match P.underlying t with | some (.slice e) => .ite (Nat.blt 0 (sizeT P e)) (f (.sl (sizeT P e) []) true) .fail | _ => .fail
  | .obj k => .getO k fun o => match o with
    | .arr own deep sz cs => bif own then .setO k .gone (f (.sl sz cs) deep) else f (.sl sz cs) false
    | _ => .fail
  | _ => .fail
def moveCs (P : Program) : List TypeId → List C → (List T → Bool → Prog) → Prog
  | [], [], f => f [] true
  | t :: ts, c :: cs, f => moveC P t c fun x b => moveCs P ts cs fun r b' => f (x :: r) (b && b')
  | _, _, _ => .fail

/-- The cells that are named, as they stand now, laid over the others. -/
def snapW (c : C) (f : T → Prog) : Prog :=
  match c with
  | .t x => f x
  | .obj k => .getO k fun o => match o with
    | .arr _ _ sz cs => f (.sl sz cs)
    | _ => .fail
  | .undef => f .hole
  | _ => .fail
def snapWs : List (Nat × C) → (List (Nat × T) → Prog) → Prog
  | [], f => f []
  | (q, c) :: r, f => snapW c fun x => snapWs r fun l => f ((q, x) :: l)
def fillT : List T → List (Nat × T) → List T
  | l, [] => l
  | l, (q, x) :: r => (fillT l r).set q x
/-- A cell as a tree, as it stands now (an argument that is only read). The flag: own memory that may still be written is seen. -/
def snapC0 (P : Program) (t : TypeId) (c : C) (f : T → Bool → Prog) : Prog :=
  match c with
  | .t x => f x false
  | .nil => match P.underlying t with | some (.slice e) => .ite (Nat.blt 0 (sizeT P e)) (f (.sl (sizeT P e) []) false) .fail | _ => .fail
  | .obj k => .getO k fun o => match o with
    | .arr own _ sz cs => f (.sl sz cs) own
    | .lent _ sz cs => f (.sl sz cs) true
    | .opn sz cs ws => snapWs ws fun xs => f (.sl sz (fillT cs xs)) true
    | _ => .fail
  | .view x => f x true
  | _ => .fail
def snapCs0 (P : Program) : List TypeId → List C → (List T → Bool → Prog) → Prog
  | [], [], f => f [] false
  | t :: ts, c :: cs, f => snapC0 P t c fun x b => snapCs0 P ts cs fun r b' => f (x :: r) (b || b')
  | _, _, _ => .fail
def elemT (P : Program) (t : TypeId) : TypeId := match P.underlying t with | some (.pointer e) => e | _ => 0
/-- With pointers (to a variable or an element) and closures, whose captured cells are pointers or plain. -/
def snapC1 (P : Program) (t : TypeId) (c : C) (f : T → Bool → Prog) : Prog :=
  match c with
  | .ptr k q => .getO k fun o =>
      match o with
      | .box cells => snapCs0 P (cellTys P 8 (elemT P t)) ((cells.drop q).take (sizeT P (elemT P t))) fun r _ => f (.rref r 0) true
      | .arr own _ _ cells => f (.rref ((cells.drop q).take (sizeT P (elemT P t))) 0) own
      | _ => .fail
  | .t (.rref cells q) => f (.rref ((cells.drop q).take (sizeT P (elemT P t))) 0) false
  | c => snapC0 P t c f
/-- A captured cell: a pointer to a whole variable, or a value. -/
def snapCap (c : C) (f : T → Bool → Prog) : Prog :=
  match c with
  | .ptr k q => .getO k fun o =>
      match o with
      | .box cells => (match cells, q with
        | cs, 0 => snapAll cs fun r => f (.rref r 0) true
        | _, _ => .fail)
      | _ => .fail
  | .t x => f x false
  | .obj k => .getO k fun o => match o with
    | .arr own _ sz cs => f (.sl sz cs) own
    | _ => .fail
  | _ => .fail
where
  snapAll : List C → (List T → Prog) → Prog
    | [], f => f []
    | .t x :: r, f => snapAll r fun l => f (x :: l)
    | .obj k :: r, f => .getO k fun o => match o with
      | .arr _ _ sz cs => snapAll r fun l => f (.sl sz cs :: l)
      | _ => .fail
    | _ :: _, _ => .fail
def snapCaps : List C → (List T → Bool → Prog) → Prog
  | [], f => f [] false
  | c :: cs, f => snapCap c fun x b => snapCaps cs fun r b' => f (x :: r) (b || b')
def snapV (P : Program) (t : TypeId) (v : V) (f : T → Bool → Prog) : Prog :=
  match v with
  | .one c => snapC1 P t c f
  | .agg cs => snapCs0 P (cellTys P 8 t) cs fun r b => f (.agg r) b
  | .clo fn cs => snapCaps cs fun r b => f (.clo fn r) b
  | _ => .fail

/-! ## making objects -/
def newO (k : Key) (o : Ob) (p : Prog) : Prog := .getO k fun o' => match o' with | .free => .setO k o p | _ => .fail
def keyOf (d j : Nat) : Key := d * 64 + j
/-- A result's cell, as the caller's frame takes it. -/
def takeC (P : Program) (own : Bool) (key : Key) (t : TypeId) (x : T) (f : C → Prog) : Prog :=
  match P.underlying t with
  | some (.slice e) => .asSl (sizeT P e) x fun cs => bif own then newO key (.arr true true (sizeT P e) cs) (f (.obj key)) else f (.t (.sl (sizeT P e) cs))
  | _ => asTy P t x fun x => bif own then .ite x.scalar (f (.t x)) .fail else f (.t x)
def takeCs (P : Program) (own : Bool) : Key → List TypeId → List T → (List C → Prog) → Prog
  | _, [], l, f => .unnil l (f [])
  | key, t :: ts, l, f => .uncons l fun x r => takeC P own key t x fun c => takeCs P own (key + 1) ts r fun cs => f (c :: cs)
def takeV (P : Program) (own : Bool) (key : Key) (t : TypeId) (x : T) (f : V → Prog) : Prog :=
  bif isAggT P t then .asAgg x fun l => takeCs P own key (cellTys P 8 t) l fun cs => f (.agg cs)
  else takeC P own key t x fun c => f (.one c)
def takePs (P : Program) (own : Bool) : Key → List TypeId → List T → (List (Bool × List C) → Prog) → Prog
  | _, [], l, f => .unnil l (f [])
  | key, t :: ts, l, f => .uncons l fun x r => takeV P own key t x fun v => takePs P own (key + (cellTys P 8 t).length) ts r fun ps => f ((isAggT P t, v.cells) :: ps)
def takeR (P : Program) (own : Bool) (key : Key) (t : TypeId) (x : T) (f : V → Prog) : Prog :=
  match P.underlying t with
  | some (.tuple ts) => .asTup x fun l => takePs P own key ts.toList l fun ps => f (.tup ps)
  | _ => takeV P own key t x f

/-! ## what is known of the callees -/
/-- How what is turned comes in: a pointer to a variable (with which of its cells bear memory of one's own), a slice of one's own, a struct by value, all memory behind it one's own. -/
inductive Mode where
  | ptr (os : List Bool)
  | sl
  | val
/-- How a call hands over: the parameter that is turned, if any; whether the results' memory is new; whether the turned parameter is handed over for good; whether the results lead to what is read. -/
structure Attr where
  turn : Option Nat
  md : Mode
  own : Bool
  take : Bool
  view : Bool
abbrev Attrs := FuncId → Attr

def C.scalar : C → Bool
  | .t x => x.scalar
  | _ => false
def C.tree : C → T
  | .t x => x
  | _ => .bool false
/-- What must come back, and where it goes. -/
inductive Bk where
  | sl (k : Key) (sz : Nat)
  | ptr (k : Key) (old : List C)
  | val (old : List C)
def giveC (P : Program) (o : Bool) (t : TypeId) (c : C) (f : T → Prog) : Prog :=
  bif o then moveC P t c fun x b => .ite b (f x) .fail else snapC0 P t c fun x b => .ite b .fail (f x)
def giveCs (P : Program) : List Bool → List TypeId → List C → (List T → Prog) → Prog
  | [], [], [], f => f []
  | o :: os, t :: ts, c :: cs, f => giveC P o t c fun x => giveCs P os ts cs fun r => f (x :: r)
  | _, _, _, _ => .fail
def trues (l : List TypeId) : List Bool := l.map fun _ => true
/-- What is turned is handed over. -/
def give (P : Program) (md : Mode) (t : TypeId) (v : V) (f : T → Bk → Prog) : Prog :=
  match md, v with
  | .ptr os, .one (.ptr k 0) => .getO k fun o => match o with
    | .box cells => giveCs P os (cellTys P 8 (elemT P t)) cells fun xs => .setO k .gone (f (.rref xs 0) (.ptr k cells))
    | _ => .fail
  | .sl, .one (.obj k) => .getO k fun o => match o with
    | .arr true true sz cs => .setO k .gone (f (.sl sz cs) (.sl k sz))
    | _ => .fail
  | .val, .agg cells => giveCs P (trues (cellTys P 8 t)) (cellTys P 8 t) cells fun xs => f (.agg xs) (.val cells)
  | _, _ => .fail
def snapArgs (P : Program) (tr : Nat → Option T) : Nat → List TypeId → List V → (List T → Bool → Prog) → Prog
  | _, [], [], f => f [] false
  | i, t :: ts, v :: vs, f => match tr i with
    | some x => snapArgs P tr (i + 1) ts vs fun r b => f (x :: r) b
    | none => snapV P t v fun x b => snapArgs P tr (i + 1) ts vs fun r b' => f (x :: r) (b || b')
  | _, _, _, _ => .fail
/-- A cell of a variable that was turned: what it leads to is new. -/
def backC (P : Program) (o : Bool) (t : TypeId) (key : Key) (x : T) (old : C) (f : C → Prog) : Prog :=
  match o, old with
  | true, .obj k => .setO k (.moved key) (takeC P true key t x f)
  | o, _ => takeC P o key t x f
def backCs (P : Program) : List Bool → List TypeId → Key → List T → List C → (List C → Prog) → Prog
  | [], [], _, l, [], f => .unnil l (f [])
  | o :: os, t :: ts, key, l, c :: cs, f => .uncons l fun x r => backC P o t key x c fun c' => backCs P os ts (key + 1) r cs fun l => f (c' :: l)
  | _, _, _, _, _, _ => .fail
/-- What a struct leads to comes back. -/
def backVs (P : Program) : List TypeId → List T → List C → Prog → Prog
  | [], l, [], p => .unnil l p
  | t :: ts, l, c :: cs, p => .uncons l fun x r => match c with
    | .obj k => .getO k fun ob => match ob with
      | .gone => .asSl (strideT P t) x fun cs' => .setO k (.arr true true (strideT P t) cs') (backVs P ts r cs p)
      | _ => .fail
    | _ => backVs P ts r cs p
  | _, _, _, _ => .fail
/-- The cells of a variable that are not one's own lead nowhere. -/
def flatOs (P : Program) : List Bool → List TypeId → Bool
  | _, [] => true
  | [], t :: ts => flatC P t && flatOs P [] ts
  | o :: os, t :: ts => (o || flatC P t) && flatOs P os ts
def flatMd (P : Program) (md : Mode) (t : TypeId) : Bool :=
  match md with
  | .ptr os => flatOs P os (cellTys P 8 (elemT P t))
  | _ => true
/-- What was turned comes back. -/
def back (P : Program) (md : Mode) (d : Nat) (t : TypeId) (bk : Bk) (outs : List T) (p : Prog) : Prog :=
  .uncons outs fun x r => .unnil r (match bk, md with
    | .sl k sz, _ => .asSl sz x fun cs => .setO k (.arr true true sz cs) p
    | .ptr k old, .ptr os => .asAgg x fun xs => backCs P os (cellTys P 8 (elemT P t)) (keyOf d 32) xs old fun cells => .setO k (.box cells) p
    | .val old, _ => .asAgg x fun xs => backVs P (cellTys P 8 t) xs old p
    | _, _ => .fail)
def getVs : List Operand → (List V → Prog) → Prog
  | [], f => f []
  | x :: xs, f => getV x fun v => getVs xs fun vs => f (v :: vs)
/-- The callee's own types of what comes in, where they are known. -/
def paramTs (P : Program) (g : FuncId) (tys : List TypeId) : List TypeId := match P.funcs[g]? with
  | some fn => bif Nat.beq fn.params.size tys.length then fn.params.toList else tys
  | none => tys
def callP (P : Program) (A : Attrs) (o : Oper) (g : FuncId) (tys : List TypeId) (vs : List V) (caps : List T) (sn : Bool) : Prog :=
  match o.dst with
  | some d => match (A g).turn with
    | none => snapArgs P (fun _ => none) 0 tys vs fun xs b =>
      .ite ((b || sn) && !(flatTs P o.type || (A g).own)) .fail
        (.call g (xs ++ caps) fun r outs => .unnil outs (takeR P (A g).own (keyOf d 0) o.type r fun v => .setT d v .done))
    | some i => match vs[i]?, tys[i]?, caps with
      | some v, some t, [] => give P (A g).md t v fun x bk => snapArgs P (fun j => bif Nat.beq i j then some x else none) 0 tys vs fun xs b =>
        .ite (b && !((flatTs P o.type || (A g).own) && flatMd P (A g).md t)) .fail
          (.call g xs fun r outs => bif (A g).take then .unnil outs (takeR P (A g).own (keyOf d 0) o.type r fun v => .setT d v .done)
            else back P (A g).md d t bk outs (takeR P (A g).own (keyOf d 0) o.type r fun v => .setT d v .done))
      | _, _, _ => .fail
  | none => .fail

/-! ## calls that may hand back what they were shown -/
/-- A cell as a tree; nothing that may still be written is seen. The flag: what is lent is seen. -/
def viewC (P : Program) (t : TypeId) (c : C) (f : T → Bool → Prog) : Prog :=
  match c with
  | .t x => f x false
  | .nil => match P.underlying t with | some (.slice e) => .ite (Nat.blt 0 (sizeT P e)) (f (.sl (sizeT P e) []) false) .fail | _ => .fail
  | .obj k => .getO k fun o => match o with
    | .arr false _ sz cs => f (.sl sz cs) false
    | .lent _ sz cs => f (.sl sz cs) true
    | _ => .fail
  | .view x => f x true
  | _ => .fail
def viewCs (P : Program) : List TypeId → List C → (List T → Bool → Prog) → Prog
  | [], [], f => f [] false
  | t :: ts, c :: cs, f => viewC P t c fun x b => viewCs P ts cs fun r b' => f (x :: r) (b || b')
  | _, _, _ => .fail
def viewV (P : Program) (t : TypeId) (v : V) (f : T → Bool → Prog) : Prog :=
  match v with
  | .one (.ptr k q) => .getO k fun o => match o with
    | .box cells => viewCs P (cellTys P 8 (elemT P t)) ((cells.drop q).take (sizeT P (elemT P t))) fun r b => f (.rref r 0) b
    | _ => .fail
  | .one (.t (.rref cells q)) => f (.rref ((cells.drop q).take (sizeT P (elemT P t))) 0) false
  | .one c => viewC P t c f
  | .agg cs => viewCs P (cellTys P 8 t) cs fun r b => f (.agg r) b
  | _ => .fail
def viewArgs (P : Program) : List TypeId → List V → (List T → Bool → Prog) → Prog
  | [], [], f => f [] false
  | t :: ts, v :: vs, f => viewV P t v fun x b => viewArgs P ts vs fun r b' => f (x :: r) (b || b')
  | _, _, _ => .fail
/-- A result's cell: a slice of what was shown. -/
def seenC (P : Program) (b : Bool) (t : TypeId) (x : T) (f : C → Prog) : Prog :=
  match P.underlying t with
  | some (.slice e) => .asSl (sizeT P e) x fun cs => .ite (cs.all T.scalar) (f (bif b then .view (.sl (sizeT P e) cs) else .t (.sl (sizeT P e) cs))) .fail
  | _ => asTy P t x fun x => .ite x.scalar (f (.t x)) .fail
def seenCs (P : Program) (b : Bool) : List TypeId → List T → (List C → Prog) → Prog
  | [], l, f => .unnil l (f [])
  | t :: ts, l, f => .uncons l fun x r => seenC P b t x fun c => seenCs P b ts r fun cs => f (c :: cs)
def seenV (P : Program) (b : Bool) (t : TypeId) (x : T) (f : V → Prog) : Prog :=
  bif isAggT P t then .asAgg x fun l => seenCs P b (cellTys P 8 t) l fun cs => f (.agg cs)
  else seenC P b t x fun c => f (.one c)
def seenPs (P : Program) (b : Bool) : List TypeId → List T → (List (Bool × List C) → Prog) → Prog
  | [], l, f => .unnil l (f [])
  | t :: ts, l, f => .uncons l fun x r => seenV P b t x fun v => seenPs P b ts r fun ps => f ((isAggT P t, v.cells) :: ps)
def seenR (P : Program) (b : Bool) (t : TypeId) (x : T) (f : V → Prog) : Prog :=
  match P.underlying t with
  | some (.tuple ts) => .asTup x fun l => seenPs P b ts.toList l fun ps => f (.tup ps)
  | _ => seenV P b t x f
def callV (P : Program) (A : Attrs) (o : Oper) (g : FuncId) (tys : List TypeId) (vs : List V) : Prog :=
  match o.dst with
  | some d => .ite ((A g).turn.isNone && !(A g).own) (viewArgs P tys vs fun xs b => .call g xs fun r outs => .unnil outs (seenR P b o.type r fun v => .setT d v .done)) .fail
  | none => .fail

/-! ## the operations -/
def intBin (op : BinOp) (k : IntKind) (a b : Int) (f : T → Prog) : Prog :=
  match op with
  | .add => f (.int k (k.wrap (a + b)))
  | .sub => f (.int k (k.wrap (a - b)))
  | .mul => f (.int k (k.wrap (a * b)))
  | .quo => .ite (decide (b = 0)) .fail (f (.int k (k.wrap (a.tdiv b))))
  | .rem => .ite (decide (b = 0)) .fail (f (.int k (a.tmod b)))
  | .and => f (.int k (k.wrap (BitVec.ofInt k.bits a &&& BitVec.ofInt k.bits b).toNat))
  | .or => f (.int k (k.wrap (BitVec.ofInt k.bits a ||| BitVec.ofInt k.bits b).toNat))
  | .xor => f (.int k (k.wrap (BitVec.ofInt k.bits a ^^^ BitVec.ofInt k.bits b).toNat))
  | .shl => .ite (decide (b < 0)) .fail (f (.int k (k.wrap (a * 2 ^ (min b.toNat k.bits)))))
  | .shr => .ite (decide (b < 0)) .fail (f (.int k (a.fdiv (2 ^ (min b.toNat k.bits)))))
  | .eql => f (.bool (a == b))
  | .neq => f (.bool (a != b))
  | .lss => f (.bool (decide (a < b)))
  | .leq => f (.bool (decide (a ≤ b)))
  | .gtr => f (.bool (decide (a > b)))
  | .geq => f (.bool (decide (a ≥ b)))
  | _ => .fail
def isStrT (P : Program) (t : TypeId) : Bool := match P.underlying t with | some .string => true | _ => false
def isSlT (P : Program) (t : TypeId) : Bool := match P.underlying t with | some (.slice _) => true | _ => false
/-- A slice type with elements of a known size that is not 0. -/
def slOk (P : Program) (t : TypeId) : Bool := match P.underlying t with
  | some (.slice e) => tyOk P e && Nat.blt 0 (sizeT P e) && Nat.blt 0 (bytesT P e) && (zeroC P e).isSome
  | _ => false
/-- So many cells of elements of the type fit into memory. -/
def fits (P : Program) (e : TypeId) (n : Nat) : Bool := Nat.ble (n * bytesT P e) (140737488355328 * sizeT P e)
def isBoolT (P : Program) (t : TypeId) : Bool := match P.underlying t with | some .bool => true | _ => false
def binP (P : Program) (op : BinOp) (t : TypeId) (a b : V) (f : T → Prog) : Prog :=
  match a, b with
  | .one (.t (.int k x)), .one (.t (.int k' y)) => match op with
    | .shl => intBin .shl k x y f
    | .shr => intBin .shr k x y f
    | op => .ite (decide (k = k')) (intBin op k x y f) .fail
  | .one (.t (.bool x)), .one (.t (.bool y)) => .ite (isBoolT P t) (match op with
    | .eql => f (.bool (x == y))
    | .neq => f (.bool (!(x == y)))
    | _ => .fail) .fail
  | .one (.t (.str x)), .one (.t (.str y)) => match op with
    | .eql => f (.bool (x.toList == y.toList))
    | .neq => f (.bool (!(x.toList == y.toList)))
    | .add => .ite (decide (x.size + y.size ≤ 9223372036854775807)) (f (.str (x ++ y))) .fail
    | _ => .fail
  | _, _ => .fail
/-- A slice's cells, read as they stand. -/
def slOf (sz : Nat) (v : V) (f : List T → Prog) : Prog :=
  match v with
  | .one (.t x) => .asSl sz x f
  | .one .nil => f []
  | .one (.obj k) => .getO k fun o => match o with
    | .arr _ _ sz' cs => .ite (Nat.beq sz' sz) (f cs) .fail
    | _ => .fail
  | .one (.view x) => .asSl sz x f
  | _ => .fail
def setCells {α : Type} : List α → Nat → List α → List α
  | l, _, [] => l
  | l, q, x :: xs => setCells (l.set q x) (q + 1) xs
def inB (n : Int) (len : Nat) : Bool := decide (0 ≤ n) && decide (n < (len : Int))
def loadP (P : Program) (d : Nat) (t : TypeId) (v : V) : Prog :=
  .ite (tyOk P t) (match v with
  | .one (.ptr k q) => .getO k fun o => match o with
    | .box cells => .ite (decide (q + (cellTys P 8 t).length ≤ cells.length)) (.setT d (mkV P t ((cells.drop q).take (cellTys P 8 t).length)) .done) .fail
    | .arr own deep _ cells => .ite (own && deep && hasSl P t) .fail (readTs P cells q (cellTys P 8 t) fun cs => .setT d (mkV P t cs) .done)
    | _ => .fail
  | .one (.t (.rref cells q)) => readTs P cells q (cellTys P 8 t) fun cs => .setT d (mkV P t cs) .done
  | _ => .fail) .fail
def storeP (P : Program) (t : TypeId) (a v : V) (p : Prog) : Prog :=
  .ite (tyOk P t) (match a with
  | .one (.ptr k q) => .getO k fun o => match o with
    | .box cells => .ite (Nat.blt 0 v.cells.length && Nat.beq v.cells.length (cellTys P 8 t).length && decide (q + v.cells.length ≤ cells.length)) (.setO k (.box (setCells cells q v.cells)) p) .fail
    | .arr own deep sz cells => .ite (own && Nat.blt 0 v.cells.length && Nat.beq v.cells.length (cellTys P 8 t).length && decide (q + v.cells.length ≤ cells.length))
        (moveCs P (cellTys P 8 t) v.cells fun xs b => .getO k fun o => match o with
          | .arr true _ _ _ => .setO k (.arr true (deep && b) sz (setCells cells q xs)) p
          | _ => .fail) .fail
    | _ => .fail
  | _ => .fail) .fail
/-- The fields of a literal, laid over the zero value's cells. -/
def fillCs (place : Nat → Option (Nat × Nat)) : List C → List (Nat × V) → Option (List C)
  | cells, [] => some cells
  | cells, (i, v) :: r => match place i with
    | some (off, size) => bif Nat.blt 0 size && Nat.beq v.cells.length size && decide (off + size ≤ cells.length) then fillCs place (setCells cells off v.cells) r else none
    | none => none
def placesT (P : Program) (t : TypeId) : Option (Nat → Option (Nat × Nat)) :=
  match P.underlying t with
  | some (.struct fs) => (fs.toList.mapM (fun f => (P.info? f.type).map fun i => (f.offset, i.size))).map fun l i => l[i]?
  | some (.array _ e) => (P.info? e).map fun ie i => some (i * ie.size, ie.size)
  | some (.slice e) => (P.info? e).map fun ie i => some (i * ie.size, ie.size)
  | _ => none
/-- A field's place. -/
def fieldT (P : Program) (t : TypeId) (i : Nat) : Option (Nat × Nat) :=
  match P.underlying t with
  | some (.struct fs) => match fs[i]? with
    | some f => match P.info? f.type with
      | some ie => bif Nat.beq ie.size 0 then none else some (f.offset, ie.size)
      | none => none
    | none => none
  | _ => none
def fillV (P : Program) (t : TypeId) (z : Option (List C)) (vs : List (Nat × V)) : Option (List C) :=
  match z, placesT P t with
  | some z, some p => fillCs p z vs
  | _, _ => none
def getPs : List (Nat × Operand) → (List (Nat × V) → Prog) → Prog
  | [], f => f []
  | (i, x) :: r, f => getV x fun v => getPs r fun vs => f ((i, v) :: vs)
def repT (n : Nat) (zs : List T) : List T := (List.replicate n zs).flatten
def tOfC : C → Option T
  | .t x => some x
  | _ => none
/-- The zero value's cells as trees. -/
def zeroT (P : Program) (t : TypeId) : Option (List T) :=
  (zeroC P t).bind fun cs => go (cellTys P 8 t) cs
where
  go : List TypeId → List C → Option (List T)
    | [], [] => some []
    | t :: ts, c :: cs => (go ts cs).bind fun r => match c with
      | .t x => some (x :: r)
      | .nil => bif Nat.blt 0 (strideT P t) then some (.sl (strideT P t) [] :: r) else none
      | _ => none
    | _, _ => none
def elemS (P : Program) (t : TypeId) : TypeId := match P.underlying t with | some (.slice e) => e | _ => 0
/-- A slice's cells, to be copied into memory of one's own: an own slice whose elements lead to memory is used up. -/
def takeSl (sz : Nat) (flat : Bool) (v : V) (f : List T → Bool → Prog) : Prog :=
  match v with
  | .one (.t x) => .asSl sz x fun cs => bif flat then .ite (cs.all T.scalar) (f cs true) .fail else f cs false
  | .one .nil => f [] true
  | .one (.obj k) => .getO k fun o => match o with
    | .arr own deep sz' cs => .ite (Nat.beq sz' sz) (bif flat then .ite (cs.all T.scalar) (f cs true) .fail else bif own then .setO k .gone (f cs deep) else f cs false) .fail
    | _ => .fail
  | _ => .fail
def appendP (P : Program) (A B : TypeId) (d : Nat) (s x : V) : Prog :=
  .ite (slOk P A && isSlT P B) (takeSl (strideT P A) (flatT P (elemS P A)) x fun ys b =>
  match s with
  | .one .nil => .ite (fits P (elemS P A) ys.length) (newO (keyOf d 0) (.arr true b (strideT P A) ys) (.setT d (.one (.obj (keyOf d 0))) .done)) .fail
  | .one (.obj k) => .getO k fun o => match o with
    | .arr own deep sz' cs => .ite (own && Nat.beq sz' (strideT P A) && fits P (elemS P A) (cs.length + ys.length))
        (.setO k (.moved (keyOf d 0)) (newO (keyOf d 0) (.arr true (deep && b) (strideT P A) (cs ++ ys)) (.setT d (.one (.obj (keyOf d 0))) .done))) .fail
    | _ => .fail
  | _ => .fail) .fail
def boundV (v : Option Operand) (d : Int) (f : Int → Prog) : Prog :=
  match v with
  | none => f d
  | some x => getV x fun v => match v with | .one (.t (.int _ n)) => f n | _ => .fail
def sliceP (P : Program) (d : Nat) (t : TypeId) (v : V) (lo hi : Option Operand) : Prog :=
  match P.underlying t with
  | some .string => (match v with
    | .one (.t (.str s)) => boundV lo 0 fun l => boundV hi (s.size : Int) fun h =>
        .ite (decide (0 ≤ l) && decide (l ≤ h) && decide (h ≤ (s.size : Int))) (.setT d (.one (.t (.str (s.extract l.toNat h.toNat)))) .done) .fail
    | _ => .fail)
  | some (.slice e) => .ite (P.info? e).isSome (match v with
    | .one (.t x) => .asSl (sizeT P e) x fun cs => boundV lo 0 fun l => boundV hi ((cs.length / sizeT P e : Nat) : Int) fun h =>
        .ite (decide (0 ≤ l) && decide (l ≤ h) && decide (h ≤ ((cs.length / sizeT P e : Nat) : Int)))
          (.setT d (.one (.t (.sl (sizeT P e) ((cs.take (h.toNat * sizeT P e)).drop (l.toNat * sizeT P e))))) .done) .fail
    | .one (.obj k) => .getO k fun o => (match o with
      | .arr false _ sz cs => boundV lo 0 fun l => boundV hi ((cs.length / sizeT P e : Nat) : Int) fun h =>
        .ite (Nat.beq sz (sizeT P e) && decide (0 ≤ l) && decide (l ≤ h) && decide (h ≤ ((cs.length / sizeT P e : Nat) : Int)))
          (.setT d (.one (.t (.sl (sizeT P e) ((cs.take (h.toNat * sizeT P e)).drop (l.toNat * sizeT P e))))) .done) .fail
      | _ => .fail)
    | _ => .fail) .fail
  | _ => .fail
def indexAddrP (P : Program) (d : Nat) (t : TypeId) (v i : V) : Prog :=
  match i with
  | .one (.t (.int _ n)) => (match P.underlying t with
    | some (.slice e) => .ite (P.info? e).isSome (match v with
      | .one (.t x) => .asSl (sizeT P e) x fun cs => .ite (inB n (cs.length / sizeT P e)) (.setT d (.one (.t (.rref cs (n.toNat * sizeT P e)))) .done) .fail
      | .one (.obj k) => .getO k fun o => (match o with
        | .arr own _ sz cs => .ite (Nat.beq sz (sizeT P e) && inB n (cs.length / sizeT P e))
            (.setT d (bif own then .one (.ptr k (n.toNat * sizeT P e)) else .one (.t (.rref cs (n.toNat * sizeT P e)))) .done) .fail
        | _ => .fail)
      | _ => .fail) .fail
    | some (.array len e) => .ite (P.info? e).isSome (match v with
      | .one (.ptr k q) => .getO k fun o => (match o with
        | .box _ => .ite (inB n len) (.setT d (.one (.ptr k (q + n.toNat * sizeT P e))) .done) .fail
        | .arr _ _ _ _ => .ite (inB n len) (.setT d (.one (.ptr k (q + n.toNat * sizeT P e))) .done) .fail
        | _ => .fail)
      | .one (.t (.rref cs q)) => .ite (inB n len) (.setT d (.one (.t (.rref cs (q + n.toNat * sizeT P e)))) .done) .fail
      | _ => .fail) .fail
    | _ => .fail)
  | _ => .fail
/-- A cell of a slice that is looked into is named. -/
def unpackC (P : Program) (k : Key) (key : Key) (t : TypeId) (q sz : Nat) (cells : List T) (ws : List (Nat × C)) (x : T) (f : C → Prog) : Prog :=
  match P.underlying t with
  | some (.slice e) => .asSl (sizeT P e) x fun cs => newO key (.arr true true (sizeT P e) cs) (.setO k (.opn sz cells ((q, .obj key) :: ws)) (f (.obj key)))
  | _ => asTy P t x fun x => .ite x.scalar (f (.t x)) .fail
def findP : List (Nat × C) → Nat → (C → Prog) → Prog → Prog
  | [], _, _, p => p
  | (q', c) :: r, q, f, p => .ite (Nat.beq q' q) (f c) (findP r q f p)
def unpackP (P : Program) (k : Key) (ws0 : List (Nat × C)) (key : Key) (t : TypeId) (q : Nat) (f : C → Prog) : Prog :=
  .getO k fun o => match o with
    | .opn sz cells ws => findP ws0 q f (.onSome cells[q]? fun x => unpackC P k key t q sz cells ws x f)
    | _ => .fail
def unpackPs (P : Program) (k : Key) (ws0 : List (Nat × C)) : Key → Nat → List TypeId → (List C → Prog) → Prog
  | _, _, [], f => f []
  | key, q, t :: ts, f => unpackP P k ws0 key t q fun c => unpackPs P k ws0 (key + 1) (q + 1) ts fun r => f (c :: r)
def loadO (P : Program) (k : Key) (d : Nat) (t : TypeId) (q sz : Nat) (cells : List T) : Prog :=
  .ite (tyOk P t) (match cellTys P 8 t with
    | [] => .fail
    | t0 :: ts => .onSome cells[q]? fun x => .setO k (.opn sz cells []) (unpackC P k (keyOf d 0) t0 q sz cells [] x fun c =>
        unpackPs P k [] (keyOf d 0 + 1) (q + 1) ts fun r => .setT d (mkV P t (c :: r)) .done)) .fail
def loadW (P : Program) (k : Key) (d : Nat) (t : TypeId) (q : Nat) (ws : List (Nat × C)) : Prog :=
  .ite (tyOk P t) (unpackPs P k ws (keyOf d 0) q (cellTys P 8 t) fun cs => .setT d (mkV P t cs) .done) .fail
def C.isObj : C → Bool
  | .obj _ => true
  | _ => false
/-- A literal of slices of one's own: its cells stay named. -/
def refsLit (P : Program) (t : TypeId) (cs : List C) : Bool := isSlT P (elemS P t) && Nat.ble 2 cs.length && cs.any C.isObj
def nums : Nat → List C → List (Nat × C)
  | _, [] => []
  | i, c :: cs => (i, c) :: nums (i + 1) cs
def convP (P : Program) (d : Nat) (src dst : TypeId) (v : V) : Prog :=
  match P.underlying src, P.underlying dst, v with
  | some (.int _), some (.int k), .one (.t (.int _ n)) => .setT d (.one (.t (.int k (k.wrap n)))) .done
  | _, _, _ => .fail
/-- Bytes as a text. -/
def u8s : List T → Option (List Int)
  | [] => some []
  | .int .u8 n :: r => (u8s r).map (n :: ·)
  | _ => none
def bytesOf (cs : List T) : Option T := (u8s cs).map fun ns => .str (ns.foldl (fun r n => r.push (UInt8.ofNat n.toNat)) ByteArray.empty)
def isU8T (P : Program) (t : TypeId) : Bool := match P.underlying t with | some (.int .u8) => true | _ => false
def isBytesT (P : Program) (t : TypeId) : Bool := match P.underlying t with | some (.slice e) => isU8T P e && Nat.beq (sizeT P e) 1 | _ => false
def convB (P : Program) (d : Nat) (src : TypeId) (v : V) : Prog :=
  match v with
  | .one c => snapC0 P src c fun x _ => .asSl 1 x fun cs => .onSome (bytesOf cs) fun y => .asStr y fun b => .setT d (.one (.t (.str b))) .done
  | _ => .fail
/-- Cells are copied into a slice of one's own. -/
def copyP (P : Program) (t t' : TypeId) (o : Option Nat) (v sv : V) : Prog :=
  .ite (slOk P t && isSlT P t' && Nat.beq (strideT P t) 1 && flatT P (elemS P t)) (match v, sv with
    | .one (.obj k), .one c => snapC0 P t' c fun x _ => .asSl 1 x fun ys => .getO k fun ob => match ob with
      | .arr true deep sz cs => .ite (Nat.beq sz 1 && ys.all T.scalar) (.setO k (.arr true deep sz (setCells cs 0 (ys.take cs.length))) (setD o (.one (.t (.int .i64 ((ys.take cs.length).length : Int)))))) .fail
      | _ => .fail
    | _, _ => .fail) .fail
/-- A part of a slice that is lent. -/
def sliceL (P : Program) (d : Nat) (e : TypeId) (cs : List T) (lo hi : Option Operand) : Prog :=
  .ite (P.info? e).isSome (boundV lo 0 fun l => boundV hi ((cs.length / sizeT P e : Nat) : Int) fun h =>
    .ite (decide (0 ≤ l) && decide (l ≤ h) && decide (h ≤ ((cs.length / sizeT P e : Nat) : Int)))
      (.setT d (.one (.view (.sl (sizeT P e) ((cs.take (h.toNat * sizeT P e)).drop (l.toNat * sizeT P e))))) .done) .fail) .fail
def resolveF (v : V) (f : FuncId → List T → Bool → Prog) : Prog :=
  match v with
  | .one (.t (.clo g caps)) => f g caps false
  | .clo g cells => snapCaps cells fun r b => f g r b
  | _ => .fail
def onesV : List V → Option (List C)
  | [] => some []
  | .one c :: r => (onesV r).map (c :: ·)
  | _ => none
def opP (P : Program) (A : Attrs) (o : Oper) : Prog :=
  match o.op with
  | .move x | .assign x => getV x fun v => setD o.dst v
  | .pick c a b => getV c fun v => match v with
    | .one (.t (.bool x)) => getV a fun va => getV b fun vb => .ite x (setD o.dst va) (setD o.dst vb)
    | _ => .fail
  | .alloc e => match o.dst, zeroC P e with
    | some d, some cs => newO (keyOf d 0) (.box cs) (.setT d (.one (.ptr (keyOf d 0) 0)) .done)
    | _, _ => .fail
  | .box _ x => match o.dst with
    | some d => getV x fun v => match v with
      | .one c => newO (keyOf d 0) (.box [c]) (.setT d (.one (.ptr (keyOf d 0) 0)) .done)
      | .agg cs => newO (keyOf d 0) (.box cs) (.setT d (.one (.ptr (keyOf d 0) 0)) .done)
      | _ => .fail
    | none => .fail
  | .build t ps => .ite (isAggT P t) (getPs ps.toList fun vs => match fillV P t (zeroC P t) vs with
    | some cs => setD o.dst (.agg cs)
    | none => .fail) .fail
  | .buildSlice t len ps => match o.dst with
    | some d => .ite (slOk P t && Nat.ble (len * strideT P t) 65536) (getPs ps.toList fun vs =>
        match fillV P t ((zeroC P (elemS P t)).map fun z => (List.replicate len z).flatten) vs with
        | some cs => bif refsLit P t cs then newO (keyOf d 0) (.opn (strideT P t) (cs.map fun _ => .bool false) (nums 0 cs)) (.setT d (.one (.obj (keyOf d 0))) .done) else
          moveCs P ((List.replicate len (cellTys P 8 (elemS P t))).flatten) cs fun xs b =>
            newO (keyOf d 0) (.arr true b (strideT P t) xs) (.setT d (.one (.obj (keyOf d 0))) .done)
        | none => .fail) .fail
    | none => .fail
  | .load t a => match o.dst with
    | some d => getV a fun v => match v with
      | .one (.ptr k q) => .getO k fun ob => match ob with
        | .arr true true sz cells => bif hasSl P t then loadO P k d t q sz cells else loadP P d t (.one (.ptr k q))
        | .opn _ _ ws => loadW P k d t q ws
        | _ => loadP P d t (.one (.ptr k q))
      | v => loadP P d t v
    | none => .fail
  | .store t a x => match o.dst with
    | none => getV a fun va => getV x fun vx => storeP P t va vx .done
    | some _ => .fail
  | .nilCheck x => getV x fun v => match v with
    | .one (.ptr k q) => .getO k fun ob => match ob with
      | .box _ => setD o.dst (.one (.ptr k q))
      | .arr _ _ _ _ => setD o.dst (.one (.ptr k q))
      | _ => .fail
    | .one (.t (.rref cs q)) => setD o.dst (.one (.t (.rref cs q)))
    | _ => .fail
  | .binOp op t x y _ => getV x fun a => getV y fun b => binP P op t a b fun r => setD o.dst (.one (.t r))
  | .unOp op _ x => getV x fun v => match op, v with
    | .not, .one (.t (.bool b)) => setD o.dst (.one (.t (.bool (!b))))
    | .neg, .one (.t (.int k n)) => setD o.dst (.one (.t (.int k (k.wrap (0 - n)))))
    | _, _ => .fail
  | .convert s t x => match o.dst with
    | some d => getV x fun v => bif isBytesT P s && isStrT P t then convB P d s v else convP P d s t v
    | none => .fail
  | .makeFunc (.func g) first caps => match o.dst with
    | some d => bif Nat.beq first.size 0 then (getVs caps.toList fun vs => match onesV vs with
      | some cs => .setT d (.clo g cs) .done
      | none => .fail) else .fail
    | none => .fail
  | .makeSlice t l c => match o.dst with
    | some d => .ite (slOk P t) (getV l fun a => getV c fun b => match a, b, zeroT P (elemS P t) with
      | .one (.t (.int _ n)), .one (.t (.int _ m)), some z => .ite (decide (0 ≤ n) && decide (n = m) && fits P (elemS P t) (n.toNat * sizeT P (elemS P t)))
          (newO (keyOf d 0) (.arr true true (strideT P t) (repT n.toNat z)) (.setT d (.one (.obj (keyOf d 0))) .done)) .fail
      | _, _, _ => .fail) .fail
    | none => .fail
  | .slice t x lo hi none => match o.dst with
    | some d => getV x fun v => match v, P.underlying t with
      | .one (.view x), some (.slice e) => .asSl (sizeT P e) x fun cs => sliceL P d e cs lo hi
      | .one (.obj k), some (.slice e) => .getO k fun ob => match ob with
        | .lent _ sz cs => .ite (Nat.beq sz (sizeT P e)) (sliceL P d e cs lo hi) .fail
        | _ => sliceP P d t (.one (.obj k)) lo hi
      | v, _ => sliceP P d t v lo hi
    | none => .fail
  | .slice t x none (some (.const (.int _ 0))) (some (.const (.int _ 0))) => match o.dst with       -- x[:0:0]
    | some d => .ite (slOk P t) (getV x fun v => slOf (strideT P t) v fun _ =>
        newO (keyOf d 0) (.arr true true (strideT P t) []) (.setT d (.one (.obj (keyOf d 0))) .done)) .fail
    | none => .fail
  | .fieldAddr t x f => getV x fun v => match v, fieldT P t f with
    | .one (.ptr k q), some (off, _) => .getO k fun ob => match ob with
      | .box _ => setD o.dst (.one (.ptr k (q + off)))
      | .arr _ _ _ _ => setD o.dst (.one (.ptr k (q + off)))
      | _ => .fail
    | .one (.t (.rref cs q)), some (off, _) => setD o.dst (.one (.t (.rref cs (q + off))))
    | _, _ => .fail
  | .field t x f => getV x fun v => match v, P.underlying t with
    | .agg cs, some (.struct fs) => match fs[f]? with
      | some g => .ite (tyOk P g.type && decide (g.offset + (cellTys P 8 g.type).length ≤ cs.length)) (setD o.dst (mkV P g.type ((cs.drop g.offset).take (cellTys P 8 g.type).length))) .fail
      | none => .fail
    | _, _ => .fail
  | .indexAddr t x i => match o.dst with
    | some d => getV x fun v => getV i fun n => match v with
      | .one (.obj k) => .getO k fun ob => match ob with
        | .opn sz cells _ => (match P.underlying t, n with
          | some (.slice e), .one (.t (.int _ m)) => .ite ((P.info? e).isSome && Nat.beq sz (sizeT P e) && inB m (cells.length / sizeT P e)) (.setT d (.one (.ptr k (m.toNat * sizeT P e))) .done) .fail
          | _, _ => .fail)
        | _ => indexAddrP P d t (.one (.obj k)) n
      | v => indexAddrP P d t v n
    | none => .fail
  | .index t x i => getV x fun v => getV i fun n => match P.underlying t, v, n with
    | some .string, .one (.t (.str s)), .one (.t (.int _ n)) => .ite (inB n s.size) (setD o.dst (.one (.t (.int .u8 ((s.data.getD n.toNat 0).toNat : Int))))) .fail
    | _, _, _ => .fail
  | .extract x i => getV x fun v => match v with
    | .tup ps => match ps[i]? with
      | some (true, cs) => setD o.dst (.agg cs)
      | some (false, [c]) => setD o.dst (.one c)
      | _ => .fail
    | _ => .fail
  | .call c => match c.callee with
    | .builtin .len => match c.args.toList, c.argTypes.toList with
      | [x], [t] => getV x fun v => match v with
        | .one (.t (.str s)) => .ite (isStrT P t) (setD o.dst (.one (.t (.int .i64 (s.size : Int))))) .fail
        | .one (.obj k) => .ite (isSlT P t) (.getO k fun ob => match ob with
          | .opn sz cells _ => .ite (Nat.beq sz (strideT P t)) (setD o.dst (.one (.t (.int .i64 ((cells.length / strideT P t : Nat) : Int))))) .fail
          | _ => slOf (strideT P t) (.one (.obj k)) fun cs => setD o.dst (.one (.t (.int .i64 ((cs.length / strideT P t : Nat) : Int))))) .fail
        | v => .ite (isSlT P t) (slOf (strideT P t) v fun cs => setD o.dst (.one (.t (.int .i64 ((cs.length / strideT P t : Nat) : Int))))) .fail
      | _, _ => .fail
    | .builtin .append => match c.args.toList, c.argTypes.toList, o.dst with
      | [s, x], [t, t'], some d => getV s fun vs => getV x fun vx => appendP P t t' d vs vx
      | _, _, _ => .fail
    | .builtin .min => match c.args.toList with
      | [x, y] => getV x fun a => getV y fun b => match a, b with
        | .one (.t (.int k m)), .one (.t (.int k' n)) => .ite (decide (k = k')) (setD o.dst (.one (.t (.int k (min m n))))) .fail
        | _, _ => .fail
      | _ => .fail
    | .builtin .copy => match c.args.toList, c.argTypes.toList with
      | [x, y], [t, t'] => getV x fun v => getV y fun sv => copyP P t t' o.dst v sv
      | _, _ => .fail
    | .builtin .max => match c.args.toList with
      | [x, y] => getV x fun a => getV y fun b => match a, b with
        | .one (.t (.int k m)), .one (.t (.int k' n)) => .ite (decide (k = k')) (setD o.dst (.one (.t (.int k (max m n))))) .fail
        | _, _ => .fail
      | _ => .fail
    | .builtin _ => .fail
    | .invoke _ _ => .fail
    | .value f => getV f fun vf => getVs c.args.toList fun vs => resolveF vf fun g caps b => bif (A g).view && caps.isEmpty then callV P A o g (paramTs P g c.argTypes.toList) vs else callP P A o g (paramTs P g c.argTypes.toList) vs caps b
  | _ => .fail

/-- One after the other. -/
def Prog.andThen : Prog → Prog → Prog
  | .done, q => q
  | .fail, _ => .fail
  | .getT i f, q => .getT i fun v => (f v).andThen q
  | .getO k f, q => .getO k fun o => (f o).andThen q
  | .setT i v p, q => .setT i v (p.andThen q)
  | .setO k o p, q => .setO k o (p.andThen q)
  | .ite b p p', q => .ite b (p.andThen q) (p'.andThen q)
  | .asInt k x f, q => .asInt k x fun n => (f n).andThen q
  | .asBool x f, q => .asBool x fun b => (f b).andThen q
  | .asStr x f, q => .asStr x fun b => (f b).andThen q
  | .asSl sz x f, q => .asSl sz x fun c => (f c).andThen q
  | .asAgg x f, q => .asAgg x fun c => (f c).andThen q
  | .asTup x f, q => .asTup x fun c => (f c).andThen q
  | .uncons l f, q => .uncons l fun a r => (f a r).andThen q
  | .unnil l p, q => .unnil l (p.andThen q)
  | .onSome x f, q => .onSome x fun a => (f a).andThen q
  | .onRef x p, q => .onRef x (p.andThen q)
  | .onClo x p, q => .onClo x (p.andThen q)
  | .call g args k, q => .call g args fun x outs => (k x outs).andThen q
/-- A slot that guards others is known from here on. -/
def forkP (d : Nat) : Prog := .getT d fun v => match v with
  | .one (.t (.bool b)) => .ite b (.setT d (.one (.t (.bool true))) .done) (.setT d (.one (.t (.bool false))) .done)
  | _ => .done
/-- An operation under its guard. -/
def skipP (d : Option Nat) : Prog := match d with | some d => .setT d .skip .done | none => .done
def guards (ops : List Oper) (d : Nat) : Bool := ops.any fun o => match o.guard with
  | some (g, _) => (match (ops[g]?).bind (·.dst) with | some e => Nat.beq e d | none => false)
  | none => false
def guardP0 (ops : List Oper) (o : Oper) (p : Prog) : Prog :=
  match o.guard with
  | none => p
  | some (g, want) => match (ops[g]?).bind (·.dst) with
    | some d => .getT d fun v => match v with
      | .one (.t (.bool b)) => .ite (b == want) p (skipP o.dst)
      | .skip => skipP o.dst
      | _ => .fail
    | none => .fail
def guardP (ops : List Oper) (o : Oper) (p : Prog) : Prog :=
  match o.dst with
  | some d => bif guards ops d then (guardP0 ops o p).andThen (forkP d) else guardP0 ops o p
  | none => guardP0 ops o p

def emptyLog : Log := ⟨[], [], [], []⟩
def opsK (P : Program) (A : Attrs) (E : Env) (all : List Oper) : List Oper → St → (St → R) → R
  | [], s, K => K s
  | o :: r, s, K => runP E (guardP all o (opP P A o)) s emptyLog fun s _ => opsK P A E all r s K
/-- As 'opsK'; what each operation touched, the last one first. -/
def opsL (P : Program) (A : Attrs) (E : Env) (all : List Oper) : List Oper → St → List Log → (St → List Log → R) → R
  | [], s, ls, K => K s ls
  | o :: r, s, ls, K => runP E (guardP all o (opP P A o)) s emptyLog fun s l => opsL P A E all r s (l :: ls) K

/-! ## order left open: what must come ahead -/
def memN (l : List Nat) (i : Nat) : Bool := l.any (Nat.beq i)
def disj (a b : List Nat) : Bool := a.all fun i => !memN b i
def apartL (a b : Log) : Bool :=
  disj a.wrT b.rdT && disj a.wrT b.wrT && disj b.wrT a.rdT && disj a.wrO b.rdO && disj a.wrO b.wrO && disj b.wrO a.rdO
/-- For each operation, all that must come ahead of it (by any road over edges that bind), as bits. -/
def orAll : List Nat → Nat
  | [] => 0
  | x :: r => x ||| orAll r
def ancs : List Oper → List Nat → List Nat
  | [], acc => acc
  | o :: r, acc => ancs r (acc ++ [orAll ((o.after.toList.filter (Region.binds .any)).map fun e => 2 ^ e.on ||| acc.getD e.on 0)])
/-- What binds lies ahead. -/
def edgesOk : Nat → List Oper → Bool
  | _, [] => true
  | i, o :: r => (o.after.toList.all fun e => !Region.binds .any e || Nat.blt e.on i) && edgesOk (i + 1) r
def apartAll (an : List Nat) (ls : List Log) : Bool :=
  (List.range ls.length).all fun j => (List.range j).all fun i => Nat.testBit (an.getD j 0) i || apartL (ls.getD i emptyLog) (ls.getD j emptyLog)

/-! ## what is done between operations -/
def killC (p : Key → Bool) : C → C
  | .ptr k q => bif p k then .undef else .ptr k q
  | .obj k => bif p k then .undef else .obj k
  | c => c
def mapV (f : C → C) : V → V
  | .one c => .one (f c)
  | .agg cs => .agg (cs.map f)
  | .tup ps => .tup (ps.map fun (b, cs) => (b, cs.map f))
  | .clo g cs => .clo g (cs.map f)
  | v => v
def mapO (f : C → C) : Ob → Ob
  | .box cs => .box (cs.map f)
  | .opn sz cells ws => .opn sz cells (ws.map fun q => (q.1, f q.2))
  | o => o
def St.map (f : C → C) (s : St) : St := ⟨s.tm.map fun (i, v) => (i, mapV f v), s.ob.map fun (k, o) => (k, mapO f o)⟩
/-- No cell leads to these keys any more, and the keys are free. -/
def St.clear (p : Key → Bool) (s : St) : St :=
  let s := s.map (killC p)
  ⟨s.tm, s.ob.filter fun (k, _) => !p k⟩
def makes : Oper → Bool
  | o => match o.op with
    | .alloc _ | .box _ _ | .load _ _ | .buildSlice _ _ _ | .makeSlice _ _ _ | .slice _ _ _ _ (some _) => true
    | .call c => match c.callee with
      | .builtin .append => true
      | .value _ => true
      | _ => false
    | _ => false
def prepare (ops : List Oper) (s : St) : St :=
  s.clear fun k => ops.any fun o => makes o && (match o.dst with | some d => Nat.beq (k / 64) d | none => false)
def renC (k k' : Key) : C → C        -- k' is called k from now on
  | .ptr j q => bif Nat.beq j k' then .ptr k q else .ptr j q
  | .obj j => bif Nat.beq j k' then .obj k else .obj j
  | c => c
def renK (k k' : Key) (j : Key) : Key := bif Nat.beq j k' then k else j
def St.rename (k k' : Key) (s : St) : St :=
  let s := s.clear (Nat.beq k)
  let s := s.map (renC k k')
  ⟨s.tm, s.ob.map fun (j, o) => (renK k k' j, o)⟩
def findMoved : List (Key × Ob) → Option (Key × Key)
  | [] => none
  | (k, .moved k') :: _ => some (k, k')
  | _ :: r => findMoved r
def settle : Nat → St → St
  | 0, s => s
  | n + 1, s => match findMoved s.ob with
    | some (k, k') => settle n (s.rename k k')
    | none => s
/-- Hints: sound whatever they say. -/
inductive Gh where
  | keepT (l : List Nat)
  | keepO (l : List Key)
  | adoptT (i : Nat) (k : Key) (sz : Nat)
  | adoptO (o : Key) (j : Nat) (k : Key) (sz : Nat)
  | freeze (k : Key)
  | shallow (k : Key)
  | rename (k k' : Key)
  | pack (k : Key)
  | melt (i : Nat)
  | meltO (o : Key) (j : Nat) (sz : Nat)
  | lend (k : Key)
  | reclaim
  | freezeT (i : Nat)
  | lendT (i : Nat)
  | freezeB (k : Key)
  | lendB (k : Key)
  | meltP (i : Nat)
  | orderO (l : List Key)
  | nameT (i : Nat) (k : Key)
  | nameB (o : Key) (j : Nat) (k : Key)
/-- The named cells go back into the slice. -/
def pack1 (s : St) : C → T × St
  | .t x => (bif x.scalar then x else .hole, s)
  | .obj j => match s.getO j with
    | .arr true true sz cs => (.sl sz cs, s.setO j .gone)
    | _ => (.hole, s)
  | _ => (.hole, s)
def packW : St → List (Nat × C) → List (Nat × T) × St
  | s, [] => ([], s)
  | s, (q, c) :: r => ((q, (pack1 s c).1) :: (packW (pack1 s c).2 r).1, (packW (pack1 s c).2 r).2)
def unlend : Ob → Ob
  | .lent deep sz cs => .arr true deep sz cs
  | o => o
def killV : C → C
  | .view _ => .undef
  | c => c
def freezeO (s : St) (k : Key) : St := match s.getO k with
  | .arr true deep sz cs => s.setO k (.arr false deep sz cs)
  | _ => s
def lendO (s : St) (k : Key) : St := match s.getO k with
  | .arr true deep sz cs => s.setO k (.lent deep sz cs)
  | _ => s
def objsC : List C → List Key
  | [] => []
  | .obj k :: r => k :: objsC r
  | _ :: r => objsC r
def objsO (o : Ob) : List Key := match o with
  | .box cs => objsC cs
  | _ => []
def eachO (f : St → Key → St) : St → List Key → St
  | s, [] => s
  | s, k :: r => eachO f (f s k) r
def treesC : List C → Option (List T)
  | [] => some []
  | .t x :: r => (treesC r).map (x :: ·)
  | _ :: _ => none
def ghost (s : St) : Gh → St
  | .keepT l => ⟨s.tm.filter fun (i, _) => memN l i, s.ob⟩
  | .keepO l => s.clear fun k => !memN l k
  | .adoptT i k sz => match s.getT i, s.getO k with
    | .one .nil, .free => bif Nat.blt 0 sz then (s.setT i (.one (.obj k))).setO k (.arr true true sz []) else s
    | _, _ => s
  | .adoptO o j k sz => match s.getO o, s.getO k with
    | .box cells, .free => match cells[j]? with
      | some .nil => bif Nat.blt 0 sz && !Nat.beq o k then (s.setO o (.box (cells.set j (.obj k)))).setO k (.arr true true sz []) else s
      | _ => s
    | _, _ => s
  | .freeze k => freezeO s k
  | .shallow k => match s.getO k with
    | .arr true _ sz cs => s.setO k (.arr true false sz cs)
    | _ => s
  | .rename k k' => s.rename k k'
  | .pack k => match s.getO k with
    | .opn sz cells ws => (packW s ws).2.setO k (.arr true true sz (fillT cells (packW s ws).1))
    | _ => s
  | .melt i => match s.getT i with
    | .one (.obj k) => match s.getO k with
      | .arr false _ sz cs => s.setT i (.one (.t (.sl sz cs)))
      | _ => s
    | _ => s
  | .meltO o j sz => match s.getO o with
    | .box cells => match cells[j]? with
      | some (.obj k) => match s.getO k with
        | .arr false _ sz' cs => s.setO o (.box (cells.set j (.t (.sl sz' cs))))
        | _ => s
      | some .nil => bif Nat.blt 0 sz then s.setO o (.box (cells.set j (.t (.sl sz [])))) else s
      | _ => s
    | _ => s
  | .lend k => lendO s k
  | .freezeT i => eachO freezeO s (objsC (s.getT i).cells)
  | .lendT i => eachO lendO s (objsC (s.getT i).cells)
  | .freezeB k => eachO freezeO s (objsO (s.getO k))
  | .lendB k => eachO lendO s (objsO (s.getO k))
  | .orderO l => ⟨s.tm, (l.map fun k => (k, s.getO k)) ++ s.ob.filter fun q => !memN l q.1⟩
  | .nameT i k => match s.getT i with
    | .one (.obj x) => bif Nat.beq x k then s else s.rename k x
    | _ => s
  | .nameB o j k => match s.getO o with
    | .box cs => match cs[j]? with
      | some (.obj x) => bif Nat.beq x k then s else s.rename k x
      | _ => s
    | _ => s
  | .meltP i => match s.getT i with
    | .one (.ptr k q) => match s.getO k with
      | .box cs => match treesC cs with
        | some xs => (s.setO k .gone).setT i (.one (.t (.rref xs q)))
        | none => s
      | _ => s
    | _ => s
  | .reclaim => ⟨(s.map killV).tm, (s.map killV).ob.map fun q => (q.1, unlend q.2)⟩
def ghosts (s : St) : List Gh → St
  | [] => s
  | g :: r => ghosts (ghost s g) r
structure Hints where
  loops : Nat → List Gh
  regions : Nat → List Gh

/-! ## code -/
inductive Ex where
  | normal
  | exit (id : Nat)
  | ret

def loopK (body : St → (Ex → St → R) → R) : Nat → St → (Ex → St → R) → R
  | 0, _, _ => none
  | n + 1, s, K => body s fun e s => match e with
    | .normal => loopK body n s K
    | e => K e s
def isUnder (P : Program) (s : St) (c : Operand) : V := match c with
  | .tmp i => s.getT i
  | .const v => ofVal v
  | _ => .any
def regionK (P : Program) (A : Attrs) (E : Env) (ops : List Oper) (draw : Bool) (s : St) (K : St → R) : R :=
  bif draw then opsL P A E ops ops (prepare ops s) [] fun s ls => bif edgesOk 0 ops && apartAll (ancs ops []) ls.reverse then K (settle 8 s) else none
  else opsK P A E ops ops (prepare ops s) fun s => K (settle 8 s)
def codeK (P : Program) (A : Attrs) (H : Hints) (E : Env) (n : Nat) (blk : Nat) : Code → St → (Ex → St → R) → R
  | .skip, s, K => K .normal s
  | .region id ops draw, s, K => regionK P A E ops.toList draw (ghosts s (H.regions id)) (K .normal)
  | .seq a b, s, K => codeK P A H E n blk a s fun e s => match e with
    | .normal => codeK P A H E n blk b s K
    | e => K e s
  | .cond c a b, s, K => match isUnder P s c with
    | .one (.t (.bool x)) => bif x then codeK P A H E n blk a s K else codeK P A H E n blk b s K
    | _ => none
  | .block i c, s, K => codeK P A H E n i c s fun e s => match e with
    | .exit j => bif Nat.beq i j then K .normal s else K (.exit j) s
    | e => K e s
  | .loop c, s, K => loopK (fun s K => codeK P A H E n blk c s fun e s => match e with
    | .normal => K .normal (ghosts s (H.loops blk))
    | e => K e s) n (ghosts s (H.loops blk)) K
  | .exit i, s, K => K (.exit i) s
  | .ret, s, K => K .ret s
  | _, _, _ => none

/-! ## a function -/
/-- The parameters, as the frame takes them. What is turned is an object of its own. -/
def turnKey : Nat := 1000000
def argV (x : T) : Option V :=
  match x with
  | .agg cs => some (.agg (cs.map C.t))
  | .tup _ => none
  | x => some (.one (.t x))
/-- A turned cell: a slice of one's own is an object. -/
def turnC (o : Bool) (key : Key) (x : T) : C × List (Key × Ob) :=
  match o, x with
  | true, .sl sz cs => (.obj key, [(key, .arr true true sz cs)])
  | true, .mp l => (.obj key, [(key, .mp l)])
  | _, x => (.t x, [])
def turnCs : List Bool → Key → List T → Option (List C × List (Key × Ob))
  | [], _, [] => some ([], [])
  | o :: os, key, x :: xs => (turnCs os (key + 1) xs).map fun r => ((turnC o key x).1 :: r.1, (turnC o key x).2 ++ r.2)
  | _, _, _ => none
def truesT (l : List T) : List Bool := l.map fun _ => true
def turnV (md : Mode) (x : T) : Option (V × List (Key × Ob)) :=
  match md, x with
  | .ptr os, .rref cs 0 => (turnCs os (turnKey + 1) cs).map fun r => (.one (.ptr turnKey 0), (turnKey, .box r.1) :: r.2)
  | .sl, .sl sz cs => some (.one (.obj turnKey), [(turnKey, .arr true true sz cs)])
  | .val, .agg cs => (turnCs (truesT cs) (turnKey + 1) cs).map fun r => (.agg r.1, r.2)
  | _, _ => none
def argsV (at_ : Attr) : Nat → List T → Option (List (Nat × V) × List (Key × Ob))
  | _, [] => some ([], [])
  | i, x :: xs => (match at_.turn with
      | some j => bif Nat.beq j i then turnV at_.md x else (argV x).map fun v => (v, [])
      | none => (argV x).map fun v => (v, [])).bind fun (v, os) => (argsV at_ (i + 1) xs).map fun (l, os') => ((i, v) :: l, os ++ os')
/-- Results as trees. -/
def giveRs (P : Program) (own : Bool) : List TypeId → List V → (List T → Prog) → Prog
  | [], [], f => f []
  | t :: ts, .agg cs :: vs, f => moveCs P (cellTys P 8 t) cs fun xs b => .ite (own && !b) .fail (giveRs P own ts vs fun r => f (.agg xs :: r))
  | t :: ts, .one c :: vs, f => moveC P t c fun x b => .ite (own && !b) .fail (giveRs P own ts vs fun r => f (x :: r))
  | _, _, _ => .fail
/-- What was turned, at the end. -/
def endOuts (P : Program) (at_ : Attr) (pts : List TypeId) (f : List T → Prog) : Prog :=
  match at_.turn with
  | none => f []
  | some i => bif at_.take then f [] else .getT i fun v => match at_.md, v with
    | .ptr os, .one (.ptr k 0) => .ite (Nat.beq k turnKey) (.getO turnKey fun o => match o with
      | .box cells => giveCs P os (cellTys P 8 (elemT P (pts.getD i 0))) cells fun xs => .getO turnKey fun o => match o with
        | .box _ => f [.agg xs]
        | _ => .fail
      | _ => .fail) .fail
    | .sl, .one (.obj k) => .ite (Nat.beq k turnKey) (.getO turnKey fun o => match o with
      | .arr true true sz cs => .setO turnKey .gone (f [.sl sz cs])
      | _ => .fail) .fail
    | .val, .agg cells => giveCs P (trues (cellTys P 8 (pts.getD i 0))) (cellTys P 8 (pts.getD i 0)) cells fun xs => f [.agg xs]
    | _, _ => .fail
def resVs (P : Program) : List ResultVar → List TypeId → (List V → Prog) → Prog
  | [], [], f => f []
  | .tmp t :: r, _ :: ts, f => .getT t fun v => resVs P r ts fun vs => f (v :: vs)
  | .cell a t :: r, _ :: ts, f => .getT a fun v => match v with
    | .one (.ptr k q) => .getO k fun o => match o with
      | .box cells => .ite (tyOk P t && decide (q + (cellTys P 8 t).length ≤ cells.length)) (resVs P r ts fun vs => f (mkV P t ((cells.drop q).take (cellTys P 8 t).length) :: vs)) .fail
      | _ => .fail
    | _ => .fail
  | _, _, _ => .fail
/-- One result stands by itself. -/
def packR : List T → T
  | [x] => x
  | xs => .tup xs
/-- The end of a call: results and what was turned. 'f' gets them as one. -/
def endP (P : Program) (at_ : Attr) (fn : Func) (f : T → List T → Prog) : Prog :=
  resVs P fn.results.toList fn.resultTypes.toList fun rs => giveRs P at_.own fn.resultTypes.toList rs fun xs =>
    endOuts P at_ fn.params.toList fun outs => f (packR xs) outs
/-- Where the end's results are laid down. -/
def endKey : Key := 999
def endK (P : Program) (A : Attrs) (f : FuncId) (fn : Func) (s : St) : R :=
  runP (fun _ _ => none) (endP P (A f) fn fun x outs => .setO endKey (.arr true true 0 (x :: outs)) .done) s emptyLog fun s _ =>
    match s.getO endKey with
    | .arr _ _ _ (x :: outs) => some (x, outs)
    | _ => none
/-- Each operation writes a slot that there is, and not that of the turned parameter. -/
def dstsOk (tp : Option Nat) (n : Nat) : Code → Bool
  | .region _ ops _ => ops.toList.all fun o => match o.dst with | some d => Nat.blt d n && (match tp with | some i => !Nat.beq i d | none => true) | none => true
  | .seq a b => dstsOk tp n a && dstsOk tp n b
  | .cond _ a b => dstsOk tp n a && dstsOk tp n b
  | .block _ c => dstsOk tp n c
  | .loop c => dstsOk tp n c
  | _ => true
def callK (P : Program) (A : Attrs) (H : FuncId → Hints) (E : Env) (n : Nat) (f : FuncId) (args : List T) : R :=
  match P.funcs[f]? with
  | some fn => match fn.body with
    | some c => match argsV (A f) 0 args with
      | some (vs, os) => bif dstsOk (A f).turn fn.ntmps c && Nat.ble args.length fn.ntmps && !(fn.name == "runtime.NumGoroutine") then codeK P A (H f) E n 0 c ⟨vs, os⟩ fun e s => match e with
        | .exit _ => none
        | _ => endK P A f fn s
        else none
      | none => none
    | none => none
  | none => none
end Ev
