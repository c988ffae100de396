/- Steps on the way to RowRulesOf: EvDefs, EvRel, EvInv, EvOpsB, EvOpsC, EvOwn, EvMove, EvOpsE. -/
import GoSem.Machine.Return
import GoSem.Core.Region
import Derived.Calls
import Derived.Laws.Sem
import Derived.Laws.Append
import Derived.Laws.AppendOwn
import Derived.Laws.OwnMore
import Derived.Laws.MakeOwn
import Derived.Laws.CopyRow
import Derived.Laws.Rows
import Derived.Below
import Derived.Laws.Tables
import Derived.Laws.Slices
import Derived.Laws.Entries
import Derived.Laws.StructEq
set_option linter.unusedSectionVars false
set_option linter.unusedVariables false
set_option linter.unusedSimpArgs false
theorem gA:type_of% @List.getElem?_eq_getElem:=@List.getElem?_eq_getElem
theorem gB:type_of% @List.getElem?_eq_some_iff:=@List.getElem?_eq_some_iff
theorem gC:type_of% @Bool.and_eq_true:=@Bool.and_eq_true
theorem gD:type_of% @List.mem_singleton:=@List.mem_singleton
theorem gE:type_of% @Nat.eq_of_beq_eq_true:=@Nat.eq_of_beq_eq_true
theorem gF:type_of% @List.mem_cons_of_mem:=@List.mem_cons_of_mem
theorem gG:type_of% @List.getElem_mem:=@List.getElem_mem
theorem gH:type_of% @List.drop_eq_getElem_cons:=@List.drop_eq_getElem_cons
theorem gI:type_of% @List.getD_eq_getElem?_getD:=@List.getD_eq_getElem?_getD
theorem gJ:type_of% @List.mem_append_left:=@List.mem_append_left
theorem gK:type_of% @List.mem_cons:=@List.mem_cons
theorem gL:type_of% @List.eq_nil_of_length_eq_zero:=@List.eq_nil_of_length_eq_zero
theorem gM:type_of% @List.length_append:=@List.length_append
theorem gN:type_of% @List.mem_append_right:=@List.mem_append_right
theorem gO:type_of% @List.mem_append:=@List.mem_append
theorem gP:type_of% @Option.map_eq_some_iff:=@Option.map_eq_some_iff
theorem gQ:type_of% @Array.getD_eq_getD_getElem?:=@Array.getD_eq_getD_getElem?
theorem gR:type_of% @Int.toNat_natCast:=@Int.toNat_natCast
theorem gS:type_of% @decide_eq_true_eq:=@decide_eq_true_eq
theorem gT:type_of% @List.getElem?_take:=@List.getElem?_take
theorem gU:type_of% @List.drop_of_length_le:=@List.drop_of_length_le
theorem gV:type_of% @List.getElem?_drop:=@List.getElem?_drop
theorem gW:type_of% @not_true_eq_false:=@not_true_eq_false
theorem gX:type_of% @not_false_eq_true:=@not_false_eq_true
theorem gY:type_of% @ByteArray.size_append:=@ByteArray.size_append
theorem gZ:type_of% @List.append_assoc:=@List.append_assoc
theorem gAA:type_of% @List.length_drop:=@List.length_drop
theorem gAB:type_of% @List.length_cons:=@List.length_cons
theorem gAC:type_of% @List.getElem?_map:=@List.getElem?_map
theorem gAD:type_of% @List.append_nil:=@List.append_nil
theorem gAE:type_of% @Option.bind_eq_some_iff:=@Option.bind_eq_some_iff
theorem gAF:type_of% @List.length_take:=@List.length_take
theorem gAG:type_of% @List.length_map:=@List.length_map
theorem gAH:type_of% @of_decide_eq_true:=@of_decide_eq_true
theorem gAI:type_of% @Nat.le_refl:=@Nat.le_refl
theorem gAJ:type_of% @Nat.zero_add:=@Nat.zero_add
theorem gAK:type_of% @Nat.lt_irrefl:=@Nat.lt_irrefl
theorem gAL:type_of% @List.all_eq_true:=@List.all_eq_true
theorem gAM:type_of% @Option.isSome_iff_exists:=@Option.isSome_iff_exists
theorem gAN:type_of% @List.flatMap_cons:=@List.flatMap_cons
theorem gAO:type_of% @Nat.mul_le_mul_right:=@Nat.mul_le_mul_right
theorem gAP:type_of% @List.take_append_getElem:=@List.take_append_getElem
theorem gAQ:type_of% @Array.getElem?_eq_getElem:=@Array.getElem?_eq_getElem
theorem gAR:type_of% @Nat.lt_succ_self:=@Nat.lt_succ_self
section
namespace Ev
open Go
abbrev Key:=Nat
inductive T where
 |int (k:IntKind) (n:Int)
 |bool (b:Bool)
 |str (s:ByteArray)
 |sl (sz:Nat) (cells:List T)
 |agg (cells:List T)
 |tup (parts:List T)
 |rref (cells:List T) (q:Nat)
 |clo (fn:FuncId) (caps:List T)
 |hole
 |mp (l:List (Int×Int×Bool))
 |bx (cells:List T)
 deriving Inhabited
def T.isMp:T->Bool
 |.mp _=>true
 |_=>false
def T.mpL:T->List (Int×Int×Bool)
 |.mp l=>l
 |_=>[]
def T.scalar:T->Bool
 |.int _ _|.bool _|.str _=>true
 |_=>false
inductive C where
 |t (x:T)
 |nil
 |ptr (k:Key) (q:Nat)
 |obj (k:Key)
 |undef
 |view (x:T)
 |kept (j:Nat) (x:T)
inductive V where
 |one (c:C)
 |agg (cs:List C)
 |tup (ps:List (Bool×List C))
 |clo (fn:FuncId) (cs:List C)
 |skip
 |any
inductive Ob where
 |box (cells:List C)
 |arr (own deep:Bool) (sz:Nat) (cells:List T)
 |free
 |gone
 |moved (k:Key)
 |lent (deep:Bool) (sz:Nat) (cells:List T)
 |opn (sz:Nat) (cells:List T) (ws:List (Nat×C))
 |mp (l:List (Int×Int×Bool))
def Ob.isLent:Ob->Bool
 |.lent _ _ _=>true
 |_=>false
structure St where
 tm:List (Nat×V)
 ob:List (Key×Ob)
abbrev R:=Option (T×List T)
abbrev Env:=FuncId->List T->R
def look{α:Type}(d:α):List (Nat×α)->Nat->α
 |[],_=>d
 |(j,v)::r,i=>bif Nat.beq j i then v else look d r i
def put{α:Type}:List (Nat×α)->Nat->α->List (Nat×α)
 |[],i,v=>[(i,v)]
 |(j,u)::r,i,v=>bif Nat.beq j i then(i,v)::r else(j,u)::put r i v
def St.getT(s:St)(i:Nat):V:=look .any s.tm i
def St.getO(s:St)(k:Key):Ob:=look .free s.ob k
def St.setT(s:St)(i:Nat)(v:V):St:=⟨put s.tm i v,s.ob⟩
def St.setO(s:St)(k:Key)(o:Ob):St:=⟨s.tm,put s.ob k o⟩
inductive Prog where
 |done
 |fail
 |getT (i:Nat) (f:V->Prog)
 |getO (k:Key) (f:Ob->Prog)
 |setT (i:Nat) (v:V) (p:Prog)
 |setO (k:Key) (o:Ob) (p:Prog)
 |ite (b:Bool) (p q:Prog)
 |asInt (k:IntKind) (x:T) (f:Int->Prog)
 |asBool (x:T) (f:Bool->Prog)
 |asStr (x:T) (f:ByteArray->Prog)
 |asSl (sz:Nat) (x:T) (f:List T->Prog)
 |asAgg (x:T) (f:List T->Prog)
 |asTup (x:T) (f:List T->Prog)
 |asBx (x:T) (f:List T->Prog)
 |uncons (l:List T) (f:T->List T->Prog)
 |unnil (l:List T) (p:Prog)
 |onSome (x:Option T) (f:T->Prog)
 |onRef (x:T) (p:Prog)
 |onClo (x:T) (p:Prog)
 |call (f:FuncId) (args:List T) (k:T->List T->Prog)
structure Log where
 rdT:List Nat
 wrT:List Nat
 rdO:List Key
 wrO:List Key
def oInt(k:IntKind):T->Option Int
 |.int k' n=>bif decide (k'=k)then some n else none
 |_=>none
def q82:T->Option Bool
 |.bool b=>some b
 |_=>none
def oStr:T->Option ByteArray
 |.str b=>some b
 |_=>none
def oSl(sz:Nat):T->Option (List T)
 |.sl sz' c=>bif Nat.beq sz' sz then some c else none
 |_=>none
def oAgg:T->Option (List T)
 |.agg c=>some c
 |_=>none
def oTup:T->Option (List T)
 |.tup c=>some c
 |_=>none
def oBx:T->Option (List T)
 |.bx c=>some c
 |_=>none
def q0s:List T->Option (T×List T)
 |a::r=>some (a,r)
 |[]=>none
def oNil:List T->Option Unit
 |[]=>some ()
 |_::_=>none
def oRef:T->Option Unit
 |.rref _ _=>some ()
 |_=>none
def oClo:T->Option Unit
 |.clo _ _=>some ()
 |_=>none
def runP(E:Env):Prog->St->Log->(St->Log->R)->R
 |.done,s,l,K=>K s l
 |.fail,_,_,_=>none
 |.getT i f,s,l,K=>runP E (f (s.getT i)) s { l with rdT:=i::l.rdT } K
 |.getO k f,s,l,K=>runP E (f (s.getO k)) s { l with rdO:=k::l.rdO } K
 |.setT i v p,s,l,K=>runP E p (s.setT i v) { l with wrT:=i::l.wrT } K
 |.setO k o p,s,l,K=>runP E p (s.setO k o) { l with wrO:=k::l.wrO } K
 |.ite b p q,s,l,K=>bif b then runP E p s l K else runP E q s l K
 |.asInt k x f,s,l,K=>(oInt k x).bind fun n=>runP E (f n) s l K
 |.asBool x f,s,l,K=>(q82 x).bind fun b=>runP E (f b) s l K
 |.asStr x f,s,l,K=>(oStr x).bind fun b=>runP E (f b) s l K
 |.asSl sz x f,s,l,K=>(oSl sz x).bind fun c=>runP E (f c) s l K
 |.asAgg x f,s,l,K=>(oAgg x).bind fun c=>runP E (f c) s l K
 |.asTup x f,s,l,K=>(oTup x).bind fun c=>runP E (f c) s l K
 |.asBx x f,s,l,K=>(oBx x).bind fun c=>runP E (f c) s l K
 |.uncons l' f,s,l,K=>(q0s l').bind fun q=>runP E (f q.1 q.2) s l K
 |.unnil l' p,s,l,K=>(oNil l').bind fun _=>runP E p s l K
 |.onSome x f,s,l,K=>x.bind fun a=>runP E (f a) s l K
 |.onRef x p,s,l,K=>(oRef x).bind fun _=>runP E p s l K
 |.onClo x p,s,l,K=>(oClo x).bind fun _=>runP E p s l K
 |.call g args k,s,l,K=>(E g args).bind fun r=>runP E (k r.1 r.2) s l K
def q26(P:Program):Nat->TypeId->List TypeId
 |0,_=>[]
 |n+1,t=>match P.underlying t with
  |some (.struct fs)=>fs.toList.flatMap fun f=>q26 P n f.type
  |some (.array m e)=>(List.replicate m (q26 P n e)).flatten
  |_=>[t]
def q86(P:Program)(t:TypeId):Bool:=
 match P.underlying t with|some (.struct _)|some (.array _ _)=>true|_=>false
def q38(P:Program)(t:TypeId):Nat:=match P.info? t with|some i=>i.size|none=>0
def qkq(P:Program)(t:TypeId):Nat:=match P.info? t with|some i=>i.bytes|none=>0
def q5e(P:Program)(t:TypeId):Nat:=match P.underlying t with|some (.slice e)=>q38 P e|_=>1
def tyOk(P:Program)(t:TypeId):Bool:=
 (P.info? t).isSome&&(P.underlying t).isSome&&Nat.beq (q38 P t) (q26 P 8 t).length&&(q86 P t||Nat.beq (q38 P t) 1)
def qe9(P:Program)(t:TypeId):Bool:=
 (q26 P 8 t).all fun c=>match P.underlying c with|some (.int _)|some .bool|some .string=>true|_=>false
def qgk(P:Program)(t:TypeId):Bool:=
 match P.underlying t with|some (.tuple ts)=>ts.toList.all (qe9 P)|_=>qe9 P t
def ofC:Value->C
 |.int k n=>.t (.int k n)
 |.bool b=>.t (.bool b)
 |.string s=>.t (.str s)
 |.slice none 0 0=>.nil
 |_=>.undef
def qw4:Value->V
 |.agg cs=>bif cs.toList.all (·.oneCell')then .agg (cs.toList.map ofC)else .any
 |.int k n=>.one (.t (.int k n))
 |.bool b=>.one (.t (.bool b))
 |.string s=>.one (.t (.str s))
 |.slice none 0 0=>.one .nil
 |_=>.any
def zeroC(P:Program)(t:TypeId):Option (List C):=
 match P.info? t with
 |some i=>match i.zero with
  |some v=>bif v.cells.toList.all (·.oneCell')&&Nat.beq v.cells.size i.size then some (v.cells.toList.map ofC)else none
  |none=>none
 |none=>none
def V.cells:V->List C
 |.one c=>[c]
 |.agg cs=>cs
 |_=>[]
def getV(x:Operand)(f:V->Prog):Prog:=
 match x with
 |.tmp i=>.getT i f
 |.const v=>f (qw4 v)
 |.func g=>f (.one (.t (.clo g [])))
 |.global _=>.fail
def setD(d:Option Nat)(v:V):Prog:=match d with|some d=>.setT d v .done|none=>.fail
def asTy(P:Program)(t:TypeId)(x:T)(f:T->Prog):Prog:=
 match P.underlying t with
 |some (.int k)=>.asInt k x fun n=>f (.int k n)
 |some .bool=>.asBool x fun b=>f (.bool b)
 |some .string=>.asStr x fun s=>f (.str s)
 |some (.slice e)=>.asSl (q38 P e) x fun cs=>f (.sl (q38 P e) cs)
 |some (.func _ _ _)=>.onClo x (f x)
 |some (.pointer _)=>.onRef x (f x)
 |_=>.fail
def qju(P:Program)(cells:List T):Nat->List TypeId->(List C->Prog)->Prog
 |_,[],f=>f []
 |q,t::ts,f=>.onSome cells[q]? fun x=>asTy P t x fun x=>qju P cells (q+1) ts fun r=>f (.t x::r)
def mkV(P:Program)(t:TypeId)(cs:List C):V:=bif q86 P t then .agg cs else .one (cs.headD .undef)
def qv5(P:Program)(t:TypeId):Bool := !qe9 P t
def qdi(P:Program)(t:TypeId):Bool:=match P.underlying t with|some (.int _)|some .bool|some .string=>true|_=>false
def qsp(P:Program)(t:TypeId)(c:C)(f:T->Bool->Prog):Prog:=
 match c with
 |.t x=>bif qdi P t then .ite x.scalar (f x true) .fail else f x false
 |.nil=>match P.underlying t with|some (.slice e)=>.ite (Nat.blt 0 (q38 P e)) (f (.sl (q38 P e) []) true) .fail|_=>.fail
 |.obj k=>.getO k fun o=>match o with
  |.arr own deep sz cs=>bif own then .setO k .gone (f (.sl sz cs) deep)else f (.sl sz cs) false
  |.mp l=>.setO k .gone (f (.mp l) true)
  |_=>.fail
 |_=>.fail
def qk2(P:Program):List TypeId->List C->(List T->Bool->Prog)->Prog
 |[],[],f=>f [] true
 |t::ts,c::cs,f=>qsp P t c fun x b=>qk2 P ts cs fun r b'=>f (x::r) (b&&b')
 |_,_,_=>.fail
def qxa(c:C)(f:T->Prog):Prog:=
 match c with
 |.t x=>f x
 |.obj k=>.getO k fun o=>match o with
  |.arr _ _ sz cs=>f (.sl sz cs)
  |_=>.fail
 |.undef=>f .hole
 |_=>.fail
def qr1:List (Nat×C)->(List (Nat×T)->Prog)->Prog
 |[],f=>f []
 |(q,c)::r,f=>qxa c fun x=>qr1 r fun l=>f ((q,x)::l)
def qjm:List T->List (Nat×T)->List T
 |l,[]=>l
 |l,(q,x)::r=>(qjm l r).set q x
def qjg(P:Program)(t:TypeId)(c:C)(f:T->Bool->Prog):Prog:=
 match c with
 |.t x=>f x false
 |.nil=>match P.underlying t with|some (.slice e)=>.ite (Nat.blt 0 (q38 P e)) (f (.sl (q38 P e) []) false) .fail|_=>.fail
 |.obj k=>.getO k fun o=>match o with
  |.arr own _ sz cs=>f (.sl sz cs) own
  |.lent _ sz cs=>f (.sl sz cs) true
  |.opn sz cs ws=>qr1 ws fun xs=>f (.sl sz (qjm cs xs)) true
  |_=>.fail
 |.view x=>f x true
 |_=>.fail
def qif(P:Program):List TypeId->List C->(List T->Bool->Prog)->Prog
 |[],[],f=>f [] false
 |t::ts,c::cs,f=>qjg P t c fun x b=>qif P ts cs fun r b'=>f (x::r) (b||b')
 |_,_,_=>.fail
def qbj(P:Program)(t:TypeId):TypeId:=match P.underlying t with|some (.pointer e)=>e|_=>0
def qtx(P:Program)(t:TypeId)(c:C)(f:T->Bool->Prog):Prog:=
 match c with
 |.ptr k q=>.getO k fun o=>
  match o with
  |.box cells=>qif P (q26 P 8 (qbj P t)) ((cells.drop q).take (q38 P (qbj P t))) fun r _=>f (.rref r 0) true
  |.arr own _ _ cells=>f (.rref ((cells.drop q).take (q38 P (qbj P t))) 0) own
  |_=>.fail
 |.t (.rref cells q)=>f (.rref ((cells.drop q).take (q38 P (qbj P t))) 0) false
 |c=>qjg P t c f
def qaw(c:C)(f:T->Bool->Prog):Prog:=
 match c with
 |.ptr k q=>.getO k fun o=>
  match o with
  |.box cells=>(match cells,q with
   |cs,0=>snapAll cs fun r=>f (.rref r 0) true
   |_,_=>.fail)
  |_=>.fail
 |.t x=>f x false
 |.obj k=>.getO k fun o=>match o with
  |.arr own _ sz cs=>f (.sl sz cs) own
  |_=>.fail
 |_=>.fail
where
 snapAll:List C->(List T->Prog)->Prog
  |[],f=>f []
  |.t x::r,f=>snapAll r fun l=>f (x::l)
  |.obj k::r,f=>.getO k fun o=>match o with
   |.arr _ _ sz cs=>snapAll r fun l=>f (.sl sz cs::l)
   |_=>.fail
  |_::_,_=>.fail
def qf1:List C->(List T->Bool->Prog)->Prog
 |[],f=>f [] false
 |c::cs,f=>qaw c fun x b=>qf1 cs fun r b'=>f (x::r) (b||b')
def qxz(P:Program)(t:TypeId)(v:V)(f:T->Bool->Prog):Prog:=
 match v with
 |.one c=>qtx P t c f
 |.agg cs=>qif P (q26 P 8 t) cs fun r b=>f (.agg r) b
 |.clo fn cs=>qf1 cs fun r b=>f (.clo fn r) b
 |_=>.fail
def newO(k:Key)(o:Ob)(p:Prog):Prog:=.getO k fun o'=>match o' with|.free=>.setO k o p|_=>.fail
def q81(d j:Nat):Key:=d*64+j
def qlj(P:Program)(own:Bool)(key:Key)(t:TypeId)(x:T)(f:C->Prog):Prog:=
 match P.underlying t with
 |some (.slice e)=>.asSl (q38 P e) x fun cs=>bif own then newO key (.arr true true (q38 P e) cs) (f (.obj key))else f (.t (.sl (q38 P e) cs))
 |some (.map _ _)=>.ite (own&&x.isMp) (newO key (.mp x.mpL) (f (.obj key))) .fail
 |_=>asTy P t x fun x=>bif own then .ite x.scalar (f (.t x)) .fail else f (.t x)
def qmk(P:Program)(own:Bool):Key->List TypeId->List T->(List C->Prog)->Prog
 |_,[],l,f=>.unnil l (f [])
 |key,t::ts,l,f=>.uncons l fun x r=>qlj P own key t x fun c=>qmk P own (key+1) ts r fun cs=>f (c::cs)
def q9s(P:Program)(t:TypeId):Bool:=match P.underlying t with|some (.pointer _)=>true|_=>false
def qob(P:Program)(t:TypeId):Bool:=match P.underlying t with|some (.tuple ts)=>ts.toList.any (q9s P)|_=>q9s P t
def okR(P:Program)(own:Bool)(t:TypeId):Bool:=qgk P t||(own && !qob P t)
def qtd(P:Program):List TypeId->List T->(List C->Prog)->Prog
 |[],l,f=>.unnil l (f [])
 |t::ts,l,f=>.uncons l fun x r=>asTy P t x fun x=>qtd P ts r fun cs=>f (.t x::cs)
def qu5(P:Program)(own:Bool)(key:Key)(t:TypeId)(x:T)(f:V->Prog):Prog:=
 bif q86 P t then .asAgg x fun l=>qmk P own key (q26 P 8 t) l fun cs=>f (.agg cs)
 else bif q9s P t then .asBx x fun l=>qtd P (q26 P 8 (qbj P t)) l fun cs=>newO key (.box cs) (f (.one (.ptr key 0)))
 else qlj P own key t x fun c=>f (.one c)
def qn6(P:Program)(own:Bool):Key->List TypeId->List T->(List (Bool×List C)->Prog)->Prog
 |_,[],l,f=>.unnil l (f [])
 |key,t::ts,l,f=>.uncons l fun x r=>qu5 P own key t x fun v=>qn6 P own (key+(q26 P 8 t).length) ts r fun ps=>f ((q86 P t,v.cells)::ps)
def qln(P:Program)(own:Bool)(key:Key)(t:TypeId)(x:T)(f:V->Prog):Prog:=
 match P.underlying t with
 |some (.tuple ts)=>.asTup x fun l=>qn6 P own key ts.toList l fun ps=>f (.tup ps)
 |_=>qu5 P own key t x f
inductive Mode where
 |src
 |ptr (os:List Bool)
 |sl
 |val
 |two (m:Nat)
 |both (m:Nat)
structure Attr where
 turn:Option Nat
 md:Mode
 own:Bool
 take:Bool
 view:Bool
abbrev q7t:=FuncId->Attr
def Attr.more(a:Attr):Option Nat:=match a.turn,a.md with
 |some _,.two m=>some m
 |some _,.both m=>some m
 |_,_=>none
def C.scalar:C->Bool
 |.t x=>x.scalar
 |_=>false
def C.tree:C->T
 |.t x=>x
 |_=>.bool false
inductive Bk where
 |sl (k:Key) (sz:Nat)
 |ptr (k:Key) (old:List C)
 |val (old:List C)
def qxm(P:Program)(o:Bool)(t:TypeId)(c:C)(f:T->Prog):Prog:=
 bif o then qsp P t c fun x b=>.ite b (f x) .fail else qjg P t c fun x b=>.ite b .fail (f x)
def qgq(P:Program):List Bool->List TypeId->List C->(List T->Prog)->Prog
 |[],[],[],f=>f []
 |o::os,t::ts,c::cs,f=>qxm P o t c fun x=>qgq P os ts cs fun r=>f (x::r)
 |_,_,_,_=>.fail
def qmn(l:List TypeId):List Bool:=l.map fun _=>true
def qsm:List C->(List T->Prog)->Prog
 |[],f=>f []
 |c::r,f=>match c with
  |.t x=>qsm r fun l=>f (x::l)
  |.kept _ x=>qsm r fun l=>f (x::l)
  |_=>.fail
def qig(P:Program):List TypeId->List T->List C->(List C->Prog)->Prog
 |[],l,[],f=>.unnil l (f [])
 |t::ts,l,c::cs,f=>.uncons l fun x r=>bif qdi P t then asTy P t x fun x=>qig P ts r cs fun l=>f (.t x::l)
  else match P.underlying t with
   |some (.slice e)=>.asSl (q38 P e) x fun _=>qig P ts r cs fun l=>f (c::l)
   |_=>.fail
 |_,_,_,_=>.fail
def give(P:Program)(md:Mode)(t:TypeId)(v:V)(f:T->Bk->Prog):Prog:=
 match md,v with
 |.ptr os,.one (.ptr k 0)=>.getO k fun o=>match o with
  |.box cells=>qgq P os (q26 P 8 (qbj P t)) cells fun xs=>.setO k .gone (f (.rref xs 0) (.ptr k cells))
  |_=>.fail
 |.src,.one (.ptr k 0)=>.getO k fun o=>match o with
  |.box cells=>qsm cells fun xs=>.setO k .gone (f (.rref xs 0) (.ptr k cells))
  |_=>.fail
 |.sl,.one (.obj k)=>.getO k fun o=>match o with
  |.arr true true sz cs=>.setO k .gone (f (.sl sz cs) (.sl k sz))
  |_=>.fail
 |.val,.agg cells=>qgq P (qmn (q26 P 8 t)) (q26 P 8 t) cells fun xs=>f (.agg xs) (.val cells)
 |_,_=>.fail
def qba(P:Program)(tr:Nat->Option T):Nat->List TypeId->List V->(List T->Bool->Prog)->Prog
 |_,[],[],f=>f [] false
 |i,t::ts,v::vs,f=>match tr i with
  |some x=>qba P tr (i+1) ts vs fun r b=>f (x::r) b
  |none=>qxz P t v fun x b=>qba P tr (i+1) ts vs fun r b'=>f (x::r) (b||b')
 |_,_,_,_=>.fail
def qx3(P:Program)(o:Bool)(t:TypeId)(key:Key)(x:T)(old:C)(f:C->Prog):Prog:=
 match o,old with
 |true,.obj k=>.setO k (.moved key) (qlj P true key t x f)
 |o,_=>qlj P o key t x f
def qn5(P:Program):List Bool->List TypeId->Key->List T->List C->(List C->Prog)->Prog
 |[],[],_,l,[],f=>.unnil l (f [])
 |o::os,t::ts,key,l,c::cs,f=>.uncons l fun x r=>qx3 P o t key x c fun c'=>qn5 P os ts (key+1) r cs fun l=>f (c'::l)
 |_,_,_,_,_,_=>.fail
def qko(P:Program):List TypeId->List T->List C->Prog->Prog
 |[],l,[],p=>.unnil l p
 |t::ts,l,c::cs,p=>.uncons l fun x r=>match c with
  |.obj k=>.getO k fun ob=>match ob with
   |.gone=>.asSl (q5e P t) x fun cs'=>.setO k (.arr true true (q5e P t) cs') (qko P ts r cs p)
   |_=>.fail
  |_=>qko P ts r cs p
 |_,_,_,_=>.fail
def qk8(P:Program):List Bool->List TypeId->Bool
 |_,[]=>true
 |[],t::ts=>qdi P t&&qk8 P [] ts
 |o::os,t::ts=>(o||qdi P t)&&qk8 P os ts
def qr3(P:Program)(md:Mode)(t:TypeId):Bool:=
 match md with
 |.ptr os=>qk8 P os (q26 P 8 (qbj P t))
 |_=>true
def back(P:Program)(md:Mode)(d:Nat)(t:TypeId)(bk:Bk)(outs:List T)(p:Prog):Prog:=
 .uncons outs fun x r=>.unnil r (match bk,md with
  |.sl k sz,_=>.asSl sz x fun cs=>.setO k (.arr true true sz cs) p
  |.ptr k old,.ptr os=>.asAgg x fun xs=>qn5 P os (q26 P 8 (qbj P t)) (q81 d 32) xs old fun cells=>.setO k (.box cells) p
  |.ptr k old,.src=>.asAgg x fun xs=>qig P (q26 P 8 (qbj P t)) xs old fun cells=>.setO k (.box cells) p
  |.val old,_=>.asAgg x fun xs=>qko P (q26 P 8 t) xs old p
  |_,_=>.fail)
def qsw:List Operand->(List V->Prog)->Prog
 |[],f=>f []
 |x::xs,f=>getV x fun v=>qsw xs fun vs=>f (v::vs)
def qtk(P:Program)(g:FuncId)(tys:List TypeId):List TypeId:=match P.funcs[g]? with
 |some fn=>bif Nat.beq fn.params.size tys.length then fn.params.toList else tys
 |none=>tys
def qst(v v':V)(f:T->T->Prog):Prog:=
 match v,v' with
 |.one (.obj k),.one (.obj k')=>.getO k fun o=>.getO k' fun o'=>match o,o' with
  |.arr true true sz cs,.arr true true sz' cs'=>.ite (Nat.beq k k') .fail (.setO k .gone (.setO k' .gone (f (.sl sz cs) (.sl sz' cs'))))
  |_,_=>.fail
 |_,_=>.fail
def qom(P:Program)(A:q7t)(o:Oper)(g:FuncId)(tys:List TypeId)(vs:List V)(d i m:Nat):Prog:=
 match vs[i]?,vs[m]? with
 |some v,some v'=>.ite (!Nat.beq i m&&(A g).take) (qst v v' fun x x'=>qba P (fun j=>bif Nat.beq i j then some x else bif Nat.beq m j then some x' else none) 0 tys vs fun xs b=>
  .ite (b && !okR P (A g).own o.type) .fail
   (.call g xs fun r outs=>.unnil outs (qln P (A g).own (q81 d 0) o.type r fun v=>.setT d v .done))) .fail
 |_,_=>.fail
def qkv(P:Program)(A:q7t)(o:Oper)(g:FuncId)(tys:List TypeId)(vs:List V)(d i m:Nat):Prog:=
 match vs[i]?,tys[i]?,vs[m]? with
 |some v,some t,some v'=>.ite (!Nat.beq i m && !(A g).take) (give P .src t v fun x bk=>match v' with
  |.one (.obj k)=>.getO k fun o'=>match o' with
   |.arr true true sz cs=>.setO k .gone (qba P (fun j=>bif Nat.beq i j then some x else bif Nat.beq m j then some (.sl sz cs)else none) 0 tys vs fun xs b=>
    .ite (b && !okR P (A g).own o.type) .fail
     (.call g xs fun r outs=>back P .src d t bk outs (qln P (A g).own (q81 d 0) o.type r fun v=>.setT d v .done)))
   |_=>.fail
  |_=>.fail) .fail
 |_,_,_=>.fail
def qvz(P:Program)(A:q7t)(o:Oper)(g:FuncId)(tys:List TypeId)(vs:List V)(caps:List T)(sn:Bool):Prog:=
 match o.dst with
 |some d=>match (A g).turn with
  |none=>qba P (fun _=>none) 0 tys vs fun xs b=>
   .ite ((b||sn) && !okR P (A g).own o.type) .fail
    (.call g (xs++caps) fun r outs=>.unnil outs (qln P (A g).own (q81 d 0) o.type r fun v=>.setT d v .done))
  |some i=>match (A g).more,caps with
   |some m,[]=>(match (A g).md with
    |.both _=>qkv P A o g tys vs d i m
    |_=>qom P A o g tys vs d i m)
   |some _,_=>.fail
   |none,_=>match vs[i]?,tys[i]?,caps with
   |some v,some t,[]=>give P (A g).md t v fun x bk=>qba P (fun j=>bif Nat.beq i j then some x else none) 0 tys vs fun xs b=>
    .ite (b && !(okR P (A g).own o.type&&qr3 P (A g).md t)) .fail
     (.call g xs fun r outs=>bif (A g).take then .unnil outs (qln P (A g).own (q81 d 0) o.type r fun v=>.setT d v .done)
      else back P (A g).md d t bk outs (qln P (A g).own (q81 d 0) o.type r fun v=>.setT d v .done))
   |_,_,_=>.fail
 |none=>.fail
def qut(P:Program)(t:TypeId)(c:C)(f:T->Bool->Prog):Prog:=
 match c with
 |.t x=>f x false
 |.nil=>match P.underlying t with|some (.slice e)=>.ite (Nat.blt 0 (q38 P e)) (f (.sl (q38 P e) []) false) .fail|_=>.fail
 |.obj k=>.getO k fun o=>match o with
  |.arr false _ sz cs=>f (.sl sz cs) false
  |.lent _ sz cs=>f (.sl sz cs) true
  |_=>.fail
 |.view x=>f x true
 |_=>.fail
def qnk(P:Program):List TypeId->List C->(List T->Bool->Prog)->Prog
 |[],[],f=>f [] false
 |t::ts,c::cs,f=>qut P t c fun x b=>qnk P ts cs fun r b'=>f (x::r) (b||b')
 |_,_,_=>.fail
def qx5(P:Program)(t:TypeId)(v:V)(f:T->Bool->Prog):Prog:=
 match v with
 |.one (.ptr k q)=>.getO k fun o=>match o with
  |.box cells=>qnk P (q26 P 8 (qbj P t)) ((cells.drop q).take (q38 P (qbj P t))) fun r b=>f (.rref r 0) b
  |_=>.fail
 |.one (.t (.rref cells q))=>f (.rref ((cells.drop q).take (q38 P (qbj P t))) 0) false
 |.one c=>qut P t c f
 |.agg cs=>qnk P (q26 P 8 t) cs fun r b=>f (.agg r) b
 |_=>.fail
def qgz(P:Program):List TypeId->List V->(List T->Bool->Prog)->Prog
 |[],[],f=>f [] false
 |t::ts,v::vs,f=>qx5 P t v fun x b=>qgz P ts vs fun r b'=>f (x::r) (b||b')
 |_,_,_=>.fail
def qrd(P:Program)(b:Bool)(t:TypeId)(x:T)(f:C->Prog):Prog:=
 match P.underlying t with
 |some (.slice e)=>.asSl (q38 P e) x fun cs=>.ite (cs.all T.scalar) (f (bif b then .view (.sl (q38 P e) cs)else .t (.sl (q38 P e) cs))) .fail
 |_=>asTy P t x fun x=>.ite x.scalar (f (.t x)) .fail
def qnu(P:Program)(b:Bool):List TypeId->List T->(List C->Prog)->Prog
 |[],l,f=>.unnil l (f [])
 |t::ts,l,f=>.uncons l fun x r=>qrd P b t x fun c=>qnu P b ts r fun cs=>f (c::cs)
def qsl(P:Program)(b:Bool)(t:TypeId)(x:T)(f:V->Prog):Prog:=
 bif q86 P t then .asAgg x fun l=>qnu P b (q26 P 8 t) l fun cs=>f (.agg cs)
 else qrd P b t x fun c=>f (.one c)
def qmo(P:Program)(b:Bool):List TypeId->List T->(List (Bool×List C)->Prog)->Prog
 |[],l,f=>.unnil l (f [])
 |t::ts,l,f=>.uncons l fun x r=>qsl P b t x fun v=>qmo P b ts r fun ps=>f ((q86 P t,v.cells)::ps)
def qww(P:Program)(b:Bool)(t:TypeId)(x:T)(f:V->Prog):Prog:=
 match P.underlying t with
 |some (.tuple ts)=>.asTup x fun l=>qmo P b ts.toList l fun ps=>f (.tup ps)
 |_=>qsl P b t x f
def qv0(P:Program)(A:q7t)(o:Oper)(g:FuncId)(tys:List TypeId)(vs:List V):Prog:=
 match o.dst with
 |some d=>.ite ((A g).turn.isNone && !(A g).own) (qgz P tys vs fun xs b=>.call g xs fun r outs=>.unnil outs (qww P b o.type r fun v=>.setT d v .done)) .fail
 |none=>.fail
def mpAt:List (Int×Int×Bool)->Int->Int->Nat->Option (Nat×Bool)
 |[],_,_,_=>none
 |(x,y,v)::r,a,b,i=>bif a==x&&b==y then some (i,v)else mpAt r a b (i+1)
def qa7(l:List (Int×Int×Bool))(a b:Int):Option Bool:=(mpAt l a b 0).map (·.2)
def qez:List (Int×Int×Bool)->Int->Int->Bool->List (Int×Int×Bool)
 |[],a,b,v=>[(a,b,v)]
 |(x,y,u)::r,a,b,v=>bif a==x&&b==y then(a,b,v)::r else(x,y,u)::qez r a b v
def qyl(P:Program)(k:TypeId):Bool:=match P.underlying k with
 |some (.array n ie)=>Nat.beq n 2&&(match P.underlying ie with|some (.int .i64)=>true|_=>false)&&(match P.info? ie with|some i=>Nat.beq i.size 1|none=>false)
 |_=>false
def mapT(P:Program)(t:TypeId):Bool:=match P.underlying t with
 |some (.map k e)=>qyl P k&&(match P.info? e with|some i=>(match i.zero with|some (.bool false)=>true|_=>false)|none=>false)
 |_=>false
def qq6(v:V)(f:Int->Int->Prog):Prog:=match v with
 |.agg [.t x,.t y]=>.asInt .i64 x fun a=>.asInt .i64 y fun b=>f a b
 |_=>.fail
def qvc(v:V)(f:Key->List (Int×Int×Bool)->Prog):Prog:=match v with
 |.one (.obj k)=>.getO k fun o=>match o with
  |.mp l=>f k l
  |_=>.fail
 |_=>.fail
def qsn(d:Nat)(m k:V):Prog:=qvc m fun _ l=>qq6 k fun a b=>
 .setT d (.tup [(false,[.t (.bool ((qa7 l a b).getD false))]),(false,[.t (.bool (qa7 l a b).isSome)])]) .done
def qt3(m k v:V):Prog:=qvc m fun key l=>qq6 k fun a b=>match v with
 |.one (.t x)=>.asBool x fun c=>.setO key (.mp (qez l a b c)) .done
 |_=>.fail
def qdm:List C->Prog->Prog
 |[],p=>p
 |c::r,p=>match c with
  |.obj k=>.getO k fun o=>match o with
   |.arr true deep sz cs=>.setO k (.arr false deep sz cs) (qdm r p)
   |_=>qdm r p
  |_=>qdm r p
def qhh:List Operand->Prog->Prog
 |[],p=>p
 |x::r,p=>match x with
  |.tmp i=>.getT i fun v=>qdm v.cells (qhh r p)
  |_=>qhh r p
def qwq(P:Program)(A:q7t)(t:TypeId)(f:Operand)(args:List Operand):List Operand:=match f with
 |.func g=>bif (match (A g).turn,(A g).md with|none,_=>true|some _,.src=>true|_,_=>false) && !(A g).own && !(A g).view && !qgk P t then args else[]
 |_=>[]
def qi7(op:BinOp)(k:IntKind)(a b:Int)(f:T->Prog):Prog:=
 match op with
 |.add=>f (.int k (k.wrap (a+b)))
 |.sub=>f (.int k (k.wrap (a-b)))
 |.mul=>f (.int k (k.wrap (a*b)))
 |.quo=>.ite (decide (b=0)) .fail (f (.int k (k.wrap (a.tdiv b))))
 |.rem=>.ite (decide (b=0)) .fail (f (.int k (a.tmod b)))
 |.and=>f (.int k (k.wrap (BitVec.ofInt k.bits a &&& BitVec.ofInt k.bits b).toNat))
 |.or=>f (.int k (k.wrap (BitVec.ofInt k.bits a ||| BitVec.ofInt k.bits b).toNat))
 |.xor=>f (.int k (k.wrap (BitVec.ofInt k.bits a ^^^ BitVec.ofInt k.bits b).toNat))
 |.shl=>.ite (decide (b<0)) .fail (f (.int k (k.wrap (a*2 ^ (min b.toNat k.bits)))))
 |.shr=>.ite (decide (b<0)) .fail (f (.int k (a.fdiv (2 ^ (min b.toNat k.bits)))))
 |.eql=>f (.bool (a==b))
 |.neq=>f (.bool (a != b))
 |.lss=>f (.bool (decide (a<b)))
 |.leq=>f (.bool (decide (a<=b)))
 |.gtr=>f (.bool (decide (a>b)))
 |.geq=>f (.bool (decide (a>=b)))
 |_=>.fail
def qi4(P:Program)(t:TypeId):Bool:=match P.underlying t with|some .string=>true|_=>false
def qm8(P:Program)(t:TypeId):Bool:=match P.underlying t with|some (.slice _)=>true|_=>false
def slOk(P:Program)(t:TypeId):Bool:=match P.underlying t with
 |some (.slice e)=>tyOk P e&&Nat.blt 0 (q38 P e)&&Nat.blt 0 (qkq P e)&&(zeroC P e).isSome
 |_=>false
def fits(P:Program)(e:TypeId)(n:Nat):Bool:=Nat.ble (n*qkq P e) (140737488355328*q38 P e)
def qsg(P:Program)(t:TypeId):Bool:=match P.underlying t with|some .bool=>true|_=>false
def qpz(P:Program)(t:TypeId):Bool:=match P.underlying t with|some (.int _)=>true|_=>false
def qtz(P:Program)(t:TypeId):Bool := !P.stoodInHeld t && !P.eqGuardType P.depth t&&(match P.underlying t with
 |some (.struct fs)=>(match fs.toList with
  |[f,g]=>!(f.name=="_") && !(g.name=="_")&&Nat.beq f.offset 0&&Nat.beq g.offset 1&&qpz P f.type&&qpz P g.type
  |_=>false)
 |_=>false)
def qwc(P:Program)(t:TypeId):Bool := !P.stoodInHeld t && !P.eqGuardType P.depth t&&(match P.underlying t with
 |some (.struct fs)=>(match fs.toList with
  |[f,g]=>!(f.name=="_") && !(g.name=="_")&&Nat.beq f.offset 0&&Nat.beq g.offset 1&&qi4 P f.type&&qpz P g.type
  |_=>false)
 |_=>false)
def binP(P:Program)(op:BinOp)(t:TypeId)(a b:V)(f:T->Prog):Prog:=
 match a,b with
 |.agg [.t (.str x),.t (.int k' x')],.agg [.t (.str y),.t (.int m' y')]=>.ite (qwc P t&&decide (k'=m')) (match op with
  |.eql=>f (.bool (x.toList==y.toList&&x'==y'))
  |.neq=>f (.bool (!(x.toList==y.toList&&x'==y')))
  |_=>.fail) .fail
 |.agg [.t (.int k x),.t (.int k' x')],.agg [.t (.int m y),.t (.int m' y')]=>.ite (qtz P t&&decide (k=m)&&decide (k'=m')) (match op with
  |.eql=>f (.bool (x==y&&x'==y'))
  |.neq=>f (.bool (!(x==y&&x'==y')))
  |_=>.fail) .fail
 |.one (.t (.int k x)),.one (.t (.int k' y))=>match op with
  |.shl=>qi7 .shl k x y f
  |.shr=>qi7 .shr k x y f
  |op=>.ite (decide (k=k')) (qi7 op k x y f) .fail
 |.one (.t (.bool x)),.one (.t (.bool y))=>.ite (qsg P t) (match op with
  |.eql=>f (.bool (x==y))
  |.neq=>f (.bool (!(x==y)))
  |_=>.fail) .fail
 |.one (.t (.str x)),.one (.t (.str y))=>match op with
  |.eql=>f (.bool (x.toList==y.toList))
  |.neq=>f (.bool (!(x.toList==y.toList)))
  |.add=>.ite (decide (x.size+y.size<=9223372036854775807)) (f (.str (x++y))) .fail
  |_=>.fail
 |_,_=>.fail
def slOf(sz:Nat)(v:V)(f:List T->Prog):Prog:=
 match v with
 |.one (.t x)=>.asSl sz x f
 |.one .nil=>f []
 |.one (.obj k)=>.getO k fun o=>match o with
  |.arr _ _ sz' cs=>.ite (Nat.beq sz' sz) (f cs) .fail
  |_=>.fail
 |.one (.view x)=>.asSl sz x f
 |_=>.fail
def setCells{α:Type}:List α->Nat->List α->List α
 |l,_,[]=>l
 |l,q,x::xs=>setCells (l.set q x) (q+1) xs
def inB(n:Int)(len:Nat):Bool:=decide (0<=n)&&decide (n<(len:Int))
def qwe:C->C
 |.kept _ x=>.t x
 |c=>c
def qt0(P:Program)(d:Nat)(t:TypeId)(v:V):Prog:=
 .ite (tyOk P t) (match v with
 |.one (.ptr k q)=>.getO k fun o=>match o with
  |.box cells=>.ite (decide (q+(q26 P 8 t).length<=cells.length)) (.setT d (mkV P t (((cells.drop q).take (q26 P 8 t).length).map qwe)) .done) .fail
  |.arr own deep _ cells=>.ite (own&&deep&&qv5 P t) .fail (qju P cells q (q26 P 8 t) fun cs=>.setT d (mkV P t cs) .done)
  |_=>.fail
 |.one (.t (.rref cells q))=>qju P cells q (q26 P 8 t) fun cs=>.setT d (mkV P t cs) .done
 |_=>.fail) .fail
def qwf(P:Program)(t:TypeId)(a v:V)(p:Prog):Prog:=
 .ite (tyOk P t) (match a with
 |.one (.ptr k q)=>.getO k fun o=>match o with
  |.box cells=>.ite (Nat.blt 0 v.cells.length&&Nat.beq v.cells.length (q26 P 8 t).length&&decide (q+v.cells.length<=cells.length)) (.setO k (.box (setCells cells q v.cells)) p) .fail
  |.arr own deep sz cells=>.ite (own&&Nat.blt 0 v.cells.length&&Nat.beq v.cells.length (q26 P 8 t).length&&decide (q+v.cells.length<=cells.length))
   (qk2 P (q26 P 8 t) v.cells fun xs b=>.getO k fun o=>match o with
    |.arr true _ _ _=>.setO k (.arr true (deep&&b) sz (setCells cells q xs)) p
    |_=>.fail) .fail
  |.opn sz cells ws=>(match v.cells with
   |[x]=>.ite (Nat.beq (q26 P 8 t).length 1&&decide (q<cells.length)) (.setO k (.opn sz cells ((q,x)::ws)) p) .fail
   |[x,x']=>.ite (Nat.beq (q26 P 8 t).length 2&&decide (q+1<cells.length)) (.setO k (.opn sz cells ((q,x)::(q+1,x')::ws)) p) .fail
   |_=>.fail)
  |_=>.fail
 |_=>.fail) .fail
def qih(place:Nat->Option (Nat×Nat)):List C->List (Nat×V)->Option (List C)
 |cells,[]=>some cells
 |cells,(i,v)::r=>match place i with
  |some (off,size)=>bif Nat.blt 0 size&&Nat.beq v.cells.length size&&decide (off+size<=cells.length)then qih place (setCells cells off v.cells) r else none
  |none=>none
def qlr(P:Program)(t:TypeId):Option (Nat->Option (Nat×Nat)):=
 match P.underlying t with
 |some (.struct fs)=>(fs.toList.mapM (fun f=>(P.info? f.type).map fun i=>(f.offset,i.size))).map fun l i=>l[i]?
 |some (.array _ e)=>(P.info? e).map fun ie i=>some (i*ie.size,ie.size)
 |some (.slice e)=>(P.info? e).map fun ie i=>some (i*ie.size,ie.size)
 |_=>none
def qq7(P:Program)(t:TypeId)(i:Nat):Option (Nat×Nat):=
 match P.underlying t with
 |some (.struct fs)=>match fs[i]? with
  |some f=>match P.info? f.type with
   |some ie=>bif Nat.beq ie.size 0 then none else some (f.offset,ie.size)
   |none=>none
  |none=>none
 |_=>none
def qv1(P:Program)(t:TypeId)(z:Option (List C))(vs:List (Nat×V)):Option (List C):=
 match z,qlr P t with
 |some z,some p=>qih p z vs
 |_,_=>none
def qu7:List (Nat×Operand)->(List (Nat×V)->Prog)->Prog
 |[],f=>f []
 |(i,x)::r,f=>getV x fun v=>qu7 r fun vs=>f ((i,v)::vs)
def repT(n:Nat)(zs:List T):List T:=(List.replicate n zs).flatten
def qn1(P:Program)(t:TypeId):Option (List T):=
 (zeroC P t).bind fun cs=>go (q26 P 8 t) cs
where
 go:List TypeId->List C->Option (List T)
  |[],[]=>some []
  |t::ts,c::cs=>(go ts cs).bind fun r=>match c with
   |.t x=>some (x::r)
   |.nil=>bif Nat.blt 0 (q5e P t)then some (.sl (q5e P t) []::r)else none
   |_=>none
  |_,_=>none
def qfw(P:Program)(t:TypeId):TypeId:=match P.underlying t with|some (.slice e)=>e|_=>0
def qsj(sz:Nat)(flat:Bool)(v:V)(f:List T->Bool->Prog):Prog:=
 match v with
 |.one (.t x)=>.asSl sz x fun cs=>bif flat then .ite (cs.all T.scalar) (f cs true) .fail else f cs false
 |.one .nil=>f [] true
 |.one (.obj k)=>.getO k fun o=>match o with
  |.arr own deep sz' cs=>.ite (Nat.beq sz' sz) (bif flat then .ite (cs.all T.scalar) (f cs true) .fail else bif own then .setO k .gone (f cs deep)else f cs false) .fail
  |_=>.fail
 |_=>.fail
def qps(P:Program)(A B:TypeId)(d:Nat)(s x:V):Prog:=
 .ite (slOk P A&&qm8 P B) (qsj (q5e P A) (qe9 P (qfw P A)) x fun ys b=>
 match s with
 |.one .nil=>.ite (fits P (qfw P A) ys.length) (newO (q81 d 0) (.arr true b (q5e P A) ys) (.setT d (.one (.obj (q81 d 0))) .done)) .fail
 |.one (.obj k)=>.getO k fun o=>match o with
  |.arr own deep sz' cs=>.ite (own&&Nat.beq sz' (q5e P A)&&fits P (qfw P A) (cs.length+ys.length))
   (.setO k (.moved (q81 d 0)) (newO (q81 d 0) (.arr true (deep&&b) (q5e P A) (cs++ys)) (.setT d (.one (.obj (q81 d 0))) .done))) .fail
  |_=>.fail
 |_=>.fail) .fail
def qcr(v:Option Operand)(d:Int)(f:Int->Prog):Prog:=
 match v with
 |none=>f d
 |some x=>getV x fun v=>match v with|.one (.t (.int _ n))=>f n|_=>.fail
def qqa(P:Program)(d:Nat)(t:TypeId)(v:V)(lo hi:Option Operand):Prog:=
 match P.underlying t with
 |some .string=>(match v with
  |.one (.t (.str s))=>qcr lo 0 fun l=>qcr hi (s.size:Int) fun h=>
   .ite (decide (0<=l)&&decide (l<=h)&&decide (h<=(s.size:Int))) (.setT d (.one (.t (.str (s.extract l.toNat h.toNat)))) .done) .fail
  |_=>.fail)
 |some (.slice e)=>.ite (P.info? e).isSome (match v with
  |.one (.t x)=>.asSl (q38 P e) x fun cs=>qcr lo 0 fun l=>qcr hi ((cs.length/q38 P e:Nat):Int) fun h=>
   .ite (decide (0<=l)&&decide (l<=h)&&decide (h<=((cs.length/q38 P e:Nat):Int)))
    (.setT d (.one (.t (.sl (q38 P e) ((cs.take (h.toNat*q38 P e)).drop (l.toNat*q38 P e))))) .done) .fail
  |.one (.obj k)=>.getO k fun o=>(match o with
   |.arr false _ sz cs=>qcr lo 0 fun l=>qcr hi ((cs.length/q38 P e:Nat):Int) fun h=>
    .ite (Nat.beq sz (q38 P e)&&decide (0<=l)&&decide (l<=h)&&decide (h<=((cs.length/q38 P e:Nat):Int)))
     (.setT d (.one (.t (.sl (q38 P e) ((cs.take (h.toNat*q38 P e)).drop (l.toNat*q38 P e))))) .done) .fail
   |_=>.fail)
  |_=>.fail) .fail
 |_=>.fail
def qz0:C->C
 |.t x=>bif x.scalar then .t x else .view x
 |c=>c
def qdo(P:Program)(d:Nat)(t:TypeId)(v i:V):Prog:=
 match i with
 |.one (.t (.int _ n))=>(match P.underlying t with
  |some (.slice e)=>.ite (P.info? e).isSome (match v with
   |.one (.t x)=>.asSl (q38 P e) x fun cs=>.ite (inB n (cs.length/q38 P e)) (.setT d (.one (.t (.rref cs (n.toNat*q38 P e)))) .done) .fail
   |.one (.obj k)=>.getO k fun o=>(match o with
    |.arr own _ sz cs=>.ite (Nat.beq sz (q38 P e)&&inB n (cs.length/q38 P e))
     (.setT d (bif own then .one (.ptr k (n.toNat*q38 P e))else .one (.t (.rref cs (n.toNat*q38 P e)))) .done) .fail
    |_=>.fail)
   |_=>.fail) .fail
  |some (.array len e)=>.ite (P.info? e).isSome (match v with
   |.one (.ptr k q)=>.getO k fun o=>(match o with
    |.box _=>.ite (inB n len) (.setT d (.one (.ptr k (q+n.toNat*q38 P e))) .done) .fail
    |.arr _ _ _ _=>.ite (inB n len) (.setT d (.one (.ptr k (q+n.toNat*q38 P e))) .done) .fail
    |_=>.fail)
   |.one (.t (.rref cs q))=>.ite (inB n len) (.setT d (.one (.t (.rref cs (q+n.toNat*q38 P e)))) .done) .fail
   |_=>.fail) .fail
  |_=>.fail)
 |_=>.fail
def qfo(P:Program)(k:Key)(key:Key)(t:TypeId)(q sz:Nat)(cells:List T)(ws:List (Nat×C))(x:T)(f:C->Prog):Prog:=
 match P.underlying t with
 |some (.slice e)=>.asSl (q38 P e) x fun cs=>newO key (.arr true true (q38 P e) cs) (.setO k (.opn sz cells ((q,.obj key)::ws)) (f (.obj key)))
 |_=>asTy P t x fun x=>.ite x.scalar (f (.t x)) .fail
def qvh:List (Nat×C)->Nat->(C->Prog)->Prog->Prog
 |[],_,_,p=>p
 |(q',c)::r,q,f,p=>.ite (Nat.beq q' q) (f c) (qvh r q f p)
def hitP:List (Nat×C)->Key->List Nat->Option (List Nat×Nat×C)
 |[],_,_=>none
 |(q,c)::r,key,es=>match c with
  |.obj k=>bif Nat.beq k key then some (es,q,c)else hitP r key (q::es)
  |_=>hitP r key (q::es)
def qza(key:Key):Key:=1000000000+key
def quj(es:List Nat)(q:Nat):Bool:=es.all fun e=>!Nat.beq e q
def qti(P:Program)(k:Key)(ws0:List (Nat×C))(key:Key)(t:TypeId)(q:Nat)(f:C->Prog):Prog:=
 .getO k fun o=>match o with
  |.opn sz cells ws=>match hitP ws0 (qza key) []with
   |some (es,q',c)=>.ite (quj es q&&Nat.beq q' q) (f c) .fail
   |none=>qvh ws0 q f (.onSome cells[q]? fun x=>qfo P k key t q sz cells ws x f)
  |_=>.fail
def qbd(P:Program)(k:Key)(ws0:List (Nat×C)):Key->Nat->List TypeId->(List C->Prog)->Prog
 |_,_,[],f=>f []
 |key,q,t::ts,f=>qti P k ws0 key t q fun c=>qbd P k ws0 (key+1) (q+1) ts fun r=>f (c::r)
def qyk(P:Program)(k:Key)(d:Nat)(t:TypeId)(q sz:Nat)(cells:List T):Prog:=
 .ite (tyOk P t) (match q26 P 8 t with
  |[]=>.fail
  |t0::ts=>.onSome cells[q]? fun x=>.setO k (.opn sz cells []) (qfo P k (q81 d 0) t0 q sz cells [] x fun c=>
   qbd P k [] (q81 d 0+1) (q+1) ts fun r=>.setT d (mkV P t (c::r)) .done)) .fail
def qyv(P:Program)(k:Key)(d:Nat)(t:TypeId)(q:Nat)(ws:List (Nat×C)):Prog:=
 .ite (tyOk P t) (qbd P k ws (q81 d 0) q (q26 P 8 t) fun cs=>.setT d (mkV P t cs) .done) .fail
def C.isObj:C->Bool
 |.obj _=>true
 |_=>false
def qu4(P:Program)(t:TypeId)(cs:List C):Bool:=qm8 P (qfw P t)&&Nat.ble 2 cs.length&&cs.any C.isObj
def nums:Nat->List C->List (Nat×C)
 |_,[]=>[]
 |i,c::cs=>(i,c)::nums (i+1) cs
def qxk(P:Program)(d:Nat)(src dst:TypeId)(v:V):Prog:=
 match P.underlying src,P.underlying dst,v with
 |some (.int _),some (.int k),.one (.t (.int _ n))=>.setT d (.one (.t (.int k (k.wrap n)))) .done
 |_,_,_=>.fail
def u8s:List T->Option (List Int)
 |[]=>some []
 |.int .u8 n::r=>(u8s r).map (n :: ·)
 |_=>none
def bytesOf(cs:List T):Option T:=(u8s cs).map fun ns=>.str (ns.foldl (fun r n=>r.push (UInt8.ofNat n.toNat)) ByteArray.empty)
def qyf(P:Program)(t:TypeId):Bool:=match P.underlying t with|some (.int .u8)=>true|_=>false
def qkt(P:Program)(t:TypeId):Bool:=match P.underlying t with|some (.slice e)=>qyf P e&&Nat.beq (q38 P e) 1|_=>false
def qy8(P:Program)(d:Nat)(src:TypeId)(v:V):Prog:=
 match v with
 |.one c=>qjg P src c fun x _=>.asSl 1 x fun cs=>.onSome (bytesOf cs) fun y=>.asStr y fun b=>.setT d (.one (.t (.str b))) .done
 |_=>.fail
def qyc(P:Program)(t t':TypeId)(o:Option Nat)(v sv:V):Prog:=
 .ite (slOk P t&&qm8 P t'&&Nat.beq (q5e P t) 1&&qe9 P (qfw P t)) (match v,sv with
  |.one (.obj k),.one c=>qjg P t' c fun x _=>.asSl 1 x fun ys=>.getO k fun ob=>match ob with
   |.arr true deep sz cs=>.ite (Nat.beq sz 1&&ys.all T.scalar) (.setO k (.arr true deep sz (setCells cs 0 (ys.take cs.length))) (setD o (.one (.t (.int .i64 ((ys.take cs.length).length:Int)))))) .fail
   |_=>.fail
  |_,_=>.fail) .fail
def qq5(P:Program)(d:Nat)(e:TypeId)(cs:List T)(lo hi:Option Operand):Prog:=
 .ite (P.info? e).isSome (qcr lo 0 fun l=>qcr hi ((cs.length/q38 P e:Nat):Int) fun h=>
  .ite (decide (0<=l)&&decide (l<=h)&&decide (h<=((cs.length/q38 P e:Nat):Int)))
   (.setT d (.one (.view (.sl (q38 P e) ((cs.take (h.toNat*q38 P e)).drop (l.toNat*q38 P e))))) .done) .fail) .fail
def qsy(P:Program)(d:Nat)(e:TypeId)(k:Key)(deep:Bool)(sz:Nat)(cs:List T)(lo hi:Option Operand):Prog:=
 match lo with
 |none=>.ite ((P.info? e).isSome&&Nat.beq sz (q38 P e)) (qcr hi ((cs.length/q38 P e:Nat):Int) fun h=>
  .ite (decide (0<=h)&&decide (h<=((cs.length/q38 P e:Nat):Int)))
   (.setO k (.moved (q81 d 0)) (newO (q81 d 0) (.arr true deep sz (cs.take (h.toNat*q38 P e))) (.setT d (.one (.obj (q81 d 0))) .done))) .fail) .fail
 |some _=>.fail
def qm2(v:V)(f:FuncId->List T->Bool->Prog):Prog:=
 match v with
 |.one (.t (.clo g caps))=>f g caps false
 |.clo g cells=>qf1 cells fun r b=>f g r b
 |_=>.fail
def qjn:List V->Option (List C)
 |[]=>some []
 |.one c::r=>(qjn r).map (c :: ·)
 |_=>none
def opP(P:Program)(A:q7t)(o:Oper):Prog:=
 match o.op with
 |.move x|.assign x=>getV x fun v=>setD o.dst v
 |.pick c a b=>getV c fun v=>match v with
  |.one (.t (.bool x))=>getV a fun va=>getV b fun vb=>.ite x (setD o.dst va) (setD o.dst vb)
  |_=>.fail
 |.alloc e=>match o.dst,zeroC P e with
  |some d,some cs=>newO (q81 d 0) (.box cs) (.setT d (.one (.ptr (q81 d 0) 0)) .done)
  |_,_=>.fail
 |.box _ x=>match o.dst with
  |some d=>getV x fun v=>match v with
   |.one c=>newO (q81 d 0) (.box [c]) (.setT d (.one (.ptr (q81 d 0) 0)) .done)
   |.agg cs=>newO (q81 d 0) (.box cs) (.setT d (.one (.ptr (q81 d 0) 0)) .done)
   |_=>.fail
  |none=>.fail
 |.build t ps=>.ite (q86 P t) (qu7 ps.toList fun vs=>match qv1 P t (zeroC P t) vs with
  |some cs=>setD o.dst (.agg cs)
  |none=>.fail) .fail
 |.buildSlice t len ps=>match o.dst with
  |some d=>.ite (slOk P t&&Nat.ble (len*q5e P t) 65536) (qu7 ps.toList fun vs=>
   match qv1 P t ((zeroC P (qfw P t)).map fun z=>(List.replicate len z).flatten) vs with
   |some cs=>bif qu4 P t cs then newO (q81 d 0) (.opn (q5e P t) (cs.map fun _=>.bool false) (nums 0 cs)) (.setT d (.one (.obj (q81 d 0))) .done)else
    qk2 P ((List.replicate len (q26 P 8 (qfw P t))).flatten) cs fun xs b=>
     newO (q81 d 0) (.arr true b (q5e P t) xs) (.setT d (.one (.obj (q81 d 0))) .done)
   |none=>.fail) .fail
  |none=>.fail
 |.load t a=>match o.dst with
  |some d=>getV a fun v=>match v with
   |.one (.ptr k q)=>.getO k fun ob=>match ob with
    |.arr true true sz cells=>bif qv5 P t then qyk P k d t q sz cells else qt0 P d t (.one (.ptr k q))
    |.opn _ _ ws=>qyv P k d t q ws
    |_=>qt0 P d t (.one (.ptr k q))
   |.one (.view (.rref cells q))=>.ite (tyOk P t) (qju P cells q (q26 P 8 t) fun cs=>.setT d (mkV P t (cs.map qz0)) .done) .fail
   |v=>qt0 P d t v
  |none=>.fail
 |.store t a x=>match o.dst with
  |none=>getV a fun va=>getV x fun vx=>qwf P t va vx .done
  |some _=>.fail
 |.nilCheck x=>getV x fun v=>match v with
  |.one (.ptr k q)=>.getO k fun ob=>match ob with
   |.box _=>setD o.dst (.one (.ptr k q))
   |.arr _ _ _ _=>setD o.dst (.one (.ptr k q))
   |_=>.fail
  |.one (.t (.rref cs q))=>setD o.dst (.one (.t (.rref cs q)))
  |_=>.fail
 |.binOp op t x y _=>getV x fun a=>getV y fun b=>binP P op t a b fun r=>setD o.dst (.one (.t r))
 |.unOp op _ x=>getV x fun v=>match op,v with
  |.not,.one (.t (.bool b))=>setD o.dst (.one (.t (.bool (!b))))
  |.neg,.one (.t (.int k n))=>setD o.dst (.one (.t (.int k (k.wrap (0-n)))))
  |_,_=>.fail
 |.convert s t x=>match o.dst with
  |some d=>getV x fun v=>bif qkt P s&&qi4 P t then qy8 P d s v else qxk P d s t v
  |none=>.fail
 |.makeFunc (.func g) first caps=>match o.dst with
  |some d=>bif Nat.beq first.size 0 then(qsw caps.toList fun vs=>match qjn vs with
   |some cs=>.setT d (.clo g cs) .done
   |none=>.fail)else .fail
  |none=>.fail
 |.makeMap t none=>match o.dst with
  |some d=>.ite (mapT P t) (newO (q81 d 0) (.mp []) (.setT d (.one (.obj (q81 d 0))) .done)) .fail
  |none=>.fail
 |.lookup t x i true=>match o.dst with
  |some d=>.ite (mapT P t) (getV x fun m=>getV i fun k=>qsn d m k) .fail
  |none=>.fail
 |.mapUpdate t x i y=>match o.dst with
  |none=>.ite (mapT P t) (getV x fun m=>getV i fun k=>getV y fun v=>qt3 m k v) .fail
  |some _=>.fail
 |.makeSlice t l c=>match o.dst with
  |some d=>.ite (slOk P t) (getV l fun a=>getV c fun b=>match a,b,qn1 P (qfw P t)with
   |.one (.t (.int _ n)),.one (.t (.int _ m)),some z=>.ite (decide (0<=n)&&decide (n=m)&&fits P (qfw P t) (n.toNat*q38 P (qfw P t)))
    (newO (q81 d 0) (.arr true true (q5e P t) (repT n.toNat z)) (.setT d (.one (.obj (q81 d 0))) .done)) .fail
   |_,_,_=>.fail) .fail
  |none=>.fail
 |.slice t x lo hi none=>match o.dst with
  |some d=>getV x fun v=>match v,P.underlying t with
   |.one (.view x),some (.slice e)=>.asSl (q38 P e) x fun cs=>qq5 P d e cs lo hi
   |.one (.obj k),some (.slice e)=>.getO k fun ob=>match ob with
    |.lent _ sz cs=>.ite (Nat.beq sz (q38 P e)) (qq5 P d e cs lo hi) .fail
    |.arr true deep sz cs=>qsy P d e k deep sz cs lo hi
    |_=>qqa P d t (.one (.obj k)) lo hi
   |v,_=>qqa P d t v lo hi
  |none=>.fail
 |.slice t x none (some (.const (.int _ 0))) (some (.const (.int _ 0)))=>match o.dst with       -- x[:0:0]
  |some d=>.ite (slOk P t) (getV x fun v=>slOf (q5e P t) v fun _=>
   newO (q81 d 0) (.arr true true (q5e P t) []) (.setT d (.one (.obj (q81 d 0))) .done)) .fail
  |none=>.fail
 |.fieldAddr t x f=>getV x fun v=>match v,qq7 P t f with
  |.one (.ptr k q),some (off,_)=>.getO k fun ob=>match ob with
   |.box _=>setD o.dst (.one (.ptr k (q+off)))
   |.arr _ _ _ _=>setD o.dst (.one (.ptr k (q+off)))
   |.opn _ _ _=>setD o.dst (.one (.ptr k (q+off)))
   |_=>.fail
  |.one (.t (.rref cs q)),some (off,_)=>setD o.dst (.one (.t (.rref cs (q+off))))
  |.one (.view (.rref cs q)),some (off,_)=>setD o.dst (.one (.view (.rref cs (q+off))))
  |_,_=>.fail
 |.field t x f=>getV x fun v=>match v,P.underlying t with
  |.agg cs,some (.struct fs)=>match fs[f]? with
   |some g=>.ite (tyOk P g.type&&decide (g.offset+(q26 P 8 g.type).length<=cs.length)) (setD o.dst (mkV P g.type ((cs.drop g.offset).take (q26 P 8 g.type).length))) .fail
   |none=>.fail
  |_,_=>.fail
 |.indexAddr t x i=>match o.dst with
  |some d=>getV x fun v=>getV i fun n=>match v with
   |.one (.obj k)=>.getO k fun ob=>match ob with
    |.opn sz cells _=>(match P.underlying t,n with
     |some (.slice e),.one (.t (.int _ m))=>.ite ((P.info? e).isSome&&Nat.beq sz (q38 P e)&&inB m (cells.length/q38 P e)) (.setT d (.one (.ptr k (m.toNat*q38 P e))) .done) .fail
     |_,_=>.fail)
    |.lent _ sz cells=>(match P.underlying t,n with
     |some (.slice e),.one (.t (.int _ m))=>.ite ((P.info? e).isSome&&Nat.beq sz (q38 P e)&&inB m (cells.length/q38 P e)) (.setT d (.one (.view (.rref cells (m.toNat*q38 P e)))) .done) .fail
     |_,_=>.fail)
    |_=>qdo P d t (.one (.obj k)) n
   |v=>qdo P d t v n
  |none=>.fail
 |.index t x i=>getV x fun v=>getV i fun n=>match P.underlying t,v,n with
  |some .string,.one (.t (.str s)),.one (.t (.int _ n))=>.ite (inB n s.size) (setD o.dst (.one (.t (.int .u8 ((s.data.getD n.toNat 0).toNat:Int))))) .fail
  |_,_,_=>.fail
 |.extract x i=>getV x fun v=>match v with
  |.tup ps=>match ps[i]? with
   |some (true,cs)=>setD o.dst (.agg cs)
   |some (false,[c])=>setD o.dst (.one c)
   |_=>.fail
  |_=>.fail
 |.call c=>match c.callee with
  |.builtin .len=>match c.args.toList,c.argTypes.toList with
   |[x],[t]=>getV x fun v=>match v with
    |.one (.t (.str s))=>.ite (qi4 P t) (setD o.dst (.one (.t (.int .i64 (s.size:Int))))) .fail
    |.one (.obj k)=>.ite (qm8 P t) (.getO k fun ob=>match ob with
     |.opn sz cells _=>.ite (Nat.beq sz (q5e P t)) (setD o.dst (.one (.t (.int .i64 ((cells.length/q5e P t:Nat):Int))))) .fail
     |_=>slOf (q5e P t) (.one (.obj k)) fun cs=>setD o.dst (.one (.t (.int .i64 ((cs.length/q5e P t:Nat):Int))))) .fail
    |v=>.ite (qm8 P t) (slOf (q5e P t) v fun cs=>setD o.dst (.one (.t (.int .i64 ((cs.length/q5e P t:Nat):Int))))) .fail
   |_,_=>.fail
  |.builtin .append=>match c.args.toList,c.argTypes.toList,o.dst with
   |[s,x],[t,t'],some d=>getV s fun vs=>getV x fun vx=>qps P t t' d vs vx
   |_,_,_=>.fail
  |.builtin .min=>match c.args.toList with
   |[x,y]=>getV x fun a=>getV y fun b=>match a,b with
    |.one (.t (.int k m)),.one (.t (.int k' n))=>.ite (decide (k=k')) (setD o.dst (.one (.t (.int k (min m n))))) .fail
    |_,_=>.fail
   |_=>.fail
  |.builtin .copy=>match c.args.toList,c.argTypes.toList with
   |[x,y],[t,t']=>getV x fun v=>getV y fun sv=>qyc P t t' o.dst v sv
   |_,_=>.fail
  |.builtin .max=>match c.args.toList with
   |[x,y]=>getV x fun a=>getV y fun b=>match a,b with
    |.one (.t (.int k m)),.one (.t (.int k' n))=>.ite (decide (k=k')) (setD o.dst (.one (.t (.int k (max m n))))) .fail
    |_,_=>.fail
   |_=>.fail
  |.builtin _=>.fail
  |.invoke _ _=>.fail
  |.value f=>qhh (qwq P A o.type f c.args.toList) <| getV f fun vf=>qsw c.args.toList fun vs=>qm2 vf fun g caps b=>bif (A g).view&&caps.isEmpty then qv0 P A o g (qtk P g c.argTypes.toList) vs else qvz P A o g (qtk P g c.argTypes.toList) vs caps b
 |_=>.fail
def Prog.andThen:Prog->Prog->Prog
 |.done,q=>q
 |.fail,_=>.fail
 |.getT i f,q=>.getT i fun v=>(f v).andThen q
 |.getO k f,q=>.getO k fun o=>(f o).andThen q
 |.setT i v p,q=>.setT i v (p.andThen q)
 |.setO k o p,q=>.setO k o (p.andThen q)
 |.ite b p p',q=>.ite b (p.andThen q) (p'.andThen q)
 |.asInt k x f,q=>.asInt k x fun n=>(f n).andThen q
 |.asBool x f,q=>.asBool x fun b=>(f b).andThen q
 |.asStr x f,q=>.asStr x fun b=>(f b).andThen q
 |.asSl sz x f,q=>.asSl sz x fun c=>(f c).andThen q
 |.asAgg x f,q=>.asAgg x fun c=>(f c).andThen q
 |.asTup x f,q=>.asTup x fun c=>(f c).andThen q
 |.asBx x f,q=>.asBx x fun c=>(f c).andThen q
 |.uncons l f,q=>.uncons l fun a r=>(f a r).andThen q
 |.unnil l p,q=>.unnil l (p.andThen q)
 |.onSome x f,q=>.onSome x fun a=>(f a).andThen q
 |.onRef x p,q=>.onRef x (p.andThen q)
 |.onClo x p,q=>.onClo x (p.andThen q)
 |.call g args k,q=>.call g args fun x outs=>(k x outs).andThen q
def qy1(d:Nat):Prog:=.getT d fun v=>match v with
 |.one (.t (.bool b))=>.ite b (.setT d (.one (.t (.bool true))) .done) (.setT d (.one (.t (.bool false))) .done)
 |_=>.done
def qx9(d:Option Nat):Prog:=match d with|some d=>.setT d .skip .done|none=>.done
def qwk(ops:List Oper)(d:Nat):Bool:=ops.any fun o=>match o.guard with
 |some (g,_)=>(match (ops[g]?).bind (·.dst)with|some e=>Nat.beq e d|none=>false)
 |none=>false
def qi0(ops:List Oper)(o:Oper)(p:Prog):Prog:=
 match o.guard with
 |none=>p
 |some (g,want)=>match (ops[g]?).bind (·.dst)with
  |some d=>.getT d fun v=>match v with
   |.one (.t (.bool b))=>.ite (b==want) p (qx9 o.dst)
   |.skip=>qx9 o.dst
   |_=>.fail
  |none=>.fail
def qil(ops:List Oper)(o:Oper)(p:Prog):Prog:=
 match o.dst with
 |some d=>bif qwk ops d then(qi0 ops o p).andThen (qy1 d)else qi0 ops o p
 |none=>qi0 ops o p
def q6l:Log:=⟨[],[],[],[]⟩
def opsK(P:Program)(A:q7t)(E:Env)(all:List Oper):List Oper->St->(St->R)->R
 |[],s,K=>K s
 |o::r,s,K=>runP E (qil all o (opP P A o)) s q6l fun s _=>opsK P A E all r s K
def opsL(P:Program)(A:q7t)(E:Env)(all:List Oper):List Oper->St->List Log->(St->List Log->R)->R
 |[],s,ls,K=>K s ls
 |o::r,s,ls,K=>runP E (qil all o (opP P A o)) s q6l fun s l=>opsL P A E all r s (l::ls) K
def memN(l:List Nat)(i:Nat):Bool:=l.any (Nat.beq i)
def disj(a b:List Nat):Bool:=a.all fun i=>!memN b i
def qk3(a b:Log):Bool:=
 disj a.wrT b.rdT&&disj a.wrT b.wrT&&disj b.wrT a.rdT&&disj a.wrO b.rdO&&disj a.wrO b.wrO&&disj b.wrO a.rdO
def qpk:List Nat->Nat
 |[]=>0
 |x::r=>x ||| qpk r
def ancs:List Oper->List Nat->List Nat
 |[],acc=>acc
 |o::r,acc=>ancs r (acc++[qpk ((o.after.toList.filter (Region.binds .any)).map fun e=>2 ^ e.on ||| acc.getD e.on 0)])
def qck:Nat->List Oper->Bool
 |_,[]=>true
 |i,o::r=>(o.after.toList.all fun e=>!Region.binds .any e||Nat.blt e.on i)&&qck (i+1) r
def qes(an:List Nat)(ls:List Log):Bool:=
 (List.range ls.length).all fun j=>(List.range j).all fun i=>Nat.testBit (an.getD j 0) i||qk3 (ls.getD i q6l) (ls.getD j q6l)
def qpf(p:Key->Bool):C->C
 |.ptr k q=>bif p k then .undef else .ptr k q
 |.obj k=>bif p k then .undef else .obj k
 |c=>c
def mapV(f:C->C):V->V
 |.one c=>.one (f c)
 |.agg cs=>.agg (cs.map f)
 |.tup ps=>.tup (ps.map fun(b,cs)=>(b,cs.map f))
 |.clo g cs=>.clo g (cs.map f)
 |v=>v
def mapO(f:C->C):Ob->Ob
 |.box cs=>.box (cs.map f)
 |.opn sz cells ws=>.opn sz cells (ws.map fun q=>(q.1,f q.2))
 |o=>o
def St.map(f:C->C)(s:St):St:=⟨s.tm.map fun(i,v)=>(i,mapV f v),s.ob.map fun(k,o)=>(k,mapO f o)⟩
def St.clear(p:Key->Bool)(s:St):St:=
 let s:=s.map (qpf p)
 ⟨s.tm,s.ob.filter fun(k,_)=>!p k⟩
def qz3:Oper->Bool
 |o=>match o.op with
  |.alloc _|.box _ _|.load _ _|.buildSlice _ _ _|.makeSlice _ _ _|.makeMap _ _|.slice _ _ _ _ _=>true
  |.call c=>match c.callee with
   |.builtin .append=>true
   |.value _=>true
   |_=>false
  |_=>false
def prepare(ops:List Oper)(s:St):St:=
 s.clear fun k=>ops.any fun o=>qz3 o&&(match o.dst with|some d=>Nat.beq (k/64) d|none=>false)
def renC(k k':Key):C->C        -- k' is called k from now on
 |.ptr j q=>bif Nat.beq j k' then .ptr k q else .ptr j q
 |.obj j=>bif Nat.beq j k' then .obj k else .obj j
 |c=>c
def renK(k k':Key)(j:Key):Key:=bif Nat.beq j k' then k else j
def St.rename(k k':Key)(s:St):St:=
 let s:=s.clear (Nat.beq k);let s:=s.map (renC k k')
 ⟨s.tm,s.ob.map fun(j,o)=>(renK k k' j,o)⟩
def qn9:List (Key×Ob)->Option (Key×Key)
 |[]=>none
 |(k,.moved k')::_=>some (k,k')
 |_::r=>qn9 r
def settle:Nat->St->St
 |0,s=>s
 |n+1,s=>match qn9 s.ob with
  |some (k,k')=>settle n (s.rename k k')
  |none=>s
inductive Gh where
 |keepT (l:List Nat)
 |keepO (l:List Key)
 |adoptT (i:Nat) (k:Key) (sz:Nat)
 |adoptO (o:Key) (j:Nat) (k:Key) (sz:Nat)
 |freeze (k:Key)
 |shallow (k:Key)
 |rename (k k':Key)
 |pack (k:Key)
 |melt (i:Nat)
 |meltO (o:Key) (j:Nat) (sz:Nat)
 |lend (k:Key)
 |reclaim
 |freezeT (i:Nat)
 |lendT (i:Nat)
 |freezeB (k:Key)
 |lendB (k:Key)
 |meltP (i:Nat)
 |orderO (l:List Key)
 |nameT (i:Nat) (k:Key)
 |nameB (o:Key) (j:Nat) (k:Key)
def qpi(s:St):C->T×St
 |.t x=>(bif x.scalar then x else .hole,s)
 |.obj j=>match s.getO j with
  |.arr true true sz cs=>(.sl sz cs,s.setO j .gone)
  |_=>(.hole,s)
 |_=>(.hole,s)
def qfs:St->List (Nat×C)->List (Nat×T)×St
 |s,[]=>([],s)
 |s,(q,c)::r=>((q,(qpi s c).1)::(qfs (qpi s c).2 r).1,(qfs (qpi s c).2 r).2)
def qk1:Ob->Ob
 |.lent deep sz cs=>.arr true deep sz cs
 |o=>o
def qn4:C->C
 |.view _=>.undef
 |c=>c
def freezeO(s:St)(k:Key):St:=match s.getO k with
 |.arr true deep sz cs=>s.setO k (.arr false deep sz cs)
 |_=>s
def lendO(s:St)(k:Key):St:=match s.getO k with
 |.arr true deep sz cs=>s.setO k (.lent deep sz cs)
 |_=>s
def qsx:List C->List Key
 |[]=>[]
 |.obj k::r=>k::qsx r
 |_::r=>qsx r
def qyw(o:Ob):List Key:=match o with
 |.box cs=>qsx cs
 |_=>[]
def eachO(f:St->Key->St):St->List Key->St
 |s,[]=>s
 |s,k::r=>eachO f (f s k) r
def qns:List C->Option (List T)
 |[]=>some []
 |.t x::r=>(qns r).map (x :: ·)
 |_::_=>none
def ghost(s:St):Gh->St
 |.keepT l=>⟨s.tm.filter fun(i,_)=>memN l i,s.ob⟩
 |.keepO l=>s.clear fun k=>!memN l k
 |.adoptT i k sz=>match s.getT i,s.getO k with
  |.one .nil,.free=>bif Nat.blt 0 sz then(s.setT i (.one (.obj k))).setO k (.arr true true sz [])else s
  |_,_=>s
 |.adoptO o j k sz=>match s.getO o,s.getO k with
  |.box cells,.free=>match cells[j]? with
   |some .nil=>bif Nat.blt 0 sz && !Nat.beq o k then(s.setO o (.box (cells.set j (.obj k)))).setO k (.arr true true sz [])else s
   |_=>s
  |_,_=>s
 |.freeze k=>freezeO s k
 |.shallow k=>match s.getO k with
  |.arr true _ sz cs=>s.setO k (.arr true false sz cs)
  |_=>s
 |.rename k k'=>s.rename k k'
 |.pack k=>match s.getO k with
  |.opn sz cells ws=>(qfs s ws).2.setO k (.arr true true sz (qjm cells (qfs s ws).1))
  |_=>s
 |.melt i=>match s.getT i with
  |.one (.obj k)=>match s.getO k with
   |.arr false _ sz cs=>s.setT i (.one (.t (.sl sz cs)))
   |_=>s
  |_=>s
 |.meltO o j sz=>match s.getO o with
  |.box cells=>match cells[j]? with
   |some (.obj k)=>match s.getO k with
    |.arr false _ sz' cs=>s.setO o (.box (cells.set j (.t (.sl sz' cs))))
    |_=>s
   |some .nil=>bif Nat.blt 0 sz then s.setO o (.box (cells.set j (.t (.sl sz []))))else s
   |_=>s
  |_=>s
 |.lend k=>lendO s k
 |.freezeT i=>eachO freezeO s (qsx (s.getT i).cells)
 |.lendT i=>eachO lendO s (qsx (s.getT i).cells)
 |.freezeB k=>eachO freezeO s (qyw (s.getO k))
 |.lendB k=>eachO lendO s (qyw (s.getO k))
 |.orderO l=>⟨s.tm,(l.map fun k=>(k,s.getO k))++s.ob.filter fun q=>!memN l q.1⟩
 |.nameT i k=>match s.getT i with
  |.one (.obj x)=>bif Nat.beq x k then s else s.rename k x
  |_=>s
 |.nameB o j k=>match s.getO o with
  |.box cs=>match cs[j]? with
   |some (.obj x)=>bif Nat.beq x k then s else s.rename k x
   |_=>s
  |_=>s
 |.meltP i=>match s.getT i with
  |.one (.ptr k q)=>match s.getO k with
   |.box cs=>match qns cs with
    |some xs=>(s.setO k .gone).setT i (.one (.t (.rref xs q)))
    |none=>s
   |_=>s
  |_=>s
 |.reclaim=>⟨(s.map qn4).tm,(s.map qn4).ob.map fun q=>(q.1,qk1 q.2)⟩
def ghosts(s:St):List Gh->St
 |[]=>s
 |g::r=>ghosts (ghost s g) r
structure Opn where
 k:Key
 j:Nat
 d:Int
 t:TypeId
 key:Key
def Opn.at(o:Opn)(kd:IntKind)(x:Int)(sz:Nat):Nat:=(bif o.d==0 then x else kd.wrap (x-o.d)).toNat*sz
def qmd(P:Program)(k:Key):Key->Nat->List TypeId->Prog
 |_,_,[]=>.done
 |key,q,t::ts=>.getO k fun o=>match o with
  |.opn sz cells ws=>.ite (quj (ws.map (·.1)) q) (.onSome cells[q]? fun x=>qfo P k key t q sz cells ws x fun _=>qmd P k (key+1) (q+1) ts) .fail
  |_=>.fail
def qy0(P:Program)(o:Opn):Prog:=
 .getT o.j fun u=>match u with
  |.one (.t (.int kd x))=>.getO o.k fun ob=>match ob with
   |.arr true true sz cells=>.onSome cells[o.at kd x sz]? fun _=>.setO o.k (.opn sz cells []) (qmd P o.k o.key (o.at kd x sz) (q26 P 8 o.t))
   |.opn sz _ _=>qmd P o.k o.key (o.at kd x sz) (q26 P 8 o.t)
   |_=>.fail
  |_=>.fail
def qrp(P:Program):List Opn->St->(St->R)->R
 |[],s,K=>K s
 |o::r,s,K=>runP (fun _ _=>none) (qy0 P o) s q6l fun s _=>qrp P r s K
structure Hints where
 loops:Nat->List Gh
 regions:Nat->List Gh
 opens:Nat->List Opn
inductive Ex where
 |normal
 |exit (id:Nat)
 |ret
def qoz(body:St->(Ex->St->R)->R):Nat->St->(Ex->St->R)->R
 |0,_,_=>none
 |n+1,s,K=>body s fun e s=>match e with
  |.normal=>qoz body n s K
  |e=>K e s
def qpq(P:Program)(s:St)(c:Operand):V:=match c with
 |.tmp i=>s.getT i
 |.const v=>qw4 v
 |_=>.any
def qhb(P:Program)(A:q7t)(E:Env)(ops:List Oper)(draw:Bool)(s:St)(K:St->R):R:=
 bif draw then opsL P A E ops ops (prepare ops s) [] fun s ls=>bif qck 0 ops&&qes (ancs ops []) ls.reverse then K (settle 8 s)else none
 else opsK P A E ops ops (prepare ops s) fun s=>K (settle 8 s)
def qad(P:Program)(A:q7t)(H:Hints)(E:Env)(n:Nat)(blk:Nat):Code->St->(Ex->St->R)->R
 |.skip,s,K=>K .normal s
 |.region id ops draw,s,K=>qrp P (H.opens id) (ghosts s (H.regions id)) fun s=>qhb P A E ops.toList draw s (K .normal)
 |.seq a b,s,K=>qad P A H E n blk a s fun e s=>match e with
  |.normal=>qad P A H E n blk b s K
  |e=>K e s
 |.cond c a b,s,K=>match qpq P s c with
  |.one (.t (.bool x))=>bif x then qad P A H E n blk a s K else qad P A H E n blk b s K
  |_=>none
 |.block i c,s,K=>qad P A H E n i c s fun e s=>match e with
  |.exit j=>bif Nat.beq i j then K .normal s else K (.exit j) s
  |e=>K e s
 |.loop c,s,K=>qoz (fun s K=>qad P A H E n blk c s fun e s=>match e with
  |.normal=>K .normal (ghosts s (H.loops blk))
  |e=>K e s) n (ghosts s (H.loops blk)) K
 |.exit i,s,K=>K (.exit i) s
 |.ret,s,K=>K .ret s
 |_,_,_=>none
def q13:Nat:=1000000
def argV(x:T):Option V:=
 match x with
 |.agg cs=>some (.agg (cs.map C.t))
 |.tup _=>none
 |x=>some (.one (.t x))
def qrn(o:Bool)(key:Key)(x:T):C×List (Key×Ob):=
 match o,x with
 |true,.sl sz cs=>(.obj key,[(key,.arr true true sz cs)])
 |true,.mp l=>(.obj key,[(key,.mp l)])
 |_,x=>(.t x,[])
def qfb:List Bool->Key->List T->Option (List C×List (Key×Ob))
 |[],_,[]=>some ([],[])
 |o::os,key,x::xs=>(qfb os (key+1) xs).map fun r=>((qrn o key x).1::r.1,(qrn o key x).2++r.2)
 |_,_,_=>none
def qe1(l:List T):List Bool:=l.map fun _=>true
def quz(j:Nat)(x:T):C:=bif x.scalar then .t x else .kept j x
def qbr:Nat->List T->List C
 |_,[]=>[]
 |j,x::xs=>quz j x::qbr (j+1) xs
def qto(md:Mode)(x:T):Option (V×List (Key×Ob)):=
 match md,x with
 |.ptr os,.rref cs 0=>(qfb os (q13+1) cs).map fun r=>(.one (.ptr q13 0),(q13,.box r.1)::r.2)
 |.src,.rref cs 0=>some (.one (.ptr q13 0),[(q13,.box (qbr 0 cs))])
 |.sl,.sl sz cs=>some (.one (.obj q13),[(q13,.arr true true sz cs)])
 |.val,.agg cs=>(qfb (qe1 cs) (q13+1) cs).map fun r=>(.agg r.1,r.2)
 |_,_=>none
def qoc(at_:Attr):Nat->List T->Option (List (Nat×V)×List (Key×Ob))
 |_,[]=>some ([],[])
 |i,x::xs=>(match at_.turn with
  |some j=>bif Nat.beq j i then qto at_.md x else(argV x).map fun v=>(v,[])
  |none=>(argV x).map fun v=>(v,[])).bind fun(v,os)=>(qoc at_ (i+1) xs).map fun(l,os')=>((i,v)::l,os++os')
def qxe(at_:Attr)(args:List T):Option (List (Nat×V)×List (Key×Ob)):=
 match at_.turn,at_.md with
 |some i,.both m=>bif Nat.beq i m then none else match args[m]? with
  |some (.sl sz cs)=>(qoc ⟨some i,.src,at_.own,at_.take,at_.view⟩ 0 args).map fun r=>(put r.1 m (.one (.obj (q13+1))),r.2++[(q13+1,.arr true true sz cs)])
  |_=>none
 |_,_=>qoc at_ 0 args
def Mode.bare:Mode->Mode
 |.both _=>.src
 |m=>m
def qxr(P:Program)(t:TypeId)(c:C)(f:T->Prog):Prog:=
 match c with
 |.ptr k 0=>.ite (Nat.beq k q13) .fail (.getO k fun o=>match o with
  |.box cells=>qgq P ((q26 P 8 (qbj P t)).map fun _=>false) (q26 P 8 (qbj P t)) cells fun xs=>f (.bx xs)
  |_=>.fail)
 |_=>.fail
def qf0(P:Program)(own:Bool):List TypeId->List V->(List T->Prog)->Prog
 |[],[],f=>f []
 |t::ts,.agg cs::vs,f=>qk2 P (q26 P 8 t) cs fun xs b=>.ite (own && !b) .fail (qf0 P own ts vs fun r=>f (.agg xs::r))
 |t::ts,.one c::vs,f=>bif q9s P t then .ite (ts.any (q9s P)) .fail (qxr P t c fun x=>qf0 P own ts vs fun r=>f (x::r))
  else qsp P t c fun x b=>.ite (own && !b) .fail (qf0 P own ts vs fun r=>f (x::r))
 |_,_,_=>.fail
def qpd:Nat->List C->(List T->Prog)->Prog
 |_,[],f=>f []
 |j,c::cs,f=>match c with
  |.t x=>.ite x.scalar (qpd (j+1) cs fun l=>f (x::l)) .fail
  |.kept i x=>.ite (Nat.beq i j) (qpd (j+1) cs fun l=>f (x::l)) .fail
  |_=>.fail
def qpv(P:Program)(at_:Attr)(pts:List TypeId)(f:List T->Prog):Prog:=
 match at_.turn with
 |none=>f []
 |some i=>bif at_.take then f []else .getT i fun v=>match at_.md.bare,v with
  |.ptr os,.one (.ptr k 0)=>.ite (Nat.beq k q13) (.getO q13 fun o=>match o with
   |.box cells=>qgq P os (q26 P 8 (qbj P (pts.getD i 0))) cells fun xs=>.getO q13 fun o=>match o with
    |.box _=>f [.agg xs]
    |_=>.fail
   |_=>.fail) .fail
  |.src,.one (.ptr k 0)=>.ite (Nat.beq k q13) (.getO q13 fun o=>match o with
   |.box cells=>qpd 0 cells fun xs=>f [.agg xs]
   |_=>.fail) .fail
  |.sl,.one (.obj k)=>.ite (Nat.beq k q13) (.getO q13 fun o=>match o with
   |.arr true true sz cs=>.setO q13 .gone (f [.sl sz cs])
   |_=>.fail) .fail
  |.val,.agg cells=>qgq P (qmn (q26 P 8 (pts.getD i 0))) (q26 P 8 (pts.getD i 0)) cells fun xs=>f [.agg xs]
  |_,_=>.fail
def qrk(P:Program):List ResultVar->List TypeId->(List V->Prog)->Prog
 |[],[],f=>f []
 |.tmp t::r,_::ts,f=>.getT t fun v=>qrk P r ts fun vs=>f (v::vs)
 |.cell a t::r,_::ts,f=>.getT a fun v=>match v with
  |.one (.ptr k q)=>.getO k fun o=>match o with
   |.box cells=>.ite (tyOk P t&&decide (q+(q26 P 8 t).length<=cells.length)) (qrk P r ts fun vs=>f (mkV P t ((cells.drop q).take (q26 P 8 t).length)::vs)) .fail
   |_=>.fail
  |_=>.fail
 |_,_,_=>.fail
def qwy:List T->T
 |[x]=>x
 |xs=>.tup xs
def endP(P:Program)(at_:Attr)(fn:Func)(f:T->List T->Prog):Prog:=
 qrk P fn.results.toList fn.resultTypes.toList fun rs=>qf0 P at_.own fn.resultTypes.toList rs fun xs=>
  qpv P at_ fn.params.toList fun outs=>f (qwy xs) outs
def qqk:Key:=999
def endK(P:Program)(A:q7t)(f:FuncId)(fn:Func)(s:St):R:=
 runP (fun _ _=>none) (endP P (A f) fn fun x outs=>.setO qqk (.arr true true 0 (x::outs)) .done) s q6l fun s _=>
  match s.getO qqk with
  |.arr _ _ _ (x::outs)=>some (x,outs)
  |_=>none
def qe0(tp:Option Nat)(n:Nat):Code->Bool
 |.region _ ops _=>ops.toList.all fun o=>match o.dst with|some d=>Nat.blt d n&&(match tp with|some i=>!Nat.beq i d|none=>true)|none=>true
 |.seq a b=>qe0 tp n a&&qe0 tp n b
 |.cond _ a b=>qe0 tp n a&&qe0 tp n b
 |.block _ c=>qe0 tp n c
 |.loop c=>qe0 tp n c
 |_=>true
def q1b(P:Program)(A:q7t)(H:FuncId->Hints)(E:Env)(n:Nat)(f:FuncId)(args:List T):R:=
 match P.funcs[f]? with
 |some fn=>match fn.body with
  |some c=>match qxe (A f) args with
   |some (vs,os)=>bif qe0 (A f).turn fn.ntmps c&&Nat.ble args.length fn.ntmps && !(fn.name=="runtime.NumGoroutine")then qad P A (H f) E n 0 c ⟨vs,os⟩ fun e s=>match e with
    |.exit _=>none
    |_=>endK P A f fn s
    else none
   |none=>none
  |none=>none
 |none=>none
end Ev
end
section
namespace Ev
open Go
def MpR(es:Array MapEntry)(l:List (Int×Int×Bool)):Prop:=
 es.toList.map (fun e=>(e.key,e.val))=l.map fun q=>(.agg #[.int .i64 q.1,.int .i64 q.2.1],.bool q.2.2)
inductive RB(w:World)(I J:Nat->Prop):T->Value->Prop
 |int (k n):RB w I J (.int k n) (.int k n)
 |bool (b):RB w I J (.bool b) (.bool b)
 |str (s):RB w I J (.str s) (.string s)
 |sl {sz cells a len cap} (vs:Nat->Value) (hsz:0<sz) (hlen:cells.length=len*sz) (hcap:len<=cap)
  (ha:cells≠[]->∃b o,a=some ⟨b,o,none⟩/\I b/\∀i,i<cells.length->w.cell? ⟨b,o+i,none⟩=some (vs i))
  (hc:∀i x,cells[i]?=some x->RB w I J x (vs i)):RB w I J (.sl sz cells) (.slice a len cap)
 |rref {cells q b o} (vs:Nat->Value) (hJ:cells≠[]->J b) (hcell:∀i,i<cells.length->w.cell? ⟨b,o+i,none⟩=some (vs i))
  (hc:∀i x,cells[i]?=some x->RB w I J x (vs i)):RB w I J (.rref cells q) (.pointer (some ⟨b,o+q,none⟩))
 |clo {fn caps cs} (vs:Nat->Value) (hl:cs=((List.range caps.length).map vs).toArray)
  (hc:∀i x,caps[i]?=some x->RB w I J x (vs i)):RB w I J (.clo fn caps) (.func (.func fn) #[] cs)
 |hole {v} (h:v.oneCell'=true):RB w I J .hole v
 |mp {g l es clock} (hI:I g) (hg:w.heap[g]?=some (.map es clock)) (hl:MpR es l):RB w I J (.mp l) (.map (some g))
theorem qgr{w w':World}{b o:Nat}(h:w'.heap[b]?=w.heap[b]?):w'.cell? ⟨b,o,none⟩=w.cell? ⟨b,o,none⟩:=by
 simp[World.cell?,h]
theorem RB.move{w w':World}{I J I' J':Nat->Prop}{x:T}{v:Value}(h:RB w I J x v)
 (hI:∀b,I b->I' b/\w'.heap[b]?=w.heap[b]?) (hJ:∀b,J b->J' b/\w'.heap[b]?=w.heap[b]?):RB w' I' J' x v:=by
 induction h with
 |int k n=>exact .int k n
 |bool b=>exact .bool b
 |str s=>exact .str s
 |sl vs hsz hlen hcap ha hc ih=>
  refine .sl vs hsz hlen hcap (fun hne=>?_) ih;obtain⟨b,o,e,hb,hcell⟩:=ha hne;exact⟨b,o,e,(hI b hb).1,fun i hi=>by rw[qgr (hI b hb).2];exact hcell i hi⟩
 |rref vs hj hcell hc ih=>
  exact .rref vs (fun hne=>(hJ _ (hj hne)).1) (fun i hi=>by rw[qgr (hJ _ (hj (fun e=>by rw[e]at hi;simp at hi))).2];exact hcell i hi) ih
 |clo vs hl hc ih=>exact .clo vs hl ih
 |hole h=>exact .hole h
 |mp hi hg hl=>exact .mp (hI _ hi).1 (by rw[(hI _ hi).2];exact hg) hl
theorem RB.one{w:World}{I J:Nat->Prop}{x:T}{v:Value}(h:RB w I J x v):v.oneCell'=true:=by
 cases h <;> first|rfl|assumption
inductive RO(w:World):T->Value->List Nat->Prop
 |int (k n):RO w (.int k n) (.int k n) []
 |bool (b):RO w (.bool b) (.bool b) []
 |str (s):RO w (.str s) (.string s) []
 |nil {sz a} (hsz:0<sz):RO w (.sl sz []) (.slice a 0 0) []
 |sl {sz cells g len cap} {cur:Array Value} {e} (vs:Nat->Value) (fs:Nat->List Nat) (hsz:0<sz)
  (hg:w.heap[g]?=some (.cells cur e (0,0))) (hlen:cells.length=len*sz) (hcap:len<=cap) (hmax:cap<=maxLen) (hcur:cur.size=cap*sz)
  (hv:∀i,i<cells.length->cur[i]?=some (vs i)) (hc:∀i x,cells[i]?=some x->RO w x (vs i) (fs i))
  (hnd:(g::(List.range cells.length).flatMap fs).Nodup) :
  RO w (.sl sz cells) (.slice (some ⟨g,0,none⟩) len cap) (g::(List.range cells.length).flatMap fs)
 |hole {v} (h:v.oneCell'=true):RO w .hole v []
 |mp {g l es clock} (hg:w.heap[g]?=some (.map es clock)) (hl:MpR es l):RO w (.mp l) (.map (some g)) [g]
theorem RO.move{w w':World}{x:T}{v:Value}{F:List Nat}(h:RO w x v F)(hF:∀b,b∈F->w'.heap[b]?=w.heap[b]?):RO w' x v F:=by
 induction h with
 |int k n=>exact .int k n
 |bool b=>exact .bool b
 |str s=>exact .str s
 |nil hsz=>exact .nil hsz
 |sl vs fs hsz hg hlen hcap hmax hcur hv hc hnd ih=>
  refine .sl vs fs hsz (by rw[hF _ (by simp)];exact hg) hlen hcap hmax hcur hv (fun i x hi=>ih i x hi fun b hb=>hF b ?_) hnd;refine gF _ (List.mem_flatMap.2 ⟨i,?_,hb⟩);have:=(gB.1 hi).1;simpa using this
 |hole h=>exact .hole h
 |mp hg hl=>exact .mp (by rw[hF _ (by simp)];exact hg) hl
theorem RO.one{w:World}{x:T}{v:Value}{F:List Nat}(h:RO w x v F):v.oneCell'=true:=by
 cases h <;> first|rfl|assumption
theorem RO.nodup{w:World}{x:T}{v:Value}{F:List Nat}(h:RO w x v F):F.Nodup:=by
 cases h <;> first|exact List.nodup_nil|assumption|simp
theorem qd3{w:World}{g:Nat}{o:Obj}(h:w.heap[g]?=some o):g<w.heap.size:=by
 rcases Nat.lt_or_ge g w.heap.size with h1|h1
 ·exact h1
 ·rw[Array.getElem?_eq_none h1]at h;cases h
theorem RO.lt{w:World}{x:T}{v:Value}{F:List Nat}(h:RO w x v F):∀b,b∈F->b<w.heap.size:=by
 induction h with
 |int k n=>simp
 |bool b=>simp
 |str s=>simp
 |nil hsz=>simp
 |sl vs fs hsz hg hlen hcap hmax hcur hv hc hnd ih=>
  intro b hb;rcases gK.1 hb with rfl|hb
  ·exact qd3 hg
  ·obtain⟨i,hi,hbi⟩:=List.mem_flatMap.1 hb;have hi':=List.mem_range.1 hi;exact ih i _ (gA hi') b hbi
 |hole h=>simp
 |mp hg hl=>intro b hb;rw[gD.1 hb];exact qd3 hg
theorem q48{w:World}{g:Nat}{cur:Array Value}{e fr}(h:w.heap[g]?=some (.cells cur e fr))(o:Nat):w.cell? ⟨g,o,none⟩=cur[o]?:=by
 simp[World.cell?,h]
theorem RO.rb{w:World}{I J:Nat->Prop}{x:T}{v:Value}{F:List Nat}(h:RO w x v F)(hI:∀b,b∈F->I b):RB w I J x v:=by
 induction h with
 |int k n=>exact .int k n
 |bool b=>exact .bool b
 |str s=>exact .str s
 |nil hsz=>exact .sl (fun _=>default) hsz (by simp) (gAI _) (fun h=>absurd rfl h) (by simp)
 |sl vs fs hsz hg hlen hcap hmax hcur hv hc hnd ih=>
  refine .sl vs hsz hlen hcap (fun _=>⟨_,0,rfl,hI _ (by simp),fun i hi=>?_⟩) (fun i x hi=>ih i x hi fun b hb=>hI b ?_)
  ·rw[gAJ,q48 hg];exact hv i hi
  ·refine gF _ (List.mem_flatMap.2 ⟨i,?_,hb⟩);have:=(gB.1 hi).1;simpa using this
 |hole h=>exact .hole h
 |mp hg hl=>exact .mp (hI _ (by simp)) hg hl
def q8j(u:Value)(q:Nat)(v:Value):Prop:=
 match u with
 |.pointer (some ⟨b,o,none⟩)=>v=.pointer (some ⟨b,o+q,none⟩)
 |.slice (some ⟨b,o,none⟩) _ _=>v=.pointer (some ⟨b,o+q,none⟩)
 |_=>False
def Ob.ref(o:Ob)(p:Prop):Prop:=
 match o with
 |.free=>False
 |.gone|.moved _=>True
 |_=>p
structure Fr where
 w:World
 I:Nat->Prop
 J:Nat->Prop
 val:Key->Value
 fp:Key->List Nat
 kept:Nat->Value
def Lent(f:Fr)(s:St)(b:Nat):Prop:=∃k,(s.getO k).isLent=true/\b∈f.fp k
def CR(f:Fr)(s:St):C->Value->Prop
 |.t x,v=>RB f.w f.I f.J x v
 |.nil,v=>v=.slice none 0 0
 |.ptr k q,v=>(s.getO k).ref (q8j (f.val k) q v)/\v.oneCell'=true
 |.obj k,v=>(s.getO k).ref (v=f.val k)/\v.oneCell'=true
 |.undef,v=>v.oneCell'=true
 |.kept j x,v=>RB f.w f.I f.J x v/\v=f.kept j
 |.view x,v=>RB f.w (fun b=>f.I b\/Lent f s b) (fun b=>f.J b\/Lent f s b) x v
theorem CR.one{f:Fr}{s:St}{c:C}{v:Value}(h:CR f s c v):v.oneCell'=true:=by
 cases c with
 |t x=>exact RB.one h
 |nil=>cases h;rfl
 |ptr k q=>exact h.2
 |obj k=>exact h.2
 |undef=>exact h
 |view x=>exact RB.one h
 |kept j x=>exact RB.one h.1
def CRs(f:Fr)(s:St)(cs:List C)(vs:List Value):Prop:=cs.length=vs.length/\∀(i:Nat)(c:C)(v:Value),cs[i]?=some c->vs[i]?=some v->CR f s c v
def VR(f:Fr)(s:St):V->Value->Prop
 |.one c,v=>CR f s c v
 |.agg cs,v=>∃vs:Array Value,v=.agg vs/\CRs f s cs vs.toList
 |.tup ps,v=>∃us:Array Value,v=.tuple us/\ps.length=us.size/\∀(i:Nat)(p:Bool×List C)(u:Value),ps[i]?=some p->us[i]?=some u->
  (p.1=true/\(∃vs:Array Value,u=.agg vs/\CRs f s p.2 vs.toList))\/(p.1=false/\∃c,p.2=[c]/\CR f s c u)
 |.clo fn cs,v=>∃vs:Array Value,v=.func (.func fn) #[] vs/\CRs f s cs vs.toList
 |.skip,v=>v=undef
 |.any,_=>True
def ShR(f:Fr)(sz:Nat)(cells:List T)(u:Value)(F:List Nat):Prop:=
 (0<sz/\cells=[]/\F=[]/\∃a,u=.slice a 0 0)\/
 ∃g len cap cur e,∃vs:Nat->Value,u=.slice (some ⟨g,0,none⟩) len cap/\F=[g]/\0<sz/\f.w.heap[g]?=some (.cells cur e (0,0))/\cells.length=len*sz/\len<=cap/\cap<=maxLen/\
  cur.size=cap*sz/\(∀i,i<cells.length->cur[i]?=some (vs i))/\∀i x,cells[i]?=some x->RB f.w f.I f.J x (vs i)
def q5s:List (Nat×C)->Nat->Option C
 |[],_=>none
 |(q,c)::r,i=>if q=i then some c else q5s r i
theorem qhv(f:C->C):∀(ws:List (Nat×C))(i:Nat),q5s (ws.map fun q=>(q.1,f q.2)) i=(q5s ws i).map f
 |[],_=>rfl
 |(q,c)::r,i=>by
  simp only[List.map_cons,q5s];split
  ·rfl
  ·exact qhv f r i
def WR(f:Fr)(s:St)(ws:List (Nat×C))(i:Nat)(x:T)(v:Value)(F:List Nat):Prop:=
 match q5s ws i with
 |some c=>CR f s c v/\F=[]
 |none=>RO f.w x v F
def OpR(f:Fr)(s:St)(sz:Nat)(cells:List T)(ws:List (Nat×C))(u:Value)(F:List Nat):Prop:=
 ∃g len cap cur e,∃vs:Nat->Value,∃fs:Nat->List Nat,u=.slice (some ⟨g,0,none⟩) len cap/\F=g::(List.range cells.length).flatMap fs/\(0<sz/\∀i,(q5s ws i).isSome=true->i<cells.length)/\f.w.heap[g]?=some (.cells cur e (0,0))/\
  cells.length=len*sz/\len<=cap/\cap<=maxLen/\cur.size=cap*sz/\(∀i,i<cells.length->cur[i]?=some (vs i))/\(∀i x,cells[i]?=some x->WR f s ws i x (vs i) (fs i))/\
  (g::(List.range cells.length).flatMap fs).Nodup
def ObR(f:Fr)(s:St)(o:Ob)(u:Value)(F:List Nat):Prop:=
 match o with
 |.box cs=>∃b cur e,u=.pointer (some ⟨b,0,none⟩)/\F=[b]/\f.w.heap[b]?=some (.cells cur e (0,0))/\CRs f s cs cur.toList
 |.arr true true sz cells=>RO f.w (.sl sz cells) u F
 |.arr true false sz cells=>ShR f sz cells u F
 |.arr false _ sz cells=>RB f.w f.I f.J (.sl sz cells) u/\F=[]
 |.free|.gone|.moved _=>F=[]
 |.lent true sz cells=>RO f.w (.sl sz cells) u F
 |.lent false sz cells=>ShR f sz cells u F
 |.opn sz cells ws=>OpR f s sz cells ws u F
 |.mp l=>RO f.w (.mp l) u F
structure Kp(S:Nat->Prop)(w w':World):Prop where
 os:w'.os=w.os
 tape:w'.tape=w.tape
 output:w'.output=w.output
 size:w.heap.size<=w'.heap.size
 block:∀b,b<w.heap.size->¬ S b->w'.heap[b]?=w.heap[b]?
theorem Kp.refl(S:Nat->Prop)(w:World):Kp S w w:=⟨rfl,rfl,rfl,gAI _,fun _ _ _=>rfl⟩
theorem Kp.trans{S:Nat->Prop}{a b c:World}(h:Kp S a b)(k:Kp S b c):Kp S a c:=
 ⟨k.os.trans h.os,k.tape.trans h.tape,k.output.trans h.output,Nat.le_trans h.size k.size,fun i hi hn=>(k.block i (Nat.lt_of_lt_of_le hi h.size) hn).trans (h.block i hi hn)⟩
structure Ctx where
 N:Nat
 I:Nat->Prop
 J:Nat->Prop
 S:Nat->Prop
 kept:Nat->Value
def Ctx.own(c:Ctx)(b:Nat):Prop:=c.N<=b\/c.S b
def inI(c:Ctx)(w:World)(fp:Key->List Nat)(b:Nat):Prop:=(c.I b\/c.own b)/\b<w.heap.size/\∀k,b∉fp k
def inJ(c:Ctx)(w:World)(fp:Key->List Nat)(b:Nat):Prop:=(c.J b\/c.own b)/\b<w.heap.size/\∀k,b∉fp k
def mkFr(c:Ctx)(w:World)(val:Key->Value)(fp:Key->List Nat):Fr:=⟨w,inI c w fp,inJ c w fp,val,fp,c.kept⟩
structure Inv(c:Ctx)(s:St)(a:Act)(w:World)(val:Key->Value)(fp:Key->List Nat):Prop where
 obs:∀k,ObR (mkFr c w val fp) s (s.getO k) (val k) (fp k)
 tms:∀i,VR (mkFr c w val fp) s (s.getT i) (a.tmps.getD i undef)
 disj:∀k k',k≠k'->∀b,b∈fp k->b∉fp k'
 mine:∀k b,b∈fp k->c.N<=b\/c.S b
 size:c.N<=w.heap.size
 defers:a.defers=[]
 ij:∀b,c.I b->c.J b
theorem ShR.lt{f:Fr}{sz:Nat}{cells:List T}{u:Value}{F:List Nat}(h:ShR f sz cells u F):∀b,b∈F->b<f.w.heap.size:=by
 rcases h with⟨_,_,rfl,_⟩|⟨g,len,cap,cur,e,vs,_,rfl,_,hh,_⟩
 ·simp
 ·intro b' hb';rw[gD.1 hb'];exact qd3 hh
theorem WR.lt{f:Fr}{s:St}{ws:List (Nat×C)}{i:Nat}{x:T}{v:Value}{F:List Nat}(h:WR f s ws i x v F):∀b,b∈F->b<f.w.heap.size:=by
 unfold WR at h;split at h
 ·rw[h.2];simp
 ·exact RO.lt h
theorem OpR.lt{f:Fr}{s:St}{sz:Nat}{cells:List T}{ws:List (Nat×C)}{u:Value}{F:List Nat}(h:OpR f s sz cells ws u F):∀b,b∈F->b<f.w.heap.size:=by
 obtain⟨g,len,cap,cur,e,vs,fs,_,rfl,_,hh,_,_,_,_,_,hel,_⟩:=h;intro b hb;rcases gK.1 hb with rfl|hb
 ·exact qd3 hh
 ·obtain⟨i,hi,hbi⟩:=List.mem_flatMap.1 hb;have hi':=List.mem_range.1 hi;exact WR.lt (hel i _ (gA hi')) b hbi
theorem ObR.lt{f:Fr}{s:St}{o:Ob}{u:Value}{F:List Nat}(h:ObR f s o u F):∀b,b∈F->b<f.w.heap.size:=by
 cases o with
 |box cs=>obtain⟨b,cur,e,_,rfl,hh,_⟩:=h;intro b' hb';rw[gD.1 hb'];exact qd3 hh
 |arr own deep sz cells=>
  cases own with
  |true=>
   cases deep with
   |true=>exact RO.lt h
   |false=>exact ShR.lt h
  |false=>obtain⟨_,rfl⟩:=h;simp
 |free=>intro b hb;rw[show F=[]from h]at hb;simp at hb
 |gone=>intro b hb;rw[show F=[]from h]at hb;simp at hb
 |moved k=>intro b hb;rw[show F=[]from h]at hb;simp at hb
 |lent deep sz cells=>cases deep with
  |true=>exact RO.lt h
  |false=>exact ShR.lt h
 |opn sz cells ws=>exact OpR.lt h
 |mp l=>exact RO.lt h
theorem Inv.lt{c:Ctx}{s:St}{a:Act}{w:World}{val:Key->Value}{fp:Key->List Nat}(h:Inv c s a w val fp){k:Key}{b:Nat}(hb:b∈fp k):b<w.heap.size:=
 ObR.lt (h.obs k) b hb
def Turns(o o':Ob)(u u':Value):Prop:=
 match o with
 |.free=>True
 |.gone|.moved _=>(match o' with|.gone|.moved _=>True|_=>False)
 |_=>(match o' with|.gone|.moved _=>True|.free=>False|_=>u'=u)
theorem Turns.refl(o:Ob)(u:Value):Turns o o u u:=by cases o <;> simp[Turns]
theorem Ob.ref_turns{o o':Ob}{u u':Value}{p:Value->Prop}(ht:Turns o o' u u')(h:o.ref (p u)):o'.ref (p u'):=by
 cases o <;> cases o' <;> simp_all[Turns,Ob.ref]
structure Goes(f f':Fr)(s s':St):Prop where
 hK:f'.kept=f.kept
 hI:∀b,f.I b->f'.I b/\f'.w.heap[b]?=f.w.heap[b]?
 hJ:∀b,f.J b->f'.J b/\f'.w.heap[b]?=f.w.heap[b]?
 hk:∀k,Turns (s.getO k) (s'.getO k) (f.val k) (f'.val k)
 hL:∀b,Lent f s b->(Lent f' s' b\/f'.I b/\f'.J b)/\f'.w.heap[b]?=f.w.heap[b]?
theorem Goes.rbL{f f':Fr}{s s':St}(g:Goes f f' s s'){x:T}{v:Value}(h:RB f.w (fun b=>f.I b\/Lent f s b) (fun b=>f.J b\/Lent f s b) x v) :
 RB f'.w (fun b=>f'.I b\/Lent f' s' b) (fun b=>f'.J b\/Lent f' s' b) x v:=by
 refine RB.move h (fun b hb=>?_) (fun b hb=>?_)
 ·rcases hb with hb|hb
  ·exact⟨.inl (g.hI b hb).1,(g.hI b hb).2⟩
  ·exact⟨(g.hL b hb).1.symm.imp (fun h=>h.1) id,(g.hL b hb).2⟩
 ·rcases hb with hb|hb
  ·exact⟨.inl (g.hJ b hb).1,(g.hJ b hb).2⟩
  ·exact⟨(g.hL b hb).1.symm.imp (fun h=>h.2) id,(g.hL b hb).2⟩
theorem CR.goes{f f':Fr}{s s':St}(g:Goes f f' s s'){c:C}{v:Value}(h:CR f s c v):CR f' s' c v:=by
 cases c with
 |t x=>exact RB.move h g.hI g.hJ
 |nil=>exact h
 |ptr k q=>exact⟨Ob.ref_turns (p:=fun u=>q8j u q v) (g.hk k) h.1,h.2⟩
 |obj k=>exact⟨Ob.ref_turns (p:=fun u=>v=u) (g.hk k) h.1,h.2⟩
 |undef=>exact h
 |view x=>exact g.rbL h
 |kept j x=>exact⟨RB.move h.1 g.hI g.hJ,by rw[g.hK];exact h.2⟩
theorem CRs.goes{f f':Fr}{s s':St}(g:Goes f f' s s'){cs:List C}{vs:List Value}(h:CRs f s cs vs):CRs f' s' cs vs:=
 ⟨h.1,fun i c v hc hv=>(h.2 i c v hc hv).goes g⟩
theorem VR.goes{f f':Fr}{s s':St}(g:Goes f f' s s'){x:V}{v:Value}(h:VR f s x v):VR f' s' x v:=by
 cases x with
 |one c=>exact CR.goes g h
 |agg cs=>obtain⟨vs,e,h⟩:=h;exact⟨vs,e,h.goes g⟩
 |tup ps=>
  obtain⟨us,e,hl,h⟩:=h;refine⟨us,e,hl,fun i p u hp hu=>?_⟩;rcases h i p u hp hu with⟨h1,vs,h2,h3⟩|⟨h1,c,h2,h3⟩
  ·exact .inl ⟨h1,vs,h2,h3.goes g⟩
  ·exact .inr ⟨h1,c,h2,CR.goes g h3⟩
 |clo fn cs=>obtain⟨vs,e,h⟩:=h;exact⟨vs,e,h.goes g⟩
 |skip=>exact h
 |any=>trivial
theorem ShR.goes{f f':Fr}{s s':St}(g:Goes f f' s s'){sz:Nat}{cells:List T}{u:Value}{F:List Nat}(h:ShR f sz cells u F)(hF:∀b,b∈F->f'.w.heap[b]?=f.w.heap[b]?):ShR f' sz cells u F:=by
 rcases h with h|⟨g',len,cap,cur,e,vs,hu,rfl,hsz,hh,r1,r2,r3,r4,r5,r6⟩
 ·exact .inl h
 ·exact .inr ⟨g',len,cap,cur,e,vs,hu,rfl,hsz,by rw[hF g' (by simp)];exact hh,r1,r2,r3,r4,r5,fun i x hx=>(r6 i x hx).move g.hI g.hJ⟩
theorem WR.goes{f f':Fr}{s s':St}(g:Goes f f' s s'){ws:List (Nat×C)}{i:Nat}{x:T}{v:Value}{F:List Nat}(h:WR f s ws i x v F)(hF:∀b,b∈F->f'.w.heap[b]?=f.w.heap[b]?):WR f' s' ws i x v F:=by
 unfold WR at *;split
 ·rename_i c hc;rw[hc]at h;exact⟨CR.goes g h.1,h.2⟩
 ·rename_i hc;rw[hc]at h;exact RO.move h hF
theorem OpR.goes{f f':Fr}{s s':St}(g:Goes f f' s s'){sz:Nat}{cells:List T}{ws:List (Nat×C)}{u:Value}{F:List Nat}(h:OpR f s sz cells ws u F)(hF:∀b,b∈F->f'.w.heap[b]?=f.w.heap[b]?):OpR f' s' sz cells ws u F:=by
 obtain⟨g',len,cap,cur,e,vs,fs,hu,rfl,hsz,hh,r1,r2,r3,r4,r5,r6,r7⟩:=h;refine⟨g',len,cap,cur,e,vs,fs,hu,rfl,hsz,by rw[hF g' (by simp)];exact hh,r1,r2,r3,r4,r5,fun i x hx=>(r6 i x hx).goes g fun b hb=>hF b ?_,r7⟩;exact gF _ (List.mem_flatMap.2 ⟨i,by have:=(gB.1 hx).1;simpa using this,hb⟩)
theorem ObR.goes{f f':Fr}{s s':St}(g:Goes f f' s s'){o:Ob}{u:Value}{F:List Nat}(h:ObR f s o u F)(hF:∀b,b∈F->f'.w.heap[b]?=f.w.heap[b]?):ObR f' s' o u F:=by
 cases o with
 |box cs=>
  obtain⟨b,cur,e,hu,rfl,hh,hc⟩:=h;exact⟨b,cur,e,hu,rfl,by rw[hF b (by simp)];exact hh,hc.goes g⟩
 |arr own deep sz cells=>
  cases own with
  |true=>
   cases deep with
   |true=>exact RO.move h hF
   |false=>exact ShR.goes g h hF
  |false=>exact⟨RB.move h.1 g.hI g.hJ,h.2⟩
 |free=>exact h
 |gone=>exact h
 |moved k=>exact h
 |lent deep sz cells=>cases deep with
  |true=>exact RO.move h hF
  |false=>exact ShR.goes g h hF
 |opn sz cells ws=>exact OpR.goes g h hF
 |mp l=>exact RO.move h hF
end Ev
end
section
namespace Ev
open Go
theorem nbeq{i j:Nat}(h:i≠j):Nat.beq i j=false:=by
 rw[<- Bool.not_eq_true,Nat.beq_eq];exact h
theorem qha{α:Type}(d:α):∀(l:List (Nat×α))(i j:Nat)(v:α),look d (put l i v) j=if i=j then v else look d l j
 |[],i,j,v=>by
  simp only[put,look];by_cases h:i=j
  ·subst h;simp
  ·have:Nat.beq i j=false:=nbeq h;simp[this,h]
 |(k,u)::r,i,j,v=>by
  simp only[put];by_cases h:k=i
  ·subst h;have:Nat.beq k k=true:=by simp
   simp only[this,cond_true,look];by_cases h2:k=j
   ·subst h2;simp
   ·have:Nat.beq k j=false:=nbeq h2;simp[this,h2]
  ·have h1:Nat.beq k i=false:=nbeq h;simp only[h1,cond_false,look,qha d r i j v];by_cases h2:k=j
   ·subst h2;simp[Ne.symm h]
   ·have:Nat.beq k j=false:=nbeq h2;simp[this]
@[simp] theorem q9a(s:St)(i j:Nat)(v:V):(s.setT i v).getT j=if i=j then v else s.getT j:=qha _ _ _ _ _
@[simp] theorem qya(s:St)(i:Nat)(v:V)(k:Key):(s.setT i v).getO k=s.getO k:=rfl
@[simp] theorem qu1(s:St)(k:Key)(o:Ob)(i:Nat):(s.setO k o).getT i=s.getT i:=rfl
@[simp] theorem q2y(s:St)(k j:Key)(o:Ob):(s.setO k o).getO j=if k=j then o else s.getO j:=qha _ _ _ _ _
def upd{α:Type}(f:Key->α)(k:Key)(x:α):Key->α:=fun j=>if k=j then x else f j
@[simp] theorem q78{α:Type}(f:Key->α)(k:Key)(x:α):upd f k x k=x:=by simp[upd]
theorem qab{α:Type}(f:Key->α){k j:Key}(x:α)(h:k≠j):upd f k x j=f j:=by simp[upd,h]
section
variable {c:Ctx}{s s':St}{a:Act}{w w':World}{val val':Key->Value}{fp fp':Key->List Nat}
theorem Inv.changes(h:Inv c s a w val fp)(Ks:Key->Prop)
 (htm:∀i,s'.getT i=s.getT i)
 (hsame:∀k,¬ Ks k->s'.getO k=s.getO k/\val' k=val k/\fp' k=fp k)
 (hturn:∀k,Ks k->Turns (s.getO k) (s'.getO k) (val k) (val' k))
 (hlent:∀k,Ks k->(s.getO k).isLent=false)
 (hsub:∀k b,Ks k->b∈fp' k->(∃k1,Ks k1/\b∈fp k1)\/w.heap.size<=b)
 (hdis:∀k k',Ks k->Ks k'->k≠k'->∀b,b∈fp' k->b∉fp' k')
 (hw:∀b,b<w.heap.size->(∀k,Ks k->b∉fp k)->w'.heap[b]?=w.heap[b]?)
 (hsize:w.heap.size<=w'.heap.size) (ho:w'.os=w.os) (ht:w'.tape=w.tape) (hu:w'.output=w.output)
 (hob:Goes (mkFr c w val fp) (mkFr c w' val' fp') s s'->∀k,Ks k->ObR (mkFr c w' val' fp') s' (s'.getO k) (val' k) (fp' k)) :
 Inv c s' a w' val' fp'/\Goes (mkFr c w val fp) (mkFr c w' val' fp') s s'/\Kp c.own w w':=by
 have hfree:∀b,b<w.heap.size->(∀k,b∉fp k)->∀k,b∉fp' k:=by
  intro b hb hn k hk;by_cases hK:Ks k
  ·rcases hsub k b hK hk with⟨k1,_,h1⟩|h1
   ·exact hn k1 h1
   ·omega
  ·rw[(hsame k hK).2.2]at hk;exact hn k hk
 have g:Goes (mkFr c w val fp) (mkFr c w' val' fp') s s':=by
  refine⟨rfl,fun b hb=>⟨⟨hb.1,Nat.lt_of_lt_of_le hb.2.1 hsize,hfree b hb.2.1 hb.2.2⟩,hw b hb.2.1 fun k _=>hb.2.2 k⟩,
   fun b hb=>⟨⟨hb.1,Nat.lt_of_lt_of_le hb.2.1 hsize,hfree b hb.2.1 hb.2.2⟩,hw b hb.2.1 fun k _=>hb.2.2 k⟩,fun k=>?_,?_⟩
  rotate_left
  ·rintro b ⟨k,hk,hb⟩;have hK:¬ Ks k:=fun hK=>by rw[hlent k hK]at hk;cases hk
   have hb':b∈fp k:=hb;refine⟨.inl ⟨k,by rw[(hsame k hK).1];exact hk,?_⟩,hw b (h.lt hb') fun k1 hk1 hb1=>h.disj k k1 (fun e=>hK (e▸hk1)) b hb' hb1⟩;show b∈fp' k;rw[(hsame k hK).2.2];exact hb'
  by_cases hK:Ks k
  ·exact hturn k hK
  ·show Turns (s.getO k) (s'.getO k) (val k) (val' k);rw[(hsame k hK).1,(hsame k hK).2.1];exact Turns.refl _ _
 refine⟨⟨fun k=>?_,fun i=>?_,fun k k' hne b hb hb'=>?_,fun k b hb=>?_,Nat.le_trans h.size hsize,h.defers,h.ij⟩,g,⟨ho,ht,hu,hsize,fun b hb hn=>hw b hb fun k _ hk=>hn (h.mine k b hk)⟩⟩
 ·by_cases hK:Ks k
  ·exact hob g k hK
  ·obtain⟨e1,e2,e3⟩:=hsame k hK;rw[e1,e2,e3];exact(h.obs k).goes g fun b hb=>hw b (h.lt hb) fun k1 hk1 hb1=>h.disj k k1 (fun e=>hK (e▸hk1)) b hb hb1
 ·rw[htm i];exact(h.tms i).goes g
 ·by_cases hK:Ks k
  ·by_cases hK':Ks k'
   ·exact hdis k k' hK hK' hne b hb hb'
   ·rw[(hsame k' hK').2.2]at hb';rcases hsub k b hK hb with⟨k1,hk1,h1⟩|h1
    ·exact h.disj k1 k' (fun e=>hK' (e▸hk1)) b h1 hb'
    ·have:=h.lt hb';omega
  ·rw[(hsame k hK).2.2]at hb;by_cases hK':Ks k'
   ·rcases hsub k' b hK' hb' with⟨k1,hk1,h1⟩|h1
    ·exact h.disj k k1 (fun e=>hK (e▸hk1)) b hb h1
    ·have:=h.lt hb;omega
   ·rw[(hsame k' hK').2.2]at hb';exact h.disj k k' hne b hb hb'
 ·by_cases hK:Ks k
  ·rcases hsub k b hK hb with⟨k1,_,h1⟩|h1
   ·exact h.mine k1 b h1
   ·exact .inl (Nat.le_trans h.size h1)
  ·rw[(hsame k hK).2.2]at hb;exact h.mine k b hb
theorem Inv.change1(h:Inv c s a w val fp)(k0:Key)(o':Ob)(u':Value)(F':List Nat)
 (hturn:Turns (s.getO k0) o' (val k0) u')
 (hlent:(s.getO k0).isLent=false)
 (hsub:∀b,b∈F'->b∈fp k0\/w.heap.size<=b)
 (hw:∀b,b<w.heap.size->b∉fp k0->w'.heap[b]?=w.heap[b]?)
 (hsize:w.heap.size<=w'.heap.size) (ho:w'.os=w.os) (ht:w'.tape=w.tape) (hu:w'.output=w.output)
 (hob:Goes (mkFr c w val fp) (mkFr c w' (upd val k0 u') (upd fp k0 F')) s (s.setO k0 o')->ObR (mkFr c w' (upd val k0 u') (upd fp k0 F')) (s.setO k0 o') o' u' F') :
 Inv c (s.setO k0 o') a w' (upd val k0 u') (upd fp k0 F')/\Goes (mkFr c w val fp) (mkFr c w' (upd val k0 u') (upd fp k0 F')) s (s.setO k0 o')/\Kp c.own w w':=by
 refine h.changes (· = k0) (fun _=>rfl) (fun k hk=>?_) ?_ (by rintro k rfl;exact hlent) ?_ ?_ (fun b hb hn=>hw b hb (hn k0 rfl)) hsize ho ht hu ?_
 ·have:k0≠k:=fun e=>hk e.symm;simp[upd,this]
 ·rintro k rfl;simpa using hturn
 ·rintro k b rfl hb;simp only[q78]at hb;exact(hsub b hb).imp (fun h=>⟨k,rfl,h⟩) id
 ·rintro k k' rfl rfl hne;exact absurd rfl hne
 ·rintro g k rfl;simpa using hob g
theorem Inv.world(h:Inv c s a w val fp)(hh:w'.heap=w.heap)(ho:w'.os=w.os)(ht:w'.tape=w.tape)(hu:w'.output=w.output) :
 Inv c s a w' val fp/\Kp c.own w w':=by
 have:=h.changes (s':=s) (w':=w') (val':=val) (fp':=fp) (fun _=>False) (fun _=>rfl) (fun _ _=>⟨rfl,rfl,rfl⟩) (fun _ h=>h.elim) (fun _ h=>h.elim) (fun _ _ h=>h.elim) (fun _ _ h=>h.elim)
  (fun b _ _=>by rw[hh]) (by rw[hh];exact gAI _) ho ht hu (fun _ _ h=>h.elim)
 exact⟨this.1,this.2.2⟩
theorem CR.setT{f:Fr}{s:St}{x:C}{v:Value}(h:CR f s x v)(i:Nat)(y:V):CR f (s.setT i y) x v:=by
 cases x <;> exact h
theorem CRs.setT{f:Fr}{s:St}{cs:List C}{vs:List Value}(h:CRs f s cs vs)(i:Nat)(y:V):CRs f (s.setT i y) cs vs:=
 ⟨h.1,fun j c v hc hv=>(h.2 j c v hc hv).setT i y⟩
theorem VR.setT{f:Fr}{s:St}{x:V}{v:Value}(h:VR f s x v)(i:Nat)(y:V):VR f (s.setT i y) x v:=by
 cases x with
 |one c=>exact CR.setT h i y
 |agg cs=>obtain⟨vs,e,h⟩:=h;exact⟨vs,e,h.setT i y⟩
 |tup ps=>
  obtain⟨us,e,hl,h⟩:=h;refine⟨us,e,hl,fun j p u hp hu=>?_⟩;rcases h j p u hp hu with⟨h1,vs,h2,h3⟩|⟨h1,c,h2,h3⟩
  ·exact .inl ⟨h1,vs,h2,h3.setT i y⟩
  ·exact .inr ⟨h1,c,h2,CR.setT h3 i y⟩
 |clo fn cs=>obtain⟨vs,e,h⟩:=h;exact⟨vs,e,h.setT i y⟩
 |skip=>exact h
 |any=>trivial
theorem ObR.setT{f:Fr}{s:St}{o:Ob}{u:Value}{F:List Nat}(h:ObR f s o u F)(i:Nat)(y:V):ObR f (s.setT i y) o u F:=by
 cases o with
 |box cs=>
  obtain⟨b,cur,e,hu,rfl,hh,hc⟩:=h;exact⟨b,cur,e,hu,rfl,hh,hc.setT i y⟩
 |arr own deep sz cells=>exact h
 |free=>exact h
 |gone=>exact h
 |moved k=>exact h
 |lent deep sz cells=>exact h
 |opn sz cells ws=>
  obtain⟨g,len,cap,cur,e,vs,fs,r1,r2,r3,r4,r5,r6,r7,r8,r9,r10,r11⟩:=h;refine⟨g,len,cap,cur,e,vs,fs,r1,r2,r3,r4,r5,r6,r7,r8,r9,fun j x hx=>?_,r11⟩;have:=r10 j x hx;unfold WR at *;split
  ·rename_i c hc;rw[hc]at this;exact⟨this.1.setT i y,this.2⟩
  ·rename_i hc;rw[hc]at this;exact this
 |mp l=>exact h
theorem Inv.setT(h:Inv c s a w val fp){d:Nat}{x:V}{v:Value}(hd:d<a.tmps.size)(hv:VR (mkFr c w val fp) s x v):Inv c (s.setT d x) (a.put (some d) v) w val fp:=by
 refine⟨fun k=>(h.obs k).setT d x,fun i=>?_,h.disj,h.mine,h.size,h.defers,h.ij⟩;rw[q9a]
 have he:(a.put (some d) v).tmps.getD i undef=if d=i then v else a.tmps.getD i undef:=by
  simp only[Act.put,gQ];by_cases hi:d=i
  ·subst hi;simp[hd]
  ·rw[Array.getElem?_setIfInBounds_ne hi,if_neg hi]
 rw[he];by_cases hi:d=i
 ·subst hi;simpa using hv.setT d x
 ·simpa[hi]using(h.tms i).setT d x
end
end Ev
namespace Ev
open Go
section
variable {P:Program}{A:q7t}{E:Env}{c:Ctx}{s:St}{a:Act}{w:World}{val:Key->Value}{fp:Key->List Nat}
variable {l:Log}{K:St->Log->R}{r:T×List T}
def Post(c:Ctx)(w0:World)(K:St->Log->R)(r:T×List T)(a':Act)(w':World):Prop:=
 ∃s l val fp,K s l=some r/\Inv c s a' w' val fp/\a'.tmps.size=a'.tmps.size/\Kp c.own w0 w'
theorem q99{α:Type}{b:Bool}{x y:Option α}{r:α}(h:(bif b then x else y)=some r):(b=true/\x=some r)\/(b=false/\y=some r):=by
 cases b
 ·exact .inr ⟨rfl,h⟩
 ·exact .inl ⟨rfl,h⟩
theorem q1c{α:Type}{b:Bool}{x:Option α}{r:α}(h:(bif b then x else none)=some r):b=true/\x=some r:=by
 cases b
 ·cases h
 ·exact⟨rfl,h⟩
section
variable (E:Env)(s:St)(l:Log)(K:St->Log->R)
theorem q49:runP E .done s l K=K s l:=rfl
theorem q92:runP E .fail s l K=none:=rfl
theorem qev(i:Nat)(f:V->Prog):runP E (.getT i f) s l K=runP E (f (s.getT i)) s { l with rdT:=i::l.rdT } K:=rfl
theorem q3s(k:Key)(f:Ob->Prog):runP E (.getO k f) s l K=runP E (f (s.getO k)) s { l with rdO:=k::l.rdO } K:=rfl
theorem q4r(i:Nat)(v:V)(p:Prog):runP E (.setT i v p) s l K=runP E p (s.setT i v) { l with wrT:=i::l.wrT } K:=rfl
theorem q51(k:Key)(o:Ob)(p:Prog):runP E (.setO k o p) s l K=runP E p (s.setO k o) { l with wrO:=k::l.wrO } K:=rfl
theorem q8q(b:Bool)(p q:Prog):runP E (.ite b p q) s l K=bif b then runP E p s l K else runP E q s l K:=rfl
theorem q1s(b:Bool)(p:Prog):runP E (.ite b p .fail) s l K=bif b then runP E p s l K else none:=rfl
theorem qdc(k:IntKind)(x:T)(f:Int->Prog):runP E (.asInt k x f) s l K=match x with
 |.int k' n=>bif decide (k'=k)then runP E (f n) s l K else none
 |_=>none:=by
 cases x with
 |int k' n=>show((bif decide (k'=k)then some n else none).bind fun n=>runP E (f n) s l K)=(bif decide (k'=k)then runP E (f n) s l K else none);cases decide (k'=k) <;> rfl
 |_=>rfl
theorem qkk(x:T)(f:Bool->Prog):runP E (.asBool x f) s l K=match x with|.bool b=>runP E (f b) s l K|_=>none:=by cases x <;> rfl
theorem qn0(x:T)(f:ByteArray->Prog):runP E (.asStr x f) s l K=match x with|.str b=>runP E (f b) s l K|_=>none:=by cases x <;> rfl
theorem q6f(sz:Nat)(x:T)(f:List T->Prog):runP E (.asSl sz x f) s l K=match x with
 |.sl sz' c=>bif Nat.beq sz' sz then runP E (f c) s l K else none
 |_=>none:=by
 cases x with
 |sl sz' c=>show((bif Nat.beq sz' sz then some c else none).bind fun c=>runP E (f c) s l K)=(bif Nat.beq sz' sz then runP E (f c) s l K else none);cases Nat.beq sz' sz <;> rfl
 |_=>rfl
theorem qat(x:T)(f:List T->Prog):runP E (.asAgg x f) s l K=match x with|.agg c=>runP E (f c) s l K|_=>none:=by cases x <;> rfl
theorem qnv(x:T)(f:List T->Prog):runP E (.asTup x f) s l K=match x with|.tup c=>runP E (f c) s l K|_=>none:=by cases x <;> rfl
theorem qr2(x:T)(f:List T->Prog):runP E (.asBx x f) s l K=match x with|.bx c=>runP E (f c) s l K|_=>none:=by cases x <;> rfl
theorem q96(l':List T)(f:T->List T->Prog):runP E (.uncons l' f) s l K=match l' with|a::r=>runP E (f a r) s l K|[]=>none:=by cases l' <;> rfl
theorem q7v(l':List T)(p:Prog):runP E (.unnil l' p) s l K=match l' with|[]=>runP E p s l K|_::_=>none:=by cases l' <;> rfl
theorem qar(x:Option T)(f:T->Prog):runP E (.onSome x f) s l K=match x with|some a=>runP E (f a) s l K|none=>none:=by cases x <;> rfl
theorem qtn(x:T)(p:Prog):runP E (.onRef x p) s l K=match x with|.rref _ _=>runP E p s l K|_=>none:=by cases x <;> rfl
theorem qtt(x:T)(p:Prog):runP E (.onClo x p) s l K=match x with|.clo _ _=>runP E p s l K|_=>none:=by cases x <;> rfl
theorem qet(g:FuncId)(args:List T)(k:T->List T->Prog):runP E (.call g args k) s l K=(E g args).bind fun r=>runP E (k r.1 r.2) s l K:=rfl
end
theorem qwd{f:Fr}{s:St}{v:Value}(h:v.oneCell'=true):CR f s (ofC v) v:=by
 unfold ofC;split
 ·exact RB.int _ _
 ·exact RB.bool _
 ·exact RB.str _
 ·rfl
 ·exact h
theorem qpx{f:Fr}{s:St}{vs:List Value}(h:vs.all (·.oneCell')=true):CRs f s (vs.map ofC) vs:=by
 refine⟨by simp,fun i c v hc hv=>?_⟩;rw[gAC,hv]at hc;cases hc;exact qwd (gAL.1 h v (List.mem_of_getElem? hv))
theorem qqj{f:Fr}{s:St}(v:Value):VR f s (qw4 v) v:=by
 unfold qw4;split
 ·rename_i cs;cases h:cs.toList.all (·.oneCell')
  ·trivial
  ·exact⟨cs,rfl,qpx h⟩
 ·exact RB.int _ _
 ·exact RB.bool _
 ·exact RB.str _
 ·exact(rfl:_=_)
 ·trivial
theorem q2x(h:Inv c s a w val fp){x:Operand}{f:V->Prog}(hr:runP E (getV x f) s l K=some r) :
 ∃v l',runP E (f v) s l' K=some r/\VR (mkFr c w val fp) s v (a.eval x):=by
 cases x with
 |tmp i=>exact⟨_,_,hr,h.tms i⟩
 |const v=>exact⟨_,_,hr,qqj v⟩
 |func g=>
  refine⟨_,_,hr,?_⟩;exact RB.clo (fun _=>default) (by simp) (by simp)
 |global g=>simp[getV,runP]at hr
theorem q4p{d:Option Nat}{v:V}(hr:runP E (setD d v) s l K=some r):∃d' l',d=some d'/\K (s.setT d' v) l'=some r:=by
 cases d with
 |none=>simp[setD,runP]at hr
 |some d=>exact⟨d,_,rfl,hr⟩
theorem q36(h:Inv c s a w val fp){o:Oper}{d:Nat}{x:V}{v:Value}{l':Log}(hd:d<a.tmps.size)(hv:VR (mkFr c w val fp) s x v)(hK:K (s.setT d x) l'=some r) :
 Post c w K r (a.put (some d) v) w:=
 ⟨_,_,val,fp,hK,h.setT hd hv,rfl,Kp.refl _ _⟩
theorem q3h{o:Oper}{next:Act->World->Prop}{Q:Exit->Act->World->Prop}{v:Value}{w':World}
 (hr:(execOp a.eval o).run P w=.ok (.value v) w') (h:next (a.put o.dst v) w'):o.wp P a w next Q:=by
 unfold Oper.wp;rw[hr];exact h
theorem qv3{o:Oper}{next:Act->World->Prop}{Q:Exit->Act->World->Prop}{w':World}
 (hr:(execOp a.eval o).run P w=.ok .skip w') (h:next (a.put o.dst undef) w'):o.wp P a w next Q:=by
 unfold Oper.wp;rw[hr];exact h
theorem RB.int_inv{w:World}{I J:Nat->Prop}{k:IntKind}{n:Int}{v:Value}(h:RB w I J (.int k n) v):v=.int k n:=by cases h;rfl
theorem RB.bool_inv{w:World}{I J:Nat->Prop}{b:Bool}{v:Value}(h:RB w I J (.bool b) v):v=.bool b:=by cases h;rfl
theorem RB.str_inv{w:World}{I J:Nat->Prop}{b:ByteArray}{v:Value}(h:RB w I J (.str b) v):v=.string b:=by cases h;rfl
theorem qsu(h:Inv c s a w val fp){o:Oper}{x:Operand}(ho:o.op=.move x\/o.op=.assign x)(hd:∀d,o.dst=some d->d<a.tmps.size)
 {Q:Exit->Act->World->Prop} (hr:runP E (getV x fun v=>setD o.dst v) s l K=some r):o.wp P a w (Post c w K r) Q:=by
 obtain⟨v,l1,h1,hv⟩:=q2x h hr;obtain⟨d,l2,hd',h2⟩:=q4p h1;refine q3h (v:=a.eval x) (w':=w) ?_ ?_
 ·rcases ho with ho|ho <;> simp[execOp,ho]
 ·rw[hd'];exact q36 (o:=o) h (hd d hd') hv h2
theorem qwu(h:Inv c s a w val fp){o:Oper}{x y z:Operand}(ho:o.op=.pick x y z)(hd:∀d,o.dst=some d->d<a.tmps.size)
 {Q:Exit->Act->World->Prop} (hr:runP E (opP P A o) s l K=some r):o.wp P a w (Post c w K r) Q:=by
 unfold opP at hr;simp only[ho]at hr;obtain⟨v,l1,h1,hv⟩:=q2x h hr;split at h1
 ·rename_i b;have hb:=RB.bool_inv hv;obtain⟨va,l2,h2,hva⟩:=q2x h h1;obtain⟨vb,l3,h3,hvb⟩:=q2x h h2;simp only[runP]at h3;have hrun:(execOp a.eval o).run P w=.ok (.value (if b then a.eval y else a.eval z)) w:=by simp[execOp,ho,hb,asBool]
  rcases q99 h3 with⟨rfl,h3⟩|⟨rfl,h3⟩
  ·obtain⟨d,l2,hd',h2⟩:=q4p h3;refine q3h hrun ?_;rw[hd'];exact q36 (o:=o) h (hd d hd') hva h2
  ·obtain⟨d,l2,hd',h2⟩:=q4p h3;refine q3h hrun ?_;rw[hd'];exact q36 (o:=o) h (hd d hd') hvb h2
 ·simp[runP]at h1
theorem q6h{k:Key}{o:Ob}{p:Prog}(hr:runP E (newO k o p) s l K=some r):s.getO k=.free/\∃l',runP E p (s.setO k o) l' K=some r:=by
 simp only[newO,runP]at hr;split at hr
 ·rename_i hk;exact⟨hk,_,hr⟩
 ·simp[runP]at hr
theorem Inv.fp_free(h:Inv c s a w val fp){k:Key}(hk:s.getO k=.free):fp k=[]:=by
 have:=h.obs k;rw[hk]at this;exact this
theorem qpb(h:Inv c s a w val fp){d:Nat}(hd:d<a.tmps.size){k:Key}{cs:List C}{vs:Array Value}{e:TypeId}{l':Log}(hk:s.getO k=.free)(hc:CRs (mkFr c w val fp) s cs vs.toList)
 (hK:K ((s.setO k (.box cs)).setT d (.one (.ptr k 0))) l'=some r) :
 Post c w K r (a.put (some d) (.pointer (some ⟨w.heap.size,0,none⟩))) (w.alloc (.cells vs e)):=by
 have hf:=h.fp_free hk
 obtain⟨h1,g,hp⟩:=h.change1 (w':=w.alloc (.cells vs e)) k (.box cs) (.pointer (some ⟨w.heap.size,0,none⟩)) [w.heap.size] (by rw[hk];trivial) (by rw[hk];rfl)
  (by intro b hb;right;rw[gD.1 hb];exact gAI _) (fun b hb _=>heap_alloc_old w _ b hb) (by simp) rfl rfl rfl
  (fun g=>⟨w.heap.size,vs,e,rfl,rfl,heap_alloc_new w _,hc.goes g⟩)
 refine⟨_,_,_,_,hK,h1.setT hd ?_,rfl,hp⟩;refine⟨?_,rfl⟩;simp[Ob.ref,q8j,mkFr]
theorem qvf(h:Inv c s a w val fp){o:Oper}{e:TypeId}(ho:o.op=.alloc e)(hd:∀d,o.dst=some d->d<a.tmps.size)
 {Q:Exit->Act->World->Prop} (hr:runP E (opP P A o) s l K=some r):o.wp P a w (Post c w K r) Q:=by
 unfold opP at hr;simp only[ho]at hr;split at hr
 ·rename_i d cs hd' hz;obtain⟨hk,l1,h1⟩:=q6h hr;simp only[runP]at h1;unfold zeroC at hz;split at hz
  ·rename_i i hi;split at hz
   ·rename_i z hzz;rcases q99 hz with⟨hb,hz⟩|⟨_,hz⟩
    ·cases hz;rw[gC]at hb;refine q3h (v:=.pointer (some ⟨w.heap.size,0,none⟩)) (w':=w.alloc (.cells z.cells e)) ?_ ?_
     ·simp[execOp,ho,Instr.alloc,zeroValue,typeInfo,hi,hzz,newVar,newRow]
     ·rw[hd'];exact qpb h (hd d hd') hk (qpx hb.1) h1
    ·cases hz
   ·cases hz
  ·cases hz
 ·simp[runP]at hr
theorem qmw{v:Value}(h:v.oneCell'=true):v.cells = #[v]:=by cases v <;> first|rfl|(simp[Value.oneCell']at h)
theorem qyj(h:Inv c s a w val fp){o:Oper}{e:TypeId}{x:Operand}(ho:o.op=.box e x)(hd:∀d,o.dst=some d->d<a.tmps.size)
 {Q:Exit->Act->World->Prop} (hr:runP E (opP P A o) s l K=some r):o.wp P a w (Post c w K r) Q:=by
 unfold opP at hr;simp only[ho]at hr;split at hr
 ·rename_i d hd';obtain⟨v,l1,h1,hv⟩:=q2x h hr
  have hrun:(execOp a.eval o).run P w=.ok (.value (.pointer (some ⟨w.heap.size,0,none⟩))) (w.alloc (.cells (a.eval x).cells e)):=by
   simp[execOp,ho,Instr.box,newVar,newRow]
  split at h1
  ·rename_i c1;obtain⟨hk,l2,h2⟩:=q6h h1;simp only[runP]at h2;refine q3h hrun ?_;rw[hd'];refine qpb h (hd d hd') hk ?_ h2;rw[qmw (CR.one hv)];refine⟨rfl,fun i c' v' hc hv'=>?_⟩;cases i with
   |zero=>simp at hc hv';subst hc;subst hv';exact hv
   |succ i=>simp at hc
  ·rename_i cs;obtain⟨hk,l2,h2⟩:=q6h h1;simp only[runP]at h2;refine q3h hrun ?_;rw[hd'];obtain⟨vs,e1,hv⟩:=hv;refine qpb h (hd d hd') hk ?_ h2;rw[e1];exact hv
  ·simp[runP]at h1
 ·simp[runP]at hr
end
end Ev
end
section
namespace Ev
open Go
section
variable {P:Program}{A:q7t}{E:Env}{c:Ctx}{s:St}{a:Act}{w:World}{val:Key->Value}{fp:Key->List Nat}
variable {l:Log}{K:St->Log->R}{r:T×List T}
theorem qui{f:Fr}{s:St}{c:C}{v:Value}(h:CR f s c v):CR f s (qwe c) v:=by
 cases c <;> first|exact h|exact h.1
def T.cell:T->Bool
 |.agg _|.tup _|.bx _=>false
 |_=>true
theorem q9p{t:TypeId}{x:T}{f:T->Prog}(hr:runP E (asTy P t x f) s l K=some r):∃l',runP E (f x) s l' K=some r/\(qdi P t=true->x.scalar=true)/\x.cell=true:=by
 unfold asTy at hr;unfold qdi;split at hr
 ·rename_i k _;rw[qdc]at hr;split at hr
  ·rename_i k' n;obtain⟨h1,h2⟩:=q1c hr;have:k'=k:=gAH h1;subst this;exact⟨_,h2,fun _=>rfl,rfl⟩
  ·cases hr
 ·rw[qkk]at hr;split at hr
  ·exact⟨_,hr,fun _=>rfl,rfl⟩
  ·cases hr
 ·rw[qn0]at hr;split at hr
  ·exact⟨_,hr,fun _=>rfl,rfl⟩
  ·cases hr
 ·rename_i e he;rw[q6f]at hr;split at hr
  ·rename_i sz cs;obtain⟨h1,h2⟩:=q1c hr;have:sz=q38 P e:=gE h1;subst this;exact⟨_,h2,fun h=>by simp[he]at h,rfl⟩
  ·cases hr
 ·rename_i he;rw[qtt]at hr;split at hr
  ·exact⟨_,hr,fun h=>by simp[he]at h,rfl⟩
  ·cases hr
 ·rename_i he;rw[qtn]at hr;split at hr
  ·exact⟨_,hr,fun h=>by simp[he]at h,rfl⟩
  ·cases hr
 ·cases hr
theorem qbi:∀{ts:List TypeId}{cells:List T}{q:Nat}{f:List C->Prog}{l:Log},runP E (qju P cells q ts f) s l K=some r->
 ∃cs l',runP E (f cs) s l' K=some r/\cs.length=ts.length/\∀j t,ts[j]?=some t->∃x,cells[q+j]?=some x/\cs[j]?=some (C.t x)/\(qdi P t=true->x.scalar=true)
 |[],cells,q,f,l,hr=>⟨[],l,hr,rfl,fun j t h=>by simp at h⟩
 |t::ts,cells,q,f,l,hr=>by
  rw[qju,qar]at hr;split at hr
  ·rename_i x hx;obtain⟨l1,h1,hs,_⟩:=q9p hr;obtain⟨cs,l2,h2,hl,hc⟩:=qbi h1;refine⟨C.t x::cs,l2,h2,by simp[hl],fun j t' hj=>?_⟩;cases j with
   |zero=>simp at hj;subst hj;exact⟨x,hx,rfl,hs⟩
   |succ j=>
    obtain⟨y,h3,h4,h5⟩:=hc j t' (by simpa using hj);exact⟨y,by rw[show q+(j+1)=q+1+j by omega];exact h3,by simpa using h4,h5⟩
  ·cases hr
theorem RB.scalar{w:World}{I J I' J':Nat->Prop}{x:T}{v:Value}(h:RB w I J x v)(hs:x.scalar=true):RB w I' J' x v:=by
 cases h with
 |int k n=>exact .int k n
 |bool b=>exact .bool b
 |str s=>exact .str s
 |_=>simp[T.scalar]at hs
theorem RO.scalar{w:World}{I J:Nat->Prop}{x:T}{v:Value}{F:List Nat}(h:RO w x v F)(hs:x.scalar=true):RB w I J x v:=by
 cases h with
 |int k n=>exact .int k n
 |bool b=>exact .bool b
 |str s=>exact .str s
 |nil hsz=>simp[T.scalar]at hs
 |sl _ _ _ _ _ _ _ _ _ _ _=>simp[T.scalar]at hs
 |hole _=>simp[T.scalar]at hs
 |mp _ _=>simp[T.scalar]at hs
theorem qr8{t:TypeId}(h:qe9 P t=true){j:Nat}{t':TypeId}(hj:(q26 P 8 t)[j]?=some t'):qdi P t'=true:=by
 unfold qe9 at h;exact gAL.1 h t' (List.mem_of_getElem? hj)
theorem qde{t:TypeId}(h:tyOk P t=true):∃i d,P.info? t=some i/\P.underlying t=some d/\i.size=(q26 P 8 t).length/\(q86 P t=false->(q26 P 8 t).length=1):=by
 unfold tyOk at h;simp only[gC,Bool.or_eq_true,Nat.beq_eq]at h;obtain⟨⟨⟨h1,h2⟩,h3⟩,h4⟩:=h;obtain⟨i,hi⟩:=gAM.1 h1;obtain⟨d,hd⟩:=gAM.1 h2;have hs:q38 P t=i.size:=by simp[q38,hi]
 refine⟨i,d,hi,hd,by rw[<- hs];exact h3,fun hn=>?_⟩;rcases h4 with h4|h4
 ·rw[hn]at h4;cases h4
 ·omega
theorem qjd{t:TypeId}{d:TypeDesc}(hd:P.underlying t=some d)(w:World):(isAgg t).run P w=.ok (q86 P t) w:=by
 unfold isAgg q86;simp only[Sem.run_bind,run_underlying hd,Result.andThen_ok,hd];cases d <;> rfl
def qnq(P:Program)(t:TypeId)(f:Nat->Value):Value:=if q86 P t then .agg ((List.range (q26 P 8 t).length).map f).toArray else f 0
theorem qbp(b o j:Nat):(⟨b,o,none⟩:Addr).add j=⟨b,o+j,none⟩:=by unfold Addr.add;split <;> simp_all
theorem qia{t:TypeId}(ht:tyOk P t=true){b o:Nat}{f:Nat->Value}(hf:∀j,j<(q26 P 8 t).length->w.cell? ⟨b,o+j,none⟩=some (f j)) :
 (loadVar t ⟨b,o,none⟩).run P w=.ok (qnq P t f) w:=by
 obtain⟨i,d,hi,hd,hs,h1⟩:=qde ht;unfold loadVar qnq;simp only[Sem.run_bind,qjd hd,Result.andThen_ok];cases hagg:q86 P t with
 |true=>
  have hsz:(Go.sizeOf t).run P w=.ok (q26 P 8 t).length w:=by simp[Go.sizeOf,typeInfo,hi,hs]
  have hl:=run_loadCells (P:=P) w ⟨b,o,none⟩ (q26 P 8 t).length f (fun j hj=>by rw[qbp];exact hf j hj);simp[hsz,hl]
 |false=>
  have:=hf 0 (by rw[h1 hagg];omega);simp at this;simp[this]
theorem qhd{f:Fr}{t:TypeId}(ht:tyOk P t=true){cs:List C}{g:Nat->Value}(hl:cs.length=(q26 P 8 t).length)
 (hc:∀j x,cs[j]?=some x->CR f s x (g j)):VR f s (mkV P t cs) (qnq P t g):=by
 obtain⟨i,d,hi,hd,hs,h1⟩:=qde ht;unfold mkV qnq;cases hagg:q86 P t with
 |true=>
  refine⟨_,rfl,by simp[hl],fun j x v hx hv=>?_⟩;have hj:j<(q26 P 8 t).length:=by rw[<- hl];exact(gB.1 hx).1
  simp[hj]at hv;subst hv;exact hc j x hx
 |false=>
  have hl1:=h1 hagg;rw[hl1]at hl;cases cs with
  |nil=>simp at hl
  |cons x r=>exact hc 0 x rfl
theorem qav{o:Oper}{t:TypeId}{x:Operand}(ho:o.op=.load t x)(ht:tyOk P t=true){b q:Nat}{f:Nat->Value}(hx:a.eval x=.pointer (some ⟨b,q,none⟩))
 (hf:∀j,j<(q26 P 8 t).length->w.cell? ⟨b,q+j,none⟩=some (f j)):(execOp a.eval o).run P w=.ok (.value (qnq P t f)) w:=by
 simp only[execOp,ho,Instr.loadAt,hx,Instr.sureAddr];simp[qia ht hf]
theorem qel(h:Inv c s a w val fp){o:Oper}{t:TypeId}{x:Operand}(ho:o.op=.load t x)(hd:∀d,o.dst=some d->d<a.tmps.size){d:Nat}(hd':o.dst=some d){v:V}(hv:VR (mkFr c w val fp) s v (a.eval x))
 {Q:Exit->Act->World->Prop} (h1:runP E (qt0 P d t v) s l K=some r):o.wp P a w (Post c w K r) Q:=by
 ·unfold qt0 at h1;rw[q1s]at h1;replace h1:=q1c h1;obtain⟨ht,h1⟩:=h1;split at h1
  ·rename_i k q;rw[q3s]at h1;obtain⟨hv1,hv2⟩:=hv;have hob:=h.obs k;split at h1
   ·rename_i cells hk;rw[hk]at hob hv1;obtain⟨b,cur,e,hu,hF,hh,hcs⟩:=hob;have hh:w.heap[b]?=some (.cells cur e (0,0)):=hh;rw[q1s]at h1;obtain⟨hle,h1⟩:=q1c h1;have hle:=gAH hle
    have hptr:a.eval x=.pointer (some ⟨b,0+q,none⟩):=by
     have:q8j (val k) q (a.eval x):=hv1;rw[show val k=_ from hu]at this;exact this
    have hget:∀j,j<(q26 P 8 t).length->cur[q+j]?=some (cur.getD (q+j) undef):=fun j hj=>by
     have:q+j<cur.size:=by have:=hcs.1;simp at this;omega
     simp[this]
    refine q3h (qav (f:=fun j=>cur.getD (q+j) undef) ho ht hptr fun j hj=>?_) ?_
    ·rw[gAJ,q48 hh];exact hget j hj
    ·rw[hd'];refine q36 (o:=o) h (hd d hd') (qhd ht (by simp;omega) fun j y hy=>?_) h1;rw[gAC,gP]at hy;obtain⟨y,hy,rfl⟩:=hy;refine qui ?_;rw[gT]at hy;split at hy
     ·rename_i hj;rw[gV]at hy;refine hcs.2 (q+j) y _ hy ?_;simpa using hget j hj
     ·cases hy
   ·rename_i own deep sz cells hk;rw[hk]at hob hv1;rw[q8q,q92]at h1;rcases q99 h1 with⟨_,h1⟩|⟨hnd,h1⟩
    ·cases h1
    obtain⟨cs,l2,h2,hl,hcs⟩:=qbi h1;rw[q4r,q49]at h2
    have key:∃b o,(a.eval x=.pointer (some ⟨b,o+q,none⟩))/\∃vs:Nat->Value,(∀i,i<cells.length->w.cell? ⟨b,o+i,none⟩=some (vs i))/\
     ∀j y,j<(q26 P 8 t).length->cells[q+j]?=some y->RB w (inI c w fp) (inJ c w fp) y (vs (q+j)):=by
     have hp:q8j (val k) q (a.eval x):=hv1
     have nilp:∀{a' l' c'},val k=.slice a' l' c'->cells=[]->∃b o,(a.eval x=.pointer (some ⟨b,o+q,none⟩))/\∃vs:Nat->Value,(∀i,i<cells.length->w.cell? ⟨b,o+i,none⟩=some (vs i))/\
      ∀j y,j<(q26 P 8 t).length->cells[q+j]?=some y->RB w (inI c w fp) (inJ c w fp) y (vs (q+j)):=by
      intro a' l' c' he hce;subst hce;rw[he]at hp;cases a' with
      |none=>exact hp.elim
      |some a'=>
       obtain⟨b,o,sp⟩:=a';cases sp with
       |none=>exact⟨b,o,hp,fun _=>default,by simp,by simp⟩
       |some sp=>exact hp.elim
     cases own with
     |false=>
      have hob1:=hob.1;generalize hu:val k=u at hob1;cases hob1 with
      |sl vs hsz hlen hcap ha hc=>
       by_cases hne:cells=[]
       ·exact nilp hu hne
       ·obtain⟨b,o,ha',hI,hcell⟩:=ha hne;subst ha';rw[hu]at hp;exact⟨b,o,hp,vs,hcell,fun j y _ hy=>hc _ _ hy⟩
     |true=>
      cases deep with
      |true=>
       have hflat:qe9 P t=true:=by simpa[qv5]using hnd
       have hob':RO w (.sl sz cells) (val k) (fp k):=hob;generalize hu:val k=u at hob';generalize hF:fp k=F at hob';cases hob' with
       |nil hsz=>exact nilp hu rfl
       |sl vs fs hsz hg hlen hcap hmax hcur hvv hc hnd'=>
        rename_i g len cap cur e;rw[hu]at hp;refine⟨g,0,hp,vs,fun i hi=>by rw[gAJ,q48 hg];exact hvv i hi,fun j y hj hy=>?_⟩;obtain⟨y',hy1,hy2,hy3⟩:=hcs j _ (gA hj);rw[hy]at hy1;cases hy1;exact(hc _ _ hy).scalar (hy3 (qr8 hflat (gA hj)))
      |false=>
       rcases hob with⟨hsz,hce,hF,a',hu⟩|⟨g,len,cap,cur,e,vs,hu,hF,hsz,hh,r1,r2,r3,r4,r5,r6⟩
       ·exact nilp hu hce
       ·rw[show val k=_ from hu]at hp;have hh:w.heap[g]?=some (.cells cur e (0,0)):=hh;exact⟨g,0,hp,vs,fun i hi=>by rw[gAJ,q48 hh];exact r5 i hi,fun j y _ hy=>r6 _ _ hy⟩
    obtain⟨b,o',hptr,vs,hcell,hrb⟩:=key;refine q3h (qav (f:=fun j=>vs (q+j)) ho ht hptr fun j hj=>?_) ?_
    ·obtain⟨y,hy1,_⟩:=hcs j _ (gA hj);rw[Nat.add_assoc];exact hcell _ (gB.1 hy1).1
    ·rw[hd'];refine q36 (o:=o) h (hd d hd') (qhd ht hl fun j y hy=>?_) h2;have hj:j<(q26 P 8 t).length:=by rw[<- hl];exact(gB.1 hy).1
     obtain⟨z,hz1,hz2,_⟩:=hcs j _ (gA hj);rw[hz2]at hy;cases hy;exact hrb j z hj hz1
   ·cases h1
  ·rename_i cells q;obtain⟨cs,l2,h2,hl,hcs⟩:=qbi h1;rw[q4r,q49]at h2;have hv':RB w (inI c w fp) (inJ c w fp) (.rref cells q) (a.eval x):=hv;generalize hu:a.eval x=u at hv';cases hv' with
   |rref vs hJ hcell hc=>
    refine q3h (qav (f:=fun j=>vs (q+j)) ho ht hu fun j hj=>?_) ?_
    ·obtain⟨y,hy1,_⟩:=hcs j _ (gA hj);rw[Nat.add_assoc];exact hcell _ (gB.1 hy1).1
    ·rw[hd'];refine q36 (o:=o) h (hd d hd') (qhd ht hl fun j y hy=>?_) h2;have hj:j<(q26 P 8 t).length:=by rw[<- hl];exact(gB.1 hy).1
     obtain⟨z,hz1,hz2,_⟩:=hcs j _ (gA hj);rw[hz2]at hy;cases hy;exact hc _ _ hz1
  ·cases h1
theorem VR_c{f:Fr}{x:C}{v:Value}(h:CR f s x v):VR f s (.one x) v:=h
theorem VR_t{f:Fr}{x:T}{v:Value}(h:RB f.w f.I f.J x v):VR f s (.one (.t x)) v:=h
theorem qxl(h:Inv c s a w val fp){o:Oper}{op:UnOp}{t:TypeId}{x:Operand}(ho:o.op=.unOp op t x)(hd:∀d,o.dst=some d->d<a.tmps.size)
 {Q:Exit->Act->World->Prop} (hr:runP E (opP P A o) s l K=some r):o.wp P a w (Post c w K r) Q:=by
 unfold opP at hr;simp only[ho]at hr;obtain⟨v,l1,h1,hv⟩:=q2x h hr;split at h1
 ·rename_i b;have hb:=RB.bool_inv hv;obtain⟨d,l2,hd',h2⟩:=q4p h1;refine q3h (v:=.bool (!b)) (w':=w) (by simp[execOp,ho,hb,Op.unary]) ?_;rw[hd'];exact q36 (o:=o) h (hd d hd') (VR_t (RB.bool _)) h2
 ·rename_i k n;have hb:=RB.int_inv hv;obtain⟨d,l2,hd',h2⟩:=q4p h1;refine q3h (v:=.int k (k.wrap (0-n))) (w':=w) (by simp[execOp,ho,hb,Op.unary,Op.intArith]) ?_;rw[hd'];exact q36 (o:=o) h (hd d hd') (VR_t (RB.int _ _)) h2
 ·cases h1
theorem qme{op:BinOp}{k:IntKind}{m n:Int}{f:T->Prog}(hr:runP E (qi7 op k m n f) s l K=some r) :
 ∃y v l',runP E (f y) s l' K=some r/\RB w (inI c w fp) (inJ c w fp) y v/\∀t,(binOp op t (.int k m) (.int k n)).run P w=.ok v w:=by
 unfold qi7 at hr
 have bound:∀{v:Value}{z:T}{b:Bool},(bif b then runP E .fail s l K else runP E (f z) s l K)=some r->b=false/\runP E (f z) s l K=some r:=by
  intro v z b hh;cases b
  ·exact⟨rfl,hh⟩
  ·cases hh
 split at hr
 case h_4=>
  rw[q8q]at hr;obtain⟨hb,hr⟩:=bound (v:=.nilFunc) hr;have hb:¬ n=0:=of_decide_eq_false hb;exact⟨_,.int k (k.wrap (m.tdiv n)),_,hr,RB.int _ _,fun t=>by simp[binOp,Op.intDiv,hb]⟩
 case h_5=>
  rw[q8q]at hr;obtain⟨hb,hr⟩:=bound (v:=.nilFunc) hr;have hb:¬ n=0:=of_decide_eq_false hb;exact⟨_,.int k (m.tmod n),_,hr,RB.int _ _,fun t=>by simp[binOp,Op.intDiv,hb]⟩
 case h_9=>
  rw[q8q]at hr;obtain⟨hb,hr⟩:=bound (v:=.nilFunc) hr;have hb:¬ n<0:=of_decide_eq_false hb;exact⟨_,.int k (k.wrap (m*2 ^ (min n.toNat k.bits))),_,hr,RB.int _ _,fun t=>by simp[binOp,Op.shift,hb]⟩
 case h_10=>
  rw[q8q]at hr;obtain⟨hb,hr⟩:=bound (v:=.nilFunc) hr;have hb:¬ n<0:=of_decide_eq_false hb;exact⟨_,.int k (m.fdiv (2 ^ (min n.toNat k.bits))),_,hr,RB.int _ _,fun t=>by simp[binOp,Op.shift,hb]⟩
 case h_1=>exact⟨_,_,_,hr,RB.int _ _,fun t=>by simp[binOp,Op.intArith]⟩
 case h_2=>exact⟨_,_,_,hr,RB.int _ _,fun t=>by simp[binOp,Op.intArith]⟩
 case h_3=>exact⟨_,_,_,hr,RB.int _ _,fun t=>by simp[binOp,Op.intArith]⟩
 case h_6=>exact⟨_,_,_,hr,RB.int _ _,fun t=>by simp[binOp,Op.intBits]⟩
 case h_7=>exact⟨_,_,_,hr,RB.int _ _,fun t=>by simp[binOp,Op.intBits]⟩
 case h_8=>exact⟨_,_,_,hr,RB.int _ _,fun t=>by simp[binOp,Op.intBits]⟩
 case h_11=>exact⟨_,_,_,hr,RB.bool _,fun t=>by simp[binOp,Op.intCmp]⟩
 case h_12=>exact⟨_,_,_,hr,RB.bool _,fun t=>by simp[binOp,Op.intCmp]⟩
 case h_13=>exact⟨_,_,_,hr,RB.bool _,fun t=>by simp[binOp,Op.intCmp]⟩
 case h_14=>exact⟨_,_,_,hr,RB.bool _,fun t=>by simp[binOp,Op.intCmp]⟩
 case h_15=>exact⟨_,_,_,hr,RB.bool _,fun t=>by simp[binOp,Op.intCmp]⟩
 case h_16=>exact⟨_,_,_,hr,RB.bool _,fun t=>by simp[binOp,Op.intCmp]⟩
 case h_17=>cases hr
theorem qpe(o:BinOp)(t:TypeId)(x y:Operand)(k k':IntKind)(m n:Int):(eqGuard o t x y (.int k m) (.int k' n)).run P w=.ok () w:=by
 cases o <;> simp[eqGuard]
theorem qmi(o:BinOp)(t:TypeId)(x y:Operand)(m n:Bool):(eqGuard o t x y (.bool m) (.bool n)).run P w=.ok () w:=by
 cases o <;> simp[eqGuard]
theorem qp9(o:BinOp)(t:TypeId)(x y:Operand)(m n:ByteArray):(eqGuard o t x y (.string m) (.string n)).run P w=.ok () w:=by
 cases o <;> simp[eqGuard]
theorem qe3{t:TypeId}(h:P.underlying t=some .bool)(m n:Bool):(Op.equal t (.bool m) (.bool n)).run P w=.ok (m==n) w:=run_equalIn_bool' w 9999 t m n h
theorem qro{op:BinOp}{t:TypeId}{x y:V}{u v:Value}{f:T->Prog}(hx:VR (mkFr c w val fp) s x u)(hy:VR (mkFr c w val fp) s y v)(hr:runP E (binP P op t x y f) s l K=some r) :
 ∃z vz l',runP E (f z) s l' K=some r/\RB w (inI c w fp) (inJ c w fp) z vz/\(binOp op t u v).run P w=.ok vz w/\∀p q,(eqGuard op t p q u v).run P w=.ok () w:=by
 unfold binP at hr;split at hr
 ·rename_i x k' x' y m' y';rw[q1s]at hr;replace hr:=q1c hr;obtain⟨hc,hr⟩:=hr;rw[gC]at hc;obtain⟨ht,hk'⟩:=hc;have hk':=gAH hk';subst hk';obtain⟨us,rfl,hus⟩:=hx;obtain⟨vs,rfl,hvs⟩:=hy
  have two:∀{us:Array Value}{a:ByteArray}{b:Int},CRs (mkFr c w val fp) s [.t (.str a),.t (.int k' b)] us.toList->us = #[.string a,.int k' b]:=fun {us a b} h=>by
   have hl:us.size=2:=by have:=h.1;simpa using this.symm
   have g0:us[0]?=some (.string a):=by
    have h0:us[0]?=some us[0]:=by simp[hl]
    rw[h0,RB.str_inv (h.2 0 _ us[0] rfl (by simp[hl]))]
   have g1:us[1]?=some (.int k' b):=by
    have h0:us[1]?=some us[1]:=by simp[hl]
    rw[h0,RB.int_inv (h.2 1 _ us[1] rfl (by simp[hl]))]
   apply Array.ext_getElem?;intro i
   match i with
   |0=>exact g0
   |1=>exact g1
   |i+2=>rw[Array.getElem?_eq_none (by omega),Array.getElem?_eq_none (by simp)]
  rw[two hus,two hvs];unfold qwc at ht;rw[gC,gC,Bool.not_eq_true',Bool.not_eq_true']at ht;obtain⟨⟨hst,hgu⟩,ht⟩:=ht;split at ht
  case h_2=>cases ht
  rename_i fs hfs;split at ht
  case h_2=>cases ht
  rename_i f1 f2 hl;simp only[gC]at ht;obtain⟨⟨⟨⟨⟨n1,n2⟩,o1⟩,o2⟩,t1⟩,t2⟩:=ht;have n1:f1.name≠"_":=by simpa using n1
  have n2:f2.name≠"_":=by simpa using n2
  have o1:f1.offset=0:=gE o1;have o2:f2.offset=1:=gE o2
  have it:∀{t:TypeId},qpz P t=true->∃kk,P.underlying t=some (.int kk):=fun {t} h=>by
   unfold qpz at h;split at h
   ·exact⟨_,by assumption⟩
   ·cases h
  have t1:P.underlying f1.type=some .string:=by
   unfold qi4 at t1;split at t1
   ·assumption
   ·cases t1
  obtain⟨k2,t2⟩:=it t2;have hfo:P.fieldsOf t=fs:=by unfold Program.fieldsOf;rw[hfs]
  have pt:∀(t:TypeId)(kk:IntKind)(cs:Array Value)(i:Nat)(v:Value),P.underlying t=some (.int kk)->cs[i]?=some v->(part t cs i).run P w=.ok v w:=fun t kk cs i v h hi=>by
   simp[part,isAgg,run_underlying h,hi]
  have ps:∀(t:TypeId)(cs:Array Value)(i:Nat)(v:Value),P.underlying t=some .string->cs[i]?=some v->(part t cs i).run P w=.ok v w:=fun t cs i v h hi=>by
   simp[part,isAgg,run_underlying h,hi]
  have heq:(Op.equalIn 10000 t (.agg #[.string x,.int k' x']) (.agg #[.string y,.int k' y'])).run P w=.ok (x.toList==y.toList&&x'==y') w:=by
   rw[run_equalIn_agg w 9999 t _ _ (by rw[hfo];exact hfs) hst,hfo,hl];simp only[Op.eqFields,if_pos n1,if_pos n2,Sem.run_bind,o1,o2];rw[ps f1.type #[.string x,.int k' x'] 0 (.string x) t1 rfl,Result.andThen_ok,ps f1.type #[.string y,.int k' y'] 0 (.string y) t1 rfl,Result.andThen_ok,run_equalIn_string w 9998 f1.type x y t1,Result.andThen_ok];cases hxy:(x.toList==y.toList)with
   |false=>simp
   |true=>
    simp only[Bool.not_true,Bool.false_eq_true,if_false,Sem.run_bind];rw[pt f2.type k2 #[.string x,.int k' x'] 1 (.int k' x') t2 rfl,Result.andThen_ok,pt f2.type k2 #[.string y,.int k' y'] 1 (.int k' y') t2 rfl,Result.andThen_ok,run_equalIn_int w 9998 f2.type k' k2 x' y' t2,Result.andThen_ok];cases hxy':(x'==y') <;> simp
  have hgd:∀p q,(eqGuard op t p q (.agg #[.string x,.int k' x']) (.agg #[.string y,.int k' y'])).run P w=.ok () w:=fun p q=>run_eqGuard_agg w op t p q _ _ hgu;split at hr
  ·exact⟨_,_,_,hr,RB.bool _,by rw[run_eql_struct,heq];rfl,hgd⟩
  ·exact⟨_,_,_,hr,RB.bool _,by rw[run_neq_struct,heq];rfl,hgd⟩
  ·cases hr
 ·rename_i k x k' x' m y m' y';rw[q1s]at hr;replace hr:=q1c hr;obtain⟨hc,hr⟩:=hr;rw[gC,gC]at hc;obtain⟨⟨ht,hk⟩,hk'⟩:=hc;have hk:=gAH hk;have hk':=gAH hk';subst hk;subst hk';obtain⟨us,rfl,hus⟩:=hx;obtain⟨vs,rfl,hvs⟩:=hy
  have two:∀{us:Array Value}{a b:Int},CRs (mkFr c w val fp) s [.t (.int k a),.t (.int k' b)] us.toList->us = #[.int k a,.int k' b]:=fun {us a b} h=>by
   have hl:us.size=2:=by have:=h.1;simpa using this.symm
   have g0:us[0]?=some (.int k a):=by
    have h0:us[0]?=some us[0]:=by simp[hl]
    rw[h0,RB.int_inv (h.2 0 _ us[0] rfl (by simp[hl]))]
   have g1:us[1]?=some (.int k' b):=by
    have h0:us[1]?=some us[1]:=by simp[hl]
    rw[h0,RB.int_inv (h.2 1 _ us[1] rfl (by simp[hl]))]
   apply Array.ext_getElem?;intro i
   match i with
   |0=>exact g0
   |1=>exact g1
   |i+2=>rw[Array.getElem?_eq_none (by omega),Array.getElem?_eq_none (by simp)]
  rw[two hus,two hvs];unfold qtz at ht;rw[gC,gC,Bool.not_eq_true',Bool.not_eq_true']at ht;obtain⟨⟨hst,hgu⟩,ht⟩:=ht;split at ht
  case h_2=>cases ht
  rename_i fs hfs;split at ht
  case h_2=>cases ht
  rename_i f1 f2 hl;simp only[gC]at ht;obtain⟨⟨⟨⟨⟨n1,n2⟩,o1⟩,o2⟩,t1⟩,t2⟩:=ht;have n1:f1.name≠"_":=by simpa using n1
  have n2:f2.name≠"_":=by simpa using n2
  have o1:f1.offset=0:=gE o1;have o2:f2.offset=1:=gE o2
  have it:∀{t:TypeId},qpz P t=true->∃kk,P.underlying t=some (.int kk):=fun {t} h=>by
   unfold qpz at h;split at h
   ·exact⟨_,by assumption⟩
   ·cases h
  obtain⟨k1,t1⟩:=it t1;obtain⟨k2,t2⟩:=it t2;have hfo:P.fieldsOf t=fs:=by unfold Program.fieldsOf;rw[hfs]
  have pt:∀(t:TypeId)(kk:IntKind)(cs:Array Value)(i:Nat)(v:Value),P.underlying t=some (.int kk)->cs[i]?=some v->(part t cs i).run P w=.ok v w:=fun t kk cs i v h hi=>by
   simp[part,isAgg,run_underlying h,hi]
  have heq:(Op.equalIn 10000 t (.agg #[.int k x,.int k' x']) (.agg #[.int k y,.int k' y'])).run P w=.ok (x==y&&x'==y') w:=by
   rw[run_equalIn_agg w 9999 t _ _ (by rw[hfo];exact hfs) hst,hfo,hl];simp only[Op.eqFields,if_pos n1,if_pos n2,Sem.run_bind,o1,o2];rw[pt f1.type k1 #[.int k x,.int k' x'] 0 (.int k x) t1 rfl,Result.andThen_ok,pt f1.type k1 #[.int k y,.int k' y'] 0 (.int k y) t1 rfl,Result.andThen_ok,run_equalIn_int w 9998 f1.type k k1 x y t1,Result.andThen_ok];cases hxy:(x==y)with
   |false=>simp
   |true=>
    simp only[Bool.not_true,Bool.false_eq_true,if_false,Sem.run_bind];rw[pt f2.type k2 #[.int k x,.int k' x'] 1 (.int k' x') t2 rfl,Result.andThen_ok,pt f2.type k2 #[.int k y,.int k' y'] 1 (.int k' y') t2 rfl,Result.andThen_ok,run_equalIn_int w 9998 f2.type k' k2 x' y' t2,Result.andThen_ok];cases hxy':(x'==y') <;> simp
  have hgd:∀p q,(eqGuard op t p q (.agg #[.int k x,.int k' x']) (.agg #[.int k y,.int k' y'])).run P w=.ok () w:=fun p q=>run_eqGuard_agg w op t p q _ _ hgu;split at hr
  ·exact⟨_,_,_,hr,RB.bool _,by rw[run_eql_struct,heq];rfl,hgd⟩
  ·exact⟨_,_,_,hr,RB.bool _,by rw[run_neq_struct,heq];rfl,hgd⟩
  ·cases hr
 ·rename_i k m k' n;have hu:=RB.int_inv hx;have hv:=RB.int_inv hy;subst hu;subst hv;have heq:∀o p q,(eqGuard o t p q (.int k m) (.int k' n)).run P w=.ok () w:=fun o p q=>qpe _ _ _ _ _ _ _ _;split at hr
  ·unfold qi7 at hr;simp only[q8q,q92]at hr;rcases q99 hr with⟨_,hr⟩|⟨hb,hr⟩
   ·cases hr
   ·have hb:¬ n<0:=of_decide_eq_false hb;exact⟨_,.int k (k.wrap (m*2 ^ (min n.toNat k.bits))),_,hr,RB.int _ _,by simp[binOp,Op.shift,hb],heq _⟩
  ·unfold qi7 at hr;simp only[q8q,q92]at hr;rcases q99 hr with⟨_,hr⟩|⟨hb,hr⟩
   ·cases hr
   ·have hb:¬ n<0:=of_decide_eq_false hb;exact⟨_,.int k (m.fdiv (2 ^ (min n.toNat k.bits))),_,hr,RB.int _ _,by simp[binOp,Op.shift,hb],heq _⟩
  ·rw[q1s]at hr;replace hr:=q1c hr;obtain⟨hk,hr⟩:=hr;have hk:=gAH hk;subst hk;obtain⟨z,vz,l',h1,h2,h3⟩:=qme (c:=c) (w:=w) (fp:=fp) (P:=P) hr;exact⟨z,vz,l',h1,h2,h3 t,heq _⟩
 ·rename_i m n;have hu:=RB.bool_inv hx;have hv:=RB.bool_inv hy;subst hu;subst hv;have heq:∀o p q,(eqGuard o t p q (.bool m) (.bool n)).run P w=.ok () w:=fun o p q=>qmi _ _ _ _ _ _;rw[q1s]at hr;replace hr:=q1c hr;obtain⟨hk,hr⟩:=hr
  have ht:P.underlying t=some .bool:=by
   unfold qsg at hk;split at hk
   ·assumption
   ·cases hk
  split at hr
  ·exact⟨_,_,_,hr,RB.bool _,by simp[binOp,qe3 ht],heq _⟩
  ·exact⟨_,_,_,hr,RB.bool _,by simp[binOp,qe3 ht],heq _⟩
  ·cases hr
 ·rename_i m n;have hu:=RB.str_inv hx;have hv:=RB.str_inv hy;subst hu;subst hv;have heq:∀o p q,(eqGuard o t p q (.string m) (.string n)).run P w=.ok () w:=fun o p q=>qp9 _ _ _ _ _ _;split at hr
  ·exact⟨_,_,_,hr,RB.bool _,by simp[binOp,Op.stringOp],heq _⟩
  ·exact⟨_,_,_,hr,RB.bool _,by simp[binOp,Op.stringOp],heq _⟩
  ·rw[q1s]at hr;replace hr:=q1c hr;obtain⟨hk,hr⟩:=hr;have hk:=gAH hk
   have hn:¬(((m.size+n.size:Nat):Int)>IntKind.i64.max):=by
    have:IntKind.i64.max=9223372036854775807:=rfl;rw[this];omega
   exact⟨_,_,_,hr,RB.str _,by simp only[binOp,Op.stringOp,if_neg hn];rfl,heq _⟩
  ·cases hr
 ·cases hr
theorem qvd(h:Inv c s a w val fp){o:Oper}{op:BinOp}{t t':TypeId}{x y:Operand}(ho:o.op=.binOp op t x y t')(hd:∀d,o.dst=some d->d<a.tmps.size)
 {Q:Exit->Act->World->Prop} (hr:runP E (opP P A o) s l K=some r):o.wp P a w (Post c w K r) Q:=by
 unfold opP at hr;simp only[ho]at hr;obtain⟨u,l1,h1,hu⟩:=q2x h hr;obtain⟨v,l2,h2,hv⟩:=q2x h h1;obtain⟨z,vz,l3,h3,hz,hrun,hg⟩:=qro hu hv h2;obtain⟨d,l4,hd',h4⟩:=q4p h3;refine q3h (v:=vz) (w':=w) (by simp[execOp,ho,hg,hrun]) ?_;rw[hd'];exact q36 (o:=o) h (hd d hd') (VR_t hz) h4
theorem q6y{f:Fr}{s:St}{k:Key}{q:Nat}{v:Value}(h:CR f s (.ptr k q) v){o:Ob}(ho:s.getO k=o)(hl:(∃cs,o=.box cs)\/(∃x y z cs,o=.arr x y z cs)\/∃x y z,o=.opn x y z):q8j (f.val k) q v:=by
 have h1:=h.1;rw[ho]at h1;rcases hl with⟨cs,rfl⟩|⟨x,y,z,cs,rfl⟩|⟨x,y,z,rfl⟩ <;> exact h1
theorem qb4{u v:Value}{q n:Nat}(h:q8j u q v):∃b o,v=.pointer (some ⟨b,o,none⟩)/\q8j u (q+n) (.pointer (some ⟨b,o+n,none⟩)):=by
 unfold q8j at h;split at h
 ·rename_i b o;exact⟨b,o+q,h,by simp[q8j,Nat.add_assoc]⟩
 ·rename_i b o l c;exact⟨b,o+q,h,by simp[q8j,Nat.add_assoc]⟩
 ·exact h.elim
theorem qjz{f:Fr}{s:St}{k:Key}{q:Nat}{a:Option Addr}(h:q8j (f.val k) q (.pointer a)){o:Ob}(ho:s.getO k=o)(hl:(∃cs,o=.box cs)\/(∃x y z cs,o=.arr x y z cs)\/∃x y z,o=.opn x y z):CR f s (.ptr k q) (.pointer a):=by
 refine⟨?_,rfl⟩;rw[ho];rcases hl with⟨cs,rfl⟩|⟨x,y,z,cs,rfl⟩|⟨x,y,z,rfl⟩ <;> exact h
theorem qof(h:Inv c s a w val fp){o:Oper}{x:Operand}(ho:o.op=.nilCheck x)(hd:∀d,o.dst=some d->d<a.tmps.size)
 {Q:Exit->Act->World->Prop} (hr:runP E (opP P A o) s l K=some r):o.wp P a w (Post c w K r) Q:=by
 unfold opP at hr;simp only[ho]at hr;obtain⟨v,l1,h1,hv⟩:=q2x h hr
 have go:∀{y:V}{l1:Log},runP E (setD o.dst y) s l1 K=some r->VR (mkFr c w val fp) s y (a.eval x)->(∃b q,a.eval x=.pointer (some ⟨b,q,none⟩))->o.wp P a w (Post c w K r) Q:=by
  intro y l1 h1 hy ⟨b,q,hp⟩;obtain⟨d,l2,hd',h2⟩:=q4p h1;refine q3h (v:=a.eval x) (w':=w) (by simp[execOp,ho,hp]) ?_;rw[hd'];exact q36 (o:=o) h (hd d hd') hy h2
 split at h1
 ·rename_i k q;rw[q3s]at h1;split at h1
  ·rename_i cs hk;obtain⟨b,o',hp,_⟩:=qb4 (n:=0) (q6y hv hk (.inl ⟨_,rfl⟩));exact go h1 hv ⟨b,o',hp⟩
  ·rename_i hk;obtain⟨b,o',hp,_⟩:=qb4 (n:=0) (q6y hv hk (.inr (.inl ⟨_,_,_,_,rfl⟩)));exact go h1 hv ⟨b,o',hp⟩
  ·cases h1
 ·rename_i cells q;have hv':RB w (inI c w fp) (inJ c w fp) (.rref cells q) (a.eval x):=hv;generalize hu:a.eval x=u at hv';cases hv' with
  |rref vs hJ hcell hc=>exact go h1 hv ⟨_,_,hu⟩
 ·cases h1
theorem qpg{t:TypeId}{f off size:Nat}(h:qq7 P t f=some (off,size)):∃fs g i,P.underlying t=some (.struct fs)/\fs[f]?=some g/\P.info? g.type=some i/\i.size≠0/\off=g.offset:=by
 unfold qq7 at h;split at h
 ·rename_i fs hfs;split at h
  ·rename_i g hg;split at h
   ·rename_i i hi;cases hz:Nat.beq i.size 0 with
    |true=>rw[hz]at h;cases h
    |false=>
     rw[hz]at h;cases h;refine⟨fs,g,i,hfs,hg,hi,?_,rfl⟩;intro e;rw[e]at hz;cases hz
   ·cases h
  ·cases h
 ·cases h
theorem qmc(h:Inv c s a w val fp){o:Oper}{t:TypeId}{x:Operand}{f:Nat}(ho:o.op=.fieldAddr t x f)(hd:∀d,o.dst=some d->d<a.tmps.size)
 {Q:Exit->Act->World->Prop} (hr:runP E (opP P A o) s l K=some r):o.wp P a w (Post c w K r) Q:=by
 unfold opP at hr;simp only[ho]at hr;obtain⟨v,l1,h1,hv⟩:=q2x h hr
 have hrun:∀{off size b q:Nat},qq7 P t f=some (off,size)->a.eval x=.pointer (some ⟨b,q,none⟩)->(execOp a.eval o).run P w=.ok (.value (.pointer (some ⟨b,q+off,none⟩))) w:=by
  intro off size b q hf hp;obtain⟨fs,g,i,e1,e2,e3,e4,rfl⟩:=qpg hf;simp[execOp,ho,Instr.fieldAt,run_underlying e1,e2,hp,Instr.sureAddr,fieldPlace,Go.sizeOf,typeInfo,e3,e4,qbp]
 split at h1
 ·rename_i k q off size hf;rw[q3s]at h1;split at h1
  ·rename_i cs hk;obtain⟨b,o',hp,hq⟩:=qb4 (n:=off) (q6y hv hk (.inl ⟨_,rfl⟩));obtain⟨d,l2,hd',h2⟩:=q4p h1;refine q3h (hrun hf hp) ?_;rw[hd'];exact q36 (o:=o) h (hd d hd') (VR_c (qjz hq hk (.inl ⟨_,rfl⟩))) h2
  ·rename_i hk;obtain⟨b,o',hp,hq⟩:=qb4 (n:=off) (q6y hv hk (.inr (.inl ⟨_,_,_,_,rfl⟩)));obtain⟨d,l2,hd',h2⟩:=q4p h1;refine q3h (hrun hf hp) ?_;rw[hd'];exact q36 (o:=o) h (hd d hd') (VR_c (qjz hq hk (.inr (.inl ⟨_,_,_,_,rfl⟩)))) h2
  ·rename_i hk;obtain⟨b,o',hp,hq⟩:=qb4 (n:=off) (q6y hv hk (.inr (.inr ⟨_,_,_,rfl⟩)));obtain⟨d,l2,hd',h2⟩:=q4p h1;refine q3h (hrun hf hp) ?_;rw[hd'];exact q36 (o:=o) h (hd d hd') (VR_c (qjz hq hk (.inr (.inr ⟨_,_,_,rfl⟩)))) h2
  ·cases h1
 ·rename_i cells q off size hf;have hv':RB w (inI c w fp) (inJ c w fp) (.rref cells q) (a.eval x):=hv;obtain⟨d,l2,hd',h2⟩:=q4p h1;generalize hu:a.eval x=u at hv';cases hv' with
  |rref vs hJ hcell hc=>
   refine q3h (hrun hf hu) ?_;rw[hd'];refine q36 (o:=o) h (hd d hd') (VR_t ?_) h2;rw[Nat.add_assoc];exact RB.rref vs hJ hcell hc
 ·rename_i cells q off size hf;have hv':RB w (fun b=>inI c w fp b\/Lent (mkFr c w val fp) s b) (fun b=>inJ c w fp b\/Lent (mkFr c w val fp) s b) (.rref cells q) (a.eval x):=hv;obtain⟨d,l2,hd',h2⟩:=q4p h1;generalize hu:a.eval x=u at hv';cases hv' with
  |rref vs hJ hcell hc=>
   refine q3h (hrun hf hu) ?_;rw[hd'];refine q36 (o:=o) h (hd d hd') ?_ h2;show RB w (fun b=>inI c w fp b\/Lent (mkFr c w val fp) s b) (fun b=>inJ c w fp b\/Lent (mkFr c w val fp) s b) (.rref cells (q+off)) _;rw[Nat.add_assoc];exact RB.rref vs hJ hcell hc
 ·cases h1
theorem qeb(h:Inv c s a w val fp):∀{xs:List Operand}{f:List V->Prog}{l:Log},runP E (qsw xs f) s l K=some r->
 ∃vs l',runP E (f vs) s l' K=some r/\vs.length=xs.length/\∀(i:Nat)(x:Operand)(v:V),xs[i]?=some x->vs[i]?=some v->VR (mkFr c w val fp) s v (a.eval x)
 |[],f,l,hr=>⟨[],l,hr,rfl,by simp⟩
 |x::xs,f,l,hr=>by
  rw[qsw]at hr;obtain⟨v,l1,h1,hv⟩:=q2x h hr;obtain⟨vs,l2,h2,hl,hvs⟩:=qeb h h1;refine⟨v::vs,l2,h2,by simp[hl],fun i y u hy hu=>?_⟩;cases i with
  |zero=>simp at hy hu;subst hy;subst hu;exact hv
  |succ i=>exact hvs i y u (by simpa using hy) (by simpa using hu)
theorem qke:∀{vs:List V}{cs:List C},qjn vs=some cs->vs.length=cs.length/\∀(i:Nat)(v:V)(c:C),vs[i]?=some v->cs[i]?=some c->v=V.one c
 |[],cs,h=>by simp[qjn]at h;subst h;simp
 |.one c::r,cs,h=>by
  simp only[qjn,gP]at h;obtain⟨r',h1,rfl⟩:=h;obtain⟨h2,h3⟩:=qke h1;refine⟨by simp[h2],fun i v c' hv hc=>?_⟩;cases i with
  |zero=>simp at hv hc;rw[<- hv,<- hc]
  |succ i=>exact h3 i v c' (by simpa using hv) (by simpa using hc)
 |.agg _::_,cs,h=>by simp[qjn]at h
 |.tup _::_,cs,h=>by simp[qjn]at h
 |.clo _ _::_,cs,h=>by simp[qjn]at h
 |.skip::_,cs,h=>by simp[qjn]at h
 |.any::_,cs,h=>by simp[qjn]at h
theorem qov(h:Inv c s a w val fp){o:Oper}{g:FuncId}{first caps:Array Operand}(ho:o.op=.makeFunc (.func g) first caps)(hd:∀d,o.dst=some d->d<a.tmps.size)
 {Q:Exit->Act->World->Prop} (hr:runP E (opP P A o) s l K=some r):o.wp P a w (Post c w K r) Q:=by
 unfold opP at hr;simp only[ho]at hr;split at hr
 ·rename_i d hd';cases hf:Nat.beq first.size 0 with
  |false=>rw[hf]at hr;cases hr
  |true=>
   rw[hf,cond_true]at hr
   have hfirst:first = #[]:=by
    have:=gE hf;exact Array.eq_empty_of_size_eq_zero this
   obtain⟨vs,l1,h1,hl,hvs⟩:=qeb h hr;split at h1
   ·rename_i cs hcs;rw[q4r,q49]at h1;obtain⟨e1,e2⟩:=qke hcs;refine q3h (v:=.func (.func g) #[] (caps.map a.eval)) (w':=w) (by simp[execOp,ho,Instr.makeFunc,hfirst]) ?_;rw[hd'];refine q36 (o:=o) (x:=.clo g cs) h (hd d hd') ⟨_,rfl,?_,fun i c1 u hc hu=>?_⟩ h1
    ·simp at hl ⊢;omega
    ·have hi:i<caps.size:=by
      have:=(gB.1 hu).1;simpa using this
     have hiv:i<vs.length:=by rw[hl];simpa using hi
     have hx:caps.toList[i]?=some caps[i]:=by simp[hi]
     have hv:=hvs i _ _ hx (gA hiv);rw[e2 i _ _ (gA hiv) hc]at hv;simp[hi]at hu;rw[<- hu];exact hv
   ·cases h1
 ·cases hr
theorem qs4(h:Inv c s a w val fp){o:Oper}{x:Operand}{i:Nat}(ho:o.op=.extract x i)(hd:∀d,o.dst=some d->d<a.tmps.size)
 {Q:Exit->Act->World->Prop} (hr:runP E (opP P A o) s l K=some r):o.wp P a w (Post c w K r) Q:=by
 unfold opP at hr;simp only[ho]at hr;obtain⟨v,l1,h1,hv⟩:=q2x h hr;split at h1
 ·rename_i ps;obtain⟨us,hu,hl,hps⟩:=hv
  have hget:∀{p},ps[i]?=some p->∃u,us[i]?=some u:=fun {p} hp=>by
   have:i<us.size:=by rw[<- hl];exact(gB.1 hp).1
   exact⟨us[i],by simp[this]⟩
  have hrun:∀{u},us[i]?=some u->(execOp a.eval o).run P w=.ok (.value u) w:=fun {u} h=>by simp[execOp,ho,hu,Instr.extract,h]
  split at h1
  ·rename_i cs hp;obtain⟨u,hu'⟩:=hget hp;obtain⟨d,l2,hd',h2⟩:=q4p h1;refine q3h (hrun hu') ?_;rw[hd'];refine q36 (o:=o) h (hd d hd') ?_ h2;rcases hps i _ u hp hu' with⟨_,vs,e,hc⟩|⟨e,_⟩
   ·exact⟨vs,e,hc⟩
   ·cases e
  ·rename_i c1 hp;obtain⟨u,hu'⟩:=hget hp;obtain⟨d,l2,hd',h2⟩:=q4p h1;refine q3h (hrun hu') ?_;rw[hd'];refine q36 (o:=o) h (hd d hd') ?_ h2;rcases hps i _ u hp hu' with⟨e,_⟩|⟨_,c2,e,hc⟩
   ·cases e
   ·cases e;exact hc
  ·cases h1
 ·cases h1
theorem RB.sl_inv{w:World}{I J:Nat->Prop}{sz:Nat}{cells:List T}{v:Value}(h:RB w I J (.sl sz cells) v) :
 ∃a len cap,v=.slice a len cap/\0<sz/\cells.length=len*sz/\len<=cap/\∃vs:Nat->Value,(∀i x,cells[i]?=some x->RB w I J x (vs i))/\
  (cells≠[]->∃b o,a=some ⟨b,o,none⟩/\I b/\∀i,i<cells.length->w.cell? ⟨b,o+i,none⟩=some (vs i)):=by
 cases h with
 |sl vs hsz hlen hcap ha hc=>exact⟨_,_,_,rfl,hsz,hlen,hcap,vs,hc,ha⟩
theorem q6a{f:Fr}{s:St}{k:Key}{v:Value}(h:CR f s (.obj k) v){own deep:Bool}{sz:Nat}{cells:List T}(ho:s.getO k=.arr own deep sz cells):v=f.val k:=by
 have h1:=h.1;rw[ho]at h1;exact h1
theorem qo3(h:Inv c s a w val fp){k:Key}{own deep:Bool}{sz:Nat}{cells:List T}(ho:s.getO k=.arr own deep sz cells) :
 ∃A len cap,val k=.slice A len cap/\0<sz/\cells.length=len*sz/\len<=cap/\
  (cells≠[]->∃b o,A=some ⟨b,o,none⟩/\∀i,i<cells.length->∃u,w.cell? ⟨b,o+i,none⟩=some u/\u.oneCell'=true):=by
 have hob:=h.obs k;rw[ho]at hob;cases own with
 |false=>
  obtain⟨A,len,cap,e,h1,h2,h3,vs,hc,h4⟩:=RB.sl_inv hob.1;refine⟨A,len,cap,e,h1,h2,h3,fun hne=>?_⟩;obtain⟨b,o,e1,_,e2⟩:=h4 hne;exact⟨b,o,e1,fun i hi=>⟨vs i,e2 i hi,(hc i _ (gA hi)).one⟩⟩
 |true=>
  cases deep with
  |true=>
   have hob':RO w (.sl sz cells) (val k) (fp k):=hob;generalize hu:val k=u at hob';generalize fp k=F at hob';cases hob' with
   |nil hsz=>exact⟨_,0,0,rfl,hsz,by simp,gAI _,fun h=>absurd rfl h⟩
   |sl vs fs hsz hg hlen hcap hmax hcur hvv hc hnd'=>
    exact⟨_,_,_,rfl,hsz,hlen,hcap,fun _=>⟨_,0,rfl,fun i hi=>⟨vs i,by rw[gAJ,q48 hg];exact hvv i hi,(hc i _ (gA hi)).one⟩⟩⟩
  |false=>
   rcases hob with⟨hsz,hce,hF,a',hu⟩|⟨g,len,cap,cur,e,vs,hu,hF,hsz,hh,r1,r2,r3,r4,r5,r6⟩
   ·exact⟨a',0,0,hu,hsz,by rw[hce];simp,gAI _,fun h=>absurd hce h⟩
   ·have hh:w.heap[g]?=some (.cells cur e (0,0)):=hh;exact⟨_,len,cap,hu,hsz,r1,r2,fun _=>⟨g,0,rfl,fun i hi=>⟨vs i,by rw[gAJ,q48 hh];exact r5 i hi,(r6 i _ (gA hi)).one⟩⟩⟩
theorem qfy(h:Inv c s a w val fp){sz:Nat}{x:V}{v:Value}{f:List T->Prog}(hx:VR (mkFr c w val fp) s x v)(hr:runP E (slOf sz x f) s l K=some r) :
 ∃cells l',runP E (f cells) s l' K=some r/\∃A len cap,v=.slice A len cap/\cells.length=len*sz/\len<=cap/\cells.length/sz=len:=by
 unfold slOf at hr;split at hr
 ·rename_i y;rw[q6f]at hr;split at hr
  ·rename_i sz' cs;obtain⟨h1,h2⟩:=q1c hr;have:sz'=sz:=gE h1;subst this;obtain⟨A,len,cap,e,e1,e2,e3,_⟩:=RB.sl_inv hx;exact⟨cs,_,h2,A,len,cap,e,e2,e3,by rw[e2];exact Nat.mul_div_cancel _ e1⟩
  ·cases hr
 ·exact⟨[],_,hr,none,0,0,hx,by simp,gAI _,by simp⟩
 ·rename_i k;rw[q3s]at hr;split at hr
  ·rename_i own deep sz' cs hk;rw[q1s]at hr;obtain⟨h1,h2⟩:=q1c hr;have:sz'=sz:=gE h1;subst this;obtain⟨A,len,cap,e,e1,e2,e3,_⟩:=qo3 h hk;have hv:=q6a hx hk;exact⟨cs,_,h2,A,len,cap,hv.trans e,e2,e3,by rw[e2];exact Nat.mul_div_cancel _ e1⟩
  ·cases hr
 ·rename_i y;rw[q6f]at hr;split at hr
  ·rename_i sz' cs;obtain⟨h1,h2⟩:=q1c hr;have:sz'=sz:=gE h1;subst this;obtain⟨A,len,cap,e,e1,e2,e3,_⟩:=RB.sl_inv (show RB _ _ _ _ _ from hx);exact⟨cs,_,h2,A,len,cap,e,e2,e3,by rw[e2];exact Nat.mul_div_cancel _ e1⟩
  ·cases hr
 ·cases hr
end
end Ev
end
section
namespace Ev
open Go
section
variable {P:Program}{A:q7t}{E:Env}{c:Ctx}{s:St}{a:Act}{w:World}{val:Key->Value}{fp:Key->List Nat}
variable {l:Log}{K:St->Log->R}{r:T×List T}
theorem qv9(h:Inv c s a w val fp){o:Oper}{t:TypeId}{x:Operand}{f:Nat}(ho:o.op=.field t x f)(hd:∀d,o.dst=some d->d<a.tmps.size)
 {Q:Exit->Act->World->Prop} (hr:runP E (opP P A o) s l K=some r):o.wp P a w (Post c w K r) Q:=by
 unfold opP at hr;simp only[ho]at hr;obtain⟨v,l1,h1,hv⟩:=q2x h hr;split at h1
 ·rename_i cs fs hfs;split at h1
  ·rename_i g hg;rw[q1s]at h1;replace h1:=q1c h1;obtain⟨hb,h1⟩:=h1;rw[gC]at hb;obtain⟨ht,hle⟩:=hb;have hle:=gAH hle;obtain⟨vs,hu,hcs⟩:=hv;obtain⟨i,d',hi,hd2,hs,h11⟩:=qde ht;obtain⟨d,l2,hd',h2⟩:=q4p h1
   have hget:∀j,j<(q26 P 8 g.type).length->vs[g.offset+j]?=some (vs.getD (g.offset+j) undef):=fun j hj=>by
    have:g.offset+j<vs.size:=by have:=hcs.1;simp at this;omega
    simp[this]
   refine q3h (v:=qnq P g.type (fun j=>vs.getD (g.offset+j) undef)) (w':=w) ?_ ?_
   ·have hsz:(Go.sizeOf g.type).run P w=.ok (q26 P 8 g.type).length w:=by simp[Go.sizeOf,typeInfo,hi,hs]
    simp only[execOp,ho,Instr.field,Sem.run_bind,run_underlying hfs,Result.andThen_ok,hg,hu,asAgg,Sem.run_pure,part,qjd hd2];unfold qnq;cases hagg:q86 P g.type with
    |true=>
     simp only[if_true,Sem.run_bind,hsz,Result.andThen_ok,Sem.run_pure];congr 3;apply Array.ext';apply List.ext_getElem?;intro j;simp only[Array.toList_extract,gAC,List.extract_eq_take_drop];rw[gT];split
     ·rename_i hj;have hj':j<(q26 P 8 g.type).length:=by omega
      rw[gV];rw[List.getElem?_range hj',Option.map_some,Array.getElem?_toList];exact hget j hj'
     ·rename_i hj;have hj':¬ j<(q26 P 8 g.type).length:=by omega
      simp[hj']
    |false=>
     have h0:=hget 0 (by rw[h11 hagg];omega);rw[Nat.add_zero]at h0;simp only[Bool.false_eq_true,if_false,h0,Sem.run_pure,Result.andThen_ok,Nat.add_zero]
   ·rw[hd'];refine q36 (o:=o) h (hd d hd') (qhd ht (by simp;omega) fun j y hy=>?_) h2;rw[gT]at hy;split at hy
    ·rename_i hj;rw[gV]at hy;exact hcs.2 _ _ _ hy (by simpa using hget j hj)
    ·cases hy
  ·cases h1
 ·cases h1
theorem qpo(h:Inv c s a w val fp){o:Oper}{t t':TypeId}{x:Operand}(ho:o.op=.convert t t' x)(hd:∀d,o.dst=some d->d<a.tmps.size){d:Nat}(hd':o.dst=some d){v:V}(hv:VR (mkFr c w val fp) s v (a.eval x))
 {Q:Exit->Act->World->Prop} (h1:runP E (qxk P d t t' v) s l K=some r):o.wp P a w (Post c w K r) Q:=by
 ·unfold qxk at h1;split at h1
  ·rename_i k0 k k1 n e1 e2;have hv:=RB.int_inv hv;rw[q4r,q49]at h1;refine q3h (v:=.int k (k.wrap n)) (w':=w) ?_ ?_
   ·simp[execOp,ho,convert,run_underlying e1,run_underlying e2,hv,Conv.intToInt]
   ·rw[hd'];exact q36 (o:=o) h (hd d hd') (VR_t (RB.int _ _)) h1
  ·cases h1
theorem qvw(h:Inv c s a w val fp){o:Oper}{t:TypeId}{x i:Operand}(ho:o.op=.index t x i)(hd:∀d,o.dst=some d->d<a.tmps.size)
 {Q:Exit->Act->World->Prop} (hr:runP E (opP P A o) s l K=some r):o.wp P a w (Post c w K r) Q:=by
 unfold opP at hr;simp only[ho]at hr;obtain⟨v,l1,h1,hv⟩:=q2x h hr;obtain⟨u,l2,h2,hu⟩:=q2x h h1;split at h2
 ·rename_i sb k n e1;have hv:=RB.str_inv hv;have hu:=RB.int_inv hu;rw[q1s]at h2;replace h2:=q1c h2;obtain⟨hb,h2⟩:=h2;unfold inB at hb;rw[gC]at hb;have hb1:=gAH hb.1;have hb2:=gAH hb.2;have hlt:n.toNat<sb.size:=by omega
  obtain⟨d,l3,hd',h3⟩:=q4p h2;refine q3h (v:=.int .u8 ((sb.data.getD n.toNat 0).toNat:Int)) (w':=w) ?_ ?_
  ·have hg:sb[n.toNat]?=some (sb.data.getD n.toNat 0):=by
    rw[getElem?_pos sb n.toNat hlt];have:n.toNat<sb.data.size:=hlt;rw[ByteArray.getElem_eq_getElem_data,gQ,gAQ this];rfl
   simp[execOp,ho,Instr.index,hv,hu,asIntOf,run_underlying e1,hb1,hg]
  ·rw[hd'];exact q36 (o:=o) h (hd d hd') (VR_t (RB.int _ _)) h3
 ·cases h2
theorem qyx(h:Inv c s a w val fp){o:Oper}{cl:Call}(ho:o.op=.call cl)(hcl:cl.callee=.builtin .min)(hd:∀d,o.dst=some d->d<a.tmps.size)
 {Q:Exit->Act->World->Prop} (hr:runP E (opP P A o) s l K=some r):o.wp P a w (Post c w K r) Q:=by
 unfold opP at hr;simp only[ho,hcl]at hr;split at hr
 ·rename_i x y hx;have hargs:cl.args = #[x,y]:=by rw[<- Array.toArray_toList (xs:=cl.args),hx]
  obtain⟨v,l1,h1,hv⟩:=q2x h hr;obtain⟨u,l2,h2,hu⟩:=q2x h h1;split at h2
  ·rename_i k m k' n;have hv:=RB.int_inv hv;have hu:=RB.int_inv hu;rw[q1s]at h2;replace h2:=q1c h2;obtain⟨hk,h2⟩:=h2;obtain⟨d,l3,hd',h3⟩:=q4p h2;refine q3h (v:=.int k (min m n)) (w':=w) ?_ ?_
   ·have:(if n<m then n else m)=min m n:=by omega
    simp[execOp,ho,resolve,hcl,hargs,invoke,builtin,Builtin.min_,Builtin.min2,hv,hu,this]
   ·rw[hd'];exact q36 (o:=o) h (hd d hd') (VR_t (RB.int _ _)) h3
  ·cases h2
 ·cases hr
theorem qh0{n:Int}{len:Nat}(h:inB n len=true):0<=n/\n<(len:Int):=by
 unfold inB at h;rw[gC]at h;exact⟨gAH h.1,gAH h.2⟩
theorem q89{o:Oper}{t e:TypeId}{x i:Operand}(ho:o.op=.indexAddr t x i)(hu:P.underlying t=some (.slice e))(he:(P.info? e).isSome=true)
 {b q len cap:Nat} {k:IntKind} {n:Int} (hx:a.eval x=.slice (some ⟨b,q,none⟩) len cap) (hi:a.eval i=.int k n) (h0:0<=n) (h1:n<(len:Int)) :
 (execOp a.eval o).run P w=.ok (.value (.pointer (some ⟨b,q+n.toNat*q38 P e,none⟩))) w:=by
 obtain⟨ie,hie⟩:=gAM.1 he;simp[execOp,ho,Instr.indexAt,hi,asIntOf,run_underlying hu,hx,h0,h1,Go.sizeOf,typeInfo,hie,qbp,q38]
theorem qcs(h:Inv c s a w val fp){o:Oper}{t:TypeId}{x i:Operand}(ho:o.op=.indexAddr t x i)(hd:∀d,o.dst=some d->d<a.tmps.size){d:Nat}(hd':o.dst=some d){v u:V}(hv:VR (mkFr c w val fp) s v (a.eval x))(hu:VR (mkFr c w val fp) s u (a.eval i))
 {Q:Exit->Act->World->Prop} (h2:runP E (qdo P d t v u) s l K=some r):o.wp P a w (Post c w K r) Q:=by
 ·unfold qdo at h2;split at h2
  ·rename_i k n;have hu:=RB.int_inv hu;split at h2
   ·rename_i e hue;rw[q1s]at h2;replace h2:=q1c h2;obtain⟨he,h2⟩:=h2
    have hnn:∀{L len:Nat},L=len*q38 P e->0<q38 P e->inB n (L/q38 P e)=true->0<=n/\n<(len:Int)/\0<L:=by
     intro L len e1 e2 e3;rw[e1,Nat.mul_div_cancel _ e2]at e3;obtain⟨h0,h1⟩:=qh0 e3;refine⟨h0,h1,?_⟩;rw[e1];exact Nat.mul_pos (by omega) e2
    split at h2
    ·rename_i y;rw[q6f]at h2;split at h2
     ·rename_i sz' cs;replace h2:=q1c h2;obtain⟨hsz,h2⟩:=h2;have hsz:sz'=q38 P e:=gE hsz;subst hsz;rw[q1s]at h2;replace h2:=q1c h2;obtain⟨hb,h2⟩:=h2;obtain⟨Ad,len,cap,e1,e2,e3,e4,vs,hc,hcells⟩:=RB.sl_inv hv;obtain⟨h0,h1',hpos⟩:=hnn e3 e2 hb;obtain⟨b,q,rfl,hI,hcell⟩:=hcells (fun e=>by rw[e]at hpos;simp at hpos);rw[q4r,q49]at h2;refine q3h (q89 ho hue he e1 hu h0 h1') ?_;rw[hd'];refine q36 (o:=o) h (hd d hd') (VR_t ?_) h2;exact RB.rref vs (fun _=>⟨hI.1.imp (h.ij b) id,hI.2⟩) hcell hc
     ·cases h2
    ·rename_i k0;rw[q3s]at h2;split at h2
     ·rename_i own deep sz cs hk;rw[q1s]at h2;replace h2:=q1c h2;obtain⟨hb,h2⟩:=h2;rw[gC]at hb;obtain⟨hsz,hb⟩:=hb;have hsz:sz=q38 P e:=gE hsz;subst hsz;have hv:=q6a hv hk;obtain⟨Ad,len,cap,e1,e2,e3,e4,hcells⟩:=qo3 h hk;obtain⟨h0,h1',hpos⟩:=hnn e3 e2 hb;obtain⟨b,q,rfl,hcell⟩:=hcells (fun e=>by rw[e]at hpos;simp at hpos);have hv:a.eval x=.slice (some ⟨b,q,none⟩) len cap:=by rw[hv];exact e1
      rw[q4r,q49]at h2;refine q3h (q89 ho hue he hv hu h0 h1') ?_;rw[hd'];cases own with
      |true=>
       refine q36 (o:=o) h (hd d hd') (VR_c (qjz ?_ hk (.inr (.inl ⟨_,_,_,_,rfl⟩)))) h2;show q8j (val k0) _ _;rw[e1];rfl
      |false=>
       have hob:=h.obs k0;rw[hk]at hob;obtain⟨A',len',cap',e5,_,_,_,vs,hc,hcells'⟩:=RB.sl_inv hob.1;rw[e1]at e5;cases e5;obtain⟨b',q',e6,hI,hcell'⟩:=hcells' (fun e=>by rw[e]at hpos;simp at hpos);cases e6;refine q36 (o:=o) h (hd d hd') (VR_t ?_) h2;exact RB.rref vs (fun _=>⟨hI.1.imp (h.ij b) id,hI.2⟩) hcell' hc
     ·cases h2
    ·cases h2
   ·rename_i len e hue;rw[q1s]at h2;replace h2:=q1c h2;obtain⟨he,h2⟩:=h2;obtain⟨ie,hie⟩:=gAM.1 he
    have hrun:∀{b q:Nat},a.eval x=.pointer (some ⟨b,q,none⟩)->inB n len=true->(execOp a.eval o).run P w=.ok (.value (.pointer (some ⟨b,q+n.toNat*q38 P e,none⟩))) w:=by
     intro b q hp hb;obtain⟨h0,h1⟩:=qh0 hb;simp[execOp,ho,Instr.indexAt,hu,asIntOf,run_underlying hue,hp,Instr.sureAddr,h0,h1,Go.sizeOf,typeInfo,hie,qbp,q38]
    split at h2
    ·rename_i k0 q;rw[q3s]at h2;split at h2
     ·rename_i cs hk;rw[q1s]at h2;replace h2:=q1c h2;obtain⟨hb,h2⟩:=h2;rw[q4r,q49]at h2;obtain⟨b,o',hp,hq⟩:=qb4 (n:=n.toNat*q38 P e) (q6y hv hk (.inl ⟨_,rfl⟩));refine q3h (hrun hp hb) ?_;rw[hd'];exact q36 (o:=o) h (hd d hd') (VR_c (qjz hq hk (.inl ⟨_,rfl⟩))) h2
     ·rename_i hk;rw[q1s]at h2;replace h2:=q1c h2;obtain⟨hb,h2⟩:=h2;rw[q4r,q49]at h2;obtain⟨b,o',hp,hq⟩:=qb4 (n:=n.toNat*q38 P e) (q6y hv hk (.inr (.inl ⟨_,_,_,_,rfl⟩)));refine q3h (hrun hp hb) ?_;rw[hd'];exact q36 (o:=o) h (hd d hd') (VR_c (qjz hq hk (.inr (.inl ⟨_,_,_,_,rfl⟩)))) h2
     ·cases h2
    ·rename_i cs q;rw[q1s]at h2;replace h2:=q1c h2;obtain⟨hb,h2⟩:=h2;rw[q4r,q49]at h2;have hv':RB w (inI c w fp) (inJ c w fp) (.rref cs q) (a.eval x):=hv;generalize hux:a.eval x=u at hv';cases hv' with
     |rref vs hJ hcell hc=>
      refine q3h (hrun hux hb) ?_;rw[hd'];refine q36 (o:=o) h (hd d hd') (VR_t ?_) h2;rw[Nat.add_assoc];exact RB.rref vs hJ hcell hc
    ·cases h2
   ·cases h2
  ·cases h2
theorem q7c(h:Inv c s a w val fp){x:Option Operand}{d:Int}{f:Int->Prog}(hr:runP E (qcr x d f) s l K=some r) :
 ∃n l',runP E (f n) s l' K=some r/\((x=none/\n=d)\/∃y k,x=some y/\a.eval y=.int k n):=by
 cases x with
 |none=>exact⟨d,l,hr,.inl ⟨rfl,rfl⟩⟩
 |some y=>
  obtain⟨v,l1,h1,hv⟩:=q2x h hr;split at h1
  ·rename_i k n;exact⟨n,l1,h1,.inr ⟨y,k,rfl,RB.int_inv hv⟩⟩
  ·cases h1
theorem qdt{isSlice:Bool}{len cap:Nat}{lo hi:Option Operand}{m n:Int}(h1:(lo=none/\m=0)\/∃y k,lo=some y/\a.eval y=.int k m)
 (h2:(hi=none/\n=(len:Int))\/∃y k,hi=some y/\a.eval y=.int k n) (h3:0<=m) (h4:m<=n) (h5:n<=(len:Int)) (h6:len<=cap) :
 (Instr.sliceBounds isSlice len cap (lo.map a.eval) (hi.map a.eval) none).run P w=.ok (m.toNat,n.toNat,cap) w:=by
 have eh:(n.toNat:Int)=n:=Int.toNat_of_nonneg (by omega);rcases h1 with⟨rfl,rfl⟩|⟨y1,k1,rfl,e1⟩ <;> rcases h2 with⟨rfl,rfl⟩|⟨y2,k2,rfl,e2⟩
 ·simp[Instr.sliceBounds]
 ·have:=run_sliceBound (P:=P) w k2 n cap (if isSlice=true then BoundsCode.sliceAcap else BoundsCode.sliceAlen) (by omega) (by omega);simp[Instr.sliceBounds,e2,this]
 ·have:=run_sliceBound (P:=P) w k1 m len .sliceB (by omega) (by omega);simp[Instr.sliceBounds,e1,this]
 ·have t1:=run_sliceBound (P:=P) w k2 n cap (if isSlice=true then BoundsCode.sliceAcap else BoundsCode.sliceAlen) (by omega) (by omega);have t2:=run_sliceBound (P:=P) w k1 m n.toNat .sliceB (by omega) (by omega);simp[Instr.sliceBounds,e1,e2,t1,t2]
theorem qwb{w:World}{I J:Nat->Prop}{sz:Nat}{cells:List T}{A:Option Addr}{len cap:Nat}(hv:RB w I J (.sl sz cells) (.slice A len cap)){m n:Nat}(h1:m<=n)(h2:n<=len) :
 RB w I J (.sl sz ((cells.take (n*sz)).drop (m*sz))) (.slice (if cap=m then A else A.map (·.add (m*sz))) (n-m) (cap-m)):=by
 obtain⟨A',len',cap',e,e1,e2,e3,vs,hc,hcells⟩:=RB.sl_inv hv;cases e;have hle:n*sz<=cells.length:=by rw[e2];exact gAO _ h2
 have hmn:m*sz<=n*sz:=gAO _ h1
 have hget:∀i,((cells.take (n*sz)).drop (m*sz))[i]?=if m*sz+i<n*sz then cells[m*sz+i]? else none:=by
  intro i;rw[gV,gT]
 have hlen:((cells.take (n*sz)).drop (m*sz)).length=(n-m)*sz:=by
  rw[gAA,gAF,Nat.min_eq_left hle,Nat.sub_mul]
 refine RB.sl (fun i=>vs (m*sz+i)) e1 hlen (by omega) (fun hne=>?_) (fun i x hx=>?_)
 ·have hpos:0<(n-m)*sz:=by
   rw[<- hlen];exact List.length_pos_iff.2 hne
  have hlt:m<n:=by
   rcases Nat.lt_or_ge m n with h|h
   ·exact h
   ·rw[show n-m=0 by omega]at hpos;simp at hpos
  obtain⟨b,q,rfl,hI,hcell⟩:=hcells (fun e=>by
   rw[e]at hle;simp at hle;have:0<n*sz:=Nat.mul_pos (by omega) e1;omega)
  rw[if_neg (by omega)];refine⟨b,q+m*sz,by simp[qbp],hI,fun i hi=>?_⟩;rw[hlen,Nat.sub_mul]at hi;rw[Nat.add_assoc];exact hcell _ (by omega)
 ·rw[hget]at hx;split at hx
  ·exact hc _ _ hx
  ·cases hx
theorem qgd(h:Inv c s a w val fp){o:Oper}{t:TypeId}{x:Operand}{lo hi:Option Operand}(ho:o.op=.slice t x lo hi none)(hd:∀d,o.dst=some d->d<a.tmps.size){d:Nat}(hd':o.dst=some d){v:V}(hv:VR (mkFr c w val fp) s v (a.eval x))
 {Q:Exit->Act->World->Prop} (h1:runP E (qqa P d t v lo hi) s l K=some r):o.wp P a w (Post c w K r) Q:=by
 ·unfold qqa at h1;split at h1
  ·rename_i hu;split at h1
   ·rename_i sb;have hv:=RB.str_inv hv;obtain⟨m,l2,h2,hm⟩:=q7c h h1;obtain⟨n,l3,h3,hn⟩:=q7c h h2;rw[q1s]at h3;replace h3:=q1c h3;obtain⟨hb,h3⟩:=h3;simp only[gC,gS]at hb;rw[q4r,q49]at h3;refine q3h (v:=.string (sb.extract m.toNat n.toNat)) (w':=w) ?_ ?_
    ·have:=qdt (P:=P) (w:=w) (isSlice:=false) hm hn hb.1.1 hb.1.2 hb.2 (gAI _);simp[execOp,ho,Instr.sliceAt,run_underlying hu,Instr.slice,hv,this]
    ·rw[hd'];exact q36 (o:=o) h (hd d hd') (VR_t (RB.str _)) h3
   ·cases h1
  ·rename_i e hu;rw[q1s]at h1;replace h1:=q1c h1;obtain⟨he,h1⟩:=h1;obtain⟨ie,hie⟩:=gAM.1 he;have hs:q38 P e=ie.size:=by simp[q38,hie]
   have fin:∀{cells:List T}{l1:Log},RB w (inI c w fp) (inJ c w fp) (.sl (q38 P e) cells) (a.eval x)->runP E (qcr lo 0 fun m=>qcr hi ((cells.length/q38 P e:Nat):Int) fun n=>
    .ite (decide (0<=m)&&decide (m<=n)&&decide (n<=((cells.length/q38 P e:Nat):Int)))
    (.setT d (.one (.t (.sl (q38 P e) ((cells.take (n.toNat*q38 P e)).drop (m.toNat*q38 P e))))) .done) .fail) s l1 K=some r->o.wp P a w (Post c w K r) Q:=by
    intro cells l1 hv h1;obtain⟨A',len,cap,e0,e1,e2,e3,_⟩:=RB.sl_inv hv;have hdiv:cells.length/q38 P e=len:=by rw[e2];exact Nat.mul_div_cancel _ e1
    rw[hdiv]at h1;obtain⟨m,l2,h2,hm⟩:=q7c h h1;obtain⟨n,l3,h3,hn⟩:=q7c h h2;rw[q1s]at h3;replace h3:=q1c h3;obtain⟨hb,h3⟩:=h3;simp only[gC,gS]at hb;rw[q4r,q49]at h3;rw[e0]at hv;refine q3h (v:=.slice (if cap=m.toNat then A' else A'.map (·.add (m.toNat*q38 P e))) (n.toNat-m.toNat) (cap-m.toNat)) (w':=w) ?_ ?_
    ·have:=qdt (P:=P) (w:=w) (isSlice:=true) hm hn hb.1.1 hb.1.2 hb.2 e3;simp[execOp,ho,Instr.sliceAt,run_underlying hu,Instr.slice,e0,this,Go.sizeOf,typeInfo,hie,hs]
    ·rw[hd'];exact q36 (o:=o) h (hd d hd') (VR_t (qwb hv (by omega) (by omega))) h3
   split at h1
   ·rename_i y;rw[q6f]at h1;split at h1
    ·rename_i sz cs;replace h1:=q1c h1;obtain⟨hsz,h1⟩:=h1;have hsz:sz=q38 P e:=gE hsz;subst hsz;exact fin hv h1
    ·cases h1
   ·rename_i k0;rw[q3s]at h1;split at h1
    ·rename_i deep sz cs hk;have hob:=h.obs k0;rw[hk]at hob;have hv1:=q6a hv hk;by_cases hsz:Nat.beq sz (q38 P e)=true
     ·have hsz':sz=q38 P e:=gE hsz;subst hsz';simp only[hsz,Bool.true_and]at h1;refine fin ?_ h1;rw[hv1];exact hob.1
     ·have hsz':Nat.beq sz (q38 P e)=false:=Bool.eq_false_iff.2 hsz;simp only[hsz',Bool.false_and]at h1;obtain⟨m,l2,h2,hm⟩:=q7c h h1;obtain⟨n,l3,h3,hn⟩:=q7c h h2;cases h3
    ·cases h1
   ·cases h1
  ·cases h1
end
end Ev
end
section
namespace Ev
open Go
def ND(n:Nat)(f:Nat->List Nat):Prop:=(∀i,i<n->(f i).Nodup)/\∀i j,i<n->j<n->i≠j->∀b,b∈f i->b∉f j
def flat(n:Nat)(f:Nat->List Nat):List Nat:=(List.range n).flatMap f
theorem q23{n:Nat}{f:Nat->List Nat}{b:Nat}:b∈flat n f<->∃i,i<n/\b∈f i:=by simp[flat]
theorem q6u(n:Nat)(f:Nat->List Nat):(flat n f).Nodup<->ND n f:=by
 induction n with
 |zero=>simp[flat,ND]
 |succ n ih=>
  have:flat (n+1) f=flat n f++f n:=by simp[flat,List.range_succ]
  rw[this,List.nodup_append,ih];constructor
  ·rintro⟨⟨h1,h2⟩,h3,h4⟩;refine⟨fun i hi=>?_,fun i j hi hj hne b hb hb'=>?_⟩
   ·rcases Nat.lt_or_ge i n with h|h
    ·exact h1 i h
    ·rwa[show i=n by omega]
   ·rcases Nat.lt_or_ge i n with h|h
    ·rcases Nat.lt_or_ge j n with h'|h'
     ·exact h2 i j h h' hne b hb hb'
     ·rw[show j=n by omega]at hb';exact h4 b (q23.2 ⟨i,h,hb⟩) b hb' rfl
    ·rw[show i=n by omega]at hb;exact h4 b (q23.2 ⟨j,by omega,hb'⟩) b hb rfl
  ·rintro⟨h1,h2⟩;refine⟨⟨fun i hi=>h1 i (by omega),fun i j hi hj=>h2 i j (by omega) (by omega)⟩,h1 n (by omega),fun b hb b' hb' e=>?_⟩;subst e;obtain⟨i,hi,hbi⟩:=q23.1 hb;exact h2 i n (by omega) (by omega) (by omega) b hbi hb'
theorem ND.nil(n:Nat):ND n fun _=>[]:=⟨fun _ _=>List.nodup_nil,fun _ _ _ _ _ b hb=>by simp at hb⟩
def RowAt(w:World)(size:Nat)(v:Value)(xs:List Value)(F:List Nat):Prop:=
 (xs=[]/\F=[]/\∃a,v=.slice a 0 0)\/
 ∃g len cap cur e,v=.slice (some ⟨g,0,none⟩) len cap/\F=[g]/\w.heap[g]?=some (.cells cur e (0,0))/\xs.length=len*size/\len<=cap/\cap<=maxLen/\cur.size=cap*size/\cur.toList.take (len*size)=xs
def El(w:World)(I J:Nat->Prop)(deep:Bool)(x:T)(y:Value)(F:List Nat):Prop:=if deep=true then RO w x y F else RB w I J x y/\F=[]
structure OwnR(w:World)(I J:Nat->Prop)(deep:Bool)(sz:Nat)(cells:List T)(u:Value)(xs:List Value)(Fg:List Nat)(fs:Nat->List Nat):Prop where
 pos:0<sz
 row:RowAt w sz u xs Fg
 len:xs.length=cells.length
 nd:ND cells.length fs
 apart:∀b,b∈Fg->∀i,i<cells.length->b∉fs i
 el:∀(i:Nat)(x:T)(y:Value),cells[i]?=some x->xs[i]?=some y->El w I J deep x y (fs i)
theorem RowAt.nodup{w:World}{size:Nat}{v:Value}{xs:List Value}{F:List Nat}(h:RowAt w size v xs F):F.Nodup:=by
 rcases h with⟨_,rfl,_⟩|⟨g,_,_,_,_,_,rfl,_⟩ <;> simp
theorem RowAt.cell{w:World}{size:Nat}{v:Value}{xs:List Value}{F:List Nat}(h:RowAt w size v xs F){j:Nat}{u:Value}(hj:xs[j]?=some u) :
 ∃g len cap,v=.slice (some ⟨g,0,none⟩) len cap/\F=[g]/\w.cell? ⟨g,j,none⟩=some u:=by
 rcases h with⟨rfl,_,_⟩|⟨g,len,cap,cur,e,hv,hF,hg,hl,_,_,_,ht⟩
 ·simp at hj
 ·refine⟨g,len,cap,hv,hF,?_⟩;rw[q48 hg];rw[<- ht,gT]at hj;split at hj
  ·simpa using hj
  ·cases hj
theorem RowAt.slice{w:World}{size:Nat}{v:Value}{xs:List Value}{F:List Nat}(h:RowAt w size v xs F):∃a len cap,v=.slice a len cap/\xs.length=len*size/\len<=cap:=by
 rcases h with⟨rfl,_,a,hv⟩|⟨g,len,cap,cur,e,hv,hF,hg,hl,hc,_,_,ht⟩
 ·exact⟨a,0,0,hv,by simp,gAI _⟩
 ·exact⟨_,len,cap,hv,hl,hc⟩
theorem q9i{f:Fr}{s:St}{deep:Bool}{sz:Nat}{cells:List T}{u:Value}{F:List Nat} :
 ObR f s (.arr true deep sz cells) u F<->∃xs Fg fs,OwnR f.w f.I f.J deep sz cells u xs Fg fs/\F=Fg++flat cells.length fs:=by
 constructor
 ·intro h;cases deep with
  |true=>
   have h:RO f.w (.sl sz cells) u F:=h;cases h with
   |nil hsz=>exact⟨[],[],fun _=>[],⟨hsz,.inl ⟨rfl,rfl,_,rfl⟩,rfl,ND.nil _,by simp,by simp⟩,by simp[flat]⟩
   |sl vs fs hsz hg hlen hcap hmax hcur hv hc hnd=>
    rename_i g len cap cur e;rw[List.nodup_cons]at hnd;have hle:len*sz<=cur.size:=by rw[hcur];exact gAO _ hcap
    refine⟨cur.toList.take (len*sz),[g],fs,⟨hsz,.inr ⟨g,len,cap,cur,e,rfl,rfl,hg,by simp;omega,hcap,hmax,hcur,rfl⟩,by simp;omega,(q6u _ _).1 hnd.2,
     fun b hb i hi hbi=>hnd.1 (by rw[gD.1 hb]at hbi;exact q23.2 ⟨i,hi,hbi⟩),fun i x y hx hy=>?_⟩,rfl⟩
    rw[gT]at hy;split at hy
    ·have:=hv i (by omega);rw[Array.getElem?_toList,this]at hy;cases hy;exact hc i x hx
    ·cases hy
  |false=>
   rcases h with⟨hsz,rfl,rfl,a,rfl⟩|⟨g,len,cap,cur,e,vs,rfl,rfl,hsz,hg,hlen,hcap,hmax,hcur,hv,hc⟩
   ·exact⟨[],[],fun _=>[],⟨hsz,.inl ⟨rfl,rfl,_,rfl⟩,rfl,ND.nil _,by simp,by simp⟩,by simp[flat]⟩
   ·have hle:len*sz<=cur.size:=by rw[hcur];exact gAO _ hcap
    refine⟨cur.toList.take (len*sz),[g],fun _=>[],⟨hsz,.inr ⟨g,len,cap,cur,e,rfl,rfl,hg,by simp;omega,hcap,hmax,hcur,rfl⟩,by simp;omega,ND.nil _,by simp,fun i x y hx hy=>?_⟩,by simp[flat]⟩;rw[gT]at hy;split at hy
    ·have:=hv i (by omega);rw[Array.getElem?_toList,this]at hy;cases hy;exact⟨hc i x hx,rfl⟩
    ·cases hy
 ·rintro⟨xs,Fg,fs,⟨hsz,hrow,hlen,hnd,hap,hel⟩,rfl⟩;rcases hrow with⟨rfl,rfl,a,rfl⟩|⟨g,len,cap,cur,e,rfl,rfl,hg,hl,hcap,hmax,hcur,ht⟩
  ·have:cells=[]:=gL (by simpa using hlen.symm);subst this;cases deep with
   |true=>exact RO.nil hsz
   |false=>exact .inl ⟨hsz,rfl,by simp[flat],_,rfl⟩
  ·have hget:∀i,i<cells.length->cur[i]?=some (cur.getD i undef):=fun i hi=>by
    have:i<cur.size:=by
     have:len*sz<=cur.size:=by rw[hcur];exact gAO _ hcap
     omega
    simp[this]
   have hxs:∀i,i<cells.length->xs[i]?=some (cur.getD i undef):=fun i hi=>by
    rw[<- ht,gT,if_pos (by omega),Array.getElem?_toList];exact hget i hi
   cases deep with
   |true=>
    refine RO.sl (fun i=>cur.getD i undef) fs hsz hg (by omega) hcap hmax hcur hget (fun i x hx=>?_) ?_
    ·have hi:=(gB.1 hx).1;exact hel i x _ hx (hxs i hi)
    ·rw[List.nodup_cons];exact⟨fun hb=>by obtain⟨i,hi,hbi⟩:=q23.1 hb;exact hap g (by simp) i hi hbi,(q6u _ _).2 hnd⟩
   |false=>
    have hfs:flat cells.length fs=[]:=by
     simp only[flat,List.flatMap_eq_nil_iff,List.mem_range];intro i hi;exact(hel i _ _ (gA hi) (hxs i hi)).2
    refine .inr ⟨g,len,cap,cur,e,fun i=>cur.getD i undef,rfl,by rw[hfs];rfl,hsz,hg,by omega,hcap,hmax,hcur,hget,fun i x hx=>?_⟩;have hi:=(gB.1 hx).1;exact(hel i x _ hx (hxs i hi)).1
theorem OwnR.rb{w:World}{I J I' J':Nat->Prop}{deep:Bool}{sz:Nat}{cells:List T}{u:Value}{xs:List Value}{Fg:List Nat}{fs:Nat->List Nat}(h:OwnR w I J deep sz cells u xs Fg fs)
 (hF:∀b,b∈Fg++flat cells.length fs->I' b) (hI:∀b,I b->I' b) (hJ:∀b,J b->J' b):RB w I' J' (.sl sz cells) u:=by
 have hget:∀i,i<cells.length->xs[i]?=some (xs.getD i undef):=fun i hi=>by
  have:i<xs.length:=by rw[h.len];exact hi
  simp[this]
 obtain⟨a,len,cap,hv,hl,hc⟩:=h.row.slice;rw[hv];refine RB.sl (fun i=>xs.getD i undef) h.pos (by rw[<- h.len];exact hl) hc (fun hne=>?_) (fun i x hx=>?_)
 ·have h0:=hget 0 (List.length_pos_iff.2 hne);obtain⟨g,len',cap',e,e2,_⟩:=h.row.cell h0;rw[hv]at e;cases e;refine⟨g,0,rfl,hF g (by simp[e2]),fun i hi=>?_⟩;obtain⟨g',len'',cap'',e3,e4,e5⟩:=h.row.cell (hget i hi);rw[hv]at e3;cases e3;rw[gAJ];exact e5
 ·have hi:=(gB.1 hx).1;have:=h.el i x _ hx (hget i hi);unfold El at this;split at this
  ·exact RO.rb this fun b hb=>hF b (gN _ (q23.2 ⟨i,hi,hb⟩))
  ·exact RB.move this.1 (fun b hb=>⟨hI b hb,rfl⟩) (fun b hb=>⟨hJ b hb,rfl⟩)
theorem qna{P:Program}{w:World}{t t2 ty e e2:TypeId}{i:TypeInfo}{a:Option Addr}{n k:Nat}{x:Value}(ht:P.underlying t=some (.slice e))(ht2:P.underlying t2=some (.slice e2))(hi:P.info? e=some i) :
 (Builtin.append_ #[t,t2] ty #[.slice a n k,x]).run P w=(Builtin.append_ #[t,t] ty #[.slice a n k,x]).run P w:=by
 simp[Builtin.append_,run_underlying ht,run_underlying ht2,Go.sizeOf,typeInfo,hi]
theorem qxf{P:Program}{w:World}{t t2 ty e e2:TypeId}{i:TypeInfo}{z:Value}(ht:P.underlying t=some (.slice e))(ht2:P.underlying t2=some (.slice e2))(hi:P.info? e=some i)(hz:i.zero=some z)
 (hzs:z.cells.size=i.size) (hsz:0<i.size) {v:Value} {xs:List Value} {F:List Nat} (hv:RowAt w i.size v xs F)
 {A:Option Addr} {m c:Nat} {news:List Value} (hl:news.length=m*i.size) (hn:news≠[]->∃ad,A=some ad/\∀(j:Nat)(u:Value),news[j]?=some u->w.cell? (ad.add j)=some u) (h1:∀u∈news,u.oneCell'=true)
 (hb:(xs.length+news.length)*i.bytes<=140737488355328*i.size) (hb1:0<i.bytes) :
 ∃v' w' F',(Builtin.append_ #[t,t2] ty #[v,.slice A m c]).run P w=.ok v' w'/\RowAt w' i.size v' (xs++news) F'/\(∀b,b∈F'->b∈F\/b=w.heap.size)/\
  (∀b,b<w.heap.size->b∉F->w'.heap[b]?=w.heap[b]?)/\w.heap.size<=w'.heap.size/\w'.os=w.os/\w'.tape=w.tape/\w'.output=w.output:=by
 obtain⟨a0,n,cap,hv0,hxl,hncap⟩:=hv.slice;have hty:=qna (w:=w) (ty:=ty) (a:=a0) (n:=n) (k:=cap) (x:=.slice A m c) ht ht2 hi;rw[<- hv0]at hty;rw[hty]
 have hbb:(n+m)*i.bytes<=140737488355328:=by
  rw[hxl,hl,<- Nat.add_mul,Nat.mul_right_comm]at hb;exact Nat.le_of_mul_le_mul_right hb hsz
 have hnm:n+m<=140737488355328:=Nat.le_trans (Nat.le_mul_of_pos_right _ hb1) hbb;have hml:n+m<=maxLen:=by simp only[maxLen];omega
 by_cases hm:m=0
 ·subst hm;have hnews:news=[]:=gL (by simpa using hl);subst hnews;refine⟨v,w,F,?_,by simpa using hv,fun b hb=>.inl hb,fun _ _ _=>rfl,gAI _,rfl,rfl,rfl⟩;rw[hv0];cases A <;> cases a0 <;> simp[Builtin.append_,run_underlying ht,Go.sizeOf,typeInfo,hi,Builtin.lenOf,Builtin.firstCells,hncap,storeCells,loadCells,loadCellsFrom]
 ·have hne:news≠[]:=by
   intro h;rw[h]at hl;have:0<m*i.size:=Nat.mul_pos (by omega) hsz;simp at hl;omega
  obtain⟨ad,rfl,hnews⟩:=hn hne
  have grown:∀(old:Nat),RowAt (w.drew.alloc (.cells (xs.toArray++news.toArray++Builtin.zeroCells z.cells (grownCap w (n+m) old e-(n+m))) e)) i.size
   (.slice (some ⟨w.heap.size,0,none⟩) (n+m) (grownCap w (n+m) old e)) (xs++news) [w.heap.size]:=by
   intro old;refine .inr ⟨w.heap.size,_,_,_,e,rfl,rfl,heap_alloc_new w.drew _,by rw[gM,hxl,hl,Nat.add_mul],grownCap_ge w (n+m) old e,grownCap_le_maxLen w (n+m) old e hml,?_,?_⟩
   ·have:=grownCap_ge w (n+m) old e;simp only[Array.size_append,List.size_toArray,size_zeroCells,hzs,hxl,hl,<- Nat.add_mul];congr 1;omega
   ·have hlen:(xs++news).length=(n+m)*i.size:=by rw[gM,hxl,hl,Nat.add_mul]
    simp only[Array.toList_append,gZ];rw[<- gZ,<- hlen];exact List.take_left
  have tail:∀(o:Obj)(b:Nat),b<w.heap.size->b∉F->(w.drew.alloc o).heap[b]?=w.heap[b]?:=fun o b hb _=>heap_alloc_old w.drew o b hb;rcases hv with⟨rfl,rfl,a,rfl⟩|⟨g,len,cap',cur,e',rfl,rfl,hg,hl',hc',hmax,hcur,htake⟩
  ·cases hv0;have hgr:=grown 0;have hbm:m*i.bytes<=140737488355328:=by simpa using hbb
   cases a0 with
   |none=>
    have hr:=run_append_nil (P:=P) w t ty e i z ht hi hz ad m c news hl hnews (by omega) (by omega) (by omega);simp only[gAJ,List.nil_append,Array.empty_append]at hgr ⊢;exact⟨_,_,_,hr,hgr,by simp,tail _,by simp,rfl,rfl,rfl⟩
   |some b=>
    have hr:=run_append_grow (P:=P) w t ty e i z ht hi hz b 0 0 [] (by simp) (by simp) ad m c news hl hnews (by omega) (by omega) (growslice_fits (by omega) hbb);exact⟨_,_,_,hr,hgr,by simp,tail _,by simp,rfl,rfl,rfl⟩
  ·cases hv0;by_cases hroom:n+m<=cap
   ·have hfit:n*i.size+news.length<=cur.size:=by rw[hl,hcur,<- Nat.add_mul];exact gAO _ hroom
    have hf:=run_firstCells_some (P:=P) w i.size m ad m c news hl hnews;have hst:=run_storeCells_at P g (n*i.size) e' news 0 cur w hg (by simpa using hfit) h1;simp only[Nat.add_zero]at hst
    have hr:(Builtin.append_ #[t,t] ty #[.slice (some ⟨g,0,none⟩) n cap,.slice (some ad) m c]).run P w=
     .ok (.slice (some ⟨g,0,none⟩) (n+m) cap) (w.setRow g (cur.toList.take (n*i.size)++news++cur.toList.drop (n*i.size+news.length)).toArray):=by
     simp[Builtin.append_,run_underlying ht,Go.sizeOf,typeInfo,hi,Builtin.lenOf,hroom,hf,Addr.add_lit,hst]
    refine⟨_,_,[g],hr,.inr ⟨g,_,_,_,e',rfl,rfl,setRow_heap w g cur _ e' _ hg,by rw[gM,hxl,hl,Nat.add_mul],hroom,hmax,?_,?_⟩,fun b hb=>.inl hb,
     fun b _ hb=>setRow_other w g b _ (fun e=>hb (by simp[e])),by simp,rfl,rfl,rfl⟩
    ·simp only[List.size_toArray,gM,gAF,gAA,Array.length_toList];omega
    ·have hlen:(xs++news).length=(n+m)*i.size:=by rw[gM,hxl,hl,Nat.add_mul]
     rw[htake,<- hlen];exact List.take_left
   ·have holds:∀(j:Nat)(u:Value),xs[j]?=some u->w.cell? ((⟨g,0,none⟩:Addr).add j)=some u:=by
     intro j u hu;rw[qbp,gAJ,q48 hg];rw[<- htake,gT]at hu;split at hu
     ·simpa using hu
     ·cases hu
    have hr:=run_append_grow (P:=P) w t ty e i z ht hi hz ⟨g,0,none⟩ n cap xs hxl holds ad m c news hl hnews (by omega) (by omega) (growslice_fits (by omega) hbb);exact⟨_,_,_,hr,grown cap,by simp,tail _,by simp,rfl,rfl,rfl⟩
end Ev
end
section
namespace Ev
open Go
section
variable {P:Program}{A:q7t}{E:Env}{c:Ctx}{s s0 s1:St}{a:Act}{w w':World}{val:Key->Value}{fp:Key->List Nat}
variable {l:Log}{K:St->Log->R}{r:T×List T}
def clr(fp:Key->List Nat)(L:List Key):Key->List Nat:=fun k=>if k∈L then[]else fp k
theorem qa2{fp:Key->List Nat}{L:List Key}{k:Key}{b:Nat}(h:b∈clr fp L k):k∉L/\b∈fp k:=by
 unfold clr at h;split at h
 ·simp at h
 ·exact⟨by assumption,h⟩
structure Moved(s0 s:St)(L:List Key):Prop where
 tm:∀i,s.getT i=s0.getT i
 gone:∀k,k∈L->(s.getO k=.gone\/∃j,s.getO k=.moved j)/\((∃deep sz cells,s0.getO k=.arr true deep sz cells)\/∃l,s0.getO k=.mp l)
 same:∀k,k∉L->s.getO k=s0.getO k
 nd:L.Nodup
theorem Moved.refl(s:St):Moved s s []:=⟨fun _=>rfl,by simp,fun _ _=>rfl,List.nodup_nil⟩
theorem Moved.add{L:List Key}(h:Moved s0 s L){k:Key}{o:Ob}(ho:o=.gone\/∃j,o=.moved j){deep:Bool}{sz:Nat}{cells:List T}(hk:s.getO k=.arr true deep sz cells) :
 k∉L/\s0.getO k=.arr true deep sz cells/\Moved s0 (s.setO k o) (k::L):=by
 have hn:k∉L:=fun hl=>by
  rcases(h.gone k hl).1 with e|⟨j,e⟩ <;> rw[hk]at e <;> cases e
 have h0:s0.getO k=.arr true deep sz cells:=by rw[<- h.same k hn];exact hk
 refine⟨hn,h0,⟨h.tm,fun j hj=>?_,fun j hj=>?_,List.nodup_cons.2 ⟨hn,h.nd⟩⟩⟩
 ·rw[q2y];rcases gK.1 hj with rfl|hj
  ·simp only[if_true];exact⟨ho,.inl ⟨deep,sz,cells,h0⟩⟩
  ·have:k≠j:=fun e=>hn (e▸hj);rw[if_neg this];exact h.gone j hj
 ·rw[gK,not_or]at hj;rw[q2y,if_neg (fun e=>hj.1 e.symm)];exact h.same j hj.2
theorem Moved.addM{L:List Key}(h:Moved s0 s L){k:Key}{m:List (Int×Int×Bool)}(hk:s.getO k=.mp m) :
 k∉L/\s0.getO k=.mp m/\Moved s0 (s.setO k .gone) (k::L):=by
 have hn:k∉L:=fun hl=>by
  rcases(h.gone k hl).1 with e|⟨j,e⟩ <;> rw[hk]at e <;> cases e
 have h0:s0.getO k=.mp m:=by rw[<- h.same k hn];exact hk
 refine⟨hn,h0,⟨h.tm,fun j hj=>?_,fun j hj=>?_,List.nodup_cons.2 ⟨hn,h.nd⟩⟩⟩
 ·rw[q2y];rcases gK.1 hj with rfl|hj
  ·rw[if_pos rfl];exact⟨.inl rfl,.inr ⟨m,h0⟩⟩
  ·have:k≠j:=fun e=>hn (e▸hj);rw[if_neg this];exact h.gone j hj
 ·rw[gK,not_or]at hj;rw[q2y,if_neg (fun e=>hj.1 e.symm)];exact h.same j hj.2
theorem qtm{L:List Key}{b:Nat}(h:inI c w fp b):inI c w (clr fp L) b:=⟨h.1,h.2.1,fun k hk=>h.2.2 k (qa2 hk).2⟩
theorem qsc{L:List Key}{b:Nat}(h:inJ c w fp b):inJ c w (clr fp L) b:=⟨h.1,h.2.1,fun k hk=>h.2.2 k (qa2 hk).2⟩
theorem qii(h:Inv c s a w val fp){L:List Key}{k:Key}(hk:k∈L){b:Nat}(hb:b∈fp k):inI c w (clr fp L) b:=by
 refine⟨.inr (h.mine k b hb),h.lt hb,fun j hj=>?_⟩;obtain⟨h1,h2⟩:=qa2 hj;exact h.disj k j (fun e=>h1 (e▸hk)) b hb h2
theorem RB.clr{L:List Key}{x:T}{v:Value}(h:RB w (inI c w fp) (inJ c w fp) x v):RB w (inI c w (clr fp L)) (inJ c w (clr fp L)) x v:=
 RB.move h (fun _ hb=>⟨qtm hb,rfl⟩) (fun _ hb=>⟨qsc hb,rfl⟩)
theorem clr_more{L M:List Key}{k:Key}{b:Nat}(h:b∈clr fp (M++L) k):b∈clr fp L k:=by
 obtain⟨h1,h2⟩:=qa2 h;unfold clr;rw[if_neg (fun e=>h1 (gN _ e))];exact h2
theorem RB.clr_more{L M:List Key}{x:T}{v:Value}(h:RB w (inI c w (Ev.clr fp L)) (inJ c w (Ev.clr fp L)) x v):RB w (inI c w (Ev.clr fp (M++L))) (inJ c w (Ev.clr fp (M++L))) x v:=
 RB.move h (fun _ hb=>⟨⟨hb.1,hb.2.1,fun k hk=>hb.2.2 k (Ev.clr_more hk)⟩,rfl⟩) (fun _ hb=>⟨⟨hb.1,hb.2.1,fun k hk=>hb.2.2 k (Ev.clr_more hk)⟩,rfl⟩)
theorem CR_t{f:Fr}{s:St}{x:T}{v:Value}(h:CR f s (.t x) v):RB f.w f.I f.J x v:=h
theorem qeu{w:World}{I J:Nat->Prop}{x:T}{v:Value}(h:RB w I J x v)(hs:x.scalar=true):RO w x v []:=by
 cases h with
 |int k n=>exact .int k n
 |bool b=>exact .bool b
 |str s=>exact .str s
 |sl _ _ _ _ _ _=>simp[T.scalar]at hs
 |rref _ _ _ _=>simp[T.scalar]at hs
 |clo _ _ _=>simp[T.scalar]at hs
 |hole _=>simp[T.scalar]at hs
 |mp _ _ _=>simp[T.scalar]at hs
structure MovedC(c:Ctx)(w:World)(fp:Key->List Nat)(L M:List Key)(b:Bool)(x:C)(y:T)(v:Value)(F:List Nat):Prop where
 rb:RB w (inI c w (clr fp (M++L))) (inJ c w (clr fp (M++L))) y v
 ro:b=true->RO w y v F/\∀x,x∈F->∃k,k∈M/\x∈fp k
 obj:b=true->∀k,x=.obj k->k∈M
theorem qej(h:Inv c s0 a w val fp){L:List Key}(hm:Moved s0 s L){t:TypeId}{x:C}{v:Value}(hx:CR (mkFr c w val fp) s0 x v){f:T->Bool->Prog}
 (hr:runP E (qsp P t x f) s l K=some r):∃y b s' l' M F,runP E (f y b) s' l' K=some r/\Moved s0 s' (M++L)/\MovedC c w fp L M b x y v F:=by
 unfold qsp at hr;split at hr
 ·rename_i y;have hy:=CR_t hx;cases hf:qdi P t with
  |true=>
   rw[hf,cond_true,q1s]at hr;replace hr:=q1c hr;obtain⟨hs,hr⟩:=hr;exact⟨y,true,s,l,[],[],hr,hm,⟨RB.clr hy,fun _=>⟨qeu hy hs,by simp⟩,fun _ k e=>by cases e⟩⟩
  |false=>
   rw[hf,cond_false]at hr;exact⟨y,false,s,l,[],[],hr,hm,⟨RB.clr hy,(fun h=>by cases h),fun _ k e=>by cases e⟩⟩
 ·have hv:v=.slice none 0 0:=hx;subst hv;split at hr
  ·rename_i e he;rw[q1s]at hr;replace hr:=q1c hr;obtain⟨hs,hr⟩:=hr;have hs:0<q38 P e:=Nat.le_of_ble_eq_true hs;exact⟨_,true,s,l,[],[],hr,hm,⟨RB.sl (fun _=>undef) hs (by simp) (gAI _) (fun h=>absurd rfl h) (by simp),fun _=>⟨RO.nil hs,by simp⟩,fun _ k e=>by cases e⟩⟩
  ·cases hr
 ·rename_i k;rw[q3s]at hr;split at hr
  ·rename_i own deep sz cs hk;cases own with
   |false=>
    rw[cond_false]at hr
    have hk0:s0.getO k=.arr false deep sz cs:=by
     by_cases hl:k∈L
     ·rcases(hm.gone k hl).1 with e|⟨j,e⟩ <;> rw[hk]at e <;> cases e
     ·rw[<- hm.same k hl];exact hk
    have hv:=q6a hx hk0;have hob:=h.obs k;rw[hk0]at hob;exact⟨_,false,s,_,[],[],hr,hm,⟨RB.clr (hv▸hob.1),(fun h=>by cases h),fun h=>by cases h⟩⟩
   |true=>
    rw[cond_true,q51]at hr;obtain⟨hn,hk0,hm'⟩:=hm.add (o:=.gone) (.inl rfl) hk;have hv:=q6a hx hk0;have hob:=h.obs k;rw[hk0]at hob;obtain⟨xs,Fg,fs,ho,hF⟩:=q9i.1 hob;refine⟨_,deep,_,_,[k],fp k,hr,hm',⟨?_,fun hd=>?_,fun _ j e=>by cases e;simp⟩⟩
    ·rw[hv];refine ho.rb (fun b hb=>?_) (fun b hb=>qtm hb) (fun b hb=>qsc hb);rw[<- hF]at hb;exact qii h (by simp) hb
    ·subst hd;rw[hv];exact⟨hob,fun x hx=>⟨k,by simp,hx⟩⟩
  ·rename_i mp hk;rw[q51]at hr;obtain⟨hn,hk0,hm'⟩:=hm.addM hk
   have hv:v=val k:=by
    have h1:=hx.1;rw[hk0]at h1;exact h1
   have hob:=h.obs k;rw[hk0]at hob;have hob:RO w (.mp mp) (val k) (fp k):=hob;refine⟨_,true,_,_,[k],fp k,hr,hm',⟨?_,fun hd=>?_,fun _ j e=>by cases e;simp⟩⟩
   ·rw[hv];exact hob.rb fun b hb=>qii h (by simp) hb
   ·rw[hv];exact⟨hob,fun x hx=>⟨k,by simp,hx⟩⟩
  ·cases hr
 ·cases hr
structure MovedCs(c:Ctx)(w:World)(fp:Key->List Nat)(L M:List Key)(b:Bool)(ys:List T)(vs:List Value)(fs:Nat->List Nat):Prop where
 len:ys.length=vs.length
 rb:∀(i:Nat)(y:T)(v:Value),ys[i]?=some y->vs[i]?=some v->RB w (inI c w (clr fp (M++L))) (inJ c w (clr fp (M++L))) y v
 ro:b=true->(∀(i:Nat)(y:T)(v:Value),ys[i]?=some y->vs[i]?=some v->RO w y v (fs i))/\ND ys.length fs/\∀i x,i<ys.length->x∈fs i->∃k,k∈M/\x∈fp k
theorem qb6(h:Inv c s0 a w val fp):∀{ts:List TypeId}{L:List Key}{s:St}{l:Log}{cs:List C}{vs:List Value}{f:List T->Bool->Prog},Moved s0 s L->CRs (mkFr c w val fp) s0 cs vs->
 runP E (qk2 P ts cs f) s l K=some r->∃ys b s' l' M fs,runP E (f ys b) s' l' K=some r/\Moved s0 s' (M++L)/\MovedCs c w fp L M b ys vs fs
 |[],L,s,l,[],vs,f,hm,hx,hr=>by
  have:vs=[]:=gL (by simpa using hx.1.symm);subst this;exact⟨[],true,s,l,[],fun _=>[],hr,hm,⟨rfl,by simp,fun _=>⟨by simp,ND.nil _,by simp⟩⟩⟩
 |t::ts,L,s,l,x::cs,[],f,hm,hx,hr=>by have:=hx.1;simp at this
 |t::ts,L,s,l,x::cs,v::vs,f,hm,hx,hr=>by
  rw[qk2]at hr;obtain⟨y,b,s1,l1,M,F,h1,hm1,hc1⟩:=qej h hm (hx.2 0 x v rfl rfl) hr;obtain⟨ys,b',s2,l2,M',fs,h2,hm2,hc2⟩:=qb6 h hm1 ⟨by simpa using hx.1,fun i c v hc hv=>hx.2 (i+1) c v (by simpa using hc) (by simpa using hv)⟩ h1
  have hap:∀k,k∈M->k∉M':=fun k hk hk'=>by
   have:=hm2.nd;rw[List.nodup_append]at this;exact this.2.2 k hk' k (gJ _ hk) rfl
  refine⟨y::ys,b&&b',s2,l2,M'++M,fun i=>match i with|0=>F|i+1=>fs i,h2,by rw[gZ];exact hm2,⟨by simp[hc2.len],fun i z u hz hu=>?_,fun hb=>?_⟩⟩
  ·rw[gZ];cases i with
   |zero=>simp at hz hu;subst hz;subst hu;exact RB.clr_more hc1.rb
   |succ i=>exact hc2.rb i z u (by simpa using hz) (by simpa using hu)
  ·rw[gC]at hb;obtain⟨r1,r2⟩:=hc1.ro hb.1;obtain⟨q1,q2,q3⟩:=hc2.ro hb.2
   have cross:∀b,b∈F->∀i,i<ys.length->b∉fs i:=fun b hb i hi hbi=>by
    obtain⟨k,hk,hbk⟩:=r2 b hb;obtain⟨k',hk',hbk'⟩:=q3 i b hi hbi;exact h.disj k k' (fun e=>hap k hk (e▸hk')) b hbk hbk'
   refine⟨fun i z u hz hu=>?_,⟨fun i hi=>?_,fun i j hi hj hne b hb hb'=>?_⟩,fun i x hi hx=>?_⟩
   ·cases i with
    |zero=>simp at hz hu;subst hz;subst hu;exact r1
    |succ i=>exact q1 i z u (by simpa using hz) (by simpa using hu)
   ·cases i with
    |zero=>exact r1.nodup
    |succ i=>exact q2.1 i (by simpa using hi)
   ·cases i with
    |zero=>
     cases j with
     |zero=>exact hne rfl
     |succ j=>exact cross b hb j (by simpa using hj) hb'
    |succ i=>
     cases j with
     |zero=>exact cross b hb' i (by simpa using hi) hb
     |succ j=>exact q2.2 i j (by simpa using hi) (by simpa using hj) (by omega) b hb hb'
   ·cases i with
    |zero=>obtain⟨k,hk,hb⟩:=r2 x hx;exact⟨k,gN _ hk,hb⟩
    |succ i=>obtain⟨k,hk,hb⟩:=q3 i x (by simpa using hi) hx;exact⟨k,gJ _ hk,hb⟩
 |[],L,s,l,x::cs,vs,f,hm,hx,hr=>by cases hr
 |t::ts,L,s,l,[],vs,f,hm,hx,hr=>by cases hr
theorem Inv.finish(h:Inv c s a w val fp){L:List Key}(hm:Moved s s1 L){k0:Key}(hk0:k0∉L){o':Ob}{u':Value}{F':List Nat}(hturn:Turns (s.getO k0) o' (val k0) u')(hlent:(s.getO k0).isLent=false)
 (hsub:∀b,b∈F'->(∃k,(k∈L\/k=k0)/\b∈fp k)\/w.heap.size<=b)
 (hw:∀b,b<w.heap.size->(∀k,k∈L\/k=k0->b∉fp k)->w'.heap[b]?=w.heap[b]?)
 (hsize:w.heap.size<=w'.heap.size) (ho:w'.os=w.os) (ht:w'.tape=w.tape) (hu:w'.output=w.output)
 (hob:Goes (mkFr c w val fp) (mkFr c w' (upd val k0 u') (upd (clr fp L) k0 F')) s (s1.setO k0 o')->ObR (mkFr c w' (upd val k0 u') (upd (clr fp L) k0 F')) (s1.setO k0 o') o' u' F') :
 Inv c (s1.setO k0 o') a w' (upd val k0 u') (upd (clr fp L) k0 F')/\Goes (mkFr c w val fp) (mkFr c w' (upd val k0 u') (upd (clr fp L) k0 F')) s (s1.setO k0 o')/\Kp c.own w w':=by
 have hL:∀k,k∈L->k0≠k:=fun k hk e=>hk0 (e▸hk);refine h.changes (fun k=>k∈L\/k=k0) hm.tm (fun k hk=>?_) (fun k hk=>?_) (fun k hk=>?_) (fun k b hk hb=>?_) (fun k k' hk hk' hne b hb hb'=>?_) hw hsize ho ht hu (fun g k hk=>?_)
 ·rw[not_or]at hk;have:k0≠k:=fun e=>hk.2 e.symm;refine⟨by rw[q2y,if_neg this];exact hm.same k hk.1,by simp[upd,this],by simp[upd,this,clr,hk.1]⟩
 ·rcases hk with hk|rfl
  ·obtain⟨h1,⟨d,sz,cells,h2⟩|⟨l,h2⟩⟩:=hm.gone k hk
   ·rw[h2,q2y,if_neg (hL k hk)];rcases h1 with e|⟨j,e⟩ <;> rw[e] <;> trivial
   ·rw[h2,q2y,if_neg (hL k hk)];rcases h1 with e|⟨j,e⟩ <;> rw[e] <;> trivial
  ·simpa using hturn
 ·rcases hk with hk|rfl
  ·obtain⟨_,⟨d,sz,cells,h2⟩|⟨l,h2⟩⟩:=hm.gone k hk
   ·rw[h2];rfl
   ·rw[h2];rfl
  ·exact hlent
 ·rcases hk with hk|rfl
  ·have:b∈upd (clr fp L) k0 F' k:=hb;rw[qab _ _ (hL k hk)]at this;exact absurd hk (qa2 this).1
  ·rw[q78]at hb;exact hsub b hb
 ·rcases hk with hk|rfl
  ·rw[qab _ _ (hL k hk)]at hb;exact absurd hk (qa2 hb).1
  ·rcases hk' with hk'|rfl
   ·rw[qab _ _ (hL k' hk')]at hb';exact absurd hk' (qa2 hb').1
   ·exact absurd rfl hne
 ·rcases hk with hk|rfl
  ·have e1:(s1.setO k0 o').getO k=s1.getO k:=by rw[q2y,if_neg (hL k hk)]
   have e2:upd (clr fp L) k0 F' k=[]:=by rw[qab _ _ (hL k hk)];simp[clr,hk]
   rw[e1,e2];rcases(hm.gone k hk).1 with e|⟨j,e⟩ <;> rw[e] <;> rfl
  ·simpa using hob g
end
end Ev
namespace Ev
open Go
theorem q3y{α:Type}:∀(xs l:List α)(q:Nat)(i:Nat),q+xs.length<=l.length->(setCells l q xs)[i]?=if q<=i/\i<q+xs.length then xs[i-q]? else l[i]?
 |[],l,q,i,h=>by rw[if_neg (by simp),setCells]
 |x::xs,l,q,i,h=>by
  simp only[gAB]at h;rw[setCells,q3y xs (l.set q x) (q+1) i (by simp;omega)];by_cases h1:q=i
  ·subst h1;have:¬(q+1<=q/\q<q+1+xs.length):=by omega
   rw[if_neg this,if_pos (by simp)];have hq:q<l.length:=by omega
   simp[hq]
  ·by_cases h2:q+1<=i/\i<q+1+xs.length
   ·rw[if_pos h2,if_pos (by simp;omega)];rw[show i-q=(i-(q+1))+1 by omega];simp
   ·rw[if_neg h2,if_neg (by simp;omega)];simp[h1]
theorem q41{α:Type}:∀(xs l:List α)(q:Nat),(setCells l q xs).length=l.length
 |[],_,_=>rfl
 |x::xs,l,q=>by rw[setCells,q41 xs];simp
theorem qyb{α:Type}(l xs:List α)(q:Nat)(h:q+xs.length<=l.length):l.take q++xs++l.drop (q+xs.length)=setCells l q xs:=by
 apply List.ext_getElem?;intro i;rw[q3y _ _ _ _ h,gZ,List.getElem?_append,List.getElem?_append];simp only[gAF,gT,gV];by_cases h1:i<q
 ·simp[h1,show i<min q l.length by omega,show ¬ q<=i by omega]
 ·have:¬ i<min q l.length:=by omega
  rw[if_neg this,show min q l.length=q by omega];by_cases h2:i-q<xs.length
  ·rw[if_pos h2,if_pos (by omega)]
  ·rw[if_neg h2,if_neg (by omega)];congr 1;omega
theorem quk{f:Fr}{s:St}{cs:List C}{vs:List Value}(h:CRs f s cs vs){xs:List C}{us:List Value}(hx:CRs f s xs us){q:Nat}(hq:q+xs.length<=cs.length):CRs f s (setCells cs q xs) (setCells vs q us):=by
 refine⟨by rw[q41,q41];exact h.1,fun i c v hc hv=>?_⟩;rw[q3y _ _ _ _ hq]at hc;rw[q3y _ _ _ _ (by rw[<- hx.1,<- h.1];exact hq),<- hx.1]at hv;split at hc
 ·rename_i h1;rw[if_pos h1]at hv;exact hx.2 _ _ _ hc hv
 ·rename_i h1;rw[if_neg h1]at hv;exact h.2 _ _ _ hc hv
theorem qfj{f:Fr}{s:St}{v:V}{u:Value}(h:VR f s v u)(hp:0<v.cells.length):CRs f s v.cells u.cells.toList:=by
 cases v with
 |one c=>
  rw[qmw (CR.one h)];refine⟨rfl,fun i c' v' hc hv'=>?_⟩;cases i with
  |zero=>simp[V.cells]at hc hv';subst hc;subst hv';exact h
  |succ i=>simp[V.cells]at hc
 |agg cs=>obtain⟨vs,rfl,h⟩:=h;exact h
 |tup _=>simp[V.cells]at hp
 |clo _ _=>simp[V.cells]at hp
 |skip=>simp[V.cells]at hp
 |any=>simp[V.cells]at hp
theorem qag{n:Nat}(h:Nat.blt 0 n=true):0<n:=Nat.le_of_ble_eq_true h
theorem qnh:∀(xs:List Value)(k off:Nat)(cells:Array Value),((xs.zipIdx k).foldl (fun cs (p:Value×Nat)=>cs.setIfInBounds (off+p.2) p.1) cells).toList=setCells cells.toList (off+k) xs
 |[],_,_,_=>rfl
 |x::xs,k,off,cells=>by
  rw[List.zipIdx_cons,List.foldl_cons,qnh xs (k+1) off];simp[setCells,Nat.add_assoc]
theorem qse(xs cells:Array Value)(off:Nat):(xs.zipIdx.foldl (fun cs (p:Value×Nat)=>cs.setIfInBounds (off+p.2) p.1) cells).toList=setCells cells.toList off xs.toList:=by
 have:=qnh xs.toList 0 off cells;rw[Nat.add_zero]at this;rw[<- this,<- Array.foldl_toList,Array.toList_zipIdx]
theorem qfp{f:Fr}{s:St}{place place':Nat->Option (Nat×Nat)}(hp:∀i,place i=place' i):∀{vs:List (Nat×V)}{us:List (Nat×Value)}{cs:List C}{cells:Array Value}{cs':List C},
 CRs f s cs cells.toList->vs.length=us.length->(∀(i:Nat)(p:Nat×V)(u:Nat×Value),vs[i]?=some p->us[i]?=some u->p.1=u.1/\VR f s p.2 u.2)->qih place cs vs=some cs'->
 ∃cells',Instr.fill place' cells us=some cells'/\CRs f s cs' cells'.toList
 |[],[],cs,cells,cs',hc,_,_,hf=>by cases hf;exact⟨cells,rfl,hc⟩
 |[],_::_,_,_,_,_,hl,_,_=>by simp at hl
 |_::_,[],_,_,_,_,hl,_,_=>by simp at hl
 |(i,v)::vs,(j,u)::us,cs,cells,cs',hc,hl,hv,hf=>by
  obtain⟨e1,e2⟩:=hv 0 _ _ rfl rfl;simp only at e1 e2;subst e1;rw[qih]at hf;split at hf
  ·rename_i off size hpl;replace hf:=q1c hf;obtain⟨hb,hf⟩:=hf;rw[gC,gC]at hb;have h1:=qag hb.1.1;have h2:v.cells.length=size:=gE hb.1.2;have h3:=gAH hb.2;have hvc:=qfj e2 (by omega);have hsz:u.cells.size=size:=by have:=hvc.1;simp at this;omega
   obtain⟨cells',r1,r2⟩:=qfp hp (cells:=(u.cells.zipIdx.foldl (fun cs (p:Value×Nat)=>cs.setIfInBounds (off+p.2) p.1) cells)) (us:=us) (by
    rw[qse];exact quk hc hvc (by omega)) (by simpa using hl) (fun i p u' hp' hu'=>hv (i+1) p u' (by simpa using hp') (by simpa using hu')) hf
   refine⟨cells',?_,r2⟩;have hcl:=hc.1;simp at hcl;rw[Instr.fill,<- hp,hpl];simp only;rw[if_neg (by simp;omega)];exact r1
  ·cases hf
section
variable {P:Program}{A:q7t}{E:Env}{c:Ctx}{s:St}{a:Act}{w:World}{val:Key->Value}{fp:Key->List Nat}
variable {l:Log}{K:St->Log->R}{r:T×List T}
theorem qe6(h:Inv c s a w val fp):∀{xs:List (Nat×Operand)}{f:List (Nat×V)->Prog}{l:Log},runP E (qu7 xs f) s l K=some r->
 ∃vs l',runP E (f vs) s l' K=some r/\vs.length=(xs.map fun(i,x)=>(i,a.eval x)).length/\
  ∀(i:Nat)(p:Nat×V)(u:Nat×Value),vs[i]?=some p->(xs.map fun(i,x)=>(i,a.eval x))[i]?=some u->p.1=u.1/\VR (mkFr c w val fp) s p.2 u.2
 |[],f,l,hr=>⟨[],l,hr,rfl,by simp⟩
 |(i,x)::xs,f,l,hr=>by
  rw[qu7]at hr;obtain⟨v,l1,h1,hv⟩:=q2x h hr;obtain⟨vs,l2,h2,hl,hvs⟩:=qe6 h h1;refine⟨(i,v)::vs,l2,h2,by simp at hl ⊢;exact hl,fun j p u hp hu=>?_⟩;cases j with
  |zero=>simp at hp hu;subst hp;subst hu;exact⟨rfl,hv⟩
  |succ j=>exact hvs j p u (by simpa using hp) (by simpa using hu)
theorem qjt{t:TypeId}{cs:List C}(h:zeroC P t=some cs):∃i z,P.info? t=some i/\i.zero=some z/\z.cells.size=i.size/\z.cells.toList.all (·.oneCell')=true/\cs=z.cells.toList.map ofC:=by
 unfold zeroC at h;split at h
 ·rename_i i hi;split at h
  ·rename_i z hz;replace h:=q1c h;obtain⟨hb,h⟩:=h;rw[gC]at hb;cases h;exact⟨i,z,hi,hz,gE hb.2,hb.1,rfl⟩
  ·cases h
 ·cases h
theorem qk6{t:TypeId}{z:Option (List C)}{vs:List (Nat×V)}{cs:List C}(h:qv1 P t z vs=some cs):∃z' p,z=some z'/\qlr P t=some p/\qih p z' vs=some cs:=by
 unfold qv1 at h;split at h
 ·rename_i z' p hp;exact⟨z',p,rfl,hp,h⟩
 ·cases h
theorem qv7(h:Inv c s a w val fp){o:Oper}{t:TypeId}{ps:Array (Nat×Operand)}(ho:o.op=.build t ps)(hd:∀d,o.dst=some d->d<a.tmps.size)
 {Q:Exit->Act->World->Prop} (hr:runP E (opP P A o) s l K=some r):o.wp P a w (Post c w K r) Q:=by
 unfold opP at hr;simp only[ho]at hr;rw[q1s]at hr;replace hr:=q1c hr;obtain⟨hag,hr⟩:=hr;obtain⟨vs,l1,h1,hl,hvs⟩:=qe6 h hr;split at h1
 ·rename_i cs hcs;obtain⟨z',p,hz,hp,hf⟩:=qk6 hcs;obtain⟨i,z,hi,hiz,hzs,hzo,rfl⟩:=qjt hz;obtain⟨d,l2,hd',h2⟩:=q4p h1
  have fin:∀{place':Nat->Option (Nat×Nat)},(∀i,p i=place' i)->(∀cells,Instr.fill place' z.cells (ps.toList.map fun(i,x)=>(i,a.eval x))=some cells->P.built t (ps.toList.map fun(i,x)=>(i,a.eval x))=some cells)->
   o.wp P a w (Post c w K r) Q:=by
   intro place' hpl hb;obtain⟨cells',r1,r2⟩:=qfp (f:=mkFr c w val fp) hpl (qpx hzo) hl hvs hf;have hrun:=run_build (P:=P) w t (ps.map fun(i,x)=>(i,a.eval x)) cells' (by simpa using hb _ r1);refine q3h (v:=.agg cells') (w':=w) (by simp[execOp,ho,hrun]) ?_;rw[hd'];exact q36 (o:=o) (x:=.agg _) h (hd d hd') ⟨cells',rfl,r2⟩ h2
  unfold qlr at hp;split at hp
  ·rename_i fs hu;rw[gP]at hp;obtain⟨pl,hpl,rfl⟩:=hp;exact fin (place':=(pl[·]?)) (fun i=>rfl) fun cells hcells=>by simpa[Program.built,hi,hu,hiz,hpl]using hcells
  ·rename_i m e hu;rw[gP]at hp;obtain⟨ie,hie,rfl⟩:=hp;exact fin (place':=fun i=>some (i*ie.size,ie.size)) (fun i=>rfl) fun cells hcells=>by simpa[Program.built,hi,hu,hiz,hie]using hcells
  ·rename_i e hu;simp[q86,hu]at hag
  ·cases hp
 ·cases h1
end
end Ev
end
section
namespace Ev
open Go
section
variable {P:Program}{A:q7t}{E:Env}{c:Ctx}{s s1:St}{a:Act}{w w':World}{val:Key->Value}{fp:Key->List Nat}
variable {l:Log}{K:St->Log->R}{r:T×List T}
structure SlTy(P:Program)(t e:TypeId)(i:TypeInfo)(z:Value):Prop where
 hu:P.underlying t=some (.slice e)
 hi:P.info? e=some i
 hz:i.zero=some z
 hzs:z.cells.size=i.size
 hzo:z.cells.toList.all (·.oneCell')=true
 pos:0<i.size
 bpos:0<i.bytes
 stride:q5e P t=i.size
 elem:qfw P t=e
 size:q38 P e=i.size
 bytes:qkq P e=i.bytes
 tys:tyOk P e=true
 ntys:(q26 P 8 e).length=i.size
 zeroC:zeroC P e=some (z.cells.toList.map ofC)
theorem qcz{t:TypeId}(h:slOk P t=true):∃e i z,SlTy P t e i z:=by
 unfold slOk at h;split at h
 ·rename_i e hu;simp only[gC]at h;obtain⟨⟨⟨h1,h2⟩,h3⟩,h4⟩:=h;obtain⟨cs,hcs⟩:=gAM.1 h4;obtain⟨i,z,hi,hz,hzs,hzo,rfl⟩:=qjt hcs;obtain⟨i',d,hi',hd,hs,_⟩:=qde h1;rw[hi]at hi';cases hi';have es:q38 P e=i.size:=by simp[q38,hi]
  have eb:qkq P e=i.bytes:=by simp[qkq,hi]
  have h2:=qag h2;have h3:=qag h3;exact⟨e,i,z,hu,hi,hz,hzs,hzo,by omega,by omega,by simp[q5e,hu,es],by simp[qfw,hu],es,eb,h1,hs.symm,hcs⟩
 ·cases h
theorem qug{e:TypeId}{i:TypeInfo}(hi:P.info? e=some i){n:Nat}(h:fits P e n=true):n*i.bytes<=140737488355328*i.size:=by
 have:=Nat.le_of_ble_eq_true h;simpa[q38,qkq,hi]using this
theorem qta(h:Inv c s a w val fp){k:Key}{own deep:Bool}{sz:Nat}{cells:List T}(hk:s.getO k=.arr own deep sz cells) :
 ∃A m cp,∃news:List Value,val k=.slice A m cp/\0<sz/\cells.length=m*sz/\news.length=cells.length/\
  (news≠[]->∃ad,A=some ad/\∀(j:Nat)(u:Value),news[j]?=some u->w.cell? (ad.add j)=some u)/\
  (∀(i:Nat)(y:T)(v:Value),cells[i]?=some y->news[i]?=some v->RB w (inI c w (clr fp [k])) (inJ c w (clr fp [k])) y v)/\
  (own=true->deep=true->∃fs,ND cells.length fs/\(∀i b,i<cells.length->b∈fs i->b∈fp k)/\
   ∀(i:Nat)(y:T)(v:Value),cells[i]?=some y->news[i]?=some v->RO w y v (fs i)):=by
 have hob:=h.obs k;rw[hk]at hob;cases own with
 |false=>
  obtain⟨A,m,cp,e,h1,h2,h3,vs,hc,h4⟩:=RB.sl_inv hob.1;refine⟨A,m,cp,(List.range cells.length).map vs,e,h1,h2,by simp,fun hne=>?_,fun i y v hy hv=>?_,fun h=>by cases h⟩
  ·have hne':cells≠[]:=by intro h;rw[h]at hne;simp at hne
   obtain⟨b,o,rfl,_,h5⟩:=h4 hne';refine⟨_,rfl,fun j u hu=>?_⟩;simp only[gAC,gP]at hu;obtain⟨j',hj,rfl⟩:=hu;rw[gB]at hj;obtain⟨hj1,hj2⟩:=hj;simp at hj1 hj2;subst hj2;rw[qbp];exact h5 j hj1
  ·have hi:=(gB.1 hy).1;simp[hi]at hv;subst hv;exact RB.clr (hc i y hy)
 |true=>
  obtain⟨xs,Fg,fs,ho,hF⟩:=q9i.1 hob;obtain⟨A,m,cp,hv,hl,hcp⟩:=ho.row.slice;refine⟨A,m,cp,xs,hv,ho.pos,by rw[<- ho.len];exact hl,ho.len,fun hne=>?_,fun i y v hy hvv=>?_,fun _ hd=>?_⟩
  ·obtain⟨g,len,cap,e1,e2,_⟩:=ho.row.cell (gA (List.length_pos_iff.2 hne));rw[hv]at e1;cases e1;refine⟨_,rfl,fun j u hu=>?_⟩;obtain⟨g',_,_,e3,e4,e5⟩:=ho.row.cell hu;rw[hv]at e3;cases e3;rw[qbp,gAJ];exact e5
  ·have hi:=(gB.1 hy).1;have hel:=ho.el i y v hy hvv;unfold El at hel;split at hel
   ·refine RO.rb hel fun b hb=>qii h (gD.2 rfl) ?_;rw[hF];exact gN _ (q23.2 ⟨i,hi,hb⟩)
   ·exact RB.clr hel.1
  ·subst hd;refine⟨fs,ho.nd,fun i b hi hb=>?_,fun i y v hy hvv=>by have h1:=ho.el i y v hy hvv;rw[El,if_pos rfl]at h1;exact h1⟩;rw[hF];exact gN _ (q23.2 ⟨i,hi,hb⟩)
theorem qbo{w w':World}{I J I' J':Nat->Prop}{x:T}{v:Value}(h:RB w I J x v)(hs:x.scalar=true):RB w' I' J' x v:=by
 cases h with
 |int k n=>exact .int k n
 |bool b=>exact .bool b
 |str s=>exact .str s
 |sl _ _ _ _ _ _=>simp[T.scalar]at hs
 |rref _ _ _ _=>simp[T.scalar]at hs
 |clo _ _ _=>simp[T.scalar]at hs
 |hole _=>simp[T.scalar]at hs
 |mp _ _ _=>simp[T.scalar]at hs
theorem qeo{L:List Key}{ys:List T}{news:List Value}(hl:ys.length=news.length)(hs:ys.all T.scalar=true){I J:Nat->Prop}(h:∀(i:Nat)(y:T)(v:Value),ys[i]?=some y->news[i]?=some v->RB w I J y v) :
 MovedCs c w fp L [] true ys news fun _=>[]:=by
 refine⟨hl,fun i y v hy hv=>?_,fun _=>⟨fun i y v hy hv=>?_,ND.nil _,by simp⟩⟩
 ·exact qbo (h i y v hy hv) (gAL.1 hs y (List.mem_of_getElem? hy))
 ·exact qeu (h i y v hy hv) (gAL.1 hs y (List.mem_of_getElem? hy))
theorem qmu(h:Inv c s a w val fp){sz:Nat}(hsz:0<sz){fl:Bool}{x:V}{vx:Value}(hx:VR (mkFr c w val fp) s x vx){f:List T->Bool->Prog}(hr:runP E (qsj sz fl x f) s l K=some r) :
 ∃ys b s' l' M fs A m cp,∃news:List Value,runP E (f ys b) s' l' K=some r/\Moved s s' M/\vx=.slice A m cp/\news.length=m*sz/\
  (news≠[]->∃ad,A=some ad/\∀(j:Nat)(u:Value),news[j]?=some u->w.cell? (ad.add j)=some u)/\MovedCs c w fp [] M b ys news fs:=by
 unfold qsj at hr;split at hr
 ·rename_i y;rw[q6f]at hr;split at hr
  ·rename_i sz' cs;replace hr:=q1c hr;obtain⟨h1,hr⟩:=hr;have:sz'=sz:=gE h1;subst this;obtain⟨A,m,cp,e,e1,e2,e3,vs,hc,hcells⟩:=RB.sl_inv hx
   have hrb:∀(i:Nat)(y:T)(v:Value),cs[i]?=some y->((List.range cs.length).map vs)[i]?=some v->RB w (inI c w fp) (inJ c w fp) y v:=fun i y v hy hv=>by
    have hi:=(gB.1 hy).1;simp[hi]at hv;subst hv;exact hc i y hy
   have hn:((List.range cs.length).map vs)≠[]->∃ad,A=some ad/\∀(j:Nat)(u:Value),((List.range cs.length).map vs)[j]?=some u->w.cell? (ad.add j)=some u:=fun hne=>by
    have hne':cs≠[]:=by intro h;rw[h]at hne;simp at hne
    obtain⟨b,o,rfl,_,h5⟩:=hcells hne';refine⟨_,rfl,fun j u hu=>?_⟩;simp only[gAC,gP]at hu;obtain⟨j',hj,rfl⟩:=hu;rw[gB]at hj;obtain⟨hj1,hj2⟩:=hj;simp at hj1 hj2;subst hj2;rw[qbp];exact h5 j hj1
   cases fl with
   |true=>
    rw[cond_true,q1s]at hr;replace hr:=q1c hr;obtain⟨hs,hr⟩:=hr;exact⟨cs,true,s,_,[],_,A,m,cp,_,hr,Moved.refl s,e,by simp[e2],hn,qeo (by simp) hs hrb⟩
   |false=>
    rw[cond_false]at hr;exact⟨cs,false,s,_,[],fun _=>[],A,m,cp,_,hr,Moved.refl s,e,by simp[e2],hn,⟨by simp,fun i y v hy hv=>RB.clr (hrb i y v hy hv),fun h=>by cases h⟩⟩
  ·cases hr
 ·have hv:vx=.slice none 0 0:=hx;exact⟨[],true,s,_,[],fun _=>[],none,0,0,[],hr,Moved.refl s,hv,by simp,fun h=>absurd rfl h,⟨rfl,by simp,fun _=>⟨by simp,ND.nil _,by simp⟩⟩⟩
 ·rename_i k;rw[q3s]at hr;split at hr
  ·rename_i own deep sz' cs hk;rw[q1s]at hr;replace hr:=q1c hr;obtain⟨h1,hr⟩:=hr;have:sz'=sz:=gE h1;subst this;have hv:=q6a hx hk;obtain⟨A,m,cp,news,e,e1,e2,e3,hn,hrb,hro⟩:=qta h hk;have hvx:vx=.slice A m cp:=hv.trans e;cases fl with
   |true=>
    rw[cond_true,q1s]at hr;replace hr:=q1c hr;obtain⟨hs,hr⟩:=hr;exact⟨cs,true,s,_,[],_,A,m,cp,news,hr,Moved.refl s,hvx,by omega,hn,qeo e3.symm hs hrb⟩
   |false=>
    rw[cond_false]at hr;cases own with
    |true=>
     rw[cond_true,q51]at hr;obtain⟨_,_,hm⟩:=(Moved.refl s).add (o:=.gone) (.inl rfl) hk;cases deep with
     |true=>
      obtain⟨fs,f1,f2,f3⟩:=hro rfl rfl;exact⟨cs,true,_,_,[k],fs,A,m,cp,news,hr,hm,hvx,by omega,hn,⟨e3.symm,hrb,fun _=>⟨f3,f1,fun i b hi hb=>⟨k,by simp,f2 i b hi hb⟩⟩⟩⟩
     |false=>exact⟨cs,false,_,_,[k],fun _=>[],A,m,cp,news,hr,hm,hvx,by omega,hn,⟨e3.symm,hrb,fun h=>by cases h⟩⟩
    |false=>
     rw[cond_false]at hr;have hob:=h.obs k;rw[hk]at hob;refine⟨cs,false,s,_,[],fun _=>[],A,m,cp,news,hr,Moved.refl s,hvx,by omega,hn,⟨e3.symm,fun i y v hy hv=>?_,fun h=>by cases h⟩⟩;refine RB.move (hrb i y v hy hv) (fun b hb=>⟨⟨hb.1,hb.2.1,fun j hj=>?_⟩,rfl⟩) (fun b hb=>⟨⟨hb.1,hb.2.1,fun j hj=>?_⟩,rfl⟩)
     ·obtain⟨_,hj2⟩:=qa2 hj;by_cases hjk:j=k
      ·rw[hjk,show fp k=[]from hob.2]at hj2;simp at hj2
      ·exact hb.2.2 j (by simp[clr,hjk,hj2])
     ·obtain⟨_,hj2⟩:=qa2 hj;by_cases hjk:j=k
      ·rw[hjk,show fp k=[]from hob.2]at hj2;simp at hj2
      ·exact hb.2.2 j (by simp[clr,hjk,hj2])
  ·cases hr
 ·cases hr
theorem qoa(h:Inv c s a w val fp){L M:List Key}(hm:Moved s s1 L)(hML:∀k,k∈M->k∈L){deep b:Bool}{sz:Nat}{cells ys:List T}{u:Value}{xs news:List Value}{Fg:List Nat}{fs gs:Nat->List Nat}
 (ho:OwnR w (inI c w fp) (inJ c w fp) deep sz cells u xs Fg fs) (hin:∀x,x∈Fg++flat cells.length fs->∃k,k∈L/\k∉M/\x∈fp k) (hmv:MovedCs c w fp [] M b ys news gs)
 {k0:Key} (hfree:s1.getO k0=.free) {u':Value} {F':List Nat} (hrow:RowAt w' sz u' (xs++news) F') (hF:∀x,x∈F'->x∈Fg\/x=w.heap.size)
 (hw:∀x,x<w.heap.size->x∉Fg->w'.heap[x]?=w.heap[x]?) (hsize:w.heap.size<=w'.heap.size) (hos:w'.os=w.os) (ht:w'.tape=w.tape) (hu:w'.output=w.output) :
 ∃F'',Inv c (s1.setO k0 (.arr true (deep&&b) sz (cells++ys))) a w' (upd val k0 u') (upd (clr fp L) k0 F'')/\Kp c.own w w'/\
  CR (mkFr c w' (upd val k0 u') (upd (clr fp L) k0 F'')) (s1.setO k0 (.arr true (deep&&b) sz (cells++ys))) (.obj k0) u':=by
 have hk0:k0∉L:=fun hk=>by rcases(hm.gone k0 hk).1 with e|⟨j,e⟩ <;> rw[hfree]at e <;> cases e
 have hfree0:s.getO k0=.free:=by rw[<- hm.same k0 hk0];exact hfree
 have hlt:∀x,x∈Fg++flat cells.length fs->x<w.heap.size:=fun x hx=>by obtain⟨k,_,_,hk⟩:=hin x hx;exact h.lt hk
 have hFg:∀k x,k∉L->x∈Fg++flat cells.length fs->x∉fp k:=fun k x hk hx hxk=>by
  obtain⟨k',hk',_,hx'⟩:=hin x hx;exact h.disj k k' (fun e=>hk (e▸hk')) x hxk hx'
 let hs:Nat->List Nat:=fun i=>if i<cells.length then fs i else gs (i-cells.length)
 let F'':List Nat:=F'++(if(deep&&b)=true then flat (cells++ys).length hs else[])
 have good:∀x,(c.own x\/c.I x)->x<w.heap.size->x∉Fg->(∀k,k∉L->x∉fp k)->(deep&&b)=false->inI c w' (upd (clr fp L) k0 F'') x/\w'.heap[x]?=w.heap[x]?:=by
  intro x h1 h2 h3 h4 hdb;refine⟨⟨h1.symm,Nat.lt_of_lt_of_le h2 hsize,fun k hk=>?_⟩,hw x h2 h3⟩;by_cases hkk:k0=k
  ·subst hkk;rw[q78]at hk;have:F''=F':=by show F'++_=F';rw[hdb];simp
   rw[this]at hk;rcases hF x hk with h|h
   ·exact h3 h
   ·omega
  ·rw[qab _ _ hkk]at hk;obtain⟨e1,e2⟩:=qa2 hk;exact h4 k e1 e2
 have goodJ:∀x,(c.own x\/c.J x)->x<w.heap.size->x∉Fg->(∀k,k∉L->x∉fp k)->(deep&&b)=false->inJ c w' (upd (clr fp L) k0 F'') x/\w'.heap[x]?=w.heap[x]?:=by
  intro x h1 h2 h3 h4 hdb;refine⟨⟨h1.symm,Nat.lt_of_lt_of_le h2 hsize,fun k hk=>?_⟩,hw x h2 h3⟩;by_cases hkk:k0=k
  ·subst hkk;rw[q78]at hk;have:F''=F':=by show F'++_=F';rw[hdb];simp
   rw[this]at hk;rcases hF x hk with h|h
   ·exact h3 h
   ·omega
  ·rw[qab _ _ hkk]at hk;obtain⟨e1,e2⟩:=qa2 hk;exact h4 k e1 e2
 have fgM:∀x k,k∈M->x∈fp k->x∉Fg:=fun x k hk hx hxg=>by
  obtain⟨k',_,h2,h3⟩:=hin x (gJ _ hxg);exact h.disj k k' (fun e=>h2 (e▸hk)) x hx h3
 have own':OwnR w' (inI c w' (upd (clr fp L) k0 F'')) (inJ c w' (upd (clr fp L) k0 F'')) (deep&&b) sz (cells++ys) u' (xs++news) F' (fun i=>if(deep&&b)=true then hs i else[]):=by
  refine⟨ho.pos,hrow,by simp[ho.len,hmv.len],?_,fun x hx i hi=>?_,fun i y v hy hv=>?_⟩
  ·cases hdb:(deep&&b)with
   |false=>simpa using ND.nil _
   |true=>
    simp only[if_true];rw[gC]at hdb;obtain⟨q1,q2,q3⟩:=hmv.ro hdb.2;rw[gM];refine⟨fun i hi=>?_,fun i j hi hj hne x hx hx'=>?_⟩
    ·show(hs i).Nodup;simp only[hs];split
     ·exact ho.nd.1 i (by assumption)
     ·exact q2.1 _ (by omega)
    ·simp only[hs]at hx hx';split at hx
     ·split at hx'
      ·exact ho.nd.2 i j (by assumption) (by assumption) hne x hx hx'
      ·obtain⟨k,hk,hxk⟩:=q3 _ x (by omega) hx';obtain⟨k',_,h2,h3⟩:=hin x (gN _ (q23.2 ⟨i,by assumption,hx⟩));exact h.disj k k' (fun e=>h2 (e▸hk)) x hxk h3
     ·split at hx'
      ·obtain⟨k,hk,hxk⟩:=q3 _ x (by omega) hx;obtain⟨k',_,h2,h3⟩:=hin x (gN _ (q23.2 ⟨j,by assumption,hx'⟩));exact h.disj k k' (fun e=>h2 (e▸hk)) x hxk h3
      ·exact q2.2 _ _ (by omega) (by omega) (by omega) x hx hx'
  ·cases hdb:(deep&&b)with
   |false=>simp
   |true=>
    simp only[if_true];rw[gC]at hdb;obtain⟨q1,q2,q3⟩:=hmv.ro hdb.2;rw[gM]at hi;intro hxh
    have hxlt:x<w.heap.size:=by
     simp only[hs]at hxh;split at hxh
     ·exact hlt x (gN _ (q23.2 ⟨i,by assumption,hxh⟩))
     ·obtain⟨k,hk,hxk⟩:=q3 _ x (by omega) hxh;exact h.lt hxk
    rcases hF x hx with h1|h1
    ·simp only[hs]at hxh;split at hxh
     ·exact ho.apart x h1 i (by assumption) hxh
     ·obtain⟨k,hk,hxk⟩:=q3 _ x (by omega) hxh;exact fgM x k hk hxk h1
    ·omega
  ·have hcase:(i<cells.length/\cells[i]?=some y/\xs[i]?=some v)\/(¬ i<cells.length/\ys[i-cells.length]?=some y/\news[i-cells.length]?=some v):=by
    rw[List.getElem?_append]at hy hv;rw[ho.len]at hv;split at hy
    ·rename_i hlt';rw[if_pos hlt']at hv;exact .inl ⟨hlt',hy,hv⟩
    ·rename_i hlt';rw[if_neg hlt']at hv;exact .inr ⟨hlt',hy,hv⟩
   cases hdb:(deep&&b)with
   |true=>
    simp only[El,if_true];rw[gC]at hdb;obtain⟨q1,q2,q3⟩:=hmv.ro hdb.2;rcases hcase with⟨h1,h2,h3⟩|⟨h1,h2,h3⟩
    ·have hel:=ho.el i y v h2 h3;rw[El,if_pos hdb.1]at hel;simp only[hs,if_pos h1];refine RO.move hel fun x hx=>hw x (hlt x (gN _ (q23.2 ⟨i,h1,hx⟩))) fun hxg=>ho.apart x hxg i h1 hx
    ·simp only[hs,if_neg h1];refine RO.move (q1 _ y v h2 h3) fun x hx=>?_;obtain⟨k,hk,hxk⟩:=q3 _ x (gB.1 h2).1 hx;exact hw x (h.lt hxk) (fgM x k hk hxk)
   |false=>
    simp only[El,Bool.false_eq_true,if_false,and_true];rcases hcase with⟨h1,h2,h3⟩|⟨h1,h2,h3⟩
    ·have hel:=ho.el i y v h2 h3;rw[El]at hel;split at hel
     ·refine RO.rb (I:=inI c w' (upd (clr fp L) k0 F'')) (RO.move hel fun x hx=>hw x (hlt x (gN _ (q23.2 ⟨i,h1,hx⟩))) fun hxg=>ho.apart x hxg i h1 hx) fun x hx=>?_;have hxm:x∈Fg++flat cells.length fs:=gN _ (q23.2 ⟨i,h1,hx⟩);obtain⟨k,_,_,hk⟩:=hin x hxm;exact(good x (.inl (h.mine k x hk)) (h.lt hk) (fun hxg=>ho.apart x hxg i h1 hx) (fun k hk=>hFg k x hk hxm) hdb).1
     ·have key:∀x,(∀k,x∉fp k)->x∉Fg:=fun x hx hxg=>by obtain⟨k,_,_,hk⟩:=hin x (gJ _ hxg);exact hx k hk
      exact RB.move hel.1 (fun x hx=>good x hx.1.symm hx.2.1 (key x hx.2.2) (fun k _=>hx.2.2 k) hdb) (fun x hx=>goodJ x hx.1.symm hx.2.1 (key x hx.2.2) (fun k _=>hx.2.2 k) hdb)
    ·have hrb:=hmv.rb _ y v h2 h3
     have key:∀x,(∀k,x∉clr fp (M++[]) k)->x∉Fg/\∀k,k∉L->x∉fp k:=fun x hx=>by
      refine⟨fun hxg=>?_,fun k hk hxk=>?_⟩
      ·obtain⟨k,_,hkM,hk⟩:=hin x (gJ _ hxg);exact hx k (by simp[clr,hkM,hk])
      ·exact hx k (by have:k∉M:=fun e=>hk (hML k e);simp[clr,this,hxk])
     exact RB.move hrb (fun x hx=>good x hx.1.symm hx.2.1 (key x hx.2.2).1 (key x hx.2.2).2 hdb) (fun x hx=>goodJ x hx.1.symm hx.2.1 (key x hx.2.2).1 (key x hx.2.2).2 hdb)
 have hF'':F''=F'++flat (cells++ys).length (fun i=>if(deep&&b)=true then hs i else[]):=by
  show F'++_=_;congr 1;cases hdb:(deep&&b)with
  |true=>simp
  |false=>simp[flat]
 obtain⟨r1,r2,r3⟩:=h.finish (w':=w') hm hk0 (o':=.arr true (deep&&b) sz (cells++ys)) (u':=u') (F':=F'') (by rw[hfree0];trivial) (by rw[hfree0];rfl) (fun x hx=>by
  rcases gO.1 hx with hx|hx
  ·rcases hF x hx with h1|h1
   ·obtain⟨k,hk,_,hxk⟩:=hin x (gJ _ h1);exact .inl ⟨k,.inl hk,hxk⟩
   ·exact .inr (by omega)
  ·split at hx
   ·rename_i hdb;rw[gC]at hdb;obtain⟨q1,q2,q3⟩:=hmv.ro hdb.2;obtain⟨i,hi,hx⟩:=q23.1 hx;rw[gM]at hi;simp only[hs]at hx;split at hx
    ·obtain⟨k,hk,_,hxk⟩:=hin x (gN _ (q23.2 ⟨i,by assumption,hx⟩));exact .inl ⟨k,.inl hk,hxk⟩
    ·obtain⟨k,hk,hxk⟩:=q3 _ x (by omega) hx;exact .inl ⟨k,.inl (hML k hk),hxk⟩
   ·simp at hx)
  (fun x hx hn=>hw x hx fun hxg=>by obtain⟨k,hk,_,hxk⟩:=hin x (gJ _ hxg);exact hn k (.inl hk) hxk) hsize hos ht hu
  (fun _=>q9i.2 ⟨xs++news,F',_,own',hF''⟩)
 refine⟨F'',r1,r3,?_,?_⟩
 ·show Ob.ref _ _;rw[q2y,if_pos rfl];show u'=upd val k0 u' k0;rw[q78]
 ·obtain⟨a1,a2,a3,e,_⟩:=hrow.slice;rw[e];rfl
end
end Ev
namespace Ev
open Go
section
variable {P:Program}{A:q7t}{E:Env}{c:Ctx}{s s1:St}{a:Act}{w w':World}{val:Key->Value}{fp:Key->List Nat}
variable {l:Log}{K:St->Log->R}{r:T×List T}
theorem qr5{t:TypeId}(h:qm8 P t=true):∃e,P.underlying t=some (.slice e):=by
 unfold qm8 at h;split at h
 ·exact⟨_,by assumption⟩
 ·cases h
theorem qqc{w:World}{I J:Nat->Prop}{sz:Nat}(hsz:0<sz){a:Option Addr}:OwnR w I J true sz [] (.slice a 0 0) [] [] fun _=>[]:=
 ⟨hsz,.inl ⟨rfl,rfl,_,rfl⟩,rfl,ND.nil _,by simp,by simp⟩
theorem qsr(h:Inv c s a w val fp){o:Oper}{cl:Call}{t t':TypeId}{x y:Operand}(ho:o.op=.call cl)(hcl:cl.callee=.builtin .append)(hargs:cl.args = #[x,y])(htys:cl.argTypes = #[t,t']){d:Nat}(hd':o.dst=some d)(hd:d<a.tmps.size)
 {Q:Exit->Act->World->Prop} (hr:runP E (getV x fun vs=>getV y fun vx=>qps P t t' d vs vx) s l K=some r):o.wp P a w (Post c w K r) Q:=by
 obtain⟨vs,l1,h1,hs⟩:=q2x h hr;obtain⟨vx,l2,h2,hx⟩:=q2x h h1;unfold qps at h2;rw[q1s]at h2;replace h2:=q1c h2;obtain⟨hok,h2⟩:=h2;rw[gC]at hok;obtain⟨e,i,z,st⟩:=qcz hok.1;obtain⟨e2,ht2⟩:=qr5 hok.2;obtain⟨ys,b,s2,l3,M,gs,A',m,cp,news,h3,hm,hvx,hnl,hnc,hmv⟩:=qmu h (by rw[st.stride];exact st.pos) hx h2
 have hones:∀u∈news,u.oneCell'=true:=fun u hu=>by
  obtain⟨j,hj⟩:=List.mem_iff_getElem?.1 hu;have hjl:=(gB.1 hj).1;exact RB.one (hmv.rb j _ u (gA (by rw[hmv.len];exact hjl)) hj)
 have fin:∀{L:List Key}{s3:St}{deep:Bool}{cells:List T}{u:Value}{xs:List Value}{Fg:List Nat}{fs:Nat->List Nat}{l4:Log},
  Moved s s3 L->(∀k,k∈M->k∈L)->OwnR w (inI c w fp) (inJ c w fp) deep (q5e P t) cells u xs Fg fs->(∀x,x∈Fg++flat cells.length fs->∃k,k∈L/\k∉M/\x∈fp k)->a.eval x=u->
  fits P (qfw P t) (cells.length+ys.length)=true->
  runP E (newO (q81 d 0) (.arr true (deep&&b) (q5e P t) (cells++ys)) (.setT d (.one (.obj (q81 d 0))) .done)) s3 l4 K=some r->o.wp P a w (Post c w K r) Q:=by
  intro L s3 deep cells u xs Fg fs l4 hm3 hML hown hin hu hfit h4;obtain⟨hfree,l5,h5⟩:=q6h h4;rw[q4r,q49]at h5;rw[st.stride]at hown hnl h5;have hb:=qug st.hi (st.elem▸hfit);obtain⟨v',w',F',e1,e2,e3,e4,e5,e6,e7,e8⟩:=qxf (P:=P) (w:=w) (ty:=o.type) st.hu ht2 st.hi st.hz st.hzs st.pos hown.row hnl hnc hones (by rw[hown.len,<- hmv.len];exact hb) st.bpos;obtain⟨F'',r1,r2,r3⟩:=qoa h hm3 hML hown hin hmv hfree e2 e3 e4 e5 e6 e7 e8;refine q3h (v:=v') (w':=w') ?_ ?_
  ·simp only[execOp,ho,resolve,hcl,hargs,htys,invoke,builtin,Sem.run_bind,Sem.run_pure,Result.andThen_ok,List.map_toArray,List.map_cons,List.map_nil,hu,hvx];rw[e1];rfl
  ·rw[hd'];exact⟨_,_,_,_,h5,r1.setT hd (VR_c r3),rfl,r2⟩
 split at h3
 ·rw[q1s]at h3;replace h3:=q1c h3;obtain⟨hfit,h3⟩:=h3;have hu:a.eval x=.slice none 0 0:=hs;exact fin (deep:=true) (cells:=[]) hm (fun _ hk=>hk) (qqc (by rw[st.stride];exact st.pos)) (by simp[flat]) hu (by simpa using hfit) h3
 ·rename_i k;rw[q3s]at h3;split at h3
  ·rename_i own deep sz' cs hk;rw[q1s]at h3;replace h3:=q1c h3;obtain⟨hb,h3⟩:=h3;rw[gC,gC]at hb;obtain⟨⟨rfl,hsz⟩,hfit⟩:=hb;have hsz:sz'=q5e P t:=gE hsz;subst hsz;rw[q51]at h3;obtain⟨hn,hk0,hm'⟩:=hm.add (o:=.moved (q81 d 0)) (.inr ⟨_,rfl⟩) hk;have hv:=q6a hs hk0;have hob:=h.obs k;rw[hk0]at hob;obtain⟨xs,Fg,fs,hown,hF⟩:=q9i.1 hob;exact fin hm' (fun k' hk'=>gF _ hk') hown (fun x hx=>⟨k,by simp,hn,by rw[hF];exact hx⟩) hv hfit h3
  ·cases h3
 ·cases h3
theorem qsv(h:Inv c s a w val fp){M:List Key}(hm:Moved s s1 M){b:Bool}{sz:Nat}(hsz:0<sz){ys:List T}{news:List Value}{gs:Nat->List Nat}(hmv:MovedCs c w fp [] M b ys news gs)
 {k0:Key} (hfree:s1.getO k0=.free) {n:Nat} (hn:news.length=n*sz) (hmax:n<=maxLen) (e:TypeId) :
 ∃F'',Inv c (s1.setO k0 (.arr true b sz ys)) a (w.alloc (.cells news.toArray e)) (upd val k0 (.slice (some ⟨w.heap.size,0,none⟩) n n)) (upd (clr fp M) k0 F'')/\Kp c.own w (w.alloc (.cells news.toArray e))/\
  CR (mkFr c (w.alloc (.cells news.toArray e)) (upd val k0 (.slice (some ⟨w.heap.size,0,none⟩) n n)) (upd (clr fp M) k0 F'')) (s1.setO k0 (.arr true b sz ys)) (.obj k0) (.slice (some ⟨w.heap.size,0,none⟩) n n):=by
 have:=qoa (w':=w.alloc (.cells news.toArray e)) (u':=.slice (some ⟨w.heap.size,0,none⟩) n n) (F':=[w.heap.size]) h hm (fun _ hk=>hk) (qqc (w:=w) (I:=inI c w fp) (J:=inJ c w fp) (a:=none) hsz) (by simp[flat]) hmv hfree
  (.inr ⟨w.heap.size,n,n,news.toArray,e,rfl,rfl,heap_alloc_new w _,by simpa using hn,gAI _,hmax,by simpa using hn,by rw[<- hn];simp⟩) (by simp) (fun x hx _=>heap_alloc_old w _ x hx) (by simp) rfl rfl rfl
 simpa using this
theorem qow{α:Type}(z:List α):∀(n i:Nat),i<n*z.length->((List.replicate n z).flatten)[i]?=z[i % z.length]?
 |0,i,h=>by simp at h
 |n+1,i,h=>by
  rw[List.replicate_succ,List.flatten_cons,List.getElem?_append];split
  ·rename_i hi;rw[Nat.mod_eq_of_lt hi]
  ·rename_i hi;rw[qow z n (i-z.length) (by rw[Nat.add_mul]at h;omega),<- Nat.mod_eq_sub_mod (by omega)]
theorem qxo{α:Type}(z:List α)(n:Nat):((List.replicate n z).flatten).length=n*z.length:=by simp
theorem qf7(z:Array Value)(n i:Nat)(hz:0<z.size)(hi:i<n):(madeCells z n).toList[i]?=some (z[i % z.size]'(Nat.mod_lt _ hz)):=by
 have hlt:=Nat.mod_lt i hz;simp[madeCells,hi,hlt]
theorem qg0:∀(cs:List C)(i j:Nat),q5s (nums i cs) j=if i<=j then cs[j-i]? else none
 |[],i,j=>by simp[nums,q5s]
 |c::cs,i,j=>by
  rw[nums,q5s,qg0 cs (i+1) j];by_cases h:i=j
  ·subst h;simp
  ·rw[if_neg h];by_cases h1:i+1<=j
   ·rw[if_pos h1,if_pos (by omega),show j-i=j-(i+1)+1 by omega,List.getElem?_cons_succ]
   ·rw[if_neg h1,if_neg (by omega)]
theorem qwn(h:Inv c s a w val fp){k0:Key}(hfree:s.getO k0=.free){cs:List C}{vs:Array Value}(hc:CRs (mkFr c w val fp) s cs vs.toList){n sz:Nat}(hsz:0<sz)(hl:cs.length=n*sz)(hmax:n<=maxLen)(e:TypeId) :
 ∃val' fp',Inv c (s.setO k0 (.opn sz (cs.map fun _=>.bool false) (nums 0 cs))) a (w.alloc (.cells vs e)) val' fp'/\Kp c.own w (w.alloc (.cells vs e))/\
  CR (mkFr c (w.alloc (.cells vs e)) val' fp') (s.setO k0 (.opn sz (cs.map fun _=>.bool false) (nums 0 cs))) (.obj k0) (.slice (some ⟨w.heap.size,0,none⟩) n n):=by
 have hnil:∀n:Nat,((List.range n).flatMap fun _=>([]:List Nat))=[]:=fun n=>by simp
 obtain⟨r1,r2,r3⟩:=h.change1 (w':=w.alloc (.cells vs e)) k0 (.opn sz (cs.map fun _=>.bool false) (nums 0 cs)) (.slice (some ⟨w.heap.size,0,none⟩) n n) [w.heap.size] (by rw[hfree];trivial) (by rw[hfree];rfl)
  (by intro b hb;right;rw[gD.1 hb];exact gAI _) (fun b hb _=>heap_alloc_old w _ b hb) (by simp) rfl rfl rfl
  (fun g=>by
   refine⟨w.heap.size,n,n,vs,e,fun i=>vs.getD i undef,fun _=>[],rfl,by rw[hnil],⟨hsz,fun i hi=>?_⟩,heap_alloc_new w _,by simpa using hl,gAI _,hmax,by have:=hc.1;simp at this;omega,fun i hi=>?_,fun i x hx=>?_,by rw[hnil];simp⟩
   ·rw[qg0,if_pos (Nat.zero_le _),Nat.sub_zero]at hi;simp only[gAG];rcases Nat.lt_or_ge i cs.length with h1|h1
    ·exact h1
    ·rw[List.getElem?_eq_none h1]at hi;cases hi
   ·have h1:i<vs.size:=by have:=hc.1;simp at hi this;omega
    simp[h1]
   ·have hi:i<cs.length:=by have:=(gB.1 hx).1;simpa using this
    unfold WR;rw[qg0,if_pos (Nat.zero_le _),Nat.sub_zero,gA hi];refine⟨(hc.goes g).2 i _ _ (gA hi) ?_,rfl⟩;have h1:i<vs.size:=by have:=hc.1;simp at this;omega
    simp[h1])
 refine⟨_,_,r1,r3,?_,rfl⟩;rw[q2y,if_pos rfl];show _=upd val k0 _ k0;rw[q78]
theorem ql6(h:Inv c s a w val fp){o:Oper}{t:TypeId}{n:Nat}{ps:Array (Nat×Operand)}(ho:o.op=.buildSlice t n ps)(hd:∀d,o.dst=some d->d<a.tmps.size)
 {Q:Exit->Act->World->Prop} (hr:runP E (opP P A o) s l K=some r):o.wp P a w (Post c w K r) Q:=by
 unfold opP at hr;simp only[ho]at hr;split at hr
 ·rename_i d hd';rw[q1s]at hr;replace hr:=q1c hr;obtain⟨hok,hr⟩:=hr;rw[gC]at hok;obtain⟨e,i,z,st⟩:=qcz hok.1;have hsmall:n*q5e P t<=65536:=Nat.le_of_ble_eq_true hok.2;rw[st.stride]at hsmall;obtain⟨vs,l1,h1,hl,hvs⟩:=qe6 h hr;rw[st.elem,st.zeroC,Option.map_some]at h1;split at h1
  ·rename_i cs hcs;obtain⟨z',p,hz,hp,hf⟩:=qk6 hcs;cases hz
   have hpp:∀j,p j=some (j*i.size,i.size):=by
    unfold qlr at hp;rw[st.hu]at hp;simp only[st.hi,Option.map_some,Option.some.injEq]at hp;subst hp;exact fun _=>rfl
   have hzpos:0<z.cells.size:=by rw[st.hzs];exact st.pos
   have hcr:CRs (mkFr c w val fp) s ((List.replicate n (z.cells.toList.map ofC)).flatten) (madeCells z.cells (n*i.size)).toList:=by
    refine⟨by simp[size_madeCells,st.hzs],fun j c' v' hc hv=>?_⟩
    have hj:j<n*i.size:=by
     have:=(gB.1 hc).1;simpa[st.hzs]using this
    rw[qf7 _ _ _ hzpos hj]at hv;rw[qow _ _ _ (by simpa[st.hzs]using hj)]at hc;simp only[gAG,Array.length_toList,gAC,gP]at hc;obtain⟨v2,hv2,rfl⟩:=hc;rw[Array.getElem?_toList,gAQ (Nat.mod_lt _ hzpos)]at hv2;rw[hv2]at hv;cases hv
    exact qwd (gAL.1 st.hzo v' (by
     have:=List.mem_of_getElem? (l:=z.cells.toList) (i:=j % z.cells.size) (a:=v') (by rw[Array.getElem?_toList,gAQ (Nat.mod_lt _ hzpos),hv2]);exact this))
   obtain⟨cells',r1,r2⟩:=qfp (f:=mkFr c w val fp) hpp hcr hl hvs hf
   have hsz:cells'.toList.length=n*i.size:=by
    have h5:=r2.1
    have h6:cs.length=((List.replicate n (z.cells.toList.map ofC)).flatten).length:=by
     have fl:∀{pl:Nat->Option (Nat×Nat)}{vs:List (Nat×V)}{cs cs':List C},qih pl cs vs=some cs'->cs'.length=cs.length:=by
      intro pl vs;induction vs with
      |nil=>intro cs cs' h;cases h;rfl
      |cons q vs ih=>
       obtain⟨qi,qv⟩:=q;intro cs cs' h;rw[qih]at h;split at h
       ·replace h:=q1c h;obtain⟨_,h⟩:=h;rw[ih h,q41]
       ·cases h
     exact fl hf
    rw[<- h5,h6];simp[st.hzs]
   have hn1:n<=65536:=Nat.le_trans (Nat.le_mul_of_pos_right _ st.pos) hsmall
   have hpost:Post c w K r (a.put (some d) (.slice (some ⟨w.heap.size,0,none⟩) n n)) (w.alloc (.cells cells' e)):=by
    cases hlit:qu4 P t cs with
    |true=>
     rw[hlit,cond_true]at h1;obtain⟨hfree,l3,h3⟩:=q6h h1;rw[q4r,q49,st.stride]at h3;obtain⟨val',fp',q1,q2,q3⟩:=qwn h hfree r2 st.pos (n:=n) (by rw[r2.1];exact hsz) (by simp only[maxLen];omega) e;exact⟨_,_,_,_,h3,q1.setT (hd d hd') (VR_c q3),rfl,q2⟩
    |false=>
     rw[hlit,cond_false]at h1;obtain⟨ys,b,s2,l2,M,fs,h2,hm,hmv⟩:=qb6 h (Moved.refl s) r2 h1;rw[gAD]at hm;obtain⟨hfree,l3,h3⟩:=q6h h2;rw[q4r,q49,st.stride]at h3;obtain⟨F'',q1,q2,q3⟩:=qsv h hm st.pos hmv hfree (n:=n) hsz (by simp only[maxLen];omega) e;rw[Array.toArray_toList]at q1 q2 q3;exact⟨_,_,_,_,h3,q1.setT (hd d hd') (VR_c q3),rfl,q2⟩
   refine q3h (v:=.slice (some ⟨w.heap.size,0,none⟩) n n) (w':=w.alloc (.cells cells' e)) ?_ ?_
   ·have hbig:¬ 16777216<n*i.size:=by omega
    have hzz:n*i.size=0->n=0:=fun h0=>by
     rcases Nat.eq_zero_or_pos n with h1|h1
     ·exact h1
     ·have:=Nat.mul_pos h1 st.pos;omega
    have hff:Instr.fill (fun j=>some (j*i.size,i.size)) (madeCells z.cells (n*i.size)) (ps.toList.map fun(i,x)=>(i,a.eval x))=some cells':=r1;unfold madeCells at hff;by_cases h0:n*i.size=0
    ·have hn0:=hzz h0;subst hn0;simp only[Nat.zero_mul]at hff;have hz0:Array.range 0 = #[]:=rfl;simp only[hz0,Array.map_empty]at hff;simp[execOp,ho,Instr.buildSlice,run_underlying st.hu,Go.sizeOf,typeInfo,st.hi,newRow,hz0];simp[hff]
    ·have hn0:¬ n=0:=fun e=>h0 (by rw[e];simp);have hi0:¬ i.size=0:=by have:=st.pos;omega
     simp at hff;simp[execOp,ho,Instr.buildSlice,run_underlying st.hu,Go.sizeOf,typeInfo,st.hi,zeroValue,st.hz,hbig,h0,newRow,hff]
   ·rw[hd'];exact hpost
  ·cases h1
 ·cases hr
end
end Ev
end
