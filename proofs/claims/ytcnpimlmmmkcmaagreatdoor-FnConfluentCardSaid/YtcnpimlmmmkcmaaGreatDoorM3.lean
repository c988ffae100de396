/- Steps on the way to RowConfluent: TyBase, TyData, TyOf, TyLoops. -/
import Derived.Test.YtcnpimlmmmkcmaaGreatDoorM2
import Derived.Lib.Strings
set_option linter.unusedSectionVars false
set_option linter.unusedVariables false
set_option linter.unusedSimpArgs false
section
namespace Ev.Ty
open Go Ev
class Enc(α:Type) where
 sz:Nat
 pos:0<sz
 enc:α->List T
 len:∀x,(enc x).length=sz
open Enc (enc)
def cells{α:Type}[Enc α](l:List α):List T:=l.flatMap enc
def slc{α:Type}[Enc α](l:List α):T:=.sl (Enc.sz α) (cells l)
instance:Enc Int:=⟨1,by decide,fun n=>[.int .i64 n],fun _=>rfl⟩
@[simp] theorem q3o:Enc.sz Int=1:=rfl
instance:Enc UInt8:=⟨1,by decide,fun n=>[.int .u8 n.toNat],fun _=>rfl⟩
instance:Enc Bool:=⟨1,by decide,fun b=>[.bool b],fun _=>rfl⟩
instance:Enc ByteArray:=⟨1,by decide,fun b=>[.str b],fun _=>rfl⟩
@[simp] theorem qyt:Enc.sz UInt8=1:=rfl
instance {α:Type}[Enc α]:Enc (List α):=⟨1,by decide,fun l=>[.sl (Enc.sz α) (cells l)],fun _=>rfl⟩
@[simp] theorem qow{α:Type}[Enc α]:Enc.sz (List α)=1:=rfl
@[simp] theorem q1r(n:Int):enc n=[.int .i64 n]:=rfl
@[simp] theorem qk6(n:UInt8):enc n=[.int .u8 n.toNat]:=rfl
@[simp] theorem qbn{α:Type}[Enc α](l:List α):enc l=[slc l]:=rfl
@[simp] theorem qwb{α:Type}[Enc α]{k:Nat}(l:List α)(h:Enc.sz α=k):oSl k (slc l)=some (cells l):=by subst h;simp[slc,oSl]
section
variable {α:Type}[Enc α]
@[simp] theorem qf0:cells ([]:List α)=[]:=rfl
theorem q8c(x:α)(l:List α):cells (x::l)=enc x++cells l:=gAN
@[simp] theorem q2s(l r:List α):cells (l++r)=cells l++cells r:=List.flatMap_append
theorem q0m:∀l:List α,(cells l).length=l.length*Enc.sz α
 |[]=>by simp
 |x::l=>by rw[q8c,gM,Enc.len,q0m l,gAB,Nat.succ_mul,Nat.add_comm]
theorem q53{l:List α}{k:Nat}(h:Enc.sz α=k):(cells l).length/k=l.length:=by
 subst h;rw[q0m,Nat.mul_div_cancel _ Enc.pos]
theorem q71(l:List α)(k i j:Nat)(h:Enc.sz α=k)(hj:j<k):(cells l)[i*k+j]?=(l[i]?).bind fun x=>(enc x)[j]?:=by
 subst h;rw[cells,qdm Enc.pos Enc.len]
 have e1:(i*Enc.sz α+j)/Enc.sz α=i:=by
  rw[Nat.mul_comm,Nat.mul_add_div Enc.pos,Nat.div_eq_of_lt hj,Nat.add_zero]
 have e2:(i*Enc.sz α+j) % Enc.sz α=j:=by
  rw[Nat.mul_comm,Nat.mul_add_mod,Nat.mod_eq_of_lt hj]
 rw[e1,e2]
theorem get0{l:List α}{k i:Nat}(h:Enc.sz α=k):(cells l)[i*k]?=(l[i]?).bind fun x=>(enc x)[0]?:=
 q71 l k i 0 h (h▸Enc.pos)
theorem get1{l:List α}{k i:Nat}(h:Enc.sz α=k)(hj:1<k):(cells l)[i*k+1]?=(l[i]?).bind fun x=>(enc x)[1]?:=
 q71 l k i 1 h hj
theorem get2{l:List α}{k i:Nat}(h:Enc.sz α=k)(hj:2<k):(cells l)[i*k+1+1]?=(l[i]?).bind fun x=>(enc x)[2]?:=
 q71 l k i 2 h hj
theorem get3{l:List α}{k i:Nat}(h:Enc.sz α=k)(hj:3<k):(cells l)[i*k+1+1+1]?=(l[i]?).bind fun x=>(enc x)[3]?:=
 q71 l k i 3 h hj
theorem get4{l:List α}{k i:Nat}(h:Enc.sz α=k)(hj:4<k):(cells l)[i*k+1+1+1+1]?=(l[i]?).bind fun x=>(enc x)[4]?:=
 q71 l k i 4 h hj
theorem get5{l:List α}{k i:Nat}(h:Enc.sz α=k)(hj:5<k):(cells l)[i*k+1+1+1+1+1]?=(l[i]?).bind fun x=>(enc x)[5]?:=
 q71 l k i 5 h hj
theorem get6{l:List α}{k i:Nat}(h:Enc.sz α=k)(hj:6<k):(cells l)[i*k+1+1+1+1+1+1]?=(l[i]?).bind fun x=>(enc x)[6]?:=
 q71 l k i 6 h hj
theorem get7{l:List α}{k i:Nat}(h:Enc.sz α=k)(hj:7<k):(cells l)[i*k+1+1+1+1+1+1+1]?=(l[i]?).bind fun x=>(enc x)[7]?:=
 q71 l k i 7 h hj
theorem get8{l:List α}{k i:Nat}(h:Enc.sz α=k)(hj:8<k):(cells l)[i*k+1+1+1+1+1+1+1+1]?=(l[i]?).bind fun x=>(enc x)[8]?:=
 q71 l k i 8 h hj
theorem q89{l:List α}{k i:Nat}(h:Enc.sz α=k){x:α}(hx:l[i]?=some x):((cells l).drop (i*k)).take k=enc x:=by
 subst h;refine List.ext_getElem? fun j=>?_;rw[gT];split
 ·rename_i hj;rw[gV,q71 l _ i j rfl hj,hx];rfl
 ·rename_i hj;rw[List.getElem?_eq_none (by rw[Enc.len];omega)]
theorem q9a(l:List α)(k i:Nat)(h:Enc.sz α=k):(cells l).take (i*k)=cells (l.take i):=by
 subst h;induction i generalizing l with
 |zero=>simp
 |succ i ih=>
  cases l with
  |nil=>simp
  |cons x l=>
   rw[List.take_succ_cons,q8c,q8c,Nat.succ_mul,Nat.add_comm,List.take_append,Enc.len];rw[List.take_of_length_le (by rw[Enc.len];omega),Nat.add_sub_cancel_left,ih]
theorem q9z(l:List α)(k i:Nat)(h:Enc.sz α=k):(cells l).drop (i*k)=cells (l.drop i):=by
 subst h;induction i generalizing l with
 |zero=>simp
 |succ i ih=>
  cases l with
  |nil=>simp
  |cons x l=>
   rw[List.drop_succ_cons,q8c,Nat.succ_mul,Nat.add_comm,List.drop_append,Enc.len];rw[gU (by rw[Enc.len];omega),Nat.add_sub_cancel_left,ih,List.nil_append]
theorem qcs(l:List α)(k i:Nat)(h:Enc.sz α=k)(x:α)(hi:i<l.length):setCells (cells l) (i*k) (enc x)=cells (l.set i x):=by
 subst h;refine List.ext_getElem? fun j=>?_
 have hle:i*Enc.sz α+Enc.sz α<=l.length*Enc.sz α:=by
  rw[<- Nat.succ_mul];exact gAO _ hi
 rw[q3f _ _ _ _ (by rw[Enc.len,q0m];exact hle),Enc.len];have hp:0<Enc.sz α:=Enc.pos;have hj:j=j/Enc.sz α*Enc.sz α+j % Enc.sz α:=by rw[Nat.mul_comm];exact(Nat.div_add_mod j _).symm
 have hm:j % Enc.sz α<Enc.sz α:=Nat.mod_lt _ hp
 have hset:(cells (l.set i x))[j]?=((l.set i x)[j/Enc.sz α]?).bind fun y=>(enc y)[j % Enc.sz α]?:=by
  conv=>lhs;rw[hj]
  exact q71 _ _ _ _ rfl hm
 have hl:(cells l)[j]?=(l[j/Enc.sz α]?).bind fun y=>(enc y)[j % Enc.sz α]?:=by
  conv=>lhs;rw[hj]
  exact q71 _ _ _ _ rfl hm
 rw[hset,hl];by_cases hij:i=j/Enc.sz α
 ·have h1:i*Enc.sz α<=j:=by rw[hij];exact Nat.div_mul_le_self _ _
  have h2:j<i*Enc.sz α+Enc.sz α:=by rw[hij];omega
  rw[if_pos ⟨h1,h2⟩,<- hij,List.getElem?_set_self hi];have:j-i*Enc.sz α=j % Enc.sz α:=by rw[hij];omega
  rw[this];rfl
 ·rw[if_neg,List.getElem?_set_ne hij];rintro⟨h1,h2⟩;apply hij;refine(Nat.div_eq_of_lt_le ?_ ?_).symm
  ·exact h1
  ·rw[Nat.succ_mul];exact h2
theorem qtt(n:Nat)(x:α):repT n (enc x)=cells (List.replicate n x):=by
 unfold repT cells;induction n with
 |zero=>rfl
 |succ n ih=>rw[List.replicate_succ,List.replicate_succ,List.flatten_cons,gAN,ih]
theorem q9s(x:α):cells [x]=enc x:=by simp[cells]
end
@[simp] theorem qvj(k:IntKind)(n:Int):oInt k (.int k n)=some n:=by simp[oInt]
@[simp] theorem qri(b:Bool):q7g (.bool b)=some b:=Eq.trans rfl rfl
@[simp] theorem qus(b:ByteArray):oStr (.str b)=some b:=Eq.trans rfl rfl
@[simp] theorem qz4(k:Nat)(c:List T):oSl k (.sl k c)=some c:=by simp[oSl]
@[simp] theorem qvg(c:List T):oAgg (.agg c)=some c:=Eq.trans rfl rfl
@[simp] theorem qub(c:List T):oTup (.tup c)=some c:=Eq.trans rfl rfl
@[simp] theorem qre(x:T)(c:List T):q0z (x::c)=some (x,c):=Eq.trans rfl rfl
@[simp] theorem quq:oNil []=some ():=Eq.trans rfl rfl
theorem qx1{α β:Type}{x:α}{f:α->Option β}:(Option.bind (some x) f)=f x:=Eq.trans rfl rfl
theorem q61(i n:Nat):inB (i:Int) n=decide (i<n):=by
 unfold inB;rw[Bool.eq_iff_iff];simp
theorem q2y{x:Int}(h : -9223372036854775808<=x/\x<9223372036854775808):IntKind.wrap .i64 x=x:=by
 unfold IntKind.wrap;simp[IntKind.signed,IntKind.bits];omega
theorem q0k{k:Nat}(h:k<9223372036854775807):IntKind.wrap .i64 ((k:Int)+1)=((k+1:Nat):Int):=by
 rw[q2y (by omega)];rfl
def Call(g:FuncId)(args:List T)(r:T):Prop:=LIM g args=some (r,[])
theorem Call.eq{g:FuncId}{args:List T}{r:T}(h:Call g args r):LIM g args=some (r,[]):=h
theorem q0q{g:FuncId}{args:List T}{r:T}(hx:X g=none)(n:Nat)(h:q1j prog A H LIM n g args=some (r,[])):Call g args r:=qg1 hx n h
class Sm(α:Type) where
 sm:Nat->α->Prop
 mono:∀{n m:Nat}{x:α},n<=m->sm n x->sm m x
open Sm (sm)
theorem q3k{α:Type}[Sm α]{n m:Nat}{x:α}(h:n<=m)(hx:sm n x):sm m x:=Sm.mono h hx
instance:Sm Int:=⟨fun _ _=>True,fun _ h=>h⟩
instance:Sm Bool:=⟨fun _ _=>True,fun _ h=>h⟩
instance:Sm UInt8:=⟨fun _ _=>True,fun _ h=>h⟩
instance:Sm ByteArray:=⟨fun n x=>x.size<=n,fun h hx=>Nat.le_trans hx h⟩
instance {α:Type}[Sm α]:Sm (List α):=⟨fun n l=>l.length<=n/\∀x,x∈l->sm n x,fun h hx=>⟨Nat.le_trans hx.1 h,fun x hm=>q3k h (hx.2 x hm)⟩⟩
theorem qbd{α:Type}[Enc α]{k:Nat}{l:List α}(h:Enc.sz α=k):T.sl k (cells l)=slc l:=by subst h;rfl
theorem qaa{l:List Int}{i:Nat}(h:i<l.length)(v:Int):setCells (cells l) (i*1) [.int .i64 v]=cells (l.set i v):=qcs l 1 i rfl v h
theorem qui{α:Type}[Enc α]{l:List (List α)}{i:Nat}(h:i<l.length)(v:List α):setCells (cells l) (i*1) [slc v]=cells (l.set i v):=qcs l 1 i rfl v h
theorem q1o{α:Type}{c:Bool}{a b:α}(h:c=true):(bif c then a else b)=a:=by rw[h];rfl
theorem qgg{α:Type}{c:Bool}{a b:α}(h:c=false):(bif c then a else b)=b:=by rw[h];rfl
theorem qer{β:Type}{p:Prop}[Decidable p]{x y:β}:(bif decide p then x else y)=if p then x else y:=by
 by_cases h:p <;> simp[h]
theorem qx7{α:Type}[BEq α][LawfulBEq α][DecidableEq α]{a b:α}:(a==b)=decide (a=b):=by
 by_cases h:a=b <;> simp[h]
theorem qwh{α:Type}[BEq α][LawfulBEq α][DecidableEq α]{a b:α}:(a != b) = !decide (a=b):=by
 by_cases h:a=b <;> simp[h]
theorem qwc{β:Type}{b:Bool}{x y:β}:(bif !b then x else y)=bif b then y else x:=by cases b <;> rfl
theorem qxr{a b:UInt8}:((a.toNat:Int)=(b.toNat:Int))=(a=b):=by
 rw[eq_iff_iff,Int.ofNat_inj,UInt8.toNat_inj]
theorem qws{a b:ByteArray}:(a.toList=b.toList)=(a=b):=by
 rw[eq_iff_iff,Lib.toList_data,Lib.toList_data];constructor
 ·intro h;have:=Array.toList_inj.1 h;cases a;cases b;simp_all
 ·rintro rfl;rfl
theorem qtj{α:Type}[DecidableEq α]{a b:List α}(hl:a.length=b.length){S:Nat->Nat->R}
 (step:∀m k (h:k<a.length) (h':k<b.length),S (m+1) k=if a[k]=b[k]then S m (k+1)else some (.bool false,[]))
 (stop:∀m,S (m+1) a.length=some (.bool true,[])):S (a.length+1) 0=some (.bool (decide (a=b)),[]):=by
 have:∀m k,k<=a.length->a.length<m+k->S m k=some (.bool (decide (a.drop k=b.drop k)),[]):=by
  intro m;induction m with
  |zero=>intros;omega
  |succ m ih=>
   intro k hk hm;by_cases h:k<a.length
   ·have h':k<b.length:=hl▸h;rw[step m k h h',ih (k+1) (by omega) (by omega),gH h,gH h'];by_cases e:a[k]=b[k]
    ·rw[if_pos e];simp only[List.cons.injEq,e,true_and]
    ·rw[if_neg e];simp only[List.cons.injEq,e,false_and,decide_false]
   ·obtain rfl:k=a.length:=by omega
    rw[stop m,gU (gAI _),gU (by omega)];simp
 have:=this (a.length+1) 0 (by omega) (by omega);simpa using this
end Ev.Ty
end
section
namespace Ev.Ty
open Go Ev
open Enc (enc)
open Sm (sm)
structure Symbol where
 name:ByteArray
 arity:Int
 deriving DecidableEq
instance:Enc Symbol:=⟨2,by decide,fun x=>[.str x.name,.int .i64 x.arity],fun _=>rfl⟩
@[simp] theorem qa1:Enc.sz Symbol=2:=rfl
theorem q33(x:Symbol):enc x=[.str x.name,.int .i64 x.arity]:=rfl
instance:Sm Symbol:=⟨fun n x=>sm n x.name,fun h x=>q3k h x⟩
structure Signature where
 symbols:List Symbol
 deriving DecidableEq
instance:Enc Signature:=⟨1,by decide,fun x=>[slc x.symbols],fun _=>rfl⟩
@[simp] theorem qw1:Enc.sz Signature=1:=rfl
instance:Sm Signature:=⟨fun n x=>sm n x.symbols,fun h x=>q3k h x⟩
structure Equation where
 left:List Int
 right:List Int
 deriving DecidableEq
instance:Enc Equation:=⟨2,by decide,fun x=>[slc x.left,slc x.right],fun _=>rfl⟩
@[simp] theorem q49:Enc.sz Equation=2:=rfl
theorem q3w(x:Equation):enc x=[slc x.left,slc x.right]:=rfl
instance:Sm Equation:=⟨fun n x=>sm n x.left/\sm n x.right,fun h x=>⟨q3k h x.1,q3k h x.2⟩⟩
structure Binding where
 vars:List Int
 terms:List (List Int)
 deriving DecidableEq
instance:Enc Binding:=⟨2,by decide,fun x=>[slc x.vars,slc x.terms],fun _=>rfl⟩
@[simp] theorem qxo:Enc.sz Binding=2:=rfl
instance:Sm Binding:=⟨fun n x=>sm n x.vars/\sm n x.terms,fun h x=>⟨q3k h x.1,q3k h x.2⟩⟩
structure Algebra where
 size:Int
 tables:List (List Int)
 deriving DecidableEq
instance:Enc Algebra:=⟨2,by decide,fun x=>[.int .i64 x.size,slc x.tables],fun _=>rfl⟩
@[simp] theorem qxn:Enc.sz Algebra=2:=rfl
instance:Sm Algebra:=⟨fun n x=>sm n x.tables,fun h x=>q3k h x⟩
structure Entry where
 kind:Int
 a:Int
 b:Int
 place:Int
 side:Int
 left:List Int
 right:List Int
 deriving DecidableEq
instance:Enc Entry:=⟨7,by decide,fun x=>[.int .i64 x.kind,.int .i64 x.a,.int .i64 x.b,.int .i64 x.place,.int .i64 x.side,slc x.left,slc x.right],fun _=>rfl⟩
@[simp] theorem qyk:Enc.sz Entry=7:=rfl
instance:Sm Entry:=⟨fun n x=>sm n x.left/\sm n x.right,fun h x=>⟨q3k h x.1,q3k h x.2⟩⟩
structure Completion where
 order:List Int
 equations:List Equation
 entries:List Entry
 rules:List Int
 waiting:List Int
 rounds:Int
 deriving DecidableEq
instance:Enc Completion:=⟨6,by decide,fun x=>[slc x.order,slc x.equations,slc x.entries,slc x.rules,slc x.waiting,.int .i64 x.rounds],fun _=>rfl⟩
@[simp] theorem quj:Enc.sz Completion=6:=rfl
instance:Sm Completion:=⟨fun n x=>sm n x.order/\sm n x.equations/\sm n x.entries/\sm n x.rules/\sm n x.waiting,fun h x=>⟨q3k h x.1,q3k h x.2.1,q3k h x.2.2.1,q3k h x.2.2.2.1,q3k h x.2.2.2.2⟩⟩
structure Theory where
 order:List Int
 equations:List Equation
 rules:List Equation
 deriving DecidableEq
instance:Enc Theory:=⟨3,by decide,fun x=>[slc x.order,slc x.equations,slc x.rules],fun _=>rfl⟩
@[simp] theorem qy7:Enc.sz Theory=3:=rfl
instance:Sm Theory:=⟨fun n x=>sm n x.order/\sm n x.equations/\sm n x.rules,fun h x=>⟨q3k h x.1,q3k h x.2.1,q3k h x.2.2⟩⟩
structure Put where
 sector:Int
 bytes:List UInt8
 deriving DecidableEq
instance:Enc Put:=⟨2,by decide,fun x=>[.int .i64 x.sector,slc x.bytes],fun _=>rfl⟩
@[simp] theorem qz5:Enc.sz Put=2:=rfl
instance:Sm Put:=⟨fun n x=>sm n x.bytes,fun h x=>q3k h x⟩
structure Disk where
 sectors:List (List UInt8)
 pending:List Put
 deriving DecidableEq
instance:Enc Disk:=⟨2,by decide,fun x=>[slc x.sectors,slc x.pending],fun _=>rfl⟩
@[simp] theorem qys:Enc.sz Disk=2:=rfl
instance:Sm Disk:=⟨fun n x=>sm n x.sectors/\sm n x.pending,fun h x=>⟨q3k h x.1,q3k h x.2⟩⟩
structure Act where
 kind:Int
 put:Put
 deriving DecidableEq
instance:Enc Act:=⟨3,by decide,fun x=>[.int .i64 x.kind,.int .i64 x.put.sector,slc x.put.bytes],fun _=>rfl⟩
@[simp] theorem qz3:Enc.sz Act=3:=rfl
instance:Sm Act:=⟨fun n x=>sm n x.put,fun h x=>q3k h x⟩
structure IntResult where
 code:Int
 value:Int
 deriving DecidableEq
instance:Enc IntResult:=⟨2,by decide,fun x=>[.int .i64 x.code,.int .i64 x.value],fun _=>rfl⟩
@[simp] theorem qw5:Enc.sz IntResult=2:=rfl
theorem q90(x:IntResult):enc x=[.int .i64 x.code,.int .i64 x.value]:=rfl
instance:Sm IntResult:=⟨fun n x=>True,fun _ h=>h⟩
structure IntsResult where
 code:Int
 list:List Int
 deriving DecidableEq
instance:Enc IntsResult:=⟨2,by decide,fun x=>[.int .i64 x.code,slc x.list],fun _=>rfl⟩
@[simp] theorem qur:Enc.sz IntsResult=2:=rfl
instance:Sm IntsResult:=⟨fun n x=>sm n x.list,fun h x=>q3k h x⟩
structure BytesResult where
 code:Int
 bytes:List UInt8
 deriving DecidableEq
instance:Enc BytesResult:=⟨2,by decide,fun x=>[.int .i64 x.code,slc x.bytes],fun _=>rfl⟩
@[simp] theorem qu0:Enc.sz BytesResult=2:=rfl
instance:Sm BytesResult:=⟨fun n x=>sm n x.bytes,fun h x=>q3k h x⟩
structure TextResult where
 code:Int
 text:ByteArray
 deriving DecidableEq
instance:Enc TextResult:=⟨2,by decide,fun x=>[.int .i64 x.code,.str x.text],fun _=>rfl⟩
@[simp] theorem qva:Enc.sz TextResult=2:=rfl
instance:Sm TextResult:=⟨fun n x=>sm n x.text,fun h x=>q3k h x⟩
structure SignatureResult where
 code:Int
 signature:Signature
 deriving DecidableEq
instance:Enc SignatureResult:=⟨2,by decide,fun x=>[.int .i64 x.code,slc x.signature.symbols],fun _=>rfl⟩
@[simp] theorem qqc:Enc.sz SignatureResult=2:=rfl
instance:Sm SignatureResult:=⟨fun n x=>sm n x.signature,fun h x=>q3k h x⟩
structure TermResult where
 code:Int
 term:List Int
 deriving DecidableEq
instance:Enc TermResult:=⟨2,by decide,fun x=>[.int .i64 x.code,slc x.term],fun _=>rfl⟩
@[simp] theorem qu6:Enc.sz TermResult=2:=rfl
theorem q54(x:TermResult):enc x=[.int .i64 x.code,slc x.term]:=rfl
instance:Sm TermResult:=⟨fun n x=>sm n x.term,fun h x=>q3k h x⟩
structure TermsResult where
 code:Int
 terms:List (List Int)
 deriving DecidableEq
instance:Enc TermsResult:=⟨2,by decide,fun x=>[.int .i64 x.code,slc x.terms],fun _=>rfl⟩
@[simp] theorem qu1:Enc.sz TermsResult=2:=rfl
instance:Sm TermsResult:=⟨fun n x=>sm n x.terms,fun h x=>q3k h x⟩
structure EquationResult where
 code:Int
 equation:Equation
 deriving DecidableEq
instance:Enc EquationResult:=⟨3,by decide,fun x=>[.int .i64 x.code,slc x.equation.left,slc x.equation.right],fun _=>rfl⟩
@[simp] theorem qqs:Enc.sz EquationResult=3:=rfl
theorem q3h(x:EquationResult):enc x=[.int .i64 x.code,slc x.equation.left,slc x.equation.right]:=rfl
instance:Sm EquationResult:=⟨fun n x=>sm n x.equation,fun h x=>q3k h x⟩
structure EquationsResult where
 code:Int
 list:List Equation
 deriving DecidableEq
instance:Enc EquationsResult:=⟨2,by decide,fun x=>[.int .i64 x.code,slc x.list],fun _=>rfl⟩
@[simp] theorem qqb:Enc.sz EquationsResult=2:=rfl
theorem q6n(x:EquationsResult):enc x=[.int .i64 x.code,slc x.list]:=rfl
instance:Sm EquationsResult:=⟨fun n x=>sm n x.list,fun h x=>q3k h x⟩
structure KeyResult where
 code:Int
 normal:List Int
 term:List Int
 deriving DecidableEq
instance:Enc KeyResult:=⟨3,by decide,fun x=>[.int .i64 x.code,slc x.normal,slc x.term],fun _=>rfl⟩
@[simp] theorem qvw:Enc.sz KeyResult=3:=rfl
instance:Sm KeyResult:=⟨fun n x=>sm n x.normal/\sm n x.term,fun h x=>⟨q3k h x.1,q3k h x.2⟩⟩
structure BindingResult where
 code:Int
 binding:Binding
 deriving DecidableEq
instance:Enc BindingResult:=⟨3,by decide,fun x=>[.int .i64 x.code,slc x.binding.vars,slc x.binding.terms],fun _=>rfl⟩
@[simp] theorem qrp:Enc.sz BindingResult=3:=rfl
instance:Sm BindingResult:=⟨fun n x=>sm n x.binding,fun h x=>q3k h x⟩
structure RedexResult where
 code:Int
 place:Int
 rule:Int
 deriving DecidableEq
instance:Enc RedexResult:=⟨3,by decide,fun x=>[.int .i64 x.code,.int .i64 x.place,.int .i64 x.rule],fun _=>rfl⟩
@[simp] theorem qu3:Enc.sz RedexResult=3:=rfl
instance:Sm RedexResult:=⟨fun n x=>True,fun _ h=>h⟩
structure NormalResult where
 code:Int
 term:List Int
 steps:Int
 deriving DecidableEq
instance:Enc NormalResult:=⟨3,by decide,fun x=>[.int .i64 x.code,slc x.term,.int .i64 x.steps],fun _=>rfl⟩
@[simp] theorem qti:Enc.sz NormalResult=3:=rfl
theorem q30(x:NormalResult):enc x=[.int .i64 x.code,slc x.term,.int .i64 x.steps]:=rfl
instance:Sm NormalResult:=⟨fun n x=>sm n x.term,fun h x=>q3k h x⟩
structure AlgebraResult where
 code:Int
 algebra:Algebra
 deriving DecidableEq
instance:Enc AlgebraResult:=⟨3,by decide,fun x=>[.int .i64 x.code,.int .i64 x.algebra.size,slc x.algebra.tables],fun _=>rfl⟩
@[simp] theorem qrq:Enc.sz AlgebraResult=3:=rfl
instance:Sm AlgebraResult:=⟨fun n x=>sm n x.algebra,fun h x=>q3k h x⟩
structure EntryResult where
 code:Int
 entry:Entry
 deriving DecidableEq
instance:Enc EntryResult:=⟨8,by decide,fun x=>[.int .i64 x.code,.int .i64 x.entry.kind,.int .i64 x.entry.a,.int .i64 x.entry.b,.int .i64 x.entry.place,.int .i64 x.entry.side,slc x.entry.left,slc x.entry.right],fun _=>rfl⟩
@[simp] theorem qu2:Enc.sz EntryResult=8:=rfl
instance:Sm EntryResult:=⟨fun n x=>sm n x.entry,fun h x=>q3k h x⟩
structure CompletionResult where
 code:Int
 completion:Completion
 deriving DecidableEq
instance:Enc CompletionResult:=⟨7,by decide,fun x=>[.int .i64 x.code,slc x.completion.order,slc x.completion.equations,slc x.completion.entries,slc x.completion.rules,slc x.completion.waiting,.int .i64 x.completion.rounds],fun _=>rfl⟩
@[simp] theorem qnd:Enc.sz CompletionResult=7:=rfl
instance:Sm CompletionResult:=⟨fun n x=>sm n x.completion,fun h x=>q3k h x⟩
structure TheoryResult where
 code:Int
 theory:Theory
 deriving DecidableEq
instance:Enc TheoryResult:=⟨4,by decide,fun x=>[.int .i64 x.code,slc x.theory.order,slc x.theory.equations,slc x.theory.rules],fun _=>rfl⟩
@[simp] theorem qtk:Enc.sz TheoryResult=4:=rfl
instance:Sm TheoryResult:=⟨fun n x=>sm n x.theory,fun h x=>q3k h x⟩
structure DiskResult where
 code:Int
 disk:Disk
 deriving DecidableEq
instance:Enc DiskResult:=⟨3,by decide,fun x=>[.int .i64 x.code,slc x.disk.sectors,slc x.disk.pending],fun _=>rfl⟩
@[simp] theorem qv2:Enc.sz DiskResult=3:=rfl
instance:Sm DiskResult:=⟨fun n x=>sm n x.disk,fun h x=>q3k h x⟩
theorem szs:Enc.sz Int=1/\Enc.sz UInt8=1/\Enc.sz Symbol=2/\Enc.sz Signature=1/\Enc.sz Equation=2/\Enc.sz Binding=2/\Enc.sz Algebra=2/\Enc.sz Entry=7/\Enc.sz Completion=6/\Enc.sz Theory=3/\Enc.sz Put=2/\Enc.sz Disk=2/\Enc.sz Act=3/\Enc.sz IntResult=2/\Enc.sz IntsResult=2/\Enc.sz BytesResult=2/\Enc.sz TextResult=2/\Enc.sz SignatureResult=2/\Enc.sz TermResult=2/\Enc.sz TermsResult=2/\Enc.sz EquationResult=3/\Enc.sz EquationsResult=2/\Enc.sz KeyResult=3/\Enc.sz BindingResult=3/\Enc.sz RedexResult=3/\Enc.sz NormalResult=3/\Enc.sz AlgebraResult=3/\Enc.sz EntryResult=8/\Enc.sz CompletionResult=7/\Enc.sz TheoryResult=4/\Enc.sz DiskResult=3:=⟨rfl,rfl,rfl,rfl,rfl,rfl,rfl,rfl,rfl,rfl,rfl,rfl,rfl,rfl,rfl,rfl,rfl,rfl,rfl,rfl,rfl,rfl,rfl,rfl,rfl,rfl,rfl,rfl,rfl,rfl,rfl⟩
theorem evs:(∀{n m:Nat},((n:Int)<(m:Int))<->n<m)/\(∀{a b:ByteArray},(a.toList=b.toList)=(a=b))/\
 (∀{α:Type}[BEq α][LawfulBEq α][DecidableEq α]{a b:α},(a==b)=decide (a=b))/\(∀{α:Type}[BEq α][LawfulBEq α][DecidableEq α]{a b:α},(a != b) = !decide (a=b))/\
 (∀{β:Type}{p:Prop}[Decidable p]{x y:β},(bif decide p then x else y)=if p then x else y)/\(∀{β:Type}{b:Bool}{x y:β},(bif !b then x else y)=bif b then y else x)/\
 (∀{a b:UInt8},((a.toNat:Int)=(b.toNat:Int))=(a=b))/\(∀{α:Type}[Enc α]{l:List α}{k:Nat},Enc.sz α=k->(cells l).length/k=l.length)/\(∀{α:Type}[Enc α],Enc.sz (List α)=1)/\
 (∀i n:Nat,inB (i:Int) n=decide (i<n))/\(∀n:Nat,((n:Nat):Int).toNat=n)/\
 (∀{α:Type}[Enc α]{l:List α}{k i:Nat},Enc.sz α=k->(cells l)[i*k]?=(l[i]?).bind fun x=>(Enc.enc x)[0]?)/\
 (∀{α:Type}[Enc α]{l:List α}{k i:Nat},Enc.sz α=k->1<k->(cells l)[i*k+1]?=(l[i]?).bind fun x=>(Enc.enc x)[1]?)/\
 (∀{α:Type}[Enc α]{l:List α}{k i:Nat},Enc.sz α=k->2<k->(cells l)[i*k+1+1]?=(l[i]?).bind fun x=>(Enc.enc x)[2]?)/\
 (∀{α:Type}[Enc α]{l:List α}{k i:Nat},Enc.sz α=k->3<k->(cells l)[i*k+1+1+1]?=(l[i]?).bind fun x=>(Enc.enc x)[3]?)/\
 (∀{α:Type}[Enc α]{l:List α}{k i:Nat},Enc.sz α=k->4<k->(cells l)[i*k+1+1+1+1]?=(l[i]?).bind fun x=>(Enc.enc x)[4]?)/\
 (∀{α:Type}[Enc α]{l:List α}{k i:Nat},Enc.sz α=k->5<k->(cells l)[i*k+1+1+1+1+1]?=(l[i]?).bind fun x=>(Enc.enc x)[5]?)/\
 (∀{α:Type}[Enc α]{l:List α}{k i:Nat},Enc.sz α=k->6<k->(cells l)[i*k+1+1+1+1+1+1]?=(l[i]?).bind fun x=>(Enc.enc x)[6]?)/\
 (∀{α:Type}[Enc α]{l:List α}{k i:Nat},Enc.sz α=k->7<k->(cells l)[i*k+1+1+1+1+1+1+1]?=(l[i]?).bind fun x=>(Enc.enc x)[7]?)/\
 (∀{α:Type}[Enc α]{l:List α}{k i:Nat},Enc.sz α=k->8<k->(cells l)[i*k+1+1+1+1+1+1+1+1]?=(l[i]?).bind fun x=>(Enc.enc x)[8]?)/\
 (∀{α β:Type}{x:α}{f:α->Option β},Option.bind (some x) f=f x)/\(∀{α:Type}{a:α}{l:List α},(a::l)[0]?=some a)/\(∀{α:Type}{a:α}{i:Nat}{l:List α},(a::l)[i+1]?=l[i]?)/\
 (∀(k:IntKind)(n:Int),oInt k (.int k n)=some n)/\(∀b:Bool,q7g (.bool b)=some b)/\(∀b:ByteArray,oStr (.str b)=some b)/\(∀{α:Type}[Enc α]{k:Nat}(l:List α),Enc.sz α=k->oSl k (slc l)=some (cells l))/\
 (∀c:List T,oAgg (.agg c)=some c)/\(∀c:List T,oTup (.tup c)=some c)/\(∀(x:T)(c:List T),q0z (x::c)=some (x,c))/\oNil []=some ()/\
 (∀{α:Type}[Enc α]{k:Nat}{l:List α},Enc.sz α=k->T.sl k (cells l)=slc l):=
 ⟨Int.ofNat_lt,qws,qx7,qwh,qer,qwc,qxr,q53,qow,q61,gR,get0,get1,get2,get3,get4,get5,get6,get7,get8,qx1,List.getElem?_cons_zero,List.getElem?_cons_succ,qvj,qri,qus,qwb,qvg,qub,qre,quq,qbd⟩
theorem tfs:(∀{α:Type}{h:Decidable True}(a b:α),ite True a b=a)/\(∀{α:Type}{h:Decidable False}(a b:α),ite False a b=b)/\(∀(h:Decidable True),@decide True h=true)/\
 (∀(h:Decidable False),@decide False h=false)/\(∀{α:Type}{a b:α},cond true a b=a)/\(∀{α:Type}{a b:α},cond false a b=b):=
 ⟨if_true,if_false,decide_true,decide_false,rfl,rfl⟩
theorem bns:(∀{r:T×List T}{g:Int->R},bI r g=(oNil r.2).bind fun _=>(oInt .i64 r.1).bind g)/\(∀{r:T×List T}{g:Bool->R},bB r g=(oNil r.2).bind fun _=>(q7g r.1).bind g)/\
 (∀{r:T×List T}{g:List T->R},bL r g=(oNil r.2).bind fun _=>(oSl 1 r.1).bind g)/\(∀{r:T×List T}{g:List T->R},bM r g=(oNil r.2).bind fun _=>(oSl 2 r.1).bind g)/\
 (∀{r:T×List T}{g:List T->Int->R},bS r g=(q0z r.2).bind fun p=>(oNil p.2).bind fun _=>(oAgg p.1).bind fun c=>(q0z c).bind fun p=>(oSl 1 p.1).bind fun c=>(q0z p.2).bind fun p=>(oInt .i64 p.1).bind fun n=>(oNil p.2).bind fun _=>g c n):=
 ⟨rfl,rfl,rfl,rfl,rfl⟩
theorem evz:type_of% tfs/\type_of% evs/\type_of% szs/\type_of% bns:=⟨tfs,evs,szs,bns⟩
class OfSh(s:Sh)(α:Type)[Enc α][Sm α] where
 of:s.Val->α
 enc:∀x,s.wf x->s.enc x=Enc.enc (of x)
 sz:s.size=Enc.sz α
 sm:∀x,s.wf x->Sm.sm maxLen (of x)
theorem q4a{a b:Sh}{x:(Sh.pair a b).Val}{l r:List T}(h1:a.enc x.1=l)(h2:b.enc x.2=r):(Sh.pair a b).enc x=l++r:=by rw[Sh.enc,h1,h2]
instance:OfSh (.int .i64) Int:=⟨id,fun _ _=>rfl,rfl,fun _ _=>trivial⟩
instance:OfSh .bool Bool:=⟨id,fun _ _=>rfl,rfl,fun _ _=>trivial⟩
instance:OfSh .str ByteArray:=⟨id,fun _ _=>rfl,rfl,fun _ h=>h⟩
theorem qy5(x:Int)(h:(Lit.int .u8 x).wf=true):[T.int .u8 x]=[T.int .u8 ((UInt8.ofNat (Int.toNat x)).toNat:Int)]:=by
 simp[Lit.wf,IntKind.min,IntKind.max,IntKind.signed,IntKind.bits]at h;rw[UInt8.toNat_ofNat'];congr 2;omega
instance:OfSh (.int .u8) UInt8:=⟨fun n=>UInt8.ofNat (Int.toNat n),fun x h=>qy5 x h,rfl,fun _ _=>trivial⟩
theorem qpo{s:Sh}{α:Type}[Enc α][Sm α][OfSh s α]:∀(l:List s.Val),(∀x,x∈l->s.wf x)->l.flatMap s.enc=cells (l.map (OfSh.of (s:=s) (α:=α)))
 |[],_=>rfl
 |x::l,h=>by
  rw[gAN,List.map_cons,q8c,OfSh.enc (α:=α) x (h x (by simp)),qpo (α:=α) l fun y hy=>h y (by simp[hy])]
instance {s:Sh}{α:Type}[Enc α][Sm α][OfSh s α]:OfSh (.sl s) (List α):=⟨fun l=>l.map (OfSh.of (s:=s) (α:=α)),fun l h=>by
 show[T.sl s.size (List.flatMap s.enc l)]=[slc _]
 rw[qpo (α:=α) l h.2,OfSh.sz (s:=s) (α:=α)];rfl,rfl,fun l h=>⟨by simpa using h.1,fun x hx=>by
  obtain⟨y,hy,rfl⟩:=List.mem_map.1 hx;exact OfSh.sm y (h.2 y hy)⟩⟩
theorem arg_list{s:Sh}{α:Type}[Enc α][Sm α][OfSh s α](l:List s.Val)(h:(Sh.sl s).wf l):argOf (.sl s) l=slc (OfSh.of (s:=.sl s) (α:=List α) l):=by
 have:=OfSh.enc (s:=.sl s) (α:=List α) l h;simpa[Sh.enc,argOf]using this
@[reducible] def qhn:Sh:=.pair .str (.pair (.int .i64) .unit)
instance:OfSh qhn Symbol:=⟨fun x=>⟨OfSh.of (s:=.str) (α:=ByteArray) x.1,OfSh.of (s:=(.int .i64)) (α:=Int) x.2.1⟩,fun x h=>q4a (OfSh.enc (α:=ByteArray) x.1 h.1) (q4a (OfSh.enc (α:=Int) x.2.1 h.2.1) (rfl)),rfl,fun x h=>OfSh.sm (α:=ByteArray) x.1 h.1⟩
@[reducible] def qmv:Sh:=.pair (.sl qhn) .unit
instance:OfSh qmv Signature:=⟨fun x=>⟨OfSh.of (s:=(.sl qhn)) (α:=List Symbol) x.1⟩,fun x h=>q4a (OfSh.enc (α:=List Symbol) x.1 h.1) (rfl),rfl,fun x h=>OfSh.sm (α:=List Symbol) x.1 h.1⟩
@[reducible] def q8k:Sh:=.pair (.sl (.int .i64)) (.pair (.sl (.int .i64)) .unit)
instance:OfSh q8k Equation:=⟨fun x=>⟨OfSh.of (s:=(.sl (.int .i64))) (α:=List Int) x.1,OfSh.of (s:=(.sl (.int .i64))) (α:=List Int) x.2.1⟩,fun x h=>q4a (OfSh.enc (α:=List Int) x.1 h.1) (q4a (OfSh.enc (α:=List Int) x.2.1 h.2.1) (rfl)),rfl,fun x h=>⟨OfSh.sm (α:=List Int) x.1 h.1,OfSh.sm (α:=List Int) x.2.1 h.2.1⟩⟩
@[reducible] def qrl:Sh:=.pair (.sl (.int .i64)) (.pair (.sl (.sl (.int .i64))) .unit)
instance:OfSh qrl Binding:=⟨fun x=>⟨OfSh.of (s:=(.sl (.int .i64))) (α:=List Int) x.1,OfSh.of (s:=(.sl (.sl (.int .i64)))) (α:=List (List Int)) x.2.1⟩,fun x h=>q4a (OfSh.enc (α:=List Int) x.1 h.1) (q4a (OfSh.enc (α:=List (List Int)) x.2.1 h.2.1) (rfl)),rfl,fun x h=>⟨OfSh.sm (α:=List Int) x.1 h.1,OfSh.sm (α:=List (List Int)) x.2.1 h.2.1⟩⟩
@[reducible] def qqw:Sh:=.pair (.int .i64) (.pair (.sl (.sl (.int .i64))) .unit)
instance:OfSh qqw Algebra:=⟨fun x=>⟨OfSh.of (s:=(.int .i64)) (α:=Int) x.1,OfSh.of (s:=(.sl (.sl (.int .i64)))) (α:=List (List Int)) x.2.1⟩,fun x h=>q4a (OfSh.enc (α:=Int) x.1 h.1) (q4a (OfSh.enc (α:=List (List Int)) x.2.1 h.2.1) (rfl)),rfl,fun x h=>OfSh.sm (α:=List (List Int)) x.2.1 h.2.1⟩
@[reducible] def qla:Sh:=.pair (.int .i64) (.pair (.int .i64) (.pair (.int .i64) (.pair (.int .i64) (.pair (.int .i64) (.pair (.sl (.int .i64)) (.pair (.sl (.int .i64)) .unit))))))
instance:OfSh qla Entry:=⟨fun x=>⟨OfSh.of (s:=(.int .i64)) (α:=Int) x.1,OfSh.of (s:=(.int .i64)) (α:=Int) x.2.1,OfSh.of (s:=(.int .i64)) (α:=Int) x.2.2.1,OfSh.of (s:=(.int .i64)) (α:=Int) x.2.2.2.1,OfSh.of (s:=(.int .i64)) (α:=Int) x.2.2.2.2.1,OfSh.of (s:=(.sl (.int .i64))) (α:=List Int) x.2.2.2.2.2.1,OfSh.of (s:=(.sl (.int .i64))) (α:=List Int) x.2.2.2.2.2.2.1⟩,fun x h=>q4a (OfSh.enc (α:=Int) x.1 h.1) (q4a (OfSh.enc (α:=Int) x.2.1 h.2.1) (q4a (OfSh.enc (α:=Int) x.2.2.1 h.2.2.1) (q4a (OfSh.enc (α:=Int) x.2.2.2.1 h.2.2.2.1) (q4a (OfSh.enc (α:=Int) x.2.2.2.2.1 h.2.2.2.2.1) (q4a (OfSh.enc (α:=List Int) x.2.2.2.2.2.1 h.2.2.2.2.2.1) (q4a (OfSh.enc (α:=List Int) x.2.2.2.2.2.2.1 h.2.2.2.2.2.2.1) (rfl))))))),rfl,fun x h=>⟨OfSh.sm (α:=List Int) x.2.2.2.2.2.1 h.2.2.2.2.2.1,OfSh.sm (α:=List Int) x.2.2.2.2.2.2.1 h.2.2.2.2.2.2.1⟩⟩
@[reducible] def ql4:Sh:=.pair (.sl (.int .i64)) (.pair (.sl q8k) (.pair (.sl qla) (.pair (.sl (.int .i64)) (.pair (.sl (.int .i64)) (.pair (.int .i64) .unit)))))
instance:OfSh ql4 Completion:=⟨fun x=>⟨OfSh.of (s:=(.sl (.int .i64))) (α:=List Int) x.1,OfSh.of (s:=(.sl q8k)) (α:=List Equation) x.2.1,OfSh.of (s:=(.sl qla)) (α:=List Entry) x.2.2.1,OfSh.of (s:=(.sl (.int .i64))) (α:=List Int) x.2.2.2.1,OfSh.of (s:=(.sl (.int .i64))) (α:=List Int) x.2.2.2.2.1,OfSh.of (s:=(.int .i64)) (α:=Int) x.2.2.2.2.2.1⟩,fun x h=>q4a (OfSh.enc (α:=List Int) x.1 h.1) (q4a (OfSh.enc (α:=List Equation) x.2.1 h.2.1) (q4a (OfSh.enc (α:=List Entry) x.2.2.1 h.2.2.1) (q4a (OfSh.enc (α:=List Int) x.2.2.2.1 h.2.2.2.1) (q4a (OfSh.enc (α:=List Int) x.2.2.2.2.1 h.2.2.2.2.1) (q4a (OfSh.enc (α:=Int) x.2.2.2.2.2.1 h.2.2.2.2.2.1) (rfl)))))),rfl,fun x h=>⟨OfSh.sm (α:=List Int) x.1 h.1,OfSh.sm (α:=List Equation) x.2.1 h.2.1,OfSh.sm (α:=List Entry) x.2.2.1 h.2.2.1,OfSh.sm (α:=List Int) x.2.2.2.1 h.2.2.2.1,OfSh.sm (α:=List Int) x.2.2.2.2.1 h.2.2.2.2.1⟩⟩
@[reducible] def qto:Sh:=.pair (.sl (.int .i64)) (.pair (.sl q8k) (.pair (.sl q8k) .unit))
instance:OfSh qto Theory:=⟨fun x=>⟨OfSh.of (s:=(.sl (.int .i64))) (α:=List Int) x.1,OfSh.of (s:=(.sl q8k)) (α:=List Equation) x.2.1,OfSh.of (s:=(.sl q8k)) (α:=List Equation) x.2.2.1⟩,fun x h=>q4a (OfSh.enc (α:=List Int) x.1 h.1) (q4a (OfSh.enc (α:=List Equation) x.2.1 h.2.1) (q4a (OfSh.enc (α:=List Equation) x.2.2.1 h.2.2.1) (rfl))),rfl,fun x h=>⟨OfSh.sm (α:=List Int) x.1 h.1,OfSh.sm (α:=List Equation) x.2.1 h.2.1,OfSh.sm (α:=List Equation) x.2.2.1 h.2.2.1⟩⟩
@[reducible] def qm2:Sh:=.pair (.int .i64) (.pair (.sl (.int .u8)) .unit)
instance:OfSh qm2 Put:=⟨fun x=>⟨OfSh.of (s:=(.int .i64)) (α:=Int) x.1,OfSh.of (s:=(.sl (.int .u8))) (α:=List UInt8) x.2.1⟩,fun x h=>q4a (OfSh.enc (α:=Int) x.1 h.1) (q4a (OfSh.enc (α:=List UInt8) x.2.1 h.2.1) (rfl)),rfl,fun x h=>OfSh.sm (α:=List UInt8) x.2.1 h.2.1⟩
@[reducible] def qw7:Sh:=.pair (.sl (.sl (.int .u8))) (.pair (.sl qm2) .unit)
instance:OfSh qw7 Disk:=⟨fun x=>⟨OfSh.of (s:=(.sl (.sl (.int .u8)))) (α:=List (List UInt8)) x.1,OfSh.of (s:=(.sl qm2)) (α:=List Put) x.2.1⟩,fun x h=>q4a (OfSh.enc (α:=List (List UInt8)) x.1 h.1) (q4a (OfSh.enc (α:=List Put) x.2.1 h.2.1) (rfl)),rfl,fun x h=>⟨OfSh.sm (α:=List (List UInt8)) x.1 h.1,OfSh.sm (α:=List Put) x.2.1 h.2.1⟩⟩
@[reducible] def qy1:Sh:=.pair (.int .i64) (.pair qm2 .unit)
instance:OfSh qy1 Act:=⟨fun x=>⟨OfSh.of (s:=(.int .i64)) (α:=Int) x.1,OfSh.of (s:=qm2) (α:=Put) x.2.1⟩,fun x h=>q4a (OfSh.enc (α:=Int) x.1 h.1) (q4a (OfSh.enc (α:=Put) x.2.1 h.2.1) (rfl)),rfl,fun x h=>OfSh.sm (α:=Put) x.2.1 h.2.1⟩
def idx{α:Type}(p:α->Bool)(l:List α):Int:=match l.findIdx? p with
 |some i=>(i:Nat)
 |none => -1
theorem qd0{n:Nat}{bad:Nat->Bool}{S:Nat->Nat->R}{r z:R}
 (step:∀m k,k<n->S (m+1) k=if bad k=true then r else S m (k+1)) (stop:∀m,S (m+1) n=z) {f:Nat} (hf:n<f) :
 S f 0=if(List.range n).any bad=true then r else z:=by
 have:∀m k,k<=n->n<m+k->S m k=if(List.range' k (n-k)).any bad=true then r else z:=by
  intro m;induction m with
  |zero=>intros;omega
  |succ m ih=>
   intro k hk hm;by_cases h:k<n
   ·rw[step m k h,ih (k+1) (by omega) (by omega),show n-k=(n-(k+1))+1 by omega,List.range'_succ,List.any_cons];by_cases hb:bad k=true
    ·rw[if_pos hb,hb,Bool.true_or,if_pos rfl]
    ·have hb':=Bool.eq_false_iff.2 hb;rw[if_neg hb,hb',Bool.false_or]
   ·obtain rfl:k=n:=by omega
    rw[stop m];simp
 have:=this f 0 (by omega) (by omega);rwa[Nat.sub_zero,<- List.range_eq_range']at this
theorem qb3{α:Type}{l:List α}{g:α->Option R}{S:Nat->Nat->R}{z:R}
 (step:∀m k (h:k<l.length),S (m+1) k=match g l[k]with|some r=>r|none=>S m (k+1)) (stop:∀m,S (m+1) l.length=z) {f:Nat} (hf:l.length<f) :
 S f 0=match l.findSome? g with|some r=>r|none=>z:=by
 have:∀m k,k<=l.length->l.length<m+k->S m k=match (l.drop k).findSome? g with|some r=>r|none=>z:=by
  intro m;induction m with
  |zero=>intros;omega
  |succ m ih=>
   intro k hk hm;by_cases h:k<l.length
   ·rw[step m k h,gH h,List.findSome?_cons];cases g l[k]with
    |none=>exact ih (k+1) (by omega) (by omega)
    |some r=>rfl
   ·obtain rfl:k=l.length:=by omega
    rw[stop m];simp
 simpa using this f 0 (by omega) (by omega)
theorem q9d{α:Type}{l:List α}{p:α->Bool}{S:Nat->Nat->R}{r z:R}
 (step:∀m k (h:k<l.length),S (m+1) k=if p l[k]=true then r else S m (k+1)) (stop:∀m,S (m+1) l.length=z) {f:Nat} (hf:l.length<f) :
 S f 0=if l.any p=true then r else z:=by
 have:∀m k,k<=l.length->l.length<m+k->S m k=if(l.drop k).any p=true then r else z:=by
  intro m;induction m with
  |zero=>intros;omega
  |succ m ih=>
   intro k hk hm;by_cases h:k<l.length
   ·rw[step m k h,gH h,List.any_cons,ih (k+1) (by omega) (by omega)];by_cases hb:p l[k]=true
    ·rw[if_pos hb,hb,Bool.true_or,if_pos rfl]
    ·have hb':=Bool.eq_false_iff.2 hb;rw[if_neg hb,hb',Bool.false_or]
   ·obtain rfl:k=l.length:=by omega
    rw[stop m];simp
 simpa using this f 0 (by omega) (by omega)
theorem qvn{α:Type}{l:List α}{p:α->Bool}{S:Nat->Nat->R}{r:R}
 (step:∀m k (h:k<l.length),S (m+1) k=if p l[k]=true then r else S m (k+1)) (ha:l.any p=true) {f:Nat} (hf:l.length<f):S f 0=r:=by
 have:∀m k,l.length<m+k->k<=l.length->(l.drop k).any p=true->S m k=r:=by
  intro m;induction m with
  |zero=>intros;omega
  |succ m ih=>
   intro k hm hk ha;by_cases h:k<l.length
   ·rw[gH h,List.any_cons,Bool.or_eq_true]at ha;rw[step m k h];by_cases hb:p l[k]=true
    ·rw[if_pos hb]
    ·rw[if_neg hb];exact ih (k+1) (by omega) (by omega) (ha.resolve_left hb)
   ·rw[gU (by omega)]at ha;cases ha
 exact this f 0 (by omega) (by omega) (by simpa using ha)
theorem q8e{α:Type}{l:List α}{p:α->Bool}{S:Nat->Nat->R}
 (step:∀m k (h:k<l.length),S (m+1) k=if p l[k]=true then some (.int .i64 (k:Nat),[])else S m (k+1)) (stop:∀m,S (m+1) l.length=some (.int .i64 (-1),[])) {f:Nat} (hf:l.length<f) :
 S f 0=some (.int .i64 (idx p l),[]):=by
 have:∀m k,k<=l.length->l.length<m+k->S m k=some (.int .i64 (match (l.drop k).findIdx? p with|some i=>((i+k:Nat):Int)|none => -1),[]):=by
  intro m;induction m with
  |zero=>intros;omega
  |succ m ih=>
   intro k hk hm;by_cases h:k<l.length
   ·rw[step m k h,gH h,List.findIdx?_cons,ih (k+1) (by omega) (by omega)];by_cases hb:p l[k]=true
    ·simp[hb]
    ·simp only[hb];cases (l.drop (k+1)).findIdx? p with
     |none=>simp
     |some i=>simp;omega
   ·obtain rfl:k=l.length:=by omega
    rw[stop m];simp
 simpa[idx]using this f 0 (by omega) (by omega)
theorem q8v{α:Type}(p:α->Bool)(l:List α):decide (idx p l>=0)=l.any p:=by
 unfold idx;cases h:l.findIdx? p with
 |none=>
  rw[List.findIdx?_eq_none_iff]at h;rw[Bool.eq_iff_iff];simp;intro x hx;simpa using h x hx
 |some i=>
  rw[List.findIdx?_eq_some_iff_getElem]at h;obtain⟨h1,h2,_⟩:=h;rw[Bool.eq_iff_iff];simp;exact⟨l[i],gG h1,h2⟩
theorem q6s{α:Type}(p:α->Bool)(l:List α):(idx p l = -1/\∀x,x∈l->p x=false)\/∃i,∃h:i<l.length,idx p l=(i:Nat)/\p l[i]=true/\∀j (hj:j<i),p (l[j]'(Nat.lt_trans hj h))=false:=by
 unfold idx;cases hx:l.findIdx? p with
 |none=>rw[List.findIdx?_eq_none_iff]at hx;exact .inl ⟨rfl,hx⟩
 |some i=>
  rw[List.findIdx?_eq_some_iff_getElem]at hx;obtain⟨h1,h2,h3⟩:=hx;exact .inr ⟨i,h1,rfl,h2,fun j hj=>by simpa using h3 j hj⟩
theorem q9i{α β γ:Type}(f:α->Option β)(g:β->γ):∀l:List α,l.findSome? (fun x=>(f x).map g)=(l.findSome? f).map g
 |[]=>rfl
 |x::l=>by
  rw[List.findSome?_cons,List.findSome?_cons];cases f x with
  |none=>exact q9i f g l
  |some b=>rfl
theorem qm7{α σ:Type}{l:List α}{S:Nat->Nat->σ->R}{g:σ->α->σ}{z:σ->R}(I:Nat->σ->Prop)
 (step:∀m k s (h:k<l.length),I k s->S (m+1) k s=S m (k+1) (g s l[k]))
 (inv:∀k s (h:k<l.length),I k s->I (k+1) (g s l[k]))
 (stop:∀m s,I l.length s->S (m+1) l.length s=z s) (s:σ) (h0:I 0 s) {f:Nat} (hf:l.length<f):S f 0 s=z (l.foldl g s):=by
 have:∀m k s,k<=l.length->l.length<m+k->I k s->S m k s=z ((l.drop k).foldl g s):=by
  intro m;induction m with
  |zero=>intros;omega
  |succ m ih=>
   intro k s hk hm hi;by_cases h:k<l.length
   ·rw[step m k s h hi,gH h,List.foldl_cons];exact ih (k+1) _ (by omega) (by omega) (inv k s h hi)
   ·obtain rfl:k=l.length:=by omega
    rw[stop m s hi,gU (gAI _),List.foldl_nil]
 simpa using this f 0 s (by omega) (by omega) h0
theorem quc{α σ:Type}{l:List α}{g:σ->α->σ}(I:Nat->σ->Prop)(inv:∀k s (h:k<l.length),I k s->I (k+1) (g s l[k]))(s:σ)(h0:I 0 s):I l.length (l.foldl g s):=by
 have:∀n k s,k+n=l.length->I k s->I l.length ((l.drop k).foldl g s):=by
  intro n;induction n with
  |zero=>intro k s hk hi;obtain rfl:k=l.length:=by omega
         rw[gU (gAI _)];exact hi
  |succ n ih=>
   intro k s hk hi;have h:k<l.length:=by omega
   rw[gH h,List.foldl_cons];exact ih (k+1) _ (by omega) (inv k s h hi)
 simpa using this l.length 0 s (by omega) h0
theorem q65{α:Type}[Enc α]:slc ([]:List α)=T.sl (Enc.sz α) []:=rfl
theorem q2w(l:List Int)(x:Int):cells l++[.int .i64 x]=cells (l++[x]):=by rw[q2s,<- q1r,q9s]
theorem q84{α:Type}[Enc α](l:List (List α))(x:List α):cells l++[slc x]=cells (l++[x]):=by rw[q2s,<- qbn,q9s]
theorem q41{a b:Nat}(h:a<=b):Nat.ble a b=true:=Nat.ble_eq_true_of_le h
theorem q9p{σ:Type}{n:Nat}{S:Nat->Nat->σ->R}{st:Nat->σ}{z:R}(step:∀m k,k<n->S (m+1) k (st k)=S m (k+1) (st (k+1)))(stop:∀m,S (m+1) n (st n)=z){f:Nat}(hf:n<f) :
 S f 0 (st 0)=z:=by
 have:∀m k,k<=n->n<m+k->S m k (st k)=z:=by
  intro m;induction m with
  |zero=>intros;omega
  |succ m ih=>
   intro k hk hm;by_cases h:k<n
   ·rw[step m k h];exact ih (k+1) (by omega) (by omega)
   ·obtain rfl:k=n:=by omega
    exact stop m
 exact this f 0 (by omega) (by omega)
theorem qfo(l:List UInt8):(cells l).all T.scalar=true:=by
 rw[gAL];intro x hx;obtain⟨y,_,hy⟩:=List.mem_flatMap.1 hx;obtain rfl:=gD.1 hy;rfl
theorem q4t(l:List Int):(cells l).all T.scalar=true:=by
 rw[gAL];intro x hx;obtain⟨y,_,hy⟩:=List.mem_flatMap.1 hx;obtain rfl:=gD.1 hy;rfl
end Ev.Ty
end
