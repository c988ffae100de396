/- Steps on the way to RowAlgebras: TyData, TyOf, TyLoops, X0, XALL, TyMarks, TyFields, TyPlumb, TyNum, TySig, TyAlg, TyAlgOf, TyTerm, TyTree, TyEval. -/
import Derived.Test.YtleelbkgajbkfaaGreatDoorM2
import Derived.Lib.SlTrimSet
set_option linter.unusedSectionVars false
set_option linter.unusedVariables false
set_option linter.unusedSimpArgs false
section
namespace Ev.Ty
open Go Ev
open Enc (enc)
open Sm (sm)
structure Symbol where
 name:ByteArray
 arity:Int
 deriving DecidableEq
instance:Enc Symbol:=⟨2,by decide,fun x=>[.str x.name,.int .i64 x.arity],fun _=>rfl⟩
@[simp] theorem sz_Symbol:Enc.sz Symbol=2:=rfl
theorem enc_Symbol(x:Symbol):enc x=[.str x.name,.int .i64 x.arity]:=rfl
instance:Sm Symbol:=⟨fun n x=>sm n x.name,fun h x=>sm_mono h x⟩
structure Signature where
 symbols:List Symbol
 deriving DecidableEq
instance:Enc Signature:=⟨1,by decide,fun x=>[slc x.symbols],fun _=>rfl⟩
@[simp] theorem sz_Signature:Enc.sz Signature=1:=rfl
instance:Sm Signature:=⟨fun n x=>sm n x.symbols,fun h x=>sm_mono h x⟩
structure Equation where
 left:List Int
 right:List Int
 deriving DecidableEq
instance:Enc Equation:=⟨2,by decide,fun x=>[slc x.left,slc x.right],fun _=>rfl⟩
@[simp] theorem sz_Equation:Enc.sz Equation=2:=rfl
theorem enc_Equation(x:Equation):enc x=[slc x.left,slc x.right]:=rfl
instance:Sm Equation:=⟨fun n x=>sm n x.left/\sm n x.right,fun h x=>⟨sm_mono h x.1,sm_mono h x.2⟩⟩
structure Binding where
 vars:List Int
 terms:List (List Int)
 deriving DecidableEq
instance:Enc Binding:=⟨2,by decide,fun x=>[slc x.vars,slc x.terms],fun _=>rfl⟩
@[simp] theorem sz_Binding:Enc.sz Binding=2:=rfl
instance:Sm Binding:=⟨fun n x=>sm n x.vars/\sm n x.terms,fun h x=>⟨sm_mono h x.1,sm_mono h x.2⟩⟩
structure Algebra where
 size:Int
 tables:List (List Int)
 deriving DecidableEq
instance:Enc Algebra:=⟨2,by decide,fun x=>[.int .i64 x.size,slc x.tables],fun _=>rfl⟩
@[simp] theorem sz_Algebra:Enc.sz Algebra=2:=rfl
instance:Sm Algebra:=⟨fun n x=>sm n x.tables,fun h x=>sm_mono h x⟩
structure Entry where
 kind:Int
 a:Int
 b:Int
 place:Int
 side:Int
 left:List Int
 right:List Int
 deriving DecidableEq
instance:Enc Entry:=⟨7,by decide,fun x=>[.int .i64 x.kind,.int .i64 x.a,.int .i64 x.b,.int .i64 x.place,.int .i64 x.side,slc x.left,slc x.right],fun _=>rfl⟩
@[simp] theorem sz_Entry:Enc.sz Entry=7:=rfl
instance:Sm Entry:=⟨fun n x=>sm n x.left/\sm n x.right,fun h x=>⟨sm_mono h x.1,sm_mono h x.2⟩⟩
structure Completion where
 order:List Int
 equations:List Equation
 entries:List Entry
 rules:List Int
 waiting:List Int
 rounds:Int
 deriving DecidableEq
instance:Enc Completion:=⟨6,by decide,fun x=>[slc x.order,slc x.equations,slc x.entries,slc x.rules,slc x.waiting,.int .i64 x.rounds],fun _=>rfl⟩
@[simp] theorem sz_Completion:Enc.sz Completion=6:=rfl
instance:Sm Completion:=⟨fun n x=>sm n x.order/\sm n x.equations/\sm n x.entries/\sm n x.rules/\sm n x.waiting,fun h x=>⟨sm_mono h x.1,sm_mono h x.2.1,sm_mono h x.2.2.1,sm_mono h x.2.2.2.1,sm_mono h x.2.2.2.2⟩⟩
structure Theory where
 order:List Int
 equations:List Equation
 rules:List Equation
 deriving DecidableEq
instance:Enc Theory:=⟨3,by decide,fun x=>[slc x.order,slc x.equations,slc x.rules],fun _=>rfl⟩
@[simp] theorem sz_Theory:Enc.sz Theory=3:=rfl
instance:Sm Theory:=⟨fun n x=>sm n x.order/\sm n x.equations/\sm n x.rules,fun h x=>⟨sm_mono h x.1,sm_mono h x.2.1,sm_mono h x.2.2⟩⟩
structure Put where
 sector:Int
 bytes:List UInt8
 deriving DecidableEq
instance:Enc Put:=⟨2,by decide,fun x=>[.int .i64 x.sector,slc x.bytes],fun _=>rfl⟩
@[simp] theorem sz_Put:Enc.sz Put=2:=rfl
instance:Sm Put:=⟨fun n x=>sm n x.bytes,fun h x=>sm_mono h x⟩
structure Disk where
 sectors:List (List UInt8)
 pending:List Put
 deriving DecidableEq
instance:Enc Disk:=⟨2,by decide,fun x=>[slc x.sectors,slc x.pending],fun _=>rfl⟩
@[simp] theorem sz_Disk:Enc.sz Disk=2:=rfl
instance:Sm Disk:=⟨fun n x=>sm n x.sectors/\sm n x.pending,fun h x=>⟨sm_mono h x.1,sm_mono h x.2⟩⟩
structure Act where
 kind:Int
 put:Put
 deriving DecidableEq
instance:Enc Act:=⟨3,by decide,fun x=>[.int .i64 x.kind,.int .i64 x.put.sector,slc x.put.bytes],fun _=>rfl⟩
@[simp] theorem sz_Act:Enc.sz Act=3:=rfl
instance:Sm Act:=⟨fun n x=>sm n x.put,fun h x=>sm_mono h x⟩
structure IntResult where
 code:Int
 value:Int
 deriving DecidableEq
instance:Enc IntResult:=⟨2,by decide,fun x=>[.int .i64 x.code,.int .i64 x.value],fun _=>rfl⟩
@[simp] theorem sz_IntResult:Enc.sz IntResult=2:=rfl
theorem enc_IntResult(x:IntResult):enc x=[.int .i64 x.code,.int .i64 x.value]:=rfl
instance:Sm IntResult:=⟨fun n x=>True,fun _ h=>h⟩
structure IntsResult where
 code:Int
 list:List Int
 deriving DecidableEq
instance:Enc IntsResult:=⟨2,by decide,fun x=>[.int .i64 x.code,slc x.list],fun _=>rfl⟩
@[simp] theorem sz_IntsResult:Enc.sz IntsResult=2:=rfl
instance:Sm IntsResult:=⟨fun n x=>sm n x.list,fun h x=>sm_mono h x⟩
structure BytesResult where
 code:Int
 bytes:List UInt8
 deriving DecidableEq
instance:Enc BytesResult:=⟨2,by decide,fun x=>[.int .i64 x.code,slc x.bytes],fun _=>rfl⟩
@[simp] theorem sz_BytesResult:Enc.sz BytesResult=2:=rfl
instance:Sm BytesResult:=⟨fun n x=>sm n x.bytes,fun h x=>sm_mono h x⟩
structure TextResult where
 code:Int
 text:ByteArray
 deriving DecidableEq
instance:Enc TextResult:=⟨2,by decide,fun x=>[.int .i64 x.code,.str x.text],fun _=>rfl⟩
@[simp] theorem sz_TextResult:Enc.sz TextResult=2:=rfl
instance:Sm TextResult:=⟨fun n x=>sm n x.text,fun h x=>sm_mono h x⟩
structure SignatureResult where
 code:Int
 signature:Signature
 deriving DecidableEq
instance:Enc SignatureResult:=⟨2,by decide,fun x=>[.int .i64 x.code,slc x.signature.symbols],fun _=>rfl⟩
@[simp] theorem sz_SignatureResult:Enc.sz SignatureResult=2:=rfl
instance:Sm SignatureResult:=⟨fun n x=>sm n x.signature,fun h x=>sm_mono h x⟩
structure TermResult where
 code:Int
 term:List Int
 deriving DecidableEq
instance:Enc TermResult:=⟨2,by decide,fun x=>[.int .i64 x.code,slc x.term],fun _=>rfl⟩
@[simp] theorem sz_TermResult:Enc.sz TermResult=2:=rfl
theorem enc_TermResult(x:TermResult):enc x=[.int .i64 x.code,slc x.term]:=rfl
instance:Sm TermResult:=⟨fun n x=>sm n x.term,fun h x=>sm_mono h x⟩
structure TermsResult where
 code:Int
 terms:List (List Int)
 deriving DecidableEq
instance:Enc TermsResult:=⟨2,by decide,fun x=>[.int .i64 x.code,slc x.terms],fun _=>rfl⟩
@[simp] theorem sz_TermsResult:Enc.sz TermsResult=2:=rfl
instance:Sm TermsResult:=⟨fun n x=>sm n x.terms,fun h x=>sm_mono h x⟩
structure EquationResult where
 code:Int
 equation:Equation
 deriving DecidableEq
instance:Enc EquationResult:=⟨3,by decide,fun x=>[.int .i64 x.code,slc x.equation.left,slc x.equation.right],fun _=>rfl⟩
@[simp] theorem sz_EquationResult:Enc.sz EquationResult=3:=rfl
instance:Sm EquationResult:=⟨fun n x=>sm n x.equation,fun h x=>sm_mono h x⟩
structure EquationsResult where
 code:Int
 list:List Equation
 deriving DecidableEq
instance:Enc EquationsResult:=⟨2,by decide,fun x=>[.int .i64 x.code,slc x.list],fun _=>rfl⟩
@[simp] theorem sz_EquationsResult:Enc.sz EquationsResult=2:=rfl
instance:Sm EquationsResult:=⟨fun n x=>sm n x.list,fun h x=>sm_mono h x⟩
structure KeyResult where
 code:Int
 normal:List Int
 term:List Int
 deriving DecidableEq
instance:Enc KeyResult:=⟨3,by decide,fun x=>[.int .i64 x.code,slc x.normal,slc x.term],fun _=>rfl⟩
@[simp] theorem sz_KeyResult:Enc.sz KeyResult=3:=rfl
instance:Sm KeyResult:=⟨fun n x=>sm n x.normal/\sm n x.term,fun h x=>⟨sm_mono h x.1,sm_mono h x.2⟩⟩
structure BindingResult where
 code:Int
 binding:Binding
 deriving DecidableEq
instance:Enc BindingResult:=⟨3,by decide,fun x=>[.int .i64 x.code,slc x.binding.vars,slc x.binding.terms],fun _=>rfl⟩
@[simp] theorem sz_BindingResult:Enc.sz BindingResult=3:=rfl
instance:Sm BindingResult:=⟨fun n x=>sm n x.binding,fun h x=>sm_mono h x⟩
structure RedexResult where
 code:Int
 place:Int
 rule:Int
 deriving DecidableEq
instance:Enc RedexResult:=⟨3,by decide,fun x=>[.int .i64 x.code,.int .i64 x.place,.int .i64 x.rule],fun _=>rfl⟩
@[simp] theorem sz_RedexResult:Enc.sz RedexResult=3:=rfl
instance:Sm RedexResult:=⟨fun n x=>True,fun _ h=>h⟩
structure NormalResult where
 code:Int
 term:List Int
 steps:Int
 deriving DecidableEq
instance:Enc NormalResult:=⟨3,by decide,fun x=>[.int .i64 x.code,slc x.term,.int .i64 x.steps],fun _=>rfl⟩
@[simp] theorem sz_NormalResult:Enc.sz NormalResult=3:=rfl
instance:Sm NormalResult:=⟨fun n x=>sm n x.term,fun h x=>sm_mono h x⟩
structure AlgebraResult where
 code:Int
 algebra:Algebra
 deriving DecidableEq
instance:Enc AlgebraResult:=⟨3,by decide,fun x=>[.int .i64 x.code,.int .i64 x.algebra.size,slc x.algebra.tables],fun _=>rfl⟩
@[simp] theorem sz_AlgebraResult:Enc.sz AlgebraResult=3:=rfl
instance:Sm AlgebraResult:=⟨fun n x=>sm n x.algebra,fun h x=>sm_mono h x⟩
structure EntryResult where
 code:Int
 entry:Entry
 deriving DecidableEq
instance:Enc EntryResult:=⟨8,by decide,fun x=>[.int .i64 x.code,.int .i64 x.entry.kind,.int .i64 x.entry.a,.int .i64 x.entry.b,.int .i64 x.entry.place,.int .i64 x.entry.side,slc x.entry.left,slc x.entry.right],fun _=>rfl⟩
@[simp] theorem sz_EntryResult:Enc.sz EntryResult=8:=rfl
instance:Sm EntryResult:=⟨fun n x=>sm n x.entry,fun h x=>sm_mono h x⟩
structure CompletionResult where
 code:Int
 completion:Completion
 deriving DecidableEq
instance:Enc CompletionResult:=⟨7,by decide,fun x=>[.int .i64 x.code,slc x.completion.order,slc x.completion.equations,slc x.completion.entries,slc x.completion.rules,slc x.completion.waiting,.int .i64 x.completion.rounds],fun _=>rfl⟩
@[simp] theorem sz_CompletionResult:Enc.sz CompletionResult=7:=rfl
instance:Sm CompletionResult:=⟨fun n x=>sm n x.completion,fun h x=>sm_mono h x⟩
structure TheoryResult where
 code:Int
 theory:Theory
 deriving DecidableEq
instance:Enc TheoryResult:=⟨4,by decide,fun x=>[.int .i64 x.code,slc x.theory.order,slc x.theory.equations,slc x.theory.rules],fun _=>rfl⟩
@[simp] theorem sz_TheoryResult:Enc.sz TheoryResult=4:=rfl
instance:Sm TheoryResult:=⟨fun n x=>sm n x.theory,fun h x=>sm_mono h x⟩
structure DiskResult where
 code:Int
 disk:Disk
 deriving DecidableEq
instance:Enc DiskResult:=⟨3,by decide,fun x=>[.int .i64 x.code,slc x.disk.sectors,slc x.disk.pending],fun _=>rfl⟩
@[simp] theorem sz_DiskResult:Enc.sz DiskResult=3:=rfl
instance:Sm DiskResult:=⟨fun n x=>sm n x.disk,fun h x=>sm_mono h x⟩
theorem szs:Enc.sz Int=1/\Enc.sz UInt8=1/\Enc.sz Symbol=2/\Enc.sz Signature=1/\Enc.sz Equation=2/\Enc.sz Binding=2/\Enc.sz Algebra=2/\Enc.sz Entry=7/\Enc.sz Completion=6/\Enc.sz Theory=3/\Enc.sz Put=2/\Enc.sz Disk=2/\Enc.sz Act=3/\Enc.sz IntResult=2/\Enc.sz IntsResult=2/\Enc.sz BytesResult=2/\Enc.sz TextResult=2/\Enc.sz SignatureResult=2/\Enc.sz TermResult=2/\Enc.sz TermsResult=2/\Enc.sz EquationResult=3/\Enc.sz EquationsResult=2/\Enc.sz KeyResult=3/\Enc.sz BindingResult=3/\Enc.sz RedexResult=3/\Enc.sz NormalResult=3/\Enc.sz AlgebraResult=3/\Enc.sz EntryResult=8/\Enc.sz CompletionResult=7/\Enc.sz TheoryResult=4/\Enc.sz DiskResult=3:=⟨rfl,rfl,rfl,rfl,rfl,rfl,rfl,rfl,rfl,rfl,rfl,rfl,rfl,rfl,rfl,rfl,rfl,rfl,rfl,rfl,rfl,rfl,rfl,rfl,rfl,rfl,rfl,rfl,rfl,rfl,rfl⟩
theorem evs:(∀{n m:Nat},((n:Int)<(m:Int))<->n<m)/\(∀{a b:ByteArray},(a.toList=b.toList)=(a=b))/\
 (∀{α:Type}[BEq α][LawfulBEq α][DecidableEq α]{a b:α},(a==b)=decide (a=b))/\(∀{α:Type}[BEq α][LawfulBEq α][DecidableEq α]{a b:α},(a != b) = !decide (a=b))/\
 (∀{β:Type}{p:Prop}[Decidable p]{x y:β},(bif decide p then x else y)=if p then x else y)/\(∀{β:Type}{b:Bool}{x y:β},(bif !b then x else y)=bif b then y else x)/\
 (∀{a b:UInt8},((a.toNat:Int)=(b.toNat:Int))=(a=b))/\(∀{α:Type}[Enc α]{l:List α}{k:Nat},Enc.sz α=k->(cells l).length/k=l.length)/\(∀{α:Type}[Enc α],Enc.sz (List α)=1)/\
 (∀i n:Nat,inB (i:Int) n=decide (i<n))/\(∀n:Nat,((n:Nat):Int).toNat=n)/\
 (∀{α:Type}[Enc α]{l:List α}{k i:Nat},Enc.sz α=k->(cells l)[i*k]?=(l[i]?).bind fun x=>(Enc.enc x)[0]?)/\
 (∀{α:Type}[Enc α]{l:List α}{k i:Nat},Enc.sz α=k->1<k->(cells l)[i*k+1]?=(l[i]?).bind fun x=>(Enc.enc x)[1]?)/\
 (∀{α:Type}[Enc α]{l:List α}{k i:Nat},Enc.sz α=k->2<k->(cells l)[i*k+1+1]?=(l[i]?).bind fun x=>(Enc.enc x)[2]?)/\
 (∀{α:Type}[Enc α]{l:List α}{k i:Nat},Enc.sz α=k->3<k->(cells l)[i*k+1+1+1]?=(l[i]?).bind fun x=>(Enc.enc x)[3]?)/\
 (∀{α:Type}[Enc α]{l:List α}{k i:Nat},Enc.sz α=k->4<k->(cells l)[i*k+1+1+1+1]?=(l[i]?).bind fun x=>(Enc.enc x)[4]?)/\
 (∀{α:Type}[Enc α]{l:List α}{k i:Nat},Enc.sz α=k->5<k->(cells l)[i*k+1+1+1+1+1]?=(l[i]?).bind fun x=>(Enc.enc x)[5]?)/\
 (∀{α:Type}[Enc α]{l:List α}{k i:Nat},Enc.sz α=k->6<k->(cells l)[i*k+1+1+1+1+1+1]?=(l[i]?).bind fun x=>(Enc.enc x)[6]?)/\
 (∀{α:Type}[Enc α]{l:List α}{k i:Nat},Enc.sz α=k->7<k->(cells l)[i*k+1+1+1+1+1+1+1]?=(l[i]?).bind fun x=>(Enc.enc x)[7]?)/\
 (∀{α:Type}[Enc α]{l:List α}{k i:Nat},Enc.sz α=k->8<k->(cells l)[i*k+1+1+1+1+1+1+1+1]?=(l[i]?).bind fun x=>(Enc.enc x)[8]?)/\
 (∀{α β:Type}{x:α}{f:α->Option β},Option.bind (some x) f=f x)/\(∀{α:Type}{a:α}{l:List α},(a::l)[0]?=some a)/\(∀{α:Type}{a:α}{i:Nat}{l:List α},(a::l)[i+1]?=l[i]?)/\
 (∀(k:IntKind)(n:Int),oInt k (.int k n)=some n)/\(∀b:Bool,oBool (.bool b)=some b)/\(∀b:ByteArray,oStr (.str b)=some b)/\(∀{α:Type}[Enc α]{k:Nat}(l:List α),Enc.sz α=k->oSl k (slc l)=some (cells l))/\
 (∀c:List T,oAgg (.agg c)=some c)/\(∀c:List T,oTup (.tup c)=some c)/\(∀(x:T)(c:List T),oCons (x::c)=some (x,c))/\oNil []=some ()/\
 (∀{α:Type}[Enc α]{k:Nat}{l:List α},Enc.sz α=k->T.sl k (cells l)=slc l):=
 ⟨Int.ofNat_lt,str_inj,beq_dec,bne_dec,cond_dec,cond_nt,u8_inj,cells_div,sz_list,inB_nat,Int.toNat_natCast,get0,get1,get2,get3,get4,get5,get6,get7,get8,bind_of,List.getElem?_cons_zero,List.getElem?_cons_succ,oInt_int,oBool_bool,oStr_str,oSl_slc,oAgg_agg,oTup_tup,oCons_cons,oNil_nil,sl_cells⟩
theorem tfs:(∀{α:Type}{h:Decidable True}(a b:α),ite True a b=a)/\(∀{α:Type}{h:Decidable False}(a b:α),ite False a b=b)/\(∀(h:Decidable True),@decide True h=true)/\
 (∀(h:Decidable False),@decide False h=false)/\(∀{α:Type}{a b:α},cond true a b=a)/\(∀{α:Type}{a b:α},cond false a b=b):=
 ⟨if_true,if_false,decide_true,decide_false,rfl,rfl⟩
theorem bns:(∀{r:T×List T}{g:Int->R},bI r g=(oNil r.2).bind fun _=>(oInt .i64 r.1).bind g)/\(∀{r:T×List T}{g:Bool->R},bB r g=(oNil r.2).bind fun _=>(oBool r.1).bind g)/\
 (∀{r:T×List T}{g:List T->R},bL r g=(oNil r.2).bind fun _=>(oSl 1 r.1).bind g)/\(∀{r:T×List T}{g:List T->R},bM r g=(oNil r.2).bind fun _=>(oSl 2 r.1).bind g)/\
 (∀{r:T×List T}{g:List T->Int->R},bS r g=(oCons r.2).bind fun p=>(oNil p.2).bind fun _=>(oAgg p.1).bind fun c=>(oCons c).bind fun p=>(oSl 1 p.1).bind fun c=>(oCons p.2).bind fun p=>(oInt .i64 p.1).bind fun n=>(oNil p.2).bind fun _=>g c n):=
 ⟨rfl,rfl,rfl,rfl,rfl⟩
theorem evz:type_of% tfs/\type_of% evs/\type_of% szs/\type_of% bns:=⟨tfs,evs,szs,bns⟩
class OfSh(s:Sh)(α:Type)[Enc α][Sm α] where
 of:s.Val->α
 enc:∀x,s.wf x->s.enc x=Enc.enc (of x)
 sz:s.size=Enc.sz α
 sm:∀x,s.wf x->Sm.sm maxLen (of x)
theorem pair_enc{a b:Sh}{x:(Sh.pair a b).Val}{l r:List T}(h1:a.enc x.1=l)(h2:b.enc x.2=r):(Sh.pair a b).enc x=l++r:=by rw[Sh.enc,h1,h2]
instance:OfSh (.int .i64) Int:=⟨id,fun _ _=>rfl,rfl,fun _ _=>trivial⟩
instance:OfSh .bool Bool:=⟨id,fun _ _=>rfl,rfl,fun _ _=>trivial⟩
instance:OfSh .str ByteArray:=⟨id,fun _ _=>rfl,rfl,fun _ h=>h⟩
theorem u8_enc(x:Int)(h:(Lit.int .u8 x).wf=true):[T.int .u8 x]=[T.int .u8 ((UInt8.ofNat (Int.toNat x)).toNat:Int)]:=by
 simp[Lit.wf,IntKind.min,IntKind.max,IntKind.signed,IntKind.bits]at h;rw[UInt8.toNat_ofNat'];congr 2;omega
instance:OfSh (.int .u8) UInt8:=⟨fun n=>UInt8.ofNat (Int.toNat n),fun x h=>u8_enc x h,rfl,fun _ _=>trivial⟩
theorem cells_of{s:Sh}{α:Type}[Enc α][Sm α][OfSh s α]:∀(l:List s.Val),(∀x,x∈l->s.wf x)->l.flatMap s.enc=cells (l.map (OfSh.of (s:=s) (α:=α)))
 |[],_=>rfl
 |x::l,h=>by
  rw[List.flatMap_cons,List.map_cons,cells_cons,OfSh.enc (α:=α) x (h x (by simp)),cells_of (α:=α) l fun y hy=>h y (by simp[hy])]
instance {s:Sh}{α:Type}[Enc α][Sm α][OfSh s α]:OfSh (.sl s) (List α):=⟨fun l=>l.map (OfSh.of (s:=s) (α:=α)),fun l h=>by
 show[T.sl s.size (List.flatMap s.enc l)]=[slc _]
 rw[cells_of (α:=α) l h.2,OfSh.sz (s:=s) (α:=α)];rfl,rfl,fun l h=>⟨by simpa using h.1,fun x hx=>by
  obtain⟨y,hy,rfl⟩:=List.mem_map.1 hx;exact OfSh.sm y (h.2 y hy)⟩⟩
theorem arg_list{s:Sh}{α:Type}[Enc α][Sm α][OfSh s α](l:List s.Val)(h:(Sh.sl s).wf l):argOf (.sl s) l=slc (OfSh.of (s:=.sl s) (α:=List α) l):=by
 have:=OfSh.enc (s:=.sl s) (α:=List α) l h;simpa[Sh.enc,argOf]using this
@[reducible] def sh_Symbol:Sh:=.pair .str (.pair (.int .i64) .unit)
instance:OfSh sh_Symbol Symbol:=⟨fun x=>⟨OfSh.of (s:=.str) (α:=ByteArray) x.1,OfSh.of (s:=(.int .i64)) (α:=Int) x.2.1⟩,fun x h=>pair_enc (OfSh.enc (α:=ByteArray) x.1 h.1) (pair_enc (OfSh.enc (α:=Int) x.2.1 h.2.1) (rfl)),rfl,fun x h=>OfSh.sm (α:=ByteArray) x.1 h.1⟩
@[reducible] def sh_Signature:Sh:=.pair (.sl sh_Symbol) .unit
instance:OfSh sh_Signature Signature:=⟨fun x=>⟨OfSh.of (s:=(.sl sh_Symbol)) (α:=List Symbol) x.1⟩,fun x h=>pair_enc (OfSh.enc (α:=List Symbol) x.1 h.1) (rfl),rfl,fun x h=>OfSh.sm (α:=List Symbol) x.1 h.1⟩
@[reducible] def sh_Equation:Sh:=.pair (.sl (.int .i64)) (.pair (.sl (.int .i64)) .unit)
instance:OfSh sh_Equation Equation:=⟨fun x=>⟨OfSh.of (s:=(.sl (.int .i64))) (α:=List Int) x.1,OfSh.of (s:=(.sl (.int .i64))) (α:=List Int) x.2.1⟩,fun x h=>pair_enc (OfSh.enc (α:=List Int) x.1 h.1) (pair_enc (OfSh.enc (α:=List Int) x.2.1 h.2.1) (rfl)),rfl,fun x h=>⟨OfSh.sm (α:=List Int) x.1 h.1,OfSh.sm (α:=List Int) x.2.1 h.2.1⟩⟩
@[reducible] def sh_Binding:Sh:=.pair (.sl (.int .i64)) (.pair (.sl (.sl (.int .i64))) .unit)
instance:OfSh sh_Binding Binding:=⟨fun x=>⟨OfSh.of (s:=(.sl (.int .i64))) (α:=List Int) x.1,OfSh.of (s:=(.sl (.sl (.int .i64)))) (α:=List (List Int)) x.2.1⟩,fun x h=>pair_enc (OfSh.enc (α:=List Int) x.1 h.1) (pair_enc (OfSh.enc (α:=List (List Int)) x.2.1 h.2.1) (rfl)),rfl,fun x h=>⟨OfSh.sm (α:=List Int) x.1 h.1,OfSh.sm (α:=List (List Int)) x.2.1 h.2.1⟩⟩
@[reducible] def sh_Algebra:Sh:=.pair (.int .i64) (.pair (.sl (.sl (.int .i64))) .unit)
instance:OfSh sh_Algebra Algebra:=⟨fun x=>⟨OfSh.of (s:=(.int .i64)) (α:=Int) x.1,OfSh.of (s:=(.sl (.sl (.int .i64)))) (α:=List (List Int)) x.2.1⟩,fun x h=>pair_enc (OfSh.enc (α:=Int) x.1 h.1) (pair_enc (OfSh.enc (α:=List (List Int)) x.2.1 h.2.1) (rfl)),rfl,fun x h=>OfSh.sm (α:=List (List Int)) x.2.1 h.2.1⟩
@[reducible] def sh_Entry:Sh:=.pair (.int .i64) (.pair (.int .i64) (.pair (.int .i64) (.pair (.int .i64) (.pair (.int .i64) (.pair (.sl (.int .i64)) (.pair (.sl (.int .i64)) .unit))))))
instance:OfSh sh_Entry Entry:=⟨fun x=>⟨OfSh.of (s:=(.int .i64)) (α:=Int) x.1,OfSh.of (s:=(.int .i64)) (α:=Int) x.2.1,OfSh.of (s:=(.int .i64)) (α:=Int) x.2.2.1,OfSh.of (s:=(.int .i64)) (α:=Int) x.2.2.2.1,OfSh.of (s:=(.int .i64)) (α:=Int) x.2.2.2.2.1,OfSh.of (s:=(.sl (.int .i64))) (α:=List Int) x.2.2.2.2.2.1,OfSh.of (s:=(.sl (.int .i64))) (α:=List Int) x.2.2.2.2.2.2.1⟩,fun x h=>pair_enc (OfSh.enc (α:=Int) x.1 h.1) (pair_enc (OfSh.enc (α:=Int) x.2.1 h.2.1) (pair_enc (OfSh.enc (α:=Int) x.2.2.1 h.2.2.1) (pair_enc (OfSh.enc (α:=Int) x.2.2.2.1 h.2.2.2.1) (pair_enc (OfSh.enc (α:=Int) x.2.2.2.2.1 h.2.2.2.2.1) (pair_enc (OfSh.enc (α:=List Int) x.2.2.2.2.2.1 h.2.2.2.2.2.1) (pair_enc (OfSh.enc (α:=List Int) x.2.2.2.2.2.2.1 h.2.2.2.2.2.2.1) (rfl))))))),rfl,fun x h=>⟨OfSh.sm (α:=List Int) x.2.2.2.2.2.1 h.2.2.2.2.2.1,OfSh.sm (α:=List Int) x.2.2.2.2.2.2.1 h.2.2.2.2.2.2.1⟩⟩
@[reducible] def sh_Completion:Sh:=.pair (.sl (.int .i64)) (.pair (.sl sh_Equation) (.pair (.sl sh_Entry) (.pair (.sl (.int .i64)) (.pair (.sl (.int .i64)) (.pair (.int .i64) .unit)))))
instance:OfSh sh_Completion Completion:=⟨fun x=>⟨OfSh.of (s:=(.sl (.int .i64))) (α:=List Int) x.1,OfSh.of (s:=(.sl sh_Equation)) (α:=List Equation) x.2.1,OfSh.of (s:=(.sl sh_Entry)) (α:=List Entry) x.2.2.1,OfSh.of (s:=(.sl (.int .i64))) (α:=List Int) x.2.2.2.1,OfSh.of (s:=(.sl (.int .i64))) (α:=List Int) x.2.2.2.2.1,OfSh.of (s:=(.int .i64)) (α:=Int) x.2.2.2.2.2.1⟩,fun x h=>pair_enc (OfSh.enc (α:=List Int) x.1 h.1) (pair_enc (OfSh.enc (α:=List Equation) x.2.1 h.2.1) (pair_enc (OfSh.enc (α:=List Entry) x.2.2.1 h.2.2.1) (pair_enc (OfSh.enc (α:=List Int) x.2.2.2.1 h.2.2.2.1) (pair_enc (OfSh.enc (α:=List Int) x.2.2.2.2.1 h.2.2.2.2.1) (pair_enc (OfSh.enc (α:=Int) x.2.2.2.2.2.1 h.2.2.2.2.2.1) (rfl)))))),rfl,fun x h=>⟨OfSh.sm (α:=List Int) x.1 h.1,OfSh.sm (α:=List Equation) x.2.1 h.2.1,OfSh.sm (α:=List Entry) x.2.2.1 h.2.2.1,OfSh.sm (α:=List Int) x.2.2.2.1 h.2.2.2.1,OfSh.sm (α:=List Int) x.2.2.2.2.1 h.2.2.2.2.1⟩⟩
@[reducible] def sh_Theory:Sh:=.pair (.sl (.int .i64)) (.pair (.sl sh_Equation) (.pair (.sl sh_Equation) .unit))
instance:OfSh sh_Theory Theory:=⟨fun x=>⟨OfSh.of (s:=(.sl (.int .i64))) (α:=List Int) x.1,OfSh.of (s:=(.sl sh_Equation)) (α:=List Equation) x.2.1,OfSh.of (s:=(.sl sh_Equation)) (α:=List Equation) x.2.2.1⟩,fun x h=>pair_enc (OfSh.enc (α:=List Int) x.1 h.1) (pair_enc (OfSh.enc (α:=List Equation) x.2.1 h.2.1) (pair_enc (OfSh.enc (α:=List Equation) x.2.2.1 h.2.2.1) (rfl))),rfl,fun x h=>⟨OfSh.sm (α:=List Int) x.1 h.1,OfSh.sm (α:=List Equation) x.2.1 h.2.1,OfSh.sm (α:=List Equation) x.2.2.1 h.2.2.1⟩⟩
@[reducible] def sh_Put:Sh:=.pair (.int .i64) (.pair (.sl (.int .u8)) .unit)
instance:OfSh sh_Put Put:=⟨fun x=>⟨OfSh.of (s:=(.int .i64)) (α:=Int) x.1,OfSh.of (s:=(.sl (.int .u8))) (α:=List UInt8) x.2.1⟩,fun x h=>pair_enc (OfSh.enc (α:=Int) x.1 h.1) (pair_enc (OfSh.enc (α:=List UInt8) x.2.1 h.2.1) (rfl)),rfl,fun x h=>OfSh.sm (α:=List UInt8) x.2.1 h.2.1⟩
@[reducible] def sh_Disk:Sh:=.pair (.sl (.sl (.int .u8))) (.pair (.sl sh_Put) .unit)
instance:OfSh sh_Disk Disk:=⟨fun x=>⟨OfSh.of (s:=(.sl (.sl (.int .u8)))) (α:=List (List UInt8)) x.1,OfSh.of (s:=(.sl sh_Put)) (α:=List Put) x.2.1⟩,fun x h=>pair_enc (OfSh.enc (α:=List (List UInt8)) x.1 h.1) (pair_enc (OfSh.enc (α:=List Put) x.2.1 h.2.1) (rfl)),rfl,fun x h=>⟨OfSh.sm (α:=List (List UInt8)) x.1 h.1,OfSh.sm (α:=List Put) x.2.1 h.2.1⟩⟩
@[reducible] def sh_Act:Sh:=.pair (.int .i64) (.pair sh_Put .unit)
instance:OfSh sh_Act Act:=⟨fun x=>⟨OfSh.of (s:=(.int .i64)) (α:=Int) x.1,OfSh.of (s:=sh_Put) (α:=Put) x.2.1⟩,fun x h=>pair_enc (OfSh.enc (α:=Int) x.1 h.1) (pair_enc (OfSh.enc (α:=Put) x.2.1 h.2.1) (rfl)),rfl,fun x h=>OfSh.sm (α:=Put) x.2.1 h.2.1⟩
def idx{α:Type}(p:α->Bool)(l:List α):Int:=match l.findIdx? p with
 |some i=>(i:Nat)
 |none => -1
theorem any_loop{n:Nat}{bad:Nat->Bool}{S:Nat->Nat->R}{r z:R}
 (step:∀m k,k<n->S (m+1) k=if bad k=true then r else S m (k+1)) (stop:∀m,S (m+1) n=z) {f:Nat} (hf:n<f) :
 S f 0=if(List.range n).any bad=true then r else z:=by
 have:∀m k,k<=n->n<m+k->S m k=if(List.range' k (n-k)).any bad=true then r else z:=by
  intro m;induction m with
  |zero=>intros;omega
  |succ m ih=>
   intro k hk hm;by_cases h:k<n
   ·rw[step m k h,ih (k+1) (by omega) (by omega),show n-k=(n-(k+1))+1 by omega,List.range'_succ,List.any_cons];by_cases hb:bad k=true
    ·rw[if_pos hb,hb,Bool.true_or,if_pos rfl]
    ·have hb':=Bool.eq_false_iff.2 hb;rw[if_neg hb,hb',Bool.false_or]
   ·obtain rfl:k=n:=by omega
    rw[stop m];simp
 have:=this f 0 (by omega) (by omega);rwa[Nat.sub_zero,<- List.range_eq_range']at this
theorem scan_loop{α:Type}{l:List α}{g:α->Option R}{S:Nat->Nat->R}{z:R}
 (step:∀m k (h:k<l.length),S (m+1) k=match g l[k]with|some r=>r|none=>S m (k+1)) (stop:∀m,S (m+1) l.length=z) {f:Nat} (hf:l.length<f) :
 S f 0=match l.findSome? g with|some r=>r|none=>z:=by
 have:∀m k,k<=l.length->l.length<m+k->S m k=match (l.drop k).findSome? g with|some r=>r|none=>z:=by
  intro m;induction m with
  |zero=>intros;omega
  |succ m ih=>
   intro k hk hm;by_cases h:k<l.length
   ·rw[step m k h,List.drop_eq_getElem_cons h,List.findSome?_cons];cases g l[k]with
    |none=>exact ih (k+1) (by omega) (by omega)
    |some r=>rfl
   ·obtain rfl:k=l.length:=by omega
    rw[stop m];simp
 simpa using this f 0 (by omega) (by omega)
theorem any_loopL{α:Type}{l:List α}{p:α->Bool}{S:Nat->Nat->R}{r z:R}
 (step:∀m k (h:k<l.length),S (m+1) k=if p l[k]=true then r else S m (k+1)) (stop:∀m,S (m+1) l.length=z) {f:Nat} (hf:l.length<f) :
 S f 0=if l.any p=true then r else z:=by
 have:∀m k,k<=l.length->l.length<m+k->S m k=if(l.drop k).any p=true then r else z:=by
  intro m;induction m with
  |zero=>intros;omega
  |succ m ih=>
   intro k hk hm;by_cases h:k<l.length
   ·rw[step m k h,List.drop_eq_getElem_cons h,List.any_cons,ih (k+1) (by omega) (by omega)];by_cases hb:p l[k]=true
    ·rw[if_pos hb,hb,Bool.true_or,if_pos rfl]
    ·have hb':=Bool.eq_false_iff.2 hb;rw[if_neg hb,hb',Bool.false_or]
   ·obtain rfl:k=l.length:=by omega
    rw[stop m];simp
 simpa using this f 0 (by omega) (by omega)
theorem hit_loop{α:Type}{l:List α}{p:α->Bool}{S:Nat->Nat->R}{r:R}
 (step:∀m k (h:k<l.length),S (m+1) k=if p l[k]=true then r else S m (k+1)) (ha:l.any p=true) {f:Nat} (hf:l.length<f):S f 0=r:=by
 have:∀m k,l.length<m+k->k<=l.length->(l.drop k).any p=true->S m k=r:=by
  intro m;induction m with
  |zero=>intros;omega
  |succ m ih=>
   intro k hm hk ha;by_cases h:k<l.length
   ·rw[List.drop_eq_getElem_cons h,List.any_cons,Bool.or_eq_true]at ha;rw[step m k h];by_cases hb:p l[k]=true
    ·rw[if_pos hb]
    ·rw[if_neg hb];exact ih (k+1) (by omega) (by omega) (ha.resolve_left hb)
   ·rw[List.drop_of_length_le (by omega)]at ha;cases ha
 exact this f 0 (by omega) (by omega) (by simpa using ha)
theorem idx_loop{α:Type}{l:List α}{p:α->Bool}{S:Nat->Nat->R}
 (step:∀m k (h:k<l.length),S (m+1) k=if p l[k]=true then some (.int .i64 (k:Nat),[])else S m (k+1)) (stop:∀m,S (m+1) l.length=some (.int .i64 (-1),[])) {f:Nat} (hf:l.length<f) :
 S f 0=some (.int .i64 (idx p l),[]):=by
 have:∀m k,k<=l.length->l.length<m+k->S m k=some (.int .i64 (match (l.drop k).findIdx? p with|some i=>((i+k:Nat):Int)|none => -1),[]):=by
  intro m;induction m with
  |zero=>intros;omega
  |succ m ih=>
   intro k hk hm;by_cases h:k<l.length
   ·rw[step m k h,List.drop_eq_getElem_cons h,List.findIdx?_cons,ih (k+1) (by omega) (by omega)];by_cases hb:p l[k]=true
    ·simp[hb]
    ·simp only[hb];cases (l.drop (k+1)).findIdx? p with
     |none=>simp
     |some i=>simp;omega
   ·obtain rfl:k=l.length:=by omega
    rw[stop m];simp
 simpa[idx]using this f 0 (by omega) (by omega)
theorem idx_nonneg{α:Type}(p:α->Bool)(l:List α):decide (idx p l>=0)=l.any p:=by
 unfold idx;cases h:l.findIdx? p with
 |none=>
  rw[List.findIdx?_eq_none_iff]at h;rw[Bool.eq_iff_iff];simp;intro x hx;simpa using h x hx
 |some i=>
  rw[List.findIdx?_eq_some_iff_getElem]at h;obtain⟨h1,h2,_⟩:=h;rw[Bool.eq_iff_iff];simp;exact⟨l[i],List.getElem_mem h1,h2⟩
theorem idx_spec{α:Type}(p:α->Bool)(l:List α):(idx p l = -1/\∀x,x∈l->p x=false)\/∃i,∃h:i<l.length,idx p l=(i:Nat)/\p l[i]=true/\∀j (hj:j<i),p (l[j]'(Nat.lt_trans hj h))=false:=by
 unfold idx;cases hx:l.findIdx? p with
 |none=>rw[List.findIdx?_eq_none_iff]at hx;exact .inl ⟨rfl,hx⟩
 |some i=>
  rw[List.findIdx?_eq_some_iff_getElem]at hx;obtain⟨h1,h2,h3⟩:=hx;exact .inr ⟨i,h1,rfl,h2,fun j hj=>by simpa using h3 j hj⟩
theorem findSome_map{α β γ:Type}(f:α->Option β)(g:β->γ):∀l:List α,l.findSome? (fun x=>(f x).map g)=(l.findSome? f).map g
 |[]=>rfl
 |x::l=>by
  rw[List.findSome?_cons,List.findSome?_cons];cases f x with
  |none=>exact findSome_map f g l
  |some b=>rfl
theorem fold_loop{α σ:Type}{l:List α}{S:Nat->Nat->σ->R}{g:σ->α->σ}{z:σ->R}(I:Nat->σ->Prop)
 (step:∀m k s (h:k<l.length),I k s->S (m+1) k s=S m (k+1) (g s l[k]))
 (inv:∀k s (h:k<l.length),I k s->I (k+1) (g s l[k]))
 (stop:∀m s,I l.length s->S (m+1) l.length s=z s) (s:σ) (h0:I 0 s) {f:Nat} (hf:l.length<f):S f 0 s=z (l.foldl g s):=by
 have:∀m k s,k<=l.length->l.length<m+k->I k s->S m k s=z ((l.drop k).foldl g s):=by
  intro m;induction m with
  |zero=>intros;omega
  |succ m ih=>
   intro k s hk hm hi;by_cases h:k<l.length
   ·rw[step m k s h hi,List.drop_eq_getElem_cons h,List.foldl_cons];exact ih (k+1) _ (by omega) (by omega) (inv k s h hi)
   ·obtain rfl:k=l.length:=by omega
    rw[stop m s hi,List.drop_of_length_le (Nat.le_refl _),List.foldl_nil]
 simpa using this f 0 s (by omega) (by omega) h0
theorem slc_nil{α:Type}[Enc α]:slc ([]:List α)=T.sl (Enc.sz α) []:=rfl
theorem cells_snoc_int(l:List Int)(x:Int):cells l++[.int .i64 x]=cells (l++[x]):=by rw[cells_append,<- enc_int,enc_cells_one]
theorem cells_snoc_list{α:Type}[Enc α](l:List (List α))(x:List α):cells l++[slc x]=cells (l++[x]):=by rw[cells_append,<- enc_list,enc_cells_one]
theorem ble_ok{a b:Nat}(h:a<=b):Nat.ble a b=true:=Nat.ble_eq_true_of_le h
theorem scalars_int(l:List Int):(cells l).all T.scalar=true:=by
 rw[List.all_eq_true];intro x hx;obtain⟨y,_,hy⟩:=List.mem_flatMap.1 hx;obtain rfl:=List.mem_singleton.1 hy;rfl
end Ev.Ty
end
section
open Go
set_option maxRecDepth 100000
namespace Ev
noncomputable section
variable (n:Nat)(L0 L1 L2 L3 L4 L5:St->R)(m:Nat)(s:St)
def cmp_Or_int64.st0(x0:Int)(x1:List T)(x2 x3:Int):St:=⟨[(3,oi x0),(6,ol 1 x1),(7,oi x2),(8,oi x3)],[]⟩
def cmp_Or_int64.K0:=kx F.cmp_Or_int64 n [.block 0,.seq 0 (cx F.cmp_Or_int64 [1,1,1])] (endOf prog A F.cmp_Or_int64)
def cmp_Or_int64.at0:=lx F.cmp_Or_int64 n 0 [1,1,0,1,0,0] (cmp_Or_int64.K0 n) m s
def cmp_Or_int64.rd0:=rx F.cmp_Or_int64 n 0 [1,1,0,1,0,0] (cmp_Or_int64.K0 n) L0 s
theorem cmp_Or_int64.next0:cmp_Or_int64.at0 n (m+1) s=cmp_Or_int64.rd0 n (cmp_Or_int64.at0 n m) s:=nx ..
theorem cmp_Or_int64.round0(x0:Int)(x1:List T)(x2 x3:Int):cmp_Or_int64.rd0 n L0 (cmp_Or_int64.st0 x0 x1 x2 x3)=bif (decide (x3<x2))then bif inB x3 (x1.length/1)then(x1[x3.toNat*1]?).bind fun e1=>(oInt .i64 e1).bind fun n2=>bif (n2 != x0)then some (.int .i64 n2,[])else L0 (cmp_Or_int64.st0 x0 x1 x2 (IntKind.wrap .i64 (x3+1)))else none else some (.int .i64 x0,[]):=by kernel_rfl
theorem cmp_Or_int64.ev(a0:List T):callK prog A H LIM n F.cmp_Or_int64 [.sl 1 a0]=cmp_Or_int64.at0 n n (cmp_Or_int64.st0 (0:Int) a0 (((a0.length/1):Nat):Int) (0:Int)):=by kernel_rfl
def impl_AlgebraFault.st0(x0:List T)(x1 x2:Int)(x3:List T)(x4:Int)(x5:List T):St:=⟨[(2,(.one (.ptr 128 0))),(3,(.one (.ptr 192 0))),(25,ol 1 x0),(26,oi x1),(27,oi x2)],[(128,(.box [(.t (.sl 2 x3))])),(192,(.box [(.t (.int .i64 x4)),(.t (.sl 1 x5))]))]⟩
def impl_AlgebraFault.K0:=kx F.impl_AlgebraFault n [.block 0,.seq 0 (cx F.impl_AlgebraFault [1,1,1,1,1])] (endOf prog A F.impl_AlgebraFault)
def impl_AlgebraFault.at0:=lx F.impl_AlgebraFault n 0 [1,1,1,1,0,1,0,0] (impl_AlgebraFault.K0 n) m s
def impl_AlgebraFault.rd0:=rx F.impl_AlgebraFault n 0 [1,1,1,1,0,1,0,0] (impl_AlgebraFault.K0 n) L0 s
theorem impl_AlgebraFault.next0:impl_AlgebraFault.at0 n (m+1) s=impl_AlgebraFault.rd0 n (impl_AlgebraFault.at0 n m) s:=nx ..
theorem impl_AlgebraFault.round0(x0:List T)(x1 x2:Int)(x3:List T)(x4:Int)(x5:List T):impl_AlgebraFault.rd0 n L0 (impl_AlgebraFault.st0 x0 x1 x2 x3 x4 x5)=bif (decide (x2<x1))then bif inB x2 (x0.length/1)then(x0[x2.toNat*1]?).bind fun e5=>(oSl 1 e5).bind fun c6=>bif inB x2 (x3.length/2)then(x3[(x2.toNat*2)+1]?).bind fun e7=>(oInt .i64 e7).bind fun n8=>(LIM F.impl_power [.int .i64 x4,.int .i64 n8]).bind fun r9=>bI r9 fun n10=>bif (((((c6.length/1):Nat):Int) != n10))then some (.int .i64 2,[])else(LIM F.slices_ContainsFunc_Sint64 [.sl 1 c6,.clo F.impl_AlgebraFault_1 [.rref [.int .i64 x4,.sl 1 x5] 0]]).bind fun r11=>bB r11 fun b12=>bif b12 then some (.int .i64 3,[])else L0 (impl_AlgebraFault.st0 x0 x1 (IntKind.wrap .i64 (x2+1)) x3 x4 x5)else none else none else some (.int .i64 0,[]):=by kernel_rfl
theorem impl_AlgebraFault.ev(a0_0:List T)(a1_0:Int)(a1_1:List T):callK prog A H LIM n F.impl_AlgebraFault [.agg [.sl 2 a0_0],.agg [.int .i64 a1_0,.sl 1 a1_1]]=(LIM F.impl_SignatureFault [.agg [.sl 2 a0_0]]).bind fun r1=>bI r1 fun n2=>bif (n2 != 0)then some (.int .i64 n2,[])else(LIM F.impl_within [.int .i64 a1_0,.int .i64 1,.int .i64 3]).bind fun r3=>bB r3 fun b4=>bif (!b4)then some (.int .i64 3,[])else bif (((((a1_1.length/1):Nat):Int) != (((a0_0.length/2):Nat):Int)))then some (.int .i64 2,[])else impl_AlgebraFault.at0 n n (impl_AlgebraFault.st0 a1_1 (((a1_1.length/1):Nat):Int) (0:Int) a0_0 a1_0 a1_1):=by kernel_rfl
theorem impl_AlgebraFault_1.ev(a0 a1_0:Int)(a1_1:List T):callK prog A H LIM n F.impl_AlgebraFault_1 [.int .i64 a0,.rref [.int .i64 a1_0,.sl 1 a1_1] 0]=(LIM F.impl_within [.int .i64 a0,.int .i64 0,.int .i64 (IntKind.wrap .i64 (a1_0-1))]).bind fun r1=>bB r1 fun b2=>some (.bool (!b2),[]):=by kernel_rfl
theorem impl_Algebra_eval.ev(a0_0:Int)(a0_1 a1_0 a2 a3:List T):callK prog A H LIM n F.impl_Algebra_eval [.agg [.int .i64 a0_0,.sl 1 a0_1],.agg [.sl 2 a1_0],.sl 1 a2,.sl 1 a3]=(LIM F.impl_Algebra_evalAt [.agg [.int .i64 a0_0,.sl 1 a0_1],.agg [.sl 2 a1_0],.sl 1 a2,.sl 1 a3,.int .i64 0]).bind fun r1=>(oNil r1.2).bind fun _=>(oTup r1.1).bind fun c2=>(oCons c2).bind fun p3=>(oInt .i64 p3.1).bind fun n4=>(oCons p3.2).bind fun p5=>(oInt .i64 p5.1).bind fun n6=>(oNil p5.2).bind fun _=>some (.int .i64 n4,[]):=by kernel_rfl
def impl_Algebra_evalAt.st0(x0 x1:List T)(x2 x3 x4 x5 x6 x7:Int)(x8 x9:List T):St:=⟨[(2,ol 1 x0),(3,ol 1 x1),(4,oi x2),(5,(.one (.ptr 320 0))),(6,(.one (.ptr 384 0))),(12,oi x3),(13,oi x4),(35,oi x5),(36,oi x6)],[(320,(.box [(.t (.int .i64 x7)),(.t (.sl 1 x8))])),(384,(.box [(.t (.sl 2 x9))]))]⟩
def impl_Algebra_evalAt.K0:=kx F.impl_Algebra_evalAt n [.block 0,.seq 0 (cx F.impl_Algebra_evalAt [1,1,1,1,1,1])] (endOf prog A F.impl_Algebra_evalAt)
def impl_Algebra_evalAt.at0:=lx F.impl_Algebra_evalAt n 0 [1,1,1,1,1,0,1,0,0] (impl_Algebra_evalAt.K0 n) m s
def impl_Algebra_evalAt.rd0:=rx F.impl_Algebra_evalAt n 0 [1,1,1,1,1,0,1,0,0] (impl_Algebra_evalAt.K0 n) L0 s
theorem impl_Algebra_evalAt.next0:impl_Algebra_evalAt.at0 n (m+1) s=impl_Algebra_evalAt.rd0 n (impl_Algebra_evalAt.at0 n m) s:=nx ..
theorem impl_Algebra_evalAt.round0(x0 x1:List T)(x2 x3 x4 x5 x6 x7:Int)(x8 x9:List T):impl_Algebra_evalAt.rd0 n L0 (impl_Algebra_evalAt.st0 x0 x1 x2 x3 x4 x5 x6 x7 x8 x9)=bif (decide (x6<x5))then(LIM F.impl_Algebra_evalAt [.agg [.int .i64 x7,.sl 1 x8],.agg [.sl 2 x9],.sl 1 x0,.sl 1 x1,.int .i64 x2]).bind fun r7=>(oNil r7.2).bind fun _=>(oTup r7.1).bind fun c8=>(oCons c8).bind fun p9=>(oInt .i64 p9.1).bind fun n10=>(oCons p9.2).bind fun p11=>(oInt .i64 p11.1).bind fun n12=>(oNil p11.2).bind fun _=>L0 (impl_Algebra_evalAt.st0 x0 x1 n12 x3 (IntKind.wrap .i64 ((IntKind.wrap .i64 (x4*x7))+n10)) x5 (IntKind.wrap .i64 (x6+1)) x7 x8 x9)else bif inB x3 (x8.length/1)then(x8[x3.toNat*1]?).bind fun e13=>(oSl 1 e13).bind fun c14=>bif inB x4 (c14.length/1)then(c14[x4.toNat*1]?).bind fun e15=>(oInt .i64 e15).bind fun n16=>some (.tup [.int .i64 n16,.int .i64 x2],[])else none else none:=by kernel_rfl
theorem impl_Algebra_evalAt.ev(a0_0:Int)(a0_1 a1_0 a2 a3:List T)(a4:Int):callK prog A H LIM n F.impl_Algebra_evalAt [.agg [.int .i64 a0_0,.sl 1 a0_1],.agg [.sl 2 a1_0],.sl 1 a2,.sl 1 a3,.int .i64 a4]=bif inB a4 (a3.length/1)then(a3[a4.toNat*1]?).bind fun e1=>(oInt .i64 e1).bind fun n2=>bif (decide (n2<0))then bif inB (IntKind.wrap .i64 ((-1:Int)-n2)) (a2.length/1)then(a2[(Int.toNat (IntKind.wrap .i64 ((-1:Int)-n2)))*1]?).bind fun e3=>(oInt .i64 e3).bind fun n4=>some (.tup [.int .i64 n4,.int .i64 (IntKind.wrap .i64 (a4+1))],[])else none else bif inB n2 (a1_0.length/2)then(a1_0[(n2.toNat*2)+1]?).bind fun e5=>(oInt .i64 e5).bind fun n6=>impl_Algebra_evalAt.at0 n n (impl_Algebra_evalAt.st0 a2 a3 (IntKind.wrap .i64 (a4+1)) n2 (0:Int) n6 (0:Int) a0_0 a0_1 a1_0)else none else none:=by kernel_rfl
def impl_Algebra_holds.st2(x0 x1 x2 x3 x4:Int)(x5 x6 x7 x8 x9:List T):St:=⟨[(3,(.one (.ptr 192 0))),(4,(.one (.ptr 256 0))),(5,(.one (.ptr 320 0))),(7,(.one (.obj 576))),(12,oi x0),(13,oi x1),(29,oi x2),(30,oi x3)],[(192,(.box [(.t (.int .i64 x4)),(.t (.sl 1 x5))])),(256,(.box [(.t (.sl 2 x6))])),(320,(.box [(.t (.sl 1 x7)),(.t (.sl 1 x8))])),(576,(.arr true true 1 x9))]⟩
def impl_Algebra_holds.st0(x0 x1 x2:Int)(x3 x4 x5 x6 x7:List T):St:=⟨[(3,(.one (.ptr 192 0))),(4,(.one (.ptr 256 0))),(5,(.one (.ptr 320 0))),(7,(.one (.obj 576))),(12,oi x0),(13,oi x1)],[(192,(.box [(.t (.int .i64 x2)),(.t (.sl 1 x3))])),(256,(.box [(.t (.sl 2 x4))])),(320,(.box [(.t (.sl 1 x5)),(.t (.sl 1 x6))])),(576,(.arr true true 1 x7))]⟩
def impl_Algebra_holds.K0:=kx F.impl_Algebra_holds n [.block 0,.seq 0 (cx F.impl_Algebra_holds [1,1,1])] (endOf prog A F.impl_Algebra_holds)
def impl_Algebra_holds.at0:=lx F.impl_Algebra_holds n 0 [1,1,0,1,0,0] (impl_Algebra_holds.K0 n) m s
def impl_Algebra_holds.rd0:=rx F.impl_Algebra_holds n 0 [1,1,0,1,0,0] (impl_Algebra_holds.K0 n) L0 s
theorem impl_Algebra_holds.next0:impl_Algebra_holds.at0 n (m+1) s=impl_Algebra_holds.rd0 n (impl_Algebra_holds.at0 n m) s:=nx ..
def impl_Algebra_holds.K2:=kx F.impl_Algebra_holds n [.block 2,.block 1,.seq 0 (cx F.impl_Algebra_holds [1,1,0,1,0,0,1,1,1])] (bx F.impl_Algebra_holds 0 (impl_Algebra_holds.K0 n) L0)
def impl_Algebra_holds.at2:=lx F.impl_Algebra_holds n 2 [1,1,0,1,0,0,1,1,0,0,1,1,0,0] (impl_Algebra_holds.K2 n L0) m s
def impl_Algebra_holds.rd2:=rx F.impl_Algebra_holds n 2 [1,1,0,1,0,0,1,1,0,0,1,1,0,0] (impl_Algebra_holds.K2 n L0) L2 s
theorem impl_Algebra_holds.next2:impl_Algebra_holds.at2 n L0 (m+1) s=impl_Algebra_holds.rd2 n L0 (impl_Algebra_holds.at2 n L0 m) s:=nx ..
theorem impl_Algebra_holds.round0(x0 x1 x2:Int)(x3 x4 x5 x6 x7:List T):impl_Algebra_holds.rd0 n L0 (impl_Algebra_holds.st0 x0 x1 x2 x3 x4 x5 x6 x7)=bif (decide (x1<x0))then(LIM F.impl_Algebra_eval [.agg [.int .i64 x2,.sl 1 x3],.agg [.sl 2 x4],.sl 1 x7,.sl 1 x5]).bind fun r3=>bI r3 fun n4=>(LIM F.impl_Algebra_eval [.agg [.int .i64 x2,.sl 1 x3],.agg [.sl 2 x4],.sl 1 x7,.sl 1 x6]).bind fun r5=>bI r5 fun n6=>bif (n4 != n6)then some (.bool false,[])else impl_Algebra_holds.at2 n L0 n (impl_Algebra_holds.st2 x0 x1 (((x7.length/1):Nat):Int) (0:Int) x2 x3 x4 x5 x6 x7)else some (.bool true,[]):=by kernel_rfl
theorem impl_Algebra_holds.round2(x0 x1 x2 x3 x4:Int)(x5 x6 x7 x8 x9:List T):impl_Algebra_holds.rd2 n L0 L2 (impl_Algebra_holds.st2 x0 x1 x2 x3 x4 x5 x6 x7 x8 x9)=bif (decide (x3<x2))then bif inB x3 (x9.length/1)then(x9[x3.toNat*1]?).bind fun e7=>(oInt .i64 e7).bind fun n8=>bif inB x3 (x9.length/1)then bif decide ((x3.toNat*1)+1<=x9.length)then bif inB x3 ((setCells x9 (x3.toNat*1) [.int .i64 (IntKind.wrap .i64 (n8+1))]).length/1)then((setCells x9 (x3.toNat*1) [.int .i64 (IntKind.wrap .i64 (n8+1))])[x3.toNat*1]?).bind fun e9=>(oInt .i64 e9).bind fun n10=>bif (decide (n10<x4))then L0 (impl_Algebra_holds.st0 x0 (IntKind.wrap .i64 (x1+1)) x4 x5 x6 x7 x8 (setCells x9 (x3.toNat*1) [.int .i64 (IntKind.wrap .i64 (n8+1))]))else bif inB x3 ((setCells x9 (x3.toNat*1) [.int .i64 (IntKind.wrap .i64 (n8+1))]).length/1)then bif decide ((x3.toNat*1)+1<=(setCells x9 (x3.toNat*1) [.int .i64 (IntKind.wrap .i64 (n8+1))]).length)then L2 (impl_Algebra_holds.st2 x0 x1 x2 (IntKind.wrap .i64 (x3+1)) x4 x5 x6 x7 x8 (setCells (setCells x9 (x3.toNat*1) [.int .i64 (IntKind.wrap .i64 (n8+1))]) (x3.toNat*1) [.int .i64 0]))else none else none else none else none else none else none else L0 (impl_Algebra_holds.st0 x0 (IntKind.wrap .i64 (x1+1)) x4 x5 x6 x7 x8 x9):=by kernel_rfl
theorem impl_Algebra_holds.ev(a0_0:Int)(a0_1 a1_0 a2_0 a2_1:List T):callK prog A H LIM n F.impl_Algebra_holds [.agg [.int .i64 a0_0,.sl 1 a0_1],.agg [.sl 2 a1_0],.agg [.sl 1 a2_0,.sl 1 a2_1]]=(LIM F.impl_power [.int .i64 a0_0,.int .i64 6]).bind fun r1=>bI r1 fun n2=>impl_Algebra_holds.at0 n n (impl_Algebra_holds.st0 n2 (0:Int) a0_0 a0_1 a1_0 a2_0 a2_1 [.int .i64 0,.int .i64 0,.int .i64 0,.int .i64 0,.int .i64 0,.int .i64 0]):=by kernel_rfl
theorem impl_AllHold.ev(a0_0:List T)(a1_0:Int)(a1_1 a2:List T):callK prog A H LIM n F.impl_AllHold [.agg [.sl 2 a0_0],.agg [.int .i64 a1_0,.sl 1 a1_1],.sl 2 a2]=(LIM F.impl_AlgebraFault [.agg [.sl 2 a0_0],.agg [.int .i64 a1_0,.sl 1 a1_1]]).bind fun r1=>bI r1 fun n2=>(LIM F.impl_EquationsFault [.agg [.sl 2 a0_0],.sl 2 a2]).bind fun r3=>bI r3 fun n4=>(LIM F.impl_firstCode [.sl 1 [.int .i64 n2,.int .i64 n4]]).bind fun r5=>bI r5 fun n6=>bif (n6 != 0)then some (.agg [.int .i64 n6,.int .i64 0],[])else(LIM F.slices_ContainsFunc_SEquation [.sl 2 a2,.clo F.impl_AllHold_1 [.rref [.int .i64 a1_0,.sl 1 a1_1] 0,.rref [.sl 2 a0_0] 0]]).bind fun r7=>bB r7 fun b8=>(LIM F.impl_truth [.bool (!b8)]).bind fun r9=>(oNil r9.2).bind fun _=>(oAgg r9.1).bind fun c10=>(oCons c10).bind fun p11=>(oInt .i64 p11.1).bind fun n12=>(oCons p11.2).bind fun p13=>(oInt .i64 p13.1).bind fun n14=>(oNil p13.2).bind fun _=>some (.agg [.int .i64 n12,.int .i64 n14],[]):=by kernel_rfl
theorem impl_AllHold_1.ev(a0_0 a0_1:List T)(a1_0:Int)(a1_1 a2_0:List T):callK prog A H LIM n F.impl_AllHold_1 [.agg [.sl 1 a0_0,.sl 1 a0_1],.rref [.int .i64 a1_0,.sl 1 a1_1] 0,.rref [.sl 2 a2_0] 0]=(LIM F.impl_Algebra_holds [.agg [.int .i64 a1_0,.sl 1 a1_1],.agg [.sl 2 a2_0],.agg [.sl 1 a0_0,.sl 1 a0_1]]).bind fun r1=>bB r1 fun b2=>some (.bool (!b2),[]):=by kernel_rfl
theorem impl_ApplyBinding.ev(a0_0 a1_0 a1_1 a2:List T):callK prog A H LIM n F.impl_ApplyBinding [.agg [.sl 2 a0_0],.agg [.sl 1 a1_0,.sl 1 a1_1],.sl 1 a2]=(LIM F.impl_BindingFault [.agg [.sl 2 a0_0],.agg [.sl 1 a1_0,.sl 1 a1_1]]).bind fun r1=>bI r1 fun n2=>(LIM F.impl_TermFault [.agg [.sl 2 a0_0],.sl 1 a2]).bind fun r3=>bI r3 fun n4=>(LIM F.impl_firstCode [.sl 1 [.int .i64 n2,.int .i64 n4]]).bind fun r5=>bI r5 fun n6=>bif (n6 != 0)then some (.agg [.int .i64 n6,.sl 1 []],[])else(LIM F.impl_Binding_applied [.agg [.sl 1 a1_0,.sl 1 a1_1],.sl 1 a2]).bind fun r7=>bL r7 fun c8=>(LIM F.impl_fitting [.sl 1 c8]).bind fun r9=>(oNil r9.2).bind fun _=>(oAgg r9.1).bind fun c10=>(oCons c10).bind fun p11=>(oInt .i64 p11.1).bind fun n12=>(oCons p11.2).bind fun p13=>(oSl 1 p13.1).bind fun c14=>(oNil p13.2).bind fun _=>some (.agg [.int .i64 n12,.sl 1 c14],[]):=by kernel_rfl
def impl_BindingFault.st2(x0:Int)(x1 x2:List T):St:=⟨[(3,(.one (.ptr 192 0))),(9,oi x0)],[(192,(.box [(.t (.sl 1 x1)),(.t (.sl 1 x2))]))]⟩
def impl_BindingFault.st0(x0:List T)(x1 x2:Int)(x3 x4 x5:List T):St:=⟨[(2,(.one (.ptr 128 0))),(3,(.one (.ptr 192 0))),(29,ol 1 x0),(30,oi x1),(31,oi x2)],[(128,(.box [(.t (.sl 2 x3))])),(192,(.box [(.t (.sl 1 x4)),(.t (.sl 1 x5))]))]⟩
def impl_BindingFault.K0:=kx F.impl_BindingFault n [.block 0,.seq 0 (cx F.impl_BindingFault [1,1,1,1])] (endOf prog A F.impl_BindingFault)
def impl_BindingFault.at0:=lx F.impl_BindingFault n 0 [1,1,1,0,1,0,0] (impl_BindingFault.K0 n) m s
def impl_BindingFault.rd0:=rx F.impl_BindingFault n 0 [1,1,1,0,1,0,0] (impl_BindingFault.K0 n) L0 s
theorem impl_BindingFault.next0:impl_BindingFault.at0 n (m+1) s=impl_BindingFault.rd0 n (impl_BindingFault.at0 n m) s:=nx ..
def impl_BindingFault.K2:=kx F.impl_BindingFault n [.block 2,.seq 0 (cx F.impl_BindingFault [1,1,1,1,1])] (endOf prog A F.impl_BindingFault)
def impl_BindingFault.at2:=lx F.impl_BindingFault n 2 [1,1,1,1,0,1,0,0] (impl_BindingFault.K2 n) m s
def impl_BindingFault.rd2:=rx F.impl_BindingFault n 2 [1,1,1,1,0,1,0,0] (impl_BindingFault.K2 n) L2 s
theorem impl_BindingFault.next2:impl_BindingFault.at2 n (m+1) s=impl_BindingFault.rd2 n (impl_BindingFault.at2 n m) s:=nx ..
theorem impl_BindingFault.round0(x0:List T)(x1 x2:Int)(x3 x4 x5:List T):impl_BindingFault.rd0 n L0 (impl_BindingFault.st0 x0 x1 x2 x3 x4 x5)=bif (decide (x2<x1))then bif inB x2 (x0.length/1)then(x0[x2.toNat*1]?).bind fun e3=>(oInt .i64 e3).bind fun n4=>(LIM F.impl_within [.int .i64 n4,.int .i64 0,.int .i64 11]).bind fun r5=>bB r5 fun b6=>bif (!b6)then some (.int .i64 3,[])else bif inB x2 (x5.length/1)then(x5[x2.toNat*1]?).bind fun e7=>(oSl 1 e7).bind fun c8=>(LIM F.impl_TermFault [.agg [.sl 2 x3],.sl 1 c8]).bind fun r9=>bI r9 fun n10=>bif (n10 != 0)then some (.int .i64 n10,[])else L0 (impl_BindingFault.st0 x0 x1 (IntKind.wrap .i64 (x2+1)) x3 x4 x5)else none else none else impl_BindingFault.at2 n n (impl_BindingFault.st2 (1:Int) x4 x5):=by kernel_rfl
theorem impl_BindingFault.round2(x0:Int)(x1 x2:List T):impl_BindingFault.rd2 n L2 (impl_BindingFault.st2 x0 x1 x2)=bif (decide (x0<(((x1.length/1):Nat):Int)))then bif inB x0 (x1.length/1)then(x1[x0.toNat*1]?).bind fun e11=>(oInt .i64 e11).bind fun n12=>bif inB (IntKind.wrap .i64 (x0-1)) (x1.length/1)then(x1[(Int.toNat (IntKind.wrap .i64 (x0-1)))*1]?).bind fun e13=>(oInt .i64 e13).bind fun n14=>bif (decide (n12<=n14))then some (.int .i64 1,[])else L2 (impl_BindingFault.st2 (IntKind.wrap .i64 (x0+1)) x1 x2)else none else none else some (.int .i64 0,[]):=by kernel_rfl
theorem impl_BindingFault.ev(a0_0 a1_0 a1_1:List T):callK prog A H LIM n F.impl_BindingFault [.agg [.sl 2 a0_0],.agg [.sl 1 a1_0,.sl 1 a1_1]]=(LIM F.impl_SignatureFault [.agg [.sl 2 a0_0]]).bind fun r1=>bI r1 fun n2=>bif (n2 != 0)then some (.int .i64 n2,[])else bif (((((a1_1.length/1):Nat):Int) != (((a1_0.length/1):Nat):Int)))then some (.int .i64 2,[])else bif (decide ((((a1_0.length/1):Nat):Int)>12))then some (.int .i64 2,[])else impl_BindingFault.at0 n n (impl_BindingFault.st0 a1_0 (((a1_0.length/1):Nat):Int) (0:Int) a0_0 a1_0 a1_1):=by kernel_rfl
def impl_Binding_applied.st0(x0:List T)(x1 x2:Int)(x3 x4 x5:List T):St:=⟨[(2,(.one (.ptr 128 0))),(5,(.one (.obj 640))),(11,ol 1 x0),(12,oi x1),(13,oi x2)],[(128,(.box [(.t (.sl 1 x3)),(.t (.sl 1 x4))])),(640,(.arr true true 1 x5))]⟩
def impl_Binding_applied.K0:=kx F.impl_Binding_applied n [.block 0,.seq 0 (cx F.impl_Binding_applied [1,1,1])] (endOf prog A F.impl_Binding_applied)
def impl_Binding_applied.at0:=lx F.impl_Binding_applied n 0 [1,1,0,1,0,0] (impl_Binding_applied.K0 n) m s
def impl_Binding_applied.rd0:=rx F.impl_Binding_applied n 0 [1,1,0,1,0,0] (impl_Binding_applied.K0 n) L0 s
theorem impl_Binding_applied.next0:impl_Binding_applied.at0 n (m+1) s=impl_Binding_applied.rd0 n (impl_Binding_applied.at0 n m) s:=nx ..
theorem impl_Binding_applied.round0(x0:List T)(x1 x2:Int)(x3 x4 x5:List T):impl_Binding_applied.rd0 n L0 (impl_Binding_applied.st0 x0 x1 x2 x3 x4 x5)=bif (decide (x2<x1))then bif inB x2 (x0.length/1)then(x0[x2.toNat*1]?).bind fun e1=>(oInt .i64 e1).bind fun n2=>(LIM F.impl_Binding_of [.agg [.sl 1 x3,.sl 1 x4],.int .i64 (IntKind.wrap .i64 ((-1:Int)-n2))]).bind fun r3=>(oNil r3.2).bind fun _=>(oTup r3.1).bind fun c4=>(oCons c4).bind fun p5=>(oSl 1 p5.1).bind fun c6=>bif c6.all T.scalar then(oCons p5.2).bind fun p7=>(oBool p7.1).bind fun b8=>(oNil p7.2).bind fun _=>bif b8 then bif c6.all T.scalar then bif Nat.ble ((x5.length+c6.length)*8) (140737488355328*1)then L0 (impl_Binding_applied.st0 x0 x1 (IntKind.wrap .i64 (x2+1)) x3 x4 (x5++c6:List T))else none else none else bif Nat.ble ((x5.length+1)*8) (140737488355328*1)then L0 (impl_Binding_applied.st0 x0 x1 (IntKind.wrap .i64 (x2+1)) x3 x4 (x5++[.int .i64 n2]:List T))else none else none else none else some (.sl 1 x5,[]):=by kernel_rfl
theorem impl_Binding_applied.ev(a0_0 a0_1 a1:List T):callK prog A H LIM n F.impl_Binding_applied [.agg [.sl 1 a0_0,.sl 1 a0_1],.sl 1 a1]=impl_Binding_applied.at0 n n (impl_Binding_applied.st0 a1 (((a1.length/1):Nat):Int) (0:Int) a0_0 a0_1 []):=by kernel_rfl
theorem impl_Binding_of.ev(a0_0 a0_1:List T)(a1:Int):callK prog A H LIM n F.impl_Binding_of [.agg [.sl 1 a0_0,.sl 1 a0_1],.int .i64 a1]=(LIM F.slices_Index_Sint64 [.sl 1 a0_0,.int .i64 a1]).bind fun r1=>bI r1 fun n2=>bif (decide (n2<0))then some (.tup [.sl 1 [],.bool false],[])else bif inB n2 (a0_1.length/1)then(a0_1[n2.toNat*1]?).bind fun e3=>(oSl 1 e3).bind fun c4=>some (.tup [.sl 1 c4,.bool true],[])else none:=by kernel_rfl
theorem impl_EquationFault.ev(a0_0 a1_0 a1_1:List T):callK prog A H LIM n F.impl_EquationFault [.agg [.sl 2 a0_0],.agg [.sl 1 a1_0,.sl 1 a1_1]]=(LIM F.impl_TermFault [.agg [.sl 2 a0_0],.sl 1 a1_0]).bind fun r1=>bI r1 fun n2=>(LIM F.impl_TermFault [.agg [.sl 2 a0_0],.sl 1 a1_1]).bind fun r3=>bI r3 fun n4=>(LIM F.impl_firstCode [.sl 1 [.int .i64 n2,.int .i64 n4]]).bind fun r5=>bI r5 fun n6=>bif (n6 != 0)then some (.int .i64 n6,[])else(LIM F.impl_varsOf [.sl 1 [.sl 1 a1_0,.sl 1 a1_1]]).bind fun r7=>bL r7 fun c8=>(LIM F.slices_ContainsFunc_Sint64 [.sl 1 c8,.clo F.impl_EquationFault_1 []]).bind fun r9=>bB r9 fun b10=>bif b10 then some (.int .i64 3,[])else some (.int .i64 0,[]):=by kernel_rfl
theorem impl_EquationFault_1.ev(a0:Int):callK prog A H LIM n F.impl_EquationFault_1 [.int .i64 a0]=some (.bool (decide (a0>=6)),[]):=by kernel_rfl
def impl_EquationsFault.st0(x0:List T)(x1 x2:Int)(x3:List T):St:=⟨[(2,(.one (.ptr 128 0))),(17,ol 2 x0),(18,oi x1),(19,oi x2)],[(128,(.box [(.t (.sl 2 x3))]))]⟩
def impl_EquationsFault.K0:=kx F.impl_EquationsFault n [.block 0,.seq 0 (cx F.impl_EquationsFault [1,1,1,1])] (endOf prog A F.impl_EquationsFault)
def impl_EquationsFault.at0:=lx F.impl_EquationsFault n 0 [1,1,1,0,1,0,0] (impl_EquationsFault.K0 n) m s
def impl_EquationsFault.rd0:=rx F.impl_EquationsFault n 0 [1,1,1,0,1,0,0] (impl_EquationsFault.K0 n) L0 s
theorem impl_EquationsFault.next0:impl_EquationsFault.at0 n (m+1) s=impl_EquationsFault.rd0 n (impl_EquationsFault.at0 n m) s:=nx ..
theorem impl_EquationsFault.round0(x0:List T)(x1 x2:Int)(x3:List T):impl_EquationsFault.rd0 n L0 (impl_EquationsFault.st0 x0 x1 x2 x3)=bif (decide (x2<x1))then bif inB x2 (x0.length/2)then(x0[x2.toNat*2]?).bind fun e3=>(oSl 1 e3).bind fun c4=>(x0[(x2.toNat*2)+1]?).bind fun e5=>(oSl 1 e5).bind fun c6=>(LIM F.impl_EquationFault [.agg [.sl 2 x3],.agg [.sl 1 c4,.sl 1 c6]]).bind fun r7=>bI r7 fun n8=>bif (n8 != 0)then some (.int .i64 n8,[])else L0 (impl_EquationsFault.st0 x0 x1 (IntKind.wrap .i64 (x2+1)) x3)else none else some (.int .i64 0,[]):=by kernel_rfl
theorem impl_EquationsFault.ev(a0_0 a1:List T):callK prog A H LIM n F.impl_EquationsFault [.agg [.sl 2 a0_0],.sl 2 a1]=(LIM F.impl_SignatureFault [.agg [.sl 2 a0_0]]).bind fun r1=>bI r1 fun n2=>bif (n2 != 0)then some (.int .i64 n2,[])else bif (decide ((((a1.length/2):Nat):Int)>12))then some (.int .i64 2,[])else impl_EquationsFault.at0 n n (impl_EquationsFault.st0 a1 (((a1.length/2):Nat):Int) (0:Int) a0_0):=by kernel_rfl
theorem impl_EvalTerm.ev(a0_0:List T)(a1_0:Int)(a1_1 a2 a3:List T):callK prog A H LIM n F.impl_EvalTerm [.agg [.sl 2 a0_0],.agg [.int .i64 a1_0,.sl 1 a1_1],.sl 1 a2,.sl 1 a3]=(LIM F.impl_AlgebraFault [.agg [.sl 2 a0_0],.agg [.int .i64 a1_0,.sl 1 a1_1]]).bind fun r1=>bI r1 fun n2=>(LIM F.impl_TermFault [.agg [.sl 2 a0_0],.sl 1 a3]).bind fun r3=>bI r3 fun n4=>(LIM F.impl_firstCode [.sl 1 [.int .i64 n2,.int .i64 n4]]).bind fun r5=>bI r5 fun n6=>bif (n6 != 0)then some (.agg [.int .i64 n6,.int .i64 0],[])else bif (((((a2.length/1):Nat):Int) != 6))then some (.agg [.int .i64 2,.int .i64 0],[])else(LIM F.slices_ContainsFunc_Sint64 [.sl 1 a2,.clo F.impl_EvalTerm_1 [.rref [.int .i64 a1_0,.sl 1 a1_1] 0]]).bind fun r7=>bB r7 fun b8=>bif b8 then some (.agg [.int .i64 3,.int .i64 0],[])else(LIM F.slices_Min_Sint64 [.sl 1 a3]).bind fun r9=>bI r9 fun n10=>bif (decide (n10<(-6:Int)))then some (.agg [.int .i64 3,.int .i64 0],[])else(LIM F.impl_Algebra_eval [.agg [.int .i64 a1_0,.sl 1 a1_1],.agg [.sl 2 a0_0],.sl 1 a2,.sl 1 a3]).bind fun r11=>bI r11 fun n12=>some (.agg [.int .i64 0,.int .i64 n12],[]):=by kernel_rfl
theorem impl_EvalTerm_1.ev(a0 a1_0:Int)(a1_1:List T):callK prog A H LIM n F.impl_EvalTerm_1 [.int .i64 a0,.rref [.int .i64 a1_0,.sl 1 a1_1] 0]=(LIM F.impl_within [.int .i64 a0,.int .i64 0,.int .i64 (IntKind.wrap .i64 (a1_0-1))]).bind fun r1=>bB r1 fun b2=>some (.bool (!b2),[]):=by kernel_rfl
theorem impl_Holds.ev(a0_0:List T)(a1_0:Int)(a1_1 a2_0 a2_1:List T):callK prog A H LIM n F.impl_Holds [.agg [.sl 2 a0_0],.agg [.int .i64 a1_0,.sl 1 a1_1],.agg [.sl 1 a2_0,.sl 1 a2_1]]=(LIM F.impl_AlgebraFault [.agg [.sl 2 a0_0],.agg [.int .i64 a1_0,.sl 1 a1_1]]).bind fun r1=>bI r1 fun n2=>(LIM F.impl_EquationFault [.agg [.sl 2 a0_0],.agg [.sl 1 a2_0,.sl 1 a2_1]]).bind fun r3=>bI r3 fun n4=>(LIM F.impl_firstCode [.sl 1 [.int .i64 n2,.int .i64 n4]]).bind fun r5=>bI r5 fun n6=>bif (n6 != 0)then some (.agg [.int .i64 n6,.int .i64 0],[])else(LIM F.impl_Algebra_holds [.agg [.int .i64 a1_0,.sl 1 a1_1],.agg [.sl 2 a0_0],.agg [.sl 1 a2_0,.sl 1 a2_1]]).bind fun r7=>bB r7 fun b8=>(LIM F.impl_truth [.bool b8]).bind fun r9=>(oNil r9.2).bind fun _=>(oAgg r9.1).bind fun c10=>(oCons c10).bind fun p11=>(oInt .i64 p11.1).bind fun n12=>(oCons p11.2).bind fun p13=>(oInt .i64 p13.1).bind fun n14=>(oNil p13.2).bind fun _=>some (.agg [.int .i64 n12,.int .i64 n14],[]):=by kernel_rfl
def impl_SignatureFault.st2(x0:List T)(x1 x2:Int)(x3:List T):St:=⟨[(1,(.one (.ptr 64 0))),(34,ol 2 x0),(35,oi x1),(36,oi x2)],[(64,(.box [(.t (.sl 2 x3))]))]⟩
def impl_SignatureFault.st0(x0:List T)(x1 x2:Int)(x3:List T):St:=⟨[(1,(.one (.ptr 64 0))),(18,ol 2 x0),(19,oi x1),(20,oi x2)],[(64,(.box [(.t (.sl 2 x3))]))]⟩
def impl_SignatureFault.K0:=kx F.impl_SignatureFault n [.block 0,.seq 0 (cx F.impl_SignatureFault [1,1,1])] (endOf prog A F.impl_SignatureFault)
def impl_SignatureFault.at0:=lx F.impl_SignatureFault n 0 [1,1,0,1,0,0] (impl_SignatureFault.K0 n) m s
def impl_SignatureFault.rd0:=rx F.impl_SignatureFault n 0 [1,1,0,1,0,0] (impl_SignatureFault.K0 n) L0 s
theorem impl_SignatureFault.next0:impl_SignatureFault.at0 n (m+1) s=impl_SignatureFault.rd0 n (impl_SignatureFault.at0 n m) s:=nx ..
def impl_SignatureFault.K2:=kx F.impl_SignatureFault n [.block 2,.seq 0 (cx F.impl_SignatureFault [1,1,1,1])] (endOf prog A F.impl_SignatureFault)
def impl_SignatureFault.at2:=lx F.impl_SignatureFault n 2 [1,1,1,0,1,0,0] (impl_SignatureFault.K2 n) m s
def impl_SignatureFault.rd2:=rx F.impl_SignatureFault n 2 [1,1,1,0,1,0,0] (impl_SignatureFault.K2 n) L2 s
theorem impl_SignatureFault.next2:impl_SignatureFault.at2 n (m+1) s=impl_SignatureFault.rd2 n (impl_SignatureFault.at2 n m) s:=nx ..
theorem impl_SignatureFault.round0(x0:List T)(x1 x2:Int)(x3:List T):impl_SignatureFault.rd0 n L0 (impl_SignatureFault.st0 x0 x1 x2 x3)=bif (decide (x2<x1))then bif inB x2 (x0.length/2)then(x0[x2.toNat*2]?).bind fun e1=>(oStr e1).bind fun s2=>(x0[(x2.toNat*2)+1]?).bind fun e3=>(oInt .i64 e3).bind fun n4=>(LIM F.impl_isName [.str s2]).bind fun r5=>bB r5 fun b6=>bif (!b6)then some (.int .i64 5,[])else(LIM F.impl_within [.int .i64 n4,.int .i64 0,.int .i64 2]).bind fun r7=>bB r7 fun b8=>bif (!b8)then some (.int .i64 3,[])else L0 (impl_SignatureFault.st0 x0 x1 (IntKind.wrap .i64 (x2+1)) x3)else none else impl_SignatureFault.at2 n n (impl_SignatureFault.st2 x3 (((x3.length/2):Nat):Int) (0:Int) x3):=by kernel_rfl
theorem impl_SignatureFault.round2(x0:List T)(x1 x2:Int)(x3:List T):impl_SignatureFault.rd2 n L2 (impl_SignatureFault.st2 x0 x1 x2 x3)=bif (decide (x2<x1))then bif inB x2 (x0.length/2)then(x0[x2.toNat*2]?).bind fun e9=>(oStr e9).bind fun s10=>(x0[(x2.toNat*2)+1]?).bind fun e11=>(oInt .i64 e11).bind fun n12=>(LIM F.impl_symbolIndex [.agg [.sl 2 x3],.str s10]).bind fun r13=>bI r13 fun n14=>bif (n14 != x2)then some (.int .i64 6,[])else L2 (impl_SignatureFault.st2 x0 x1 (IntKind.wrap .i64 (x2+1)) x3)else none else(LIM F.slices_ContainsFunc_SSymbol [.sl 2 x3,.clo F.impl_SignatureFault_1 []]).bind fun r15=>bB r15 fun b16=>bif (!b16)then some (.int .i64 4,[])else some (.int .i64 0,[]):=by kernel_rfl
theorem impl_SignatureFault.ev(a0_0:List T):callK prog A H LIM n F.impl_SignatureFault [.agg [.sl 2 a0_0]]=bif (decide ((((a0_0.length/2):Nat):Int)<1))then some (.int .i64 2,[])else bif (decide ((((a0_0.length/2):Nat):Int)>6))then some (.int .i64 2,[])else impl_SignatureFault.at0 n n (impl_SignatureFault.st0 a0_0 (((a0_0.length/2):Nat):Int) (0:Int) a0_0):=by kernel_rfl
theorem impl_SignatureFault_1.ev(a0_0:ByteArray)(a0_1:Int):callK prog A H LIM n F.impl_SignatureFault_1 [.agg [.str a0_0,.int .i64 a0_1]]=some (.bool (a0_1==0),[]):=by kernel_rfl
theorem impl_TermFault.ev(a0_0 a1:List T):callK prog A H LIM n F.impl_TermFault [.agg [.sl 2 a0_0],.sl 1 a1]=(LIM F.impl_SignatureFault [.agg [.sl 2 a0_0]]).bind fun r1=>bI r1 fun n2=>bif (n2 != 0)then some (.int .i64 n2,[])else bif (decide ((((a1.length/1):Nat):Int)<1))then some (.int .i64 2,[])else bif (decide ((((a1.length/1):Nat):Int)>24))then some (.int .i64 2,[])else(LIM F.slices_ContainsFunc_Sint64 [.sl 1 a1,.clo F.impl_TermFault_1 [.rref [.sl 2 a0_0] 0]]).bind fun r3=>bB r3 fun b4=>bif b4 then some (.int .i64 3,[])else(LIM F.impl_endOf [.agg [.sl 2 a0_0],.sl 1 a1,.int .i64 0]).bind fun r5=>bI r5 fun n6=>bif ((n6 != (((a1.length/1):Nat):Int)))then some (.int .i64 1,[])else some (.int .i64 0,[]):=by kernel_rfl
theorem impl_TermFault_1.ev(a0:Int)(a1_0:List T):callK prog A H LIM n F.impl_TermFault_1 [.int .i64 a0,.rref [.sl 2 a1_0] 0]=(LIM F.impl_isNode [.agg [.sl 2 a1_0],.int .i64 a0]).bind fun r1=>bB r1 fun b2=>some (.bool (!b2),[]):=by kernel_rfl
theorem impl_arityOf.ev(a0_0:List T)(a1:Int):callK prog A H LIM n F.impl_arityOf [.agg [.sl 2 a0_0],.int .i64 a1]=bif (decide (a1<0))then some (.int .i64 0,[])else bif inB a1 (a0_0.length/2)then(a0_0[(a1.toNat*2)+1]?).bind fun e1=>(oInt .i64 e1).bind fun n2=>some (.int .i64 n2,[])else none:=by kernel_rfl
def impl_endOf.st0(x0:List T)(x1 x2:Int)(x3:List T):St:=⟨[(1,ol 1 x0),(2,oi x1),(3,(.one (.ptr 192 0))),(7,oi x2)],[(192,(.box [(.t (.sl 2 x3))]))]⟩
def impl_endOf.K0:=kx F.impl_endOf n [.block 0,.seq 0 (cx F.impl_endOf [1,1])] (endOf prog A F.impl_endOf)
def impl_endOf.at0:=lx F.impl_endOf n 0 [1,0,1,0,0] (impl_endOf.K0 n) m s
def impl_endOf.rd0:=rx F.impl_endOf n 0 [1,0,1,0,0] (impl_endOf.K0 n) L0 s
theorem impl_endOf.next0:impl_endOf.at0 n (m+1) s=impl_endOf.rd0 n (impl_endOf.at0 n m) s:=nx ..
theorem impl_endOf.round0(x0:List T)(x1 x2:Int)(x3:List T):impl_endOf.rd0 n L0 (impl_endOf.st0 x0 x1 x2 x3)=bif (decide (x2>0))then bif (decide (x1>=(((x0.length/1):Nat):Int)))then some ((.int .i64 (IntKind.wrap .i64 ((((x0.length/1):Nat):Int)+1))),[])else bif inB x1 (x0.length/1)then(x0[x1.toNat*1]?).bind fun e1=>(oInt .i64 e1).bind fun n2=>(LIM F.impl_arityOf [.agg [.sl 2 x3],.int .i64 n2]).bind fun r3=>bI r3 fun n4=>L0 (impl_endOf.st0 x0 (IntKind.wrap .i64 (x1+1)) (IntKind.wrap .i64 (x2+(IntKind.wrap .i64 (n4-1)))) x3)else none else some (.int .i64 x1,[]):=by kernel_rfl
theorem impl_endOf.ev(a0_0 a1:List T)(a2:Int):callK prog A H LIM n F.impl_endOf [.agg [.sl 2 a0_0],.sl 1 a1,.int .i64 a2]=impl_endOf.at0 n n (impl_endOf.st0 a1 a2 (1:Int) a0_0):=by kernel_rfl
theorem impl_firstCode.ev(a0:List T):callK prog A H LIM n F.impl_firstCode [.sl 1 a0]=(LIM F.cmp_Or_int64 [.sl 1 a0]).bind fun r1=>bI r1 fun n2=>some (.int .i64 n2,[]):=by kernel_rfl
theorem impl_fitting.ev(a0:List T):callK prog A H LIM n F.impl_fitting [.sl 1 a0]=bif (decide ((((a0.length/1):Nat):Int)>24))then some (.agg [.int .i64 2,.sl 1 []],[])else some (.agg [.int .i64 0,.sl 1 a0],[]):=by kernel_rfl
theorem impl_isName.ev(a0:ByteArray):callK prog A H LIM n F.impl_isName [.str a0]=bif (decide ((a0.size:Int)>=1))then bif (decide ((a0.size:Int)<=3))then(LIM F.strings_Trim [.str a0,.str (ByteArray.mk #[97,98,99,100,101,102,103,104,105,106,107,108,109,110,111,112,113,114,115,116,117,118,119,120,121,122])]).bind fun r1=>(oNil r1.2).bind fun _=>(oStr r1.1).bind fun s2=>some (.bool (s2.toList==(ByteArray.mk #[]).toList),[])else some (.bool false,[])else some (.bool false,[]):=by kernel_rfl
theorem impl_isNode.ev(a0_0:List T)(a1:Int):callK prog A H LIM n F.impl_isNode [.agg [.sl 2 a0_0],.int .i64 a1]=(LIM F.impl_isSymbol [.agg [.sl 2 a0_0],.int .i64 a1]).bind fun r1=>bB r1 fun b2=>bif b2 then some (.bool true,[])else(LIM F.impl_within [.int .i64 a1,.int .i64 (-12),.int .i64 (-1)]).bind fun r3=>bB r3 fun b4=>some (.bool b4,[]):=by kernel_rfl
theorem impl_isSymbol.ev(a0_0:List T)(a1:Int):callK prog A H LIM n F.impl_isSymbol [.agg [.sl 2 a0_0],.int .i64 a1]=(LIM F.impl_within [.int .i64 a1,.int .i64 0,(.int .i64 (IntKind.wrap .i64 ((((a0_0.length/2):Nat):Int)-1)))]).bind fun r1=>bB r1 fun b2=>some (.bool b2,[]):=by kernel_rfl
def impl_power.st0(x0 x1 x2 x3:Int):St:=⟨[(0,oi x0),(5,oi x1),(6,oi x2),(7,oi x3)],[]⟩
def impl_power.K0:=kx F.impl_power n [.block 0,.seq 0 (cx F.impl_power [1,1,1])] (endOf prog A F.impl_power)
def impl_power.at0:=lx F.impl_power n 0 [1,1,0,1,0,0] (impl_power.K0 n) m s
def impl_power.rd0:=rx F.impl_power n 0 [1,1,0,1,0,0] (impl_power.K0 n) L0 s
theorem impl_power.next0:impl_power.at0 n (m+1) s=impl_power.rd0 n (impl_power.at0 n m) s:=nx ..
theorem impl_power.round0(x0 x1 x2 x3:Int):impl_power.rd0 n L0 (impl_power.st0 x0 x1 x2 x3)=bif (decide (x3<x2))then L0 (impl_power.st0 x0 (IntKind.wrap .i64 (x1*x0)) x2 (IntKind.wrap .i64 (x3+1)))else some (.int .i64 x1,[]):=by kernel_rfl
theorem impl_power.ev(a0 a1:Int):callK prog A H LIM n F.impl_power [.int .i64 a0,.int .i64 a1]=impl_power.at0 n n (impl_power.st0 a0 (1:Int) a1 (0:Int)):=by kernel_rfl
theorem impl_symbolIndex.ev(a0_0:List T)(a1:ByteArray):callK prog A H LIM n F.impl_symbolIndex [.agg [.sl 2 a0_0],.str a1]=(LIM F.slices_IndexFunc_SSymbol [.sl 2 a0_0,.clo F.impl_symbolIndex_1 [.rref [.str a1] 0]]).bind fun r1=>bI r1 fun n2=>some (.int .i64 n2,[]):=by kernel_rfl
theorem impl_symbolIndex_1.ev(a0_0:ByteArray)(a0_1:Int)(a1_0:ByteArray):callK prog A H LIM n F.impl_symbolIndex_1 [.agg [.str a0_0,.int .i64 a0_1],.rref [.str a1_0] 0]=some (.bool (a0_0.toList==a1_0.toList),[]):=by kernel_rfl
theorem impl_truth.ev(a0:Bool):callK prog A H LIM n F.impl_truth [.bool a0]=bif a0 then some (.agg [.int .i64 0,.int .i64 1],[])else some (.agg [.int .i64 0,.int .i64 0],[]):=by kernel_rfl
def impl_varsOf.st2(x0:List T)(x1 x2:Int)(x3:List T)(x4 x5:Int)(x6:List T):St:=⟨[(3,(.one (.obj 512))),(9,ol 1 x0),(10,oi x1),(11,oi x2),(15,ol 1 x3),(16,oi x4),(17,oi x5)],[(512,(.arr true true 1 x6))]⟩
def impl_varsOf.st0(x0:List T)(x1 x2:Int)(x3:List T):St:=⟨[(3,(.one (.obj 512))),(9,ol 1 x0),(10,oi x1),(11,oi x2)],[(512,(.arr true true 1 x3))]⟩
def impl_varsOf.K0:=kx F.impl_varsOf n [.block 0,.seq 0 (cx F.impl_varsOf [1,1,1])] (endOf prog A F.impl_varsOf)
def impl_varsOf.at0:=lx F.impl_varsOf n 0 [1,1,0,1,0,0] (impl_varsOf.K0 n) m s
def impl_varsOf.rd0:=rx F.impl_varsOf n 0 [1,1,0,1,0,0] (impl_varsOf.K0 n) L0 s
theorem impl_varsOf.next0:impl_varsOf.at0 n (m+1) s=impl_varsOf.rd0 n (impl_varsOf.at0 n m) s:=nx ..
def impl_varsOf.K2:=kx F.impl_varsOf n [.block 2,.block 1,.seq 0 (cx F.impl_varsOf [1,1,0,1,0,0,1,1,1])] (bx F.impl_varsOf 0 (impl_varsOf.K0 n) L0)
def impl_varsOf.at2:=lx F.impl_varsOf n 2 [1,1,0,1,0,0,1,1,0,0,1,1,0,0] (impl_varsOf.K2 n L0) m s
def impl_varsOf.rd2:=rx F.impl_varsOf n 2 [1,1,0,1,0,0,1,1,0,0,1,1,0,0] (impl_varsOf.K2 n L0) L2 s
theorem impl_varsOf.next2:impl_varsOf.at2 n L0 (m+1) s=impl_varsOf.rd2 n L0 (impl_varsOf.at2 n L0 m) s:=nx ..
theorem impl_varsOf.round0(x0:List T)(x1 x2:Int)(x3:List T):impl_varsOf.rd0 n L0 (impl_varsOf.st0 x0 x1 x2 x3)=bif (decide (x2<x1))then bif inB x2 (x0.length/1)then(x0[x2.toNat*1]?).bind fun e1=>(oSl 1 e1).bind fun c2=>impl_varsOf.at2 n L0 n (impl_varsOf.st2 x0 x1 x2 c2 (((c2.length/1):Nat):Int) (0:Int) x3)else none else(LIM F.slices_Sort_Sint64 [.sl 1 x3]).bind fun r5=>(oCons r5.2).bind fun p6=>(oNil p6.2).bind fun _=>(oSl 1 p6.1).bind fun c7=>(oTup r5.1).bind fun c8=>(oNil c8).bind fun _=>(LIM F.slices_Compact_Sint64 [.sl 1 c7]).bind fun r9=>bL r9 fun c10=>some (.sl 1 c10,[]):=by kernel_rfl
theorem impl_varsOf.round2(x0:List T)(x1 x2:Int)(x3:List T)(x4 x5:Int)(x6:List T):impl_varsOf.rd2 n L0 L2 (impl_varsOf.st2 x0 x1 x2 x3 x4 x5 x6)=bif (decide (x5<x4))then bif inB x5 (x3.length/1)then(x3[x5.toNat*1]?).bind fun e3=>(oInt .i64 e3).bind fun n4=>bif (decide (n4<0))then bif Nat.ble ((x6.length+1)*8) (140737488355328*1)then L2 (impl_varsOf.st2 x0 x1 x2 x3 x4 (IntKind.wrap .i64 (x5+1)) (x6++[.int .i64 (IntKind.wrap .i64 ((-1:Int)-n4))]:List T))else none else L2 (impl_varsOf.st2 x0 x1 x2 x3 x4 (IntKind.wrap .i64 (x5+1)) x6)else none else L0 (impl_varsOf.st0 x0 x1 (IntKind.wrap .i64 (x2+1)) x6):=by kernel_rfl
theorem impl_varsOf.ev(a0:List T):callK prog A H LIM n F.impl_varsOf [.sl 1 a0]=impl_varsOf.at0 n n (impl_varsOf.st0 a0 (((a0.length/1):Nat):Int) (0:Int) []):=by kernel_rfl
theorem impl_within.ev(a0 a1 a2:Int):callK prog A H LIM n F.impl_within [.int .i64 a0,.int .i64 a1,.int .i64 a2]=bif (decide (a0>=a1))then some (.bool (decide (a0<=a2)),[])else some (.bool false,[]):=by kernel_rfl
def laws_FnAlgebras.st0(x0 x1:List T)(x2:Int)(x3:List T)(x4:Int)(x5 x6 x7 x8:List T)(x9:Int)(x10:List T):St:=⟨[(3,(.one (.ptr 192 0))),(4,(.one (.ptr 256 0))),(5,ol 1 x0),(6,ol 1 x1),(13,(.one (.ptr 832 0))),(15,(.one (.ptr 960 0))),(16,(.one (.obj 6784))),(17,oi x2)],[(192,(.box [(.t (.sl 2 x3))])),(256,(.box [(.t (.int .i64 x4)),(.t (.sl 1 x5))])),(832,(.box [(.t (.sl 1 x6)),(.t (.sl 1 x7))])),(5953,(.arr false true 1 x8)),(960,(.box [(.t (.int .i64 x9)),(.obj 5953)])),(6784,(.arr true true 1 x10))]⟩
def laws_FnAlgebras.K0:=kx F.laws_FnAlgebras n [.block 0,.seq 0 (cx F.laws_FnAlgebras [1,1,1,1,1,1,1,1,1,1,1,1,1,1])] (endOf prog A F.laws_FnAlgebras)
def laws_FnAlgebras.at0:=lx F.laws_FnAlgebras n 0 [1,1,1,1,1,1,1,1,1,1,1,1,1,0,1,0,0] (laws_FnAlgebras.K0 n) m s
def laws_FnAlgebras.rd0:=rx F.laws_FnAlgebras n 0 [1,1,1,1,1,1,1,1,1,1,1,1,1,0,1,0,0] (laws_FnAlgebras.K0 n) L0 s
theorem laws_FnAlgebras.next0:laws_FnAlgebras.at0 n (m+1) s=laws_FnAlgebras.rd0 n (laws_FnAlgebras.at0 n m) s:=nx ..
theorem laws_FnAlgebras.round0(x0 x1:List T)(x2:Int)(x3:List T)(x4:Int)(x5 x6 x7 x8:List T)(x9:Int)(x10:List T):laws_FnAlgebras.rd0 n L0 (laws_FnAlgebras.st0 x0 x1 x2 x3 x4 x5 x6 x7 x8 x9 x10)=bif (decide (x2<(((x6.length/1):Nat):Int)))then bif inB x2 (x6.length/1)then(x6[x2.toNat*1]?).bind fun e99=>(oInt .i64 e99).bind fun n100=>bif (decide (n100<6))then bif inB x2 (x7.length/1)then(x7[x2.toNat*1]?).bind fun e101=>(oSl 1 e101).bind fun c102=>(LIM F.impl_EvalTerm [.agg [.sl 2 x3],.agg [.int .i64 x4,.sl 1 x5],.sl 1 x0,.sl 1 c102]).bind fun r103=>(oNil r103.2).bind fun _=>(oAgg r103.1).bind fun c104=>(oCons c104).bind fun p105=>(oInt .i64 p105.1).bind fun n106=>(oCons p105.2).bind fun p107=>(oInt .i64 p107.1).bind fun n108=>(oNil p107.2).bind fun _=>bif (n106 != 0)then bif inB x2 (x7.length/1)then(x7[x2.toNat*1]?).bind fun e109=>(oSl 1 e109).bind fun c110=>(LIM F.spec_EvalTerm [.agg [.sl 2 x3],.agg [.int .i64 x4,.sl 1 x5],.sl 1 x0,.sl 1 c110]).bind fun r111=>(oNil r111.2).bind fun _=>(oAgg r111.1).bind fun c112=>(oCons c112).bind fun p113=>(oInt .i64 p113.1).bind fun n114=>(oCons p113.2).bind fun p115=>(oInt .i64 p115.1).bind fun n116=>(oNil p115.2).bind fun _=>some (.bool (n106==n114),[])else none else bif inB x2 (x6.length/1)then(x6[x2.toNat*1]?).bind fun e117=>(oInt .i64 e117).bind fun n118=>bif inB n118 (x10.length/1)then bif decide ((n118.toNat*1)+1<=x10.length)then L0 (laws_FnAlgebras.st0 x0 x1 (IntKind.wrap .i64 (x2+1)) x3 x4 x5 x6 x7 x8 x9 (setCells x10 (n118.toNat*1) [.int .i64 n108]))else none else none else none else none else L0 (laws_FnAlgebras.st0 x0 x1 (IntKind.wrap .i64 (x2+1)) x3 x4 x5 x6 x7 x8 x9 x10)else none else(LIM F.impl_EvalTerm [.agg [.sl 2 x3],.agg [.int .i64 x4,.sl 1 x5],.sl 1 x0,.sl 1 x8]).bind fun r119=>(oNil r119.2).bind fun _=>(oAgg r119.1).bind fun c120=>(oCons c120).bind fun p121=>(oInt .i64 p121.1).bind fun n122=>(oCons p121.2).bind fun p123=>(oInt .i64 p123.1).bind fun n124=>(oNil p123.2).bind fun _=>(LIM F.impl_EvalTerm [.agg [.sl 2 x3],.agg [.int .i64 x4,.sl 1 x5],.sl 1 x10,.sl 1 x1]).bind fun r125=>(oNil r125.2).bind fun _=>(oAgg r125.1).bind fun c126=>(oCons c126).bind fun p127=>(oInt .i64 p127.1).bind fun n128=>(oCons p127.2).bind fun p129=>(oInt .i64 p129.1).bind fun n130=>(oNil p129.2).bind fun _=>some (.bool (n124==n130),[]):=by kernel_rfl
theorem laws_FnAlgebras.ev(a0:List T):callK prog A H LIM n F.laws_FnAlgebras [.sl 1 a0]=(LIM F.laws_lwBig [.sl 1 a0]).bind fun r1=>bB r1 fun b2=>bif b2 then some (.bool true,[])else(LIM F.spec_DrawEvalTerm [.sl 1 a0]).bind fun r3=>(oNil r3.2).bind fun _=>(oTup r3.1).bind fun c4=>(oCons c4).bind fun p5=>(oAgg p5.1).bind fun c6=>(oCons c6).bind fun p7=>(oSl 2 p7.1).bind fun c8=>(oNil p7.2).bind fun _=>(oCons p5.2).bind fun p9=>(oAgg p9.1).bind fun c10=>(oCons c10).bind fun p11=>(oInt .i64 p11.1).bind fun n12=>(oCons p11.2).bind fun p13=>(oSl 1 p13.1).bind fun c14=>(oNil p13.2).bind fun _=>(oCons p9.2).bind fun p15=>(oSl 1 p15.1).bind fun c16=>(oCons p15.2).bind fun p17=>(oSl 1 p17.1).bind fun c18=>(oNil p17.2).bind fun _=>(LIM F.impl_EvalTerm [.agg [.sl 2 c8],.agg [.int .i64 n12,.sl 1 c14],.sl 1 c16,.sl 1 c18]).bind fun r19=>(oNil r19.2).bind fun _=>(oAgg r19.1).bind fun c20=>(oCons c20).bind fun p21=>(oInt .i64 p21.1).bind fun n22=>(oCons p21.2).bind fun p23=>(oInt .i64 p23.1).bind fun n24=>(oNil p23.2).bind fun _=>(LIM F.spec_EvalTerm [.agg [.sl 2 c8],.agg [.int .i64 n12,.sl 1 c14],.sl 1 c16,.sl 1 c18]).bind fun r25=>(oNil r25.2).bind fun _=>(oAgg r25.1).bind fun c26=>(oCons c26).bind fun p27=>(oInt .i64 p27.1).bind fun n28=>(oCons p27.2).bind fun p29=>(oInt .i64 p29.1).bind fun n30=>(oNil p29.2).bind fun _=>bif (!((n22==n28)&&(n24==n30)))then some (.bool false,[])else(LIM F.impl_AlgebraFault [.agg [.sl 2 c8],.agg [.int .i64 n12,.sl 1 c14]]).bind fun r31=>bI r31 fun n32=>(LIM F.spec_AlgebraFault [.agg [.sl 2 c8],.agg [.int .i64 n12,.sl 1 c14]]).bind fun r33=>bI r33 fun n34=>bif (n32 != n34)then some (.bool false,[])else(LIM F.spec_DrawHolds [.sl 1 a0]).bind fun r35=>(oNil r35.2).bind fun _=>(oTup r35.1).bind fun c36=>(oCons c36).bind fun p37=>(oAgg p37.1).bind fun c38=>(oCons c38).bind fun p39=>(oSl 2 p39.1).bind fun c40=>(oNil p39.2).bind fun _=>(oCons p37.2).bind fun p41=>(oAgg p41.1).bind fun c42=>(oCons c42).bind fun p43=>(oInt .i64 p43.1).bind fun n44=>(oCons p43.2).bind fun p45=>(oSl 1 p45.1).bind fun c46=>(oNil p45.2).bind fun _=>(oCons p41.2).bind fun p47=>(oAgg p47.1).bind fun c48=>(oCons c48).bind fun p49=>(oSl 1 p49.1).bind fun c50=>(oCons p49.2).bind fun p51=>(oSl 1 p51.1).bind fun c52=>(oNil p51.2).bind fun _=>(oNil p47.2).bind fun _=>(LIM F.impl_Holds [.agg [.sl 2 c40],.agg [.int .i64 n44,.sl 1 c46],.agg [.sl 1 c50,.sl 1 c52]]).bind fun r53=>(oNil r53.2).bind fun _=>(oAgg r53.1).bind fun c54=>(oCons c54).bind fun p55=>(oInt .i64 p55.1).bind fun n56=>(oCons p55.2).bind fun p57=>(oInt .i64 p57.1).bind fun n58=>(oNil p57.2).bind fun _=>(LIM F.spec_Holds [.agg [.sl 2 c40],.agg [.int .i64 n44,.sl 1 c46],.agg [.sl 1 c50,.sl 1 c52]]).bind fun r59=>(oNil r59.2).bind fun _=>(oAgg r59.1).bind fun c60=>(oCons c60).bind fun p61=>(oInt .i64 p61.1).bind fun n62=>(oCons p61.2).bind fun p63=>(oInt .i64 p63.1).bind fun n64=>(oNil p63.2).bind fun _=>bif (!((n56==n62)&&(n58==n64)))then some (.bool false,[])else bif (n56==0)then(LIM F.impl_AllHold [.agg [.sl 2 c40],.agg [.int .i64 n44,.sl 1 c46],.sl 2 [.sl 1 c50,.sl 1 c52]]).bind fun r65=>(oNil r65.2).bind fun _=>(oAgg r65.1).bind fun c66=>(oCons c66).bind fun p67=>(oInt .i64 p67.1).bind fun n68=>(oCons p67.2).bind fun p69=>(oInt .i64 p69.1).bind fun n70=>(oNil p69.2).bind fun _=>bif (n58 != n70)then some (.bool false,[])else bif (n22 != 0)then some (.bool true,[])else(LIM F.spec_DrawApplyBinding [.sl 1 a0]).bind fun r71=>(oNil r71.2).bind fun _=>(oTup r71.1).bind fun c72=>(oCons c72).bind fun p73=>(oAgg p73.1).bind fun c74=>(oCons c74).bind fun p75=>(oSl 2 p75.1).bind fun c76=>(oNil p75.2).bind fun _=>(oCons p73.2).bind fun p77=>(oAgg p77.1).bind fun c78=>(oCons c78).bind fun p79=>(oSl 1 p79.1).bind fun c80=>(oCons p79.2).bind fun p81=>(oSl 1 p81.1).bind fun c82=>(oNil p81.2).bind fun _=>(oCons p77.2).bind fun p83=>(oSl 1 p83.1).bind fun c84=>(oNil p83.2).bind fun _=>(LIM F.impl_ApplyBinding [.agg [.sl 2 c8],.agg [.sl 1 c80,.sl 1 c82],.sl 1 c18]).bind fun r85=>(oNil r85.2).bind fun _=>(oAgg r85.1).bind fun c86=>(oCons c86).bind fun p87=>(oInt .i64 p87.1).bind fun n88=>(oCons p87.2).bind fun p89=>(oSl 1 p89.1).bind fun c90=>(oNil p89.2).bind fun _=>bif (n88 != 0)then(LIM F.spec_ApplyBinding [.agg [.sl 2 c8],.agg [.sl 1 c80,.sl 1 c82],.sl 1 c18]).bind fun r91=>(oNil r91.2).bind fun _=>(oAgg r91.1).bind fun c92=>(oCons c92).bind fun p93=>(oInt .i64 p93.1).bind fun n94=>(oCons p93.2).bind fun p95=>(oSl 1 p95.1).bind fun c96=>(oNil p95.2).bind fun _=>some (.bool (n88==n94),[])else(LIM F.laws_lwCopy [.sl 1 c16]).bind fun r97=>bL r97 fun c98=>laws_FnAlgebras.at0 n n (laws_FnAlgebras.st0 c16 c18 (0:Int) c8 n12 c14 c80 c82 c90 n88 c98)else bif (n22 != 0)then some (.bool true,[])else(LIM F.spec_DrawApplyBinding [.sl 1 a0]).bind fun r131=>(oNil r131.2).bind fun _=>(oTup r131.1).bind fun c132=>(oCons c132).bind fun p133=>(oAgg p133.1).bind fun c134=>(oCons c134).bind fun p135=>(oSl 2 p135.1).bind fun c136=>(oNil p135.2).bind fun _=>(oCons p133.2).bind fun p137=>(oAgg p137.1).bind fun c138=>(oCons c138).bind fun p139=>(oSl 1 p139.1).bind fun c140=>(oCons p139.2).bind fun p141=>(oSl 1 p141.1).bind fun c142=>(oNil p141.2).bind fun _=>(oCons p137.2).bind fun p143=>(oSl 1 p143.1).bind fun c144=>(oNil p143.2).bind fun _=>(LIM F.impl_ApplyBinding [.agg [.sl 2 c8],.agg [.sl 1 c140,.sl 1 c142],.sl 1 c18]).bind fun r145=>(oNil r145.2).bind fun _=>(oAgg r145.1).bind fun c146=>(oCons c146).bind fun p147=>(oInt .i64 p147.1).bind fun n148=>(oCons p147.2).bind fun p149=>(oSl 1 p149.1).bind fun c150=>(oNil p149.2).bind fun _=>bif (n148 != 0)then(LIM F.spec_ApplyBinding [.agg [.sl 2 c8],.agg [.sl 1 c140,.sl 1 c142],.sl 1 c18]).bind fun r151=>(oNil r151.2).bind fun _=>(oAgg r151.1).bind fun c152=>(oCons c152).bind fun p153=>(oInt .i64 p153.1).bind fun n154=>(oCons p153.2).bind fun p155=>(oSl 1 p155.1).bind fun c156=>(oNil p155.2).bind fun _=>some (.bool (n148==n154),[])else(LIM F.laws_lwCopy [.sl 1 c16]).bind fun r157=>bL r157 fun c158=>laws_FnAlgebras.at0 n n (laws_FnAlgebras.st0 c16 c18 (0:Int) c8 n12 c14 c140 c142 c150 n148 c158):=by kernel_rfl
theorem laws_lwBig.ev(a0:List T):callK prog A H LIM n F.laws_lwBig [.sl 1 a0]=some ((.bool (decide ((((a0.length/1):Nat):Int)>1048576))),[]):=by kernel_rfl
theorem laws_lwCopy.ev(a0:List T):callK prog A H LIM n F.laws_lwCopy [.sl 1 a0]=bif a0.all T.scalar then bif Nat.ble ((0+a0.length)*8) (140737488355328*1)then some (.sl 1 a0,[])else none else none:=by kernel_rfl
theorem slices_ContainsFunc_SEquation_at1_impl_AllHold_1.ev(a0:List T)(a1_0_0:Int)(a1_0_1 a1_1_0:List T):callK prog A H LIM n F.slices_ContainsFunc_SEquation [.sl 2 a0,.clo F.impl_AllHold_1 [.rref [.int .i64 a1_0_0,.sl 1 a1_0_1] 0,.rref [.sl 2 a1_1_0] 0]]=(LIM F.slices_IndexFunc_SEquation [.sl 2 a0,.clo F.impl_AllHold_1 [.rref [.int .i64 a1_0_0,.sl 1 a1_0_1] 0,.rref [.sl 2 a1_1_0] 0]]).bind fun r1=>bI r1 fun n2=>some (.bool (decide (n2>=0)),[]):=by kernel_rfl
theorem slices_ContainsFunc_SSymbol_at1_impl_SignatureFault_1.ev(a0:List T):callK prog A H LIM n F.slices_ContainsFunc_SSymbol [.sl 2 a0,.clo F.impl_SignatureFault_1 []]=(LIM F.slices_IndexFunc_SSymbol [.sl 2 a0,.clo F.impl_SignatureFault_1 []]).bind fun r1=>bI r1 fun n2=>some (.bool (decide (n2>=0)),[]):=by kernel_rfl
theorem slices_ContainsFunc_Sint64_at1_impl_TermFault_1.ev(a0 a1_0_0:List T):callK prog A H LIM n F.slices_ContainsFunc_Sint64 [.sl 1 a0,.clo F.impl_TermFault_1 [.rref [.sl 2 a1_0_0] 0]]=(LIM F.slices_IndexFunc_Sint64 [.sl 1 a0,.clo F.impl_TermFault_1 [.rref [.sl 2 a1_0_0] 0]]).bind fun r1=>bI r1 fun n2=>some (.bool (decide (n2>=0)),[]):=by kernel_rfl
theorem slices_ContainsFunc_Sint64_at1_impl_EquationFault_1.ev(a0:List T):callK prog A H LIM n F.slices_ContainsFunc_Sint64 [.sl 1 a0,.clo F.impl_EquationFault_1 []]=(LIM F.slices_IndexFunc_Sint64 [.sl 1 a0,.clo F.impl_EquationFault_1 []]).bind fun r1=>bI r1 fun n2=>some (.bool (decide (n2>=0)),[]):=by kernel_rfl
theorem slices_ContainsFunc_Sint64_at1_impl_AlgebraFault_1.ev(a0:List T)(a1_0_0:Int)(a1_0_1:List T):callK prog A H LIM n F.slices_ContainsFunc_Sint64 [.sl 1 a0,.clo F.impl_AlgebraFault_1 [.rref [.int .i64 a1_0_0,.sl 1 a1_0_1] 0]]=(LIM F.slices_IndexFunc_Sint64 [.sl 1 a0,.clo F.impl_AlgebraFault_1 [.rref [.int .i64 a1_0_0,.sl 1 a1_0_1] 0]]).bind fun r1=>bI r1 fun n2=>some (.bool (decide (n2>=0)),[]):=by kernel_rfl
theorem slices_ContainsFunc_Sint64_at1_impl_EvalTerm_1.ev(a0:List T)(a1_0_0:Int)(a1_0_1:List T):callK prog A H LIM n F.slices_ContainsFunc_Sint64 [.sl 1 a0,.clo F.impl_EvalTerm_1 [.rref [.int .i64 a1_0_0,.sl 1 a1_0_1] 0]]=(LIM F.slices_IndexFunc_Sint64 [.sl 1 a0,.clo F.impl_EvalTerm_1 [.rref [.int .i64 a1_0_0,.sl 1 a1_0_1] 0]]).bind fun r1=>bI r1 fun n2=>some (.bool (decide (n2>=0)),[]):=by kernel_rfl
def slices_IndexFunc_SEquation_at1_impl_AllHold_1.st0(x0:List T)(x1:Int)(x2 x3:List T)(x4 x5:Int):St:=⟨[(0,ol 2 x0),(1,(.one (.t (.clo F.impl_AllHold_1 [(.rref [(.int .i64 x1),(.sl 1 x2)] 0),(.rref [(.sl 2 x3)] 0)])))),(7,oi x4),(8,oi x5)],[]⟩
def slices_IndexFunc_SEquation_at1_impl_AllHold_1.K0:=kx F.slices_IndexFunc_SEquation n [.block 0,.seq 0 (cx F.slices_IndexFunc_SEquation [1,1])] (endOf prog A F.slices_IndexFunc_SEquation)
def slices_IndexFunc_SEquation_at1_impl_AllHold_1.at0:=lx F.slices_IndexFunc_SEquation n 0 [1,0,1,0,0] (slices_IndexFunc_SEquation_at1_impl_AllHold_1.K0 n) m s
def slices_IndexFunc_SEquation_at1_impl_AllHold_1.rd0:=rx F.slices_IndexFunc_SEquation n 0 [1,0,1,0,0] (slices_IndexFunc_SEquation_at1_impl_AllHold_1.K0 n) L0 s
theorem slices_IndexFunc_SEquation_at1_impl_AllHold_1.next0:slices_IndexFunc_SEquation_at1_impl_AllHold_1.at0 n (m+1) s=slices_IndexFunc_SEquation_at1_impl_AllHold_1.rd0 n (slices_IndexFunc_SEquation_at1_impl_AllHold_1.at0 n m) s:=nx ..
theorem slices_IndexFunc_SEquation_at1_impl_AllHold_1.round0(x0:List T)(x1:Int)(x2 x3:List T)(x4 x5:Int):slices_IndexFunc_SEquation_at1_impl_AllHold_1.rd0 n L0 (slices_IndexFunc_SEquation_at1_impl_AllHold_1.st0 x0 x1 x2 x3 x4 x5)=bif (decide (x5<x4))then bif inB x5 (x0.length/2)then(x0[x5.toNat*2]?).bind fun e1=>(oSl 1 e1).bind fun c2=>(x0[(x5.toNat*2)+1]?).bind fun e3=>(oSl 1 e3).bind fun c4=>(LIM F.impl_AllHold_1 [.agg [.sl 1 c2,.sl 1 c4],.rref [.int .i64 x1,.sl 1 x2] 0,.rref [.sl 2 x3] 0]).bind fun r5=>bB r5 fun b6=>bif b6 then some (.int .i64 x5,[])else L0 (slices_IndexFunc_SEquation_at1_impl_AllHold_1.st0 x0 x1 x2 x3 x4 (IntKind.wrap .i64 (x5+1)))else none else some (.int .i64 (-1),[]):=by kernel_rfl
theorem slices_IndexFunc_SEquation_at1_impl_AllHold_1.ev(a0:List T)(a1_0_0:Int)(a1_0_1 a1_1_0:List T):callK prog A H LIM n F.slices_IndexFunc_SEquation [.sl 2 a0,.clo F.impl_AllHold_1 [.rref [.int .i64 a1_0_0,.sl 1 a1_0_1] 0,.rref [.sl 2 a1_1_0] 0]]=slices_IndexFunc_SEquation_at1_impl_AllHold_1.at0 n n (slices_IndexFunc_SEquation_at1_impl_AllHold_1.st0 a0 a1_0_0 a1_0_1 a1_1_0 (((a0.length/2):Nat):Int) (0:Int)):=by kernel_rfl
def slices_IndexFunc_SSymbol_at1_impl_SignatureFault_1.st0(x0:List T)(x1 x2:Int):St:=⟨[(0,ol 2 x0),(1,(.one (.t (.clo F.impl_SignatureFault_1 [])))),(7,oi x1),(8,oi x2)],[]⟩
def slices_IndexFunc_SSymbol_at1_impl_SignatureFault_1.K0:=kx F.slices_IndexFunc_SSymbol n [.block 0,.seq 0 (cx F.slices_IndexFunc_SSymbol [1,1])] (endOf prog A F.slices_IndexFunc_SSymbol)
def slices_IndexFunc_SSymbol_at1_impl_SignatureFault_1.at0:=lx F.slices_IndexFunc_SSymbol n 0 [1,0,1,0,0] (slices_IndexFunc_SSymbol_at1_impl_SignatureFault_1.K0 n) m s
def slices_IndexFunc_SSymbol_at1_impl_SignatureFault_1.rd0:=rx F.slices_IndexFunc_SSymbol n 0 [1,0,1,0,0] (slices_IndexFunc_SSymbol_at1_impl_SignatureFault_1.K0 n) L0 s
theorem slices_IndexFunc_SSymbol_at1_impl_SignatureFault_1.next0:slices_IndexFunc_SSymbol_at1_impl_SignatureFault_1.at0 n (m+1) s=slices_IndexFunc_SSymbol_at1_impl_SignatureFault_1.rd0 n (slices_IndexFunc_SSymbol_at1_impl_SignatureFault_1.at0 n m) s:=nx ..
theorem slices_IndexFunc_SSymbol_at1_impl_SignatureFault_1.round0(x0:List T)(x1 x2:Int):slices_IndexFunc_SSymbol_at1_impl_SignatureFault_1.rd0 n L0 (slices_IndexFunc_SSymbol_at1_impl_SignatureFault_1.st0 x0 x1 x2)=bif (decide (x2<x1))then bif inB x2 (x0.length/2)then(x0[x2.toNat*2]?).bind fun e1=>(oStr e1).bind fun s2=>(x0[(x2.toNat*2)+1]?).bind fun e3=>(oInt .i64 e3).bind fun n4=>(LIM F.impl_SignatureFault_1 [.agg [.str s2,.int .i64 n4]]).bind fun r5=>bB r5 fun b6=>bif b6 then some (.int .i64 x2,[])else L0 (slices_IndexFunc_SSymbol_at1_impl_SignatureFault_1.st0 x0 x1 (IntKind.wrap .i64 (x2+1)))else none else some (.int .i64 (-1),[]):=by kernel_rfl
theorem slices_IndexFunc_SSymbol_at1_impl_SignatureFault_1.ev(a0:List T):callK prog A H LIM n F.slices_IndexFunc_SSymbol [.sl 2 a0,.clo F.impl_SignatureFault_1 []]=slices_IndexFunc_SSymbol_at1_impl_SignatureFault_1.at0 n n (slices_IndexFunc_SSymbol_at1_impl_SignatureFault_1.st0 a0 (((a0.length/2):Nat):Int) (0:Int)):=by kernel_rfl
def slices_IndexFunc_SSymbol_at1_impl_symbolIndex_1.st0(x0:List T)(x1:ByteArray)(x2 x3:Int):St:=⟨[(0,ol 2 x0),(1,(.one (.t (.clo F.impl_symbolIndex_1 [(.rref [(.str x1)] 0)])))),(7,oi x2),(8,oi x3)],[]⟩
def slices_IndexFunc_SSymbol_at1_impl_symbolIndex_1.K0:=kx F.slices_IndexFunc_SSymbol n [.block 0,.seq 0 (cx F.slices_IndexFunc_SSymbol [1,1])] (endOf prog A F.slices_IndexFunc_SSymbol)
def slices_IndexFunc_SSymbol_at1_impl_symbolIndex_1.at0:=lx F.slices_IndexFunc_SSymbol n 0 [1,0,1,0,0] (slices_IndexFunc_SSymbol_at1_impl_symbolIndex_1.K0 n) m s
def slices_IndexFunc_SSymbol_at1_impl_symbolIndex_1.rd0:=rx F.slices_IndexFunc_SSymbol n 0 [1,0,1,0,0] (slices_IndexFunc_SSymbol_at1_impl_symbolIndex_1.K0 n) L0 s
theorem slices_IndexFunc_SSymbol_at1_impl_symbolIndex_1.next0:slices_IndexFunc_SSymbol_at1_impl_symbolIndex_1.at0 n (m+1) s=slices_IndexFunc_SSymbol_at1_impl_symbolIndex_1.rd0 n (slices_IndexFunc_SSymbol_at1_impl_symbolIndex_1.at0 n m) s:=nx ..
theorem slices_IndexFunc_SSymbol_at1_impl_symbolIndex_1.round0(x0:List T)(x1:ByteArray)(x2 x3:Int):slices_IndexFunc_SSymbol_at1_impl_symbolIndex_1.rd0 n L0 (slices_IndexFunc_SSymbol_at1_impl_symbolIndex_1.st0 x0 x1 x2 x3)=bif (decide (x3<x2))then bif inB x3 (x0.length/2)then(x0[x3.toNat*2]?).bind fun e1=>(oStr e1).bind fun s2=>(x0[(x3.toNat*2)+1]?).bind fun e3=>(oInt .i64 e3).bind fun n4=>(LIM F.impl_symbolIndex_1 [.agg [.str s2,.int .i64 n4],.rref [.str x1] 0]).bind fun r5=>bB r5 fun b6=>bif b6 then some (.int .i64 x3,[])else L0 (slices_IndexFunc_SSymbol_at1_impl_symbolIndex_1.st0 x0 x1 x2 (IntKind.wrap .i64 (x3+1)))else none else some (.int .i64 (-1),[]):=by kernel_rfl
theorem slices_IndexFunc_SSymbol_at1_impl_symbolIndex_1.ev(a0:List T)(a1_0_0:ByteArray):callK prog A H LIM n F.slices_IndexFunc_SSymbol [.sl 2 a0,.clo F.impl_symbolIndex_1 [.rref [.str a1_0_0] 0]]=slices_IndexFunc_SSymbol_at1_impl_symbolIndex_1.at0 n n (slices_IndexFunc_SSymbol_at1_impl_symbolIndex_1.st0 a0 a1_0_0 (((a0.length/2):Nat):Int) (0:Int)):=by kernel_rfl
def slices_IndexFunc_Sint64_at1_impl_TermFault_1.st0(x0 x1:List T)(x2 x3:Int):St:=⟨[(0,ol 1 x0),(1,(.one (.t (.clo F.impl_TermFault_1 [(.rref [(.sl 2 x1)] 0)])))),(7,oi x2),(8,oi x3)],[]⟩
def slices_IndexFunc_Sint64_at1_impl_TermFault_1.K0:=kx F.slices_IndexFunc_Sint64 n [.block 0,.seq 0 (cx F.slices_IndexFunc_Sint64 [1,1])] (endOf prog A F.slices_IndexFunc_Sint64)
def slices_IndexFunc_Sint64_at1_impl_TermFault_1.at0:=lx F.slices_IndexFunc_Sint64 n 0 [1,0,1,0,0] (slices_IndexFunc_Sint64_at1_impl_TermFault_1.K0 n) m s
def slices_IndexFunc_Sint64_at1_impl_TermFault_1.rd0:=rx F.slices_IndexFunc_Sint64 n 0 [1,0,1,0,0] (slices_IndexFunc_Sint64_at1_impl_TermFault_1.K0 n) L0 s
theorem slices_IndexFunc_Sint64_at1_impl_TermFault_1.next0:slices_IndexFunc_Sint64_at1_impl_TermFault_1.at0 n (m+1) s=slices_IndexFunc_Sint64_at1_impl_TermFault_1.rd0 n (slices_IndexFunc_Sint64_at1_impl_TermFault_1.at0 n m) s:=nx ..
theorem slices_IndexFunc_Sint64_at1_impl_TermFault_1.round0(x0 x1:List T)(x2 x3:Int):slices_IndexFunc_Sint64_at1_impl_TermFault_1.rd0 n L0 (slices_IndexFunc_Sint64_at1_impl_TermFault_1.st0 x0 x1 x2 x3)=bif (decide (x3<x2))then bif inB x3 (x0.length/1)then(x0[x3.toNat*1]?).bind fun e1=>(oInt .i64 e1).bind fun n2=>(LIM F.impl_TermFault_1 [.int .i64 n2,.rref [.sl 2 x1] 0]).bind fun r3=>bB r3 fun b4=>bif b4 then some (.int .i64 x3,[])else L0 (slices_IndexFunc_Sint64_at1_impl_TermFault_1.st0 x0 x1 x2 (IntKind.wrap .i64 (x3+1)))else none else some (.int .i64 (-1),[]):=by kernel_rfl
theorem slices_IndexFunc_Sint64_at1_impl_TermFault_1.ev(a0 a1_0_0:List T):callK prog A H LIM n F.slices_IndexFunc_Sint64 [.sl 1 a0,.clo F.impl_TermFault_1 [.rref [.sl 2 a1_0_0] 0]]=slices_IndexFunc_Sint64_at1_impl_TermFault_1.at0 n n (slices_IndexFunc_Sint64_at1_impl_TermFault_1.st0 a0 a1_0_0 (((a0.length/1):Nat):Int) (0:Int)):=by kernel_rfl
def slices_IndexFunc_Sint64_at1_impl_EquationFault_1.st0(x0:List T)(x1 x2:Int):St:=⟨[(0,ol 1 x0),(1,(.one (.t (.clo F.impl_EquationFault_1 [])))),(7,oi x1),(8,oi x2)],[]⟩
def slices_IndexFunc_Sint64_at1_impl_EquationFault_1.K0:=kx F.slices_IndexFunc_Sint64 n [.block 0,.seq 0 (cx F.slices_IndexFunc_Sint64 [1,1])] (endOf prog A F.slices_IndexFunc_Sint64)
def slices_IndexFunc_Sint64_at1_impl_EquationFault_1.at0:=lx F.slices_IndexFunc_Sint64 n 0 [1,0,1,0,0] (slices_IndexFunc_Sint64_at1_impl_EquationFault_1.K0 n) m s
def slices_IndexFunc_Sint64_at1_impl_EquationFault_1.rd0:=rx F.slices_IndexFunc_Sint64 n 0 [1,0,1,0,0] (slices_IndexFunc_Sint64_at1_impl_EquationFault_1.K0 n) L0 s
theorem slices_IndexFunc_Sint64_at1_impl_EquationFault_1.next0:slices_IndexFunc_Sint64_at1_impl_EquationFault_1.at0 n (m+1) s=slices_IndexFunc_Sint64_at1_impl_EquationFault_1.rd0 n (slices_IndexFunc_Sint64_at1_impl_EquationFault_1.at0 n m) s:=nx ..
theorem slices_IndexFunc_Sint64_at1_impl_EquationFault_1.round0(x0:List T)(x1 x2:Int):slices_IndexFunc_Sint64_at1_impl_EquationFault_1.rd0 n L0 (slices_IndexFunc_Sint64_at1_impl_EquationFault_1.st0 x0 x1 x2)=bif (decide (x2<x1))then bif inB x2 (x0.length/1)then(x0[x2.toNat*1]?).bind fun e1=>(oInt .i64 e1).bind fun n2=>(LIM F.impl_EquationFault_1 [.int .i64 n2]).bind fun r3=>bB r3 fun b4=>bif b4 then some (.int .i64 x2,[])else L0 (slices_IndexFunc_Sint64_at1_impl_EquationFault_1.st0 x0 x1 (IntKind.wrap .i64 (x2+1)))else none else some (.int .i64 (-1),[]):=by kernel_rfl
theorem slices_IndexFunc_Sint64_at1_impl_EquationFault_1.ev(a0:List T):callK prog A H LIM n F.slices_IndexFunc_Sint64 [.sl 1 a0,.clo F.impl_EquationFault_1 []]=slices_IndexFunc_Sint64_at1_impl_EquationFault_1.at0 n n (slices_IndexFunc_Sint64_at1_impl_EquationFault_1.st0 a0 (((a0.length/1):Nat):Int) (0:Int)):=by kernel_rfl
def slices_IndexFunc_Sint64_at1_impl_AlgebraFault_1.st0(x0:List T)(x1:Int)(x2:List T)(x3 x4:Int):St:=⟨[(0,ol 1 x0),(1,(.one (.t (.clo F.impl_AlgebraFault_1 [(.rref [(.int .i64 x1),(.sl 1 x2)] 0)])))),(7,oi x3),(8,oi x4)],[]⟩
def slices_IndexFunc_Sint64_at1_impl_AlgebraFault_1.K0:=kx F.slices_IndexFunc_Sint64 n [.block 0,.seq 0 (cx F.slices_IndexFunc_Sint64 [1,1])] (endOf prog A F.slices_IndexFunc_Sint64)
def slices_IndexFunc_Sint64_at1_impl_AlgebraFault_1.at0:=lx F.slices_IndexFunc_Sint64 n 0 [1,0,1,0,0] (slices_IndexFunc_Sint64_at1_impl_AlgebraFault_1.K0 n) m s
def slices_IndexFunc_Sint64_at1_impl_AlgebraFault_1.rd0:=rx F.slices_IndexFunc_Sint64 n 0 [1,0,1,0,0] (slices_IndexFunc_Sint64_at1_impl_AlgebraFault_1.K0 n) L0 s
theorem slices_IndexFunc_Sint64_at1_impl_AlgebraFault_1.next0:slices_IndexFunc_Sint64_at1_impl_AlgebraFault_1.at0 n (m+1) s=slices_IndexFunc_Sint64_at1_impl_AlgebraFault_1.rd0 n (slices_IndexFunc_Sint64_at1_impl_AlgebraFault_1.at0 n m) s:=nx ..
theorem slices_IndexFunc_Sint64_at1_impl_AlgebraFault_1.round0(x0:List T)(x1:Int)(x2:List T)(x3 x4:Int):slices_IndexFunc_Sint64_at1_impl_AlgebraFault_1.rd0 n L0 (slices_IndexFunc_Sint64_at1_impl_AlgebraFault_1.st0 x0 x1 x2 x3 x4)=bif (decide (x4<x3))then bif inB x4 (x0.length/1)then(x0[x4.toNat*1]?).bind fun e1=>(oInt .i64 e1).bind fun n2=>(LIM F.impl_AlgebraFault_1 [.int .i64 n2,.rref [.int .i64 x1,.sl 1 x2] 0]).bind fun r3=>bB r3 fun b4=>bif b4 then some (.int .i64 x4,[])else L0 (slices_IndexFunc_Sint64_at1_impl_AlgebraFault_1.st0 x0 x1 x2 x3 (IntKind.wrap .i64 (x4+1)))else none else some (.int .i64 (-1),[]):=by kernel_rfl
theorem slices_IndexFunc_Sint64_at1_impl_AlgebraFault_1.ev(a0:List T)(a1_0_0:Int)(a1_0_1:List T):callK prog A H LIM n F.slices_IndexFunc_Sint64 [.sl 1 a0,.clo F.impl_AlgebraFault_1 [.rref [.int .i64 a1_0_0,.sl 1 a1_0_1] 0]]=slices_IndexFunc_Sint64_at1_impl_AlgebraFault_1.at0 n n (slices_IndexFunc_Sint64_at1_impl_AlgebraFault_1.st0 a0 a1_0_0 a1_0_1 (((a0.length/1):Nat):Int) (0:Int)):=by kernel_rfl
def slices_IndexFunc_Sint64_at1_impl_EvalTerm_1.st0(x0:List T)(x1:Int)(x2:List T)(x3 x4:Int):St:=⟨[(0,ol 1 x0),(1,(.one (.t (.clo F.impl_EvalTerm_1 [(.rref [(.int .i64 x1),(.sl 1 x2)] 0)])))),(7,oi x3),(8,oi x4)],[]⟩
def slices_IndexFunc_Sint64_at1_impl_EvalTerm_1.K0:=kx F.slices_IndexFunc_Sint64 n [.block 0,.seq 0 (cx F.slices_IndexFunc_Sint64 [1,1])] (endOf prog A F.slices_IndexFunc_Sint64)
def slices_IndexFunc_Sint64_at1_impl_EvalTerm_1.at0:=lx F.slices_IndexFunc_Sint64 n 0 [1,0,1,0,0] (slices_IndexFunc_Sint64_at1_impl_EvalTerm_1.K0 n) m s
def slices_IndexFunc_Sint64_at1_impl_EvalTerm_1.rd0:=rx F.slices_IndexFunc_Sint64 n 0 [1,0,1,0,0] (slices_IndexFunc_Sint64_at1_impl_EvalTerm_1.K0 n) L0 s
theorem slices_IndexFunc_Sint64_at1_impl_EvalTerm_1.next0:slices_IndexFunc_Sint64_at1_impl_EvalTerm_1.at0 n (m+1) s=slices_IndexFunc_Sint64_at1_impl_EvalTerm_1.rd0 n (slices_IndexFunc_Sint64_at1_impl_EvalTerm_1.at0 n m) s:=nx ..
theorem slices_IndexFunc_Sint64_at1_impl_EvalTerm_1.round0(x0:List T)(x1:Int)(x2:List T)(x3 x4:Int):slices_IndexFunc_Sint64_at1_impl_EvalTerm_1.rd0 n L0 (slices_IndexFunc_Sint64_at1_impl_EvalTerm_1.st0 x0 x1 x2 x3 x4)=bif (decide (x4<x3))then bif inB x4 (x0.length/1)then(x0[x4.toNat*1]?).bind fun e1=>(oInt .i64 e1).bind fun n2=>(LIM F.impl_EvalTerm_1 [.int .i64 n2,.rref [.int .i64 x1,.sl 1 x2] 0]).bind fun r3=>bB r3 fun b4=>bif b4 then some (.int .i64 x4,[])else L0 (slices_IndexFunc_Sint64_at1_impl_EvalTerm_1.st0 x0 x1 x2 x3 (IntKind.wrap .i64 (x4+1)))else none else some (.int .i64 (-1),[]):=by kernel_rfl
theorem slices_IndexFunc_Sint64_at1_impl_EvalTerm_1.ev(a0:List T)(a1_0_0:Int)(a1_0_1:List T):callK prog A H LIM n F.slices_IndexFunc_Sint64 [.sl 1 a0,.clo F.impl_EvalTerm_1 [.rref [.int .i64 a1_0_0,.sl 1 a1_0_1] 0]]=slices_IndexFunc_Sint64_at1_impl_EvalTerm_1.at0 n n (slices_IndexFunc_Sint64_at1_impl_EvalTerm_1.st0 a0 a1_0_0 a1_0_1 (((a0.length/1):Nat):Int) (0:Int)):=by kernel_rfl
def slices_Index_Sint64.st0(x0:List T)(x1 x2 x3:Int):St:=⟨[(0,ol 1 x0),(1,oi x1),(7,oi x2),(8,oi x3)],[]⟩
def slices_Index_Sint64.K0:=kx F.slices_Index_Sint64 n [.block 0,.seq 0 (cx F.slices_Index_Sint64 [1,1])] (endOf prog A F.slices_Index_Sint64)
def slices_Index_Sint64.at0:=lx F.slices_Index_Sint64 n 0 [1,0,1,0,0] (slices_Index_Sint64.K0 n) m s
def slices_Index_Sint64.rd0:=rx F.slices_Index_Sint64 n 0 [1,0,1,0,0] (slices_Index_Sint64.K0 n) L0 s
theorem slices_Index_Sint64.next0:slices_Index_Sint64.at0 n (m+1) s=slices_Index_Sint64.rd0 n (slices_Index_Sint64.at0 n m) s:=nx ..
theorem slices_Index_Sint64.round0(x0:List T)(x1 x2 x3:Int):slices_Index_Sint64.rd0 n L0 (slices_Index_Sint64.st0 x0 x1 x2 x3)=bif (decide (x3<x2))then bif inB x3 (x0.length/1)then(x0[x3.toNat*1]?).bind fun e1=>(oInt .i64 e1).bind fun n2=>bif (x1==n2)then some (.int .i64 x3,[])else L0 (slices_Index_Sint64.st0 x0 x1 x2 (IntKind.wrap .i64 (x3+1)))else none else some (.int .i64 (-1),[]):=by kernel_rfl
theorem slices_Index_Sint64.ev(a0:List T)(a1:Int):callK prog A H LIM n F.slices_Index_Sint64 [.sl 1 a0,.int .i64 a1]=slices_Index_Sint64.at0 n n (slices_Index_Sint64.st0 a0 a1 (((a0.length/1):Nat):Int) (0:Int)):=by kernel_rfl
def slices_Min_Sint64.st0(x0:List T)(x1 x2:Int):St:=⟨[(0,ol 1 x0),(3,oi x1),(4,oi x2)],[]⟩
def slices_Min_Sint64.K0:=kx F.slices_Min_Sint64 n [.block 0,.seq 0 (cx F.slices_Min_Sint64 [1,1,1,1])] (endOf prog A F.slices_Min_Sint64)
def slices_Min_Sint64.at0:=lx F.slices_Min_Sint64 n 0 [1,1,1,0,1,0,0] (slices_Min_Sint64.K0 n) m s
def slices_Min_Sint64.rd0:=rx F.slices_Min_Sint64 n 0 [1,1,1,0,1,0,0] (slices_Min_Sint64.K0 n) L0 s
theorem slices_Min_Sint64.next0:slices_Min_Sint64.at0 n (m+1) s=slices_Min_Sint64.rd0 n (slices_Min_Sint64.at0 n m) s:=nx ..
theorem slices_Min_Sint64.round0(x0:List T)(x1 x2:Int):slices_Min_Sint64.rd0 n L0 (slices_Min_Sint64.st0 x0 x1 x2)=bif (decide (x2<(((x0.length/1):Nat):Int)))then bif inB x2 (x0.length/1)then(x0[x2.toNat*1]?).bind fun e3=>(oInt .i64 e3).bind fun n4=>L0 (slices_Min_Sint64.st0 x0 (min x1 n4) (IntKind.wrap .i64 (x2+1)))else none else some (.int .i64 x1,[]):=by kernel_rfl
theorem slices_Min_Sint64.ev(a0:List T):callK prog A H LIM n F.slices_Min_Sint64 [.sl 1 a0]=bif (decide ((((a0.length/1):Nat):Int)<1))then none else bif inB (0:Int) (a0.length/1)then(a0[0]?).bind fun e1=>(oInt .i64 e1).bind fun n2=>slices_Min_Sint64.at0 n n (slices_Min_Sint64.st0 a0 n2 (1:Int))else none:=by kernel_rfl
def spec_AlgebraFault.st2(x0 x1:Int)(x2:List T)(x3:Int)(x4:List T):St:=⟨[(2,(.one (.ptr 128 0))),(3,(.one (.ptr 192 0))),(6,oi x0),(7,oi x1)],[(128,(.box [(.t (.sl 2 x2))])),(192,(.box [(.t (.int .i64 x3)),(.t (.sl 1 x4))]))]⟩
def spec_AlgebraFault.st0(x0:Int)(x1:List T)(x2:Int)(x3:List T):St:=⟨[(2,(.one (.ptr 128 0))),(3,(.one (.ptr 192 0))),(6,oi x0)],[(128,(.box [(.t (.sl 2 x1))])),(192,(.box [(.t (.int .i64 x2)),(.t (.sl 1 x3))]))]⟩
def spec_AlgebraFault.K0:=kx F.spec_AlgebraFault n [.block 0,.seq 0 (cx F.spec_AlgebraFault [1,1,1,1,1])] (endOf prog A F.spec_AlgebraFault)
def spec_AlgebraFault.at0:=lx F.spec_AlgebraFault n 0 [1,1,1,1,0,1,0,0] (spec_AlgebraFault.K0 n) m s
def spec_AlgebraFault.rd0:=rx F.spec_AlgebraFault n 0 [1,1,1,1,0,1,0,0] (spec_AlgebraFault.K0 n) L0 s
theorem spec_AlgebraFault.next0:spec_AlgebraFault.at0 n (m+1) s=spec_AlgebraFault.rd0 n (spec_AlgebraFault.at0 n m) s:=nx ..
def spec_AlgebraFault.K2:=kx F.spec_AlgebraFault n [.block 2,.block 1,.seq 0 (cx F.spec_AlgebraFault [1,1,1,1,0,1,0,0,1,1])] (bx F.spec_AlgebraFault 0 (spec_AlgebraFault.K0 n) L0)
def spec_AlgebraFault.at2:=lx F.spec_AlgebraFault n 2 [1,1,1,1,0,1,0,0,1,0,0,1,1,0,0] (spec_AlgebraFault.K2 n L0) m s
def spec_AlgebraFault.rd2:=rx F.spec_AlgebraFault n 2 [1,1,1,1,0,1,0,0,1,0,0,1,1,0,0] (spec_AlgebraFault.K2 n L0) L2 s
theorem spec_AlgebraFault.next2:spec_AlgebraFault.at2 n L0 (m+1) s=spec_AlgebraFault.rd2 n L0 (spec_AlgebraFault.at2 n L0 m) s:=nx ..
theorem spec_AlgebraFault.round0(x0:Int)(x1:List T)(x2:Int)(x3:List T):spec_AlgebraFault.rd0 n L0 (spec_AlgebraFault.st0 x0 x1 x2 x3)=bif (decide (x0<(((x3.length/1):Nat):Int)))then bif inB x0 (x3.length/1)then(x3[x0.toNat*1]?).bind fun e5=>(oSl 1 e5).bind fun c6=>bif inB x0 (x1.length/2)then(x1[(x0.toNat*2)+1]?).bind fun e7=>(oInt .i64 e7).bind fun n8=>(LIM F.spec_l10Pow [.int .i64 x2,.int .i64 n8]).bind fun r9=>bI r9 fun n10=>bif (((((c6.length/1):Nat):Int) != n10))then some (.int .i64 2,[])else spec_AlgebraFault.at2 n L0 n (spec_AlgebraFault.st2 x0 (0:Int) x1 x2 x3)else none else none else some (.int .i64 0,[]):=by kernel_rfl
theorem spec_AlgebraFault.round2(x0 x1:Int)(x2:List T)(x3:Int)(x4:List T):spec_AlgebraFault.rd2 n L0 L2 (spec_AlgebraFault.st2 x0 x1 x2 x3 x4)=bif inB x0 (x4.length/1)then(x4[x0.toNat*1]?).bind fun e11=>(oSl 1 e11).bind fun c12=>bif (decide (x1<(((c12.length/1):Nat):Int)))then bif inB x0 (x4.length/1)then(x4[x0.toNat*1]?).bind fun e13=>(oSl 1 e13).bind fun c14=>bif inB x1 (c14.length/1)then(c14[x1.toNat*1]?).bind fun e15=>(oInt .i64 e15).bind fun n16=>(LIM F.spec_l1In [.int .i64 n16,.int .i64 0,.int .i64 (IntKind.wrap .i64 (x3-1))]).bind fun r17=>bB r17 fun b18=>bif (!b18)then some (.int .i64 3,[])else L2 (spec_AlgebraFault.st2 x0 (IntKind.wrap .i64 (x1+1)) x2 x3 x4)else none else none else L0 (spec_AlgebraFault.st0 (IntKind.wrap .i64 (x0+1)) x2 x3 x4)else none:=by kernel_rfl
theorem spec_AlgebraFault.ev(a0_0:List T)(a1_0:Int)(a1_1:List T):callK prog A H LIM n F.spec_AlgebraFault [.agg [.sl 2 a0_0],.agg [.int .i64 a1_0,.sl 1 a1_1]]=(LIM F.spec_SignatureFault [.agg [.sl 2 a0_0]]).bind fun r1=>bI r1 fun n2=>bif (n2 != 0)then some (.int .i64 n2,[])else(LIM F.spec_l1In [.int .i64 a1_0,.int .i64 1,.int .i64 3]).bind fun r3=>bB r3 fun b4=>bif (!b4)then some (.int .i64 3,[])else bif (((((a1_1.length/1):Nat):Int) != (((a0_0.length/2):Nat):Int)))then some (.int .i64 2,[])else spec_AlgebraFault.at0 n n (spec_AlgebraFault.st0 (0:Int) a0_0 a1_0 a1_1):=by kernel_rfl
theorem spec_ApplyBinding.ev(a0_0 a1_0 a1_1 a2:List T):callK prog A H LIM n F.spec_ApplyBinding [.agg [.sl 2 a0_0],.agg [.sl 1 a1_0,.sl 1 a1_1],.sl 1 a2]=(LIM F.spec_BindingFault [.agg [.sl 2 a0_0],.agg [.sl 1 a1_0,.sl 1 a1_1]]).bind fun r1=>bI r1 fun n2=>bif (n2 != 0)then some (.agg [.int .i64 n2,.sl 1 []],[])else(LIM F.spec_l3Fault [.rref [.sl 2 a0_0] 0,.sl 1 a2]).bind fun r3=>bI r3 fun n4=>bif (n4 != 0)then some (.agg [.int .i64 n4,.sl 1 []],[])else(LIM F.spec_l6Apply [.rref [.sl 1 a1_0,.sl 1 a1_1] 0,.sl 1 a2]).bind fun r5=>bL r5 fun c6=>bif (decide ((((c6.length/1):Nat):Int)>24))then some (.agg [.int .i64 2,.sl 1 []],[])else some (.agg [.int .i64 0,.sl 1 c6],[]):=by kernel_rfl
theorem spec_BindingFault.ev(a0_0 a1_0 a1_1:List T):callK prog A H LIM n F.spec_BindingFault [.agg [.sl 2 a0_0],.agg [.sl 1 a1_0,.sl 1 a1_1]]=(LIM F.spec_SignatureFault [.agg [.sl 2 a0_0]]).bind fun r1=>bI r1 fun n2=>bif (n2 != 0)then some (.int .i64 n2,[])else(LIM F.spec_l6Fault [.rref [.sl 2 a0_0] 0,.rref [.sl 1 a1_0,.sl 1 a1_1] 0]).bind fun r3=>bI r3 fun n4=>some (.int .i64 n4,[]):=by kernel_rfl
theorem spec_DrawApplyBinding.ev(a0:List T):callK prog A H LIM n F.spec_DrawApplyBinding [.sl 1 a0]=(LIM F.spec_l1Source [.sl 1 a0]).bind fun r1=>(oNil r1.2).bind fun _=>(oBx r1.1).bind fun c2=>(oCons c2).bind fun p3=>(oSl 1 p3.1).bind fun c4=>(oCons p3.2).bind fun p5=>(oInt .i64 p5.1).bind fun n6=>(oNil p5.2).bind fun _=>(LIM F.spec_l2Bent [.rref [.sl 1 c4,.int .i64 n6] 0]).bind fun r7=>bS r7 fun c11 n13=>(oAgg r7.1).bind fun c14=>(oCons c14).bind fun p15=>(oSl 2 p15.1).bind fun c16=>(oNil p15.2).bind fun _=>(LIM F.spec_l6Bent [.rref [.sl 1 c4,.int .i64 n13] 0,.rref [.sl 2 c16] 0]).bind fun r17=>bS r17 fun c21 n23=>(oAgg r17.1).bind fun c24=>(oCons c24).bind fun p25=>(oSl 1 p25.1).bind fun c26=>(oCons p25.2).bind fun p27=>(oSl 1 p27.1).bind fun c28=>(oNil p27.2).bind fun _=>(LIM F.spec_l1Pick [.rref [.sl 1 c4,.int .i64 n23] 0,.sl 1 [.int .i64 3,.int .i64 6,.int .i64 12]]).bind fun r29=>bS r29 fun c33 n35=>(oInt .i64 r29.1).bind fun n36=>(LIM F.spec_l3BentTerm [.rref [.sl 1 c4,.int .i64 n35] 0,.rref [.sl 2 c16] 0,.int .i64 n36,.int .i64 6]).bind fun r37=>bS r37 fun c41 n43=>(oSl 1 r37.1).bind fun c44=>some (.tup [.agg [.sl 2 c16],.agg [.sl 1 c26,.sl 1 c28],.sl 1 c44],[]):=by kernel_rfl
def spec_DrawEvalTerm.st0(x0:List T)(x1 x2:Int)(x3:List T)(x4 x5:Int)(x6 x7:List T):St:=⟨[(2,(.one (.ptr 128 0))),(3,(.one (.ptr 192 0))),(6,(.one (.ptr 768 0))),(7,(.one (.t (.rref [(.sl 2 x0)] 0)))),(8,(.one (.ptr 512 0))),(9,(.one (.obj 1088))),(10,oi x1)],[(128,(.box [.nil])),(192,(.box [(.t (.int .i64 x2)),.nil])),(768,(.box [(.t (.sl 1 x3)),(.t (.int .i64 x4))])),(512,(.box [(.t (.int .i64 x5)),(.t (.sl 1 x6))])),(1088,(.arr true true 1 x7))]⟩
def spec_DrawEvalTerm.K0:=kx F.spec_DrawEvalTerm n [.block 0,.seq 0 (cx F.spec_DrawEvalTerm [1,1,1,1,1,1])] (endOf prog A F.spec_DrawEvalTerm)
def spec_DrawEvalTerm.at0:=lx F.spec_DrawEvalTerm n 0 [1,1,1,1,1,0,1,0,0] (spec_DrawEvalTerm.K0 n) m s
def spec_DrawEvalTerm.rd0:=rx F.spec_DrawEvalTerm n 0 [1,1,1,1,1,0,1,0,0] (spec_DrawEvalTerm.K0 n) L0 s
theorem spec_DrawEvalTerm.next0:spec_DrawEvalTerm.at0 n (m+1) s=spec_DrawEvalTerm.rd0 n (spec_DrawEvalTerm.at0 n m) s:=nx ..
theorem spec_DrawEvalTerm.round0(x0:List T)(x1 x2:Int)(x3:List T)(x4 x5:Int)(x6 x7:List T):spec_DrawEvalTerm.rd0 n L0 (spec_DrawEvalTerm.st0 x0 x1 x2 x3 x4 x5 x6 x7)=bif (decide (x1<6))then(LIM F.spec_l1Pick [.rref [.sl 1 x3,.int .i64 x4] 0,.sl 1 [.int .i64 x5,.int .i64 x5,.int .i64 x5,.int .i64 3]]).bind fun r29=>bS r29 fun c33 n35=>(oInt .i64 r29.1).bind fun n36=>(LIM F.spec_l1Next [.rref [.sl 1 x3,.int .i64 n35] 0,.int .i64 n36]).bind fun r37=>bS r37 fun c41 n43=>(oInt .i64 r37.1).bind fun n44=>bif Nat.ble ((x7.length+1)*8) (140737488355328*1)then L0 (spec_DrawEvalTerm.st0 x0 (IntKind.wrap .i64 (x1+1)) x2 x3 n43 x5 x6 (x7++[.int .i64 n44]:List T))else none else(LIM F.spec_l1Chance [.rref [.sl 1 x3,.int .i64 x4] 0,.int .i64 15]).bind fun r45=>bS r45 fun c49 n51=>(oBool r45.1).bind fun b52=>bif b52 then bif decide (0<=(1:Int))&&decide ((1:Int)<=(((x7.length/1):Nat):Int))&&decide ((((x7.length/1):Nat):Int)<=(((x7.length/1):Nat):Int))then(LIM F.spec_l1Pick [.rref [.sl 1 x3,.int .i64 n51] 0,.sl 1 [.int .i64 4,.int .i64 9,.int .i64 20]]).bind fun r53=>bS r53 fun c57 n59=>(oInt .i64 r53.1).bind fun n60=>(LIM F.spec_l1Pick [.rref [.sl 1 x3,.int .i64 n59] 0,.sl 1 [.int .i64 2,.int .i64 6,.int .i64 6,.int .i64 8]]).bind fun r61=>bS r61 fun c65 n67=>(oInt .i64 r61.1).bind fun n68=>(LIM F.spec_l3BentTerm [.rref [.sl 1 x3,.int .i64 n67] 0,.rref [.sl 2 x0] 0,.int .i64 n60,.int .i64 n68]).bind fun r69=>bS r69 fun c73 n75=>(oSl 1 r69.1).bind fun c76=>some ((.tup [.agg [.sl 2 x0],.agg [.int .i64 x5,.sl 1 x6],(.sl 1 ((x7.take ((Int.toNat (((x7.length/1):Nat):Int))*1)).drop (1*1))),.sl 1 c76]),[])else none else(LIM F.spec_l1Pick [.rref [.sl 1 x3,.int .i64 n51] 0,.sl 1 [.int .i64 4,.int .i64 9,.int .i64 20]]).bind fun r77=>bS r77 fun c81 n83=>(oInt .i64 r77.1).bind fun n84=>(LIM F.spec_l1Pick [.rref [.sl 1 x3,.int .i64 n83] 0,.sl 1 [.int .i64 2,.int .i64 6,.int .i64 6,.int .i64 8]]).bind fun r85=>bS r85 fun c89 n91=>(oInt .i64 r85.1).bind fun n92=>(LIM F.spec_l3BentTerm [.rref [.sl 1 x3,.int .i64 n91] 0,.rref [.sl 2 x0] 0,.int .i64 n84,.int .i64 n92]).bind fun r93=>bS r93 fun c97 n99=>(oSl 1 r93.1).bind fun c100=>some (.tup [.agg [.sl 2 x0],.agg [.int .i64 x5,.sl 1 x6],.sl 1 x7,.sl 1 c100],[]):=by kernel_rfl
theorem spec_DrawEvalTerm.ev(a0:List T):callK prog A H LIM n F.spec_DrawEvalTerm [.sl 1 a0]=(LIM F.spec_l1Source [.sl 1 a0]).bind fun r1=>(oNil r1.2).bind fun _=>(oBx r1.1).bind fun c2=>(oCons c2).bind fun p3=>(oSl 1 p3.1).bind fun c4=>(oCons p3.2).bind fun p5=>(oInt .i64 p5.1).bind fun n6=>(oNil p5.2).bind fun _=>(LIM F.spec_l2Bent [.rref [.sl 1 c4,.int .i64 n6] 0]).bind fun r7=>bS r7 fun c11 n13=>(oAgg r7.1).bind fun c14=>(oCons c14).bind fun p15=>(oSl 2 p15.1).bind fun c16=>(oNil p15.2).bind fun _=>(LIM F.spec_l10Bent [.rref [.sl 1 c4,.int .i64 n13] 0,.rref [.sl 2 c16] 0,.sl 2 []]).bind fun r17=>bS r17 fun c21 n23=>(oAgg r17.1).bind fun c24=>(oCons c24).bind fun p25=>(oInt .i64 p25.1).bind fun n26=>(oCons p25.2).bind fun p27=>(oSl 1 p27.1).bind fun c28=>(oNil p27.2).bind fun _=>spec_DrawEvalTerm.at0 n n (spec_DrawEvalTerm.st0 c16 (0:Int) (0:Int) c4 n23 n26 c28 []):=by kernel_rfl
theorem spec_DrawHolds.ev(a0:List T):callK prog A H LIM n F.spec_DrawHolds [.sl 1 a0]=(LIM F.spec_l1Source [.sl 1 a0]).bind fun r1=>(oNil r1.2).bind fun _=>(oBx r1.1).bind fun c2=>(oCons c2).bind fun p3=>(oSl 1 p3.1).bind fun c4=>(oCons p3.2).bind fun p5=>(oInt .i64 p5.1).bind fun n6=>(oNil p5.2).bind fun _=>(LIM F.spec_l2Bent [.rref [.sl 1 c4,.int .i64 n6] 0]).bind fun r7=>bS r7 fun c11 n13=>(oAgg r7.1).bind fun c14=>(oCons c14).bind fun p15=>(oSl 2 p15.1).bind fun c16=>(oNil p15.2).bind fun _=>(LIM F.spec_l4BentEquation [.rref [.sl 1 c4,.int .i64 n13] 0,.rref [.sl 2 c16] 0]).bind fun r17=>bS r17 fun c21 n23=>(oAgg r17.1).bind fun c24=>(oCons c24).bind fun p25=>(oSl 1 p25.1).bind fun c26=>(oCons p25.2).bind fun p27=>(oSl 1 p27.1).bind fun c28=>(oNil p27.2).bind fun _=>(LIM F.spec_l4Copy [.rref [.sl 1 c26,.sl 1 c28] 0]).bind fun r29=>(oNil r29.2).bind fun _=>(oAgg r29.1).bind fun c30=>(oCons c30).bind fun p31=>(oSl 1 p31.1).bind fun c32=>(oCons p31.2).bind fun p33=>(oSl 1 p33.1).bind fun c34=>(oNil p33.2).bind fun _=>(LIM F.spec_l10Bent [.rref [.sl 1 c4,.int .i64 n23] 0,.rref [.sl 2 c16] 0,.sl 2 [.sl 1 c32,.sl 1 c34]]).bind fun r35=>bS r35 fun c39 n41=>(oAgg r35.1).bind fun c42=>(oCons c42).bind fun p43=>(oInt .i64 p43.1).bind fun n44=>(oCons p43.2).bind fun p45=>(oSl 1 p45.1).bind fun c46=>(oNil p45.2).bind fun _=>some (.tup [.agg [.sl 2 c16],.agg [.int .i64 n44,.sl 1 c46],.agg [.sl 1 c26,.sl 1 c28]],[]):=by kernel_rfl
def spec_EvalTerm.st0(x0 x1:List T)(x2:Int)(x3:List T)(x4:Int)(x5:List T)(x6 x7:Int):St:=⟨[(2,ol 1 x0),(3,ol 1 x1),(4,(.one (.ptr 256 0))),(5,(.one (.ptr 320 0))),(8,(.one (.ptr 512 0))),(11,oi x2)],[(256,(.box [(.t (.sl 2 x3))])),(320,(.box [(.t (.int .i64 x4)),(.t (.sl 1 x5))])),(512,(.box [(.t (.int .i64 x6)),(.t (.int .i64 x7))]))]⟩
def spec_EvalTerm.K0:=kx F.spec_EvalTerm n [.block 0,.seq 0 (cx F.spec_EvalTerm [1,1,1,1,1])] (endOf prog A F.spec_EvalTerm)
def spec_EvalTerm.at0:=lx F.spec_EvalTerm n 0 [1,1,1,1,0,1,0,0] (spec_EvalTerm.K0 n) m s
def spec_EvalTerm.rd0:=rx F.spec_EvalTerm n 0 [1,1,1,1,0,1,0,0] (spec_EvalTerm.K0 n) L0 s
theorem spec_EvalTerm.next0:spec_EvalTerm.at0 n (m+1) s=spec_EvalTerm.rd0 n (spec_EvalTerm.at0 n m) s:=nx ..
theorem spec_EvalTerm.round0(x0 x1:List T)(x2:Int)(x3:List T)(x4:Int)(x5:List T)(x6 x7:Int):spec_EvalTerm.rd0 n L0 (spec_EvalTerm.st0 x0 x1 x2 x3 x4 x5 x6 x7)=bif (decide (x2<(((x0.length/1):Nat):Int)))then bif inB x2 (x0.length/1)then(x0[x2.toNat*1]?).bind fun e5=>(oInt .i64 e5).bind fun n6=>(LIM F.spec_l1In [.int .i64 n6,.int .i64 0,.int .i64 (IntKind.wrap .i64 (x4-1))]).bind fun r7=>bB r7 fun b8=>bif (!b8)then some (.agg [.int .i64 3,.int .i64 0],[])else L0 (spec_EvalTerm.st0 x0 x1 (IntKind.wrap .i64 (x2+1)) x3 x4 x5 x6 x7)else none else(LIM F.spec_l4Low [.sl 1 x1]).bind fun r9=>bB r9 fun b10=>bif (!b10)then some (.agg [.int .i64 3,.int .i64 0],[])else(LIM F.spec_l10Eval [.rref [.sl 2 x3] 0,.rref [.int .i64 x4,.sl 1 x5] 0,.sl 1 x0,.sl 1 x1,.int .i64 0]).bind fun r11=>bI r11 fun n12=>some (.agg [.int .i64 0,.int .i64 n12],[]):=by kernel_rfl
theorem spec_EvalTerm.ev(a0_0:List T)(a1_0:Int)(a1_1 a2 a3:List T):callK prog A H LIM n F.spec_EvalTerm [.agg [.sl 2 a0_0],.agg [.int .i64 a1_0,.sl 1 a1_1],.sl 1 a2,.sl 1 a3]=(LIM F.spec_AlgebraFault [.agg [.sl 2 a0_0],.agg [.int .i64 a1_0,.sl 1 a1_1]]).bind fun r1=>bI r1 fun n2=>bif (n2 != 0)then some (.agg [.int .i64 n2,.int .i64 0],[])else(LIM F.spec_l3Fault [.rref [.sl 2 a0_0] 0,.sl 1 a3]).bind fun r3=>bI r3 fun n4=>bif (n4 != 0)then some (.agg [.int .i64 n4,.int .i64 0],[])else bif (((((a2.length/1):Nat):Int) != 6))then some (.agg [.int .i64 2,.int .i64 0],[])else spec_EvalTerm.at0 n n (spec_EvalTerm.st0 a2 a3 (0:Int) a0_0 a1_0 a1_1 (0:Int) (0:Int)):=by kernel_rfl
theorem spec_Holds.ev(a0_0:List T)(a1_0:Int)(a1_1 a2_0 a2_1:List T):callK prog A H LIM n F.spec_Holds [.agg [.sl 2 a0_0],.agg [.int .i64 a1_0,.sl 1 a1_1],.agg [.sl 1 a2_0,.sl 1 a2_1]]=(LIM F.spec_AlgebraFault [.agg [.sl 2 a0_0],.agg [.int .i64 a1_0,.sl 1 a1_1]]).bind fun r1=>bI r1 fun n2=>bif (n2 != 0)then some (.agg [.int .i64 n2,.int .i64 0],[])else(LIM F.spec_l4Fault [.rref [.sl 2 a0_0] 0,.rref [.sl 1 a2_0,.sl 1 a2_1] 0]).bind fun r3=>bI r3 fun n4=>bif (n4 != 0)then some (.agg [.int .i64 n4,.int .i64 0],[])else(LIM F.spec_l10Holds [.rref [.sl 2 a0_0] 0,.rref [.int .i64 a1_0,.sl 1 a1_1] 0,.rref [.sl 1 a2_0,.sl 1 a2_1] 0]).bind fun r5=>bB r5 fun b6=>(LIM F.spec_l10Bit [.bool b6]).bind fun r7=>(oNil r7.2).bind fun _=>(oAgg r7.1).bind fun c8=>(oCons c8).bind fun p9=>(oInt .i64 p9.1).bind fun n10=>(oCons p9.2).bind fun p11=>(oInt .i64 p11.1).bind fun n12=>(oNil p11.2).bind fun _=>some (.agg [.int .i64 n10,.int .i64 n12],[]):=by kernel_rfl
theorem spec_ReadEquation.ev(a0_0:List T)(a1:ByteArray):callK prog A H LIM n F.spec_ReadEquation [.agg [.sl 2 a0_0],.str a1]=(LIM F.spec_SignatureFault [.agg [.sl 2 a0_0]]).bind fun r1=>bI r1 fun n2=>bif (n2 != 0)then some (.agg [.int .i64 n2,.sl 1 [],.sl 1 []],[])else bif (decide ((a1.size:Int)>337))then some (.agg [.int .i64 5,.sl 1 [],.sl 1 []],[])else(LIM F.spec_l1Cut [.str a1,.int .u8 (61:Int)]).bind fun r3=>bL r3 fun c4=>bif (((((c4.length/1):Nat):Int) != 2))then some (.agg [.int .i64 5,.sl 1 [],.sl 1 []],[])else bif inB (0:Int) (c4.length/1)then(c4[0]?).bind fun e5=>(oStr e5).bind fun s6=>(LIM F.spec_l4Read [.rref [.sl 2 a0_0] 0,.str s6]).bind fun r7=>bL r7 fun c8=>bif inB (1:Int) (c4.length/1)then(c4[1]?).bind fun e9=>(oStr e9).bind fun s10=>(LIM F.spec_l4Read [.rref [.sl 2 a0_0] 0,.str s10]).bind fun r11=>bL r11 fun c12=>(LIM F.spec_l4Fault [.rref [.sl 2 a0_0] 0,.rref [.sl 1 c8,.sl 1 c12] 0]).bind fun r13=>bI r13 fun n14=>bif (n14 != 0)then some (.agg [.int .i64 5,.sl 1 [],.sl 1 []],[])else some (.agg [.int .i64 0,.sl 1 c8,.sl 1 c12],[])else none else none:=by kernel_rfl
def spec_SignatureFault.st4(x0 x1 x2:Int)(x3:List T):St:=⟨[(1,(.one (.ptr 64 0))),(3,oi x0),(5,oi x1),(6,oi x2)],[(64,(.box [(.t (.sl 2 x3))]))]⟩
def spec_SignatureFault.st6(x0 x1:Int)(x2:List T):St:=⟨[(1,(.one (.ptr 64 0))),(3,oi x0),(7,oi x1)],[(64,(.box [(.t (.sl 2 x2))]))]⟩
def spec_SignatureFault.st2(x0 x1:Int)(x2:List T):St:=⟨[(1,(.one (.ptr 64 0))),(3,oi x0),(5,oi x1)],[(64,(.box [(.t (.sl 2 x2))]))]⟩
def spec_SignatureFault.st0(x0 x1:Int)(x2:List T):St:=⟨[(1,(.one (.ptr 64 0))),(3,oi x0),(4,oi x1)],[(64,(.box [(.t (.sl 2 x2))]))]⟩
def spec_SignatureFault.K0:=kx F.spec_SignatureFault n [.block 0,.seq 0 (cx F.spec_SignatureFault [1,1,1,1])] (endOf prog A F.spec_SignatureFault)
def spec_SignatureFault.at0:=lx F.spec_SignatureFault n 0 [1,1,1,0,1,0,0] (spec_SignatureFault.K0 n) m s
def spec_SignatureFault.rd0:=rx F.spec_SignatureFault n 0 [1,1,1,0,1,0,0] (spec_SignatureFault.K0 n) L0 s
theorem spec_SignatureFault.next0:spec_SignatureFault.at0 n (m+1) s=spec_SignatureFault.rd0 n (spec_SignatureFault.at0 n m) s:=nx ..
def spec_SignatureFault.K2:=kx F.spec_SignatureFault n [.block 2,.seq 0 (cx F.spec_SignatureFault [1,1,1,1,1])] (endOf prog A F.spec_SignatureFault)
def spec_SignatureFault.at2:=lx F.spec_SignatureFault n 2 [1,1,1,1,0,1,0,0] (spec_SignatureFault.K2 n) m s
def spec_SignatureFault.rd2:=rx F.spec_SignatureFault n 2 [1,1,1,1,0,1,0,0] (spec_SignatureFault.K2 n) L2 s
theorem spec_SignatureFault.next2:spec_SignatureFault.at2 n (m+1) s=spec_SignatureFault.rd2 n (spec_SignatureFault.at2 n m) s:=nx ..
def spec_SignatureFault.K6(n:Nat):=kx F.spec_SignatureFault n [.block 6,.seq 0 (cx F.spec_SignatureFault [1,1,1,1,1,1])] (endOf prog A F.spec_SignatureFault)
def spec_SignatureFault.at6(n:Nat)(m:Nat)(s:St):=lx F.spec_SignatureFault n 6 [1,1,1,1,1,0,1,0,0] (spec_SignatureFault.K6 n) m s
def spec_SignatureFault.rd6(n:Nat)(L6:St->R)(s:St):=rx F.spec_SignatureFault n 6 [1,1,1,1,1,0,1,0,0] (spec_SignatureFault.K6 n) L6 s
theorem spec_SignatureFault.next6(n:Nat)(m:Nat)(s:St):spec_SignatureFault.at6 n (m+1) s=spec_SignatureFault.rd6 n (spec_SignatureFault.at6 n m) s:=nx ..
def spec_SignatureFault.K4:=kx F.spec_SignatureFault n [.block 4,.block 3,.seq 2 (cx F.spec_SignatureFault [1,1,1,1,0,1,0,0,1,1])] (bx F.spec_SignatureFault 2 (spec_SignatureFault.K2 n) L2)
def spec_SignatureFault.at4:=lx F.spec_SignatureFault n 4 [1,1,1,1,0,1,0,0,1,0,0,1,0,0] (spec_SignatureFault.K4 n L2) m s
def spec_SignatureFault.rd4:=rx F.spec_SignatureFault n 4 [1,1,1,1,0,1,0,0,1,0,0,1,0,0] (spec_SignatureFault.K4 n L2) L4 s
theorem spec_SignatureFault.next4:spec_SignatureFault.at4 n L2 (m+1) s=spec_SignatureFault.rd4 n L2 (spec_SignatureFault.at4 n L2 m) s:=nx ..
theorem spec_SignatureFault.round0(x0 x1:Int)(x2:List T):spec_SignatureFault.rd0 n L0 (spec_SignatureFault.st0 x0 x1 x2)=bif (decide (x1<x0))then bif inB x1 (x2.length/2)then(x2[x1.toNat*2]?).bind fun e1=>(oStr e1).bind fun s2=>(LIM F.spec_l2Name [.str s2]).bind fun r3=>bB r3 fun b4=>bif (!b4)then some (.int .i64 5,[])else bif inB x1 (x2.length/2)then(x2[(x1.toNat*2)+1]?).bind fun e5=>(oInt .i64 e5).bind fun n6=>(LIM F.spec_l1In [.int .i64 n6,.int .i64 0,.int .i64 2]).bind fun r7=>bB r7 fun b8=>bif (!b8)then some (.int .i64 3,[])else L0 (spec_SignatureFault.st0 x0 (IntKind.wrap .i64 (x1+1)) x2)else none else none else spec_SignatureFault.at2 n n (spec_SignatureFault.st2 x0 (0:Int) x2):=by kernel_rfl
theorem spec_SignatureFault.round2(x0 x1:Int)(x2:List T):spec_SignatureFault.rd2 n L2 (spec_SignatureFault.st2 x0 x1 x2)=bif (decide (x1<x0))then spec_SignatureFault.at4 n L2 n (spec_SignatureFault.st4 x0 x1 (0:Int) x2)else spec_SignatureFault.at6 n n (spec_SignatureFault.st6 x0 (0:Int) x2):=by kernel_rfl
theorem spec_SignatureFault.round6(n:Nat)(L6:St->R)(x0 x1:Int)(x2:List T):spec_SignatureFault.rd6 n L6 (spec_SignatureFault.st6 x0 x1 x2)=bif (decide (x1<x0))then bif inB x1 (x2.length/2)then(x2[(x1.toNat*2)+1]?).bind fun e13=>(oInt .i64 e13).bind fun n14=>bif (n14==0)then some (.int .i64 0,[])else L6 (spec_SignatureFault.st6 x0 (IntKind.wrap .i64 (x1+1)) x2)else none else some (.int .i64 4,[]):=by kernel_rfl
theorem spec_SignatureFault.round4(x0 x1 x2:Int)(x3:List T):spec_SignatureFault.rd4 n L2 L4 (spec_SignatureFault.st4 x0 x1 x2 x3)=bif (decide (x2<x1))then bif inB x1 (x3.length/2)then(x3[x1.toNat*2]?).bind fun e9=>(oStr e9).bind fun s10=>bif inB x2 (x3.length/2)then(x3[x2.toNat*2]?).bind fun e11=>(oStr e11).bind fun s12=>bif (s10.toList==s12.toList)then some (.int .i64 6,[])else L4 (spec_SignatureFault.st4 x0 x1 (IntKind.wrap .i64 (x2+1)) x3)else none else none else L2 (spec_SignatureFault.st2 x0 (IntKind.wrap .i64 (x1+1)) x3):=by kernel_rfl
theorem spec_SignatureFault.ev(a0_0:List T):callK prog A H LIM n F.spec_SignatureFault [.agg [.sl 2 a0_0]]=bif (decide ((((a0_0.length/2):Nat):Int)<1))then some (.int .i64 2,[])else bif (decide ((((a0_0.length/2):Nat):Int)>6))then some (.int .i64 2,[])else spec_SignatureFault.at0 n n (spec_SignatureFault.st0 (((a0_0.length/2):Nat):Int) (0:Int) a0_0):=by kernel_rfl
def spec_l10All.st0(x0:List T)(x1:Int)(x2 x3:List T)(x4:Int):St:=⟨[(0,(.one (.t (.rref [(.sl 2 x0)] 0)))),(1,(.one (.t (.rref [(.int .i64 x1),(.sl 1 x2)] 0)))),(2,ol 2 x3),(7,oi x4)],[]⟩
def spec_l10All.K0:=kx F.spec_l10All n [.block 0,.seq 0 (cx F.spec_l10All [1,1])] (endOf prog A F.spec_l10All)
def spec_l10All.at0:=lx F.spec_l10All n 0 [1,0,1,0,0] (spec_l10All.K0 n) m s
def spec_l10All.rd0:=rx F.spec_l10All n 0 [1,0,1,0,0] (spec_l10All.K0 n) L0 s
theorem spec_l10All.next0:spec_l10All.at0 n (m+1) s=spec_l10All.rd0 n (spec_l10All.at0 n m) s:=nx ..
theorem spec_l10All.round0(x0:List T)(x1:Int)(x2 x3:List T)(x4:Int):spec_l10All.rd0 n L0 (spec_l10All.st0 x0 x1 x2 x3 x4)=bif (decide (x4<(((x3.length/2):Nat):Int)))then bif inB x4 (x3.length/2)then(LIM F.spec_l10Holds [.rref [.sl 2 x0] 0,.rref [.int .i64 x1,.sl 1 x2] 0,.rref ((x3.drop (x4.toNat*2)).take 2) 0]).bind fun r1=>bB r1 fun b2=>bif (!b2)then some (.bool false,[])else L0 (spec_l10All.st0 x0 x1 x2 x3 (IntKind.wrap .i64 (x4+1)))else none else some (.bool true,[]):=by kernel_rfl
theorem spec_l10All.ev(a0_0:List T)(a1_0:Int)(a1_1 a2:List T):callK prog A H LIM n F.spec_l10All [.rref [.sl 2 a0_0] 0,.rref [.int .i64 a1_0,.sl 1 a1_1] 0,.sl 2 a2]=spec_l10All.at0 n n (spec_l10All.st0 a0_0 a1_0 a1_1 a2 (0:Int)):=by kernel_rfl
theorem spec_l10Bent.ev(a0_0:List T)(a0_1:Int)(a1_0 a2:List T):callK prog A H LIM n F.spec_l10Bent [.rref [.sl 1 a0_0,.int .i64 a0_1] 0,.rref [.sl 2 a1_0] 0,.sl 2 a2]=(LIM F.spec_SignatureFault [.agg [.sl 2 a1_0]]).bind fun r1=>bI r1 fun n2=>bif (n2 != 0)then some (.agg [.int .i64 0,.sl 1 []],[.agg [.sl 1 a0_0,.int .i64 a0_1]])else(LIM F.spec_l5Fault [.rref [.sl 2 a1_0] 0,.sl 2 a2]).bind fun r3=>bI r3 fun n4=>bif (n4 != 0)then some (.agg [.int .i64 0,.sl 1 []],[.agg [.sl 1 a0_0,.int .i64 a0_1]])else(LIM F.spec_l10Draw [.rref [.sl 1 a0_0,.int .i64 a0_1] 0,.rref [.sl 2 a1_0] 0,.sl 2 a2]).bind fun r5=>bS r5 fun c9 n11=>(oAgg r5.1).bind fun c12=>(oCons c12).bind fun p13=>(oInt .i64 p13.1).bind fun n14=>(oCons p13.2).bind fun p15=>(oSl 1 p15.1).bind fun c16=>(oNil p15.2).bind fun _=>(LIM F.spec_l1Chance [.rref [.sl 1 a0_0,.int .i64 n11] 0,.int .i64 9]).bind fun r17=>bS r17 fun c21 n23=>(oBool r17.1).bind fun b24=>bif (!b24)then some (.agg [.int .i64 n14,.sl 1 c16],[.agg [.sl 1 a0_0,.int .i64 n23]])else(LIM F.spec_l1Next [.rref [.sl 1 a0_0,.int .i64 n23] 0,(.int .i64 (((c16.length/1):Nat):Int))]).bind fun r25=>bS r25 fun c29 n31=>(oInt .i64 r25.1).bind fun n32=>(LIM F.spec_l1Next [.rref [.sl 1 a0_0,.int .i64 n31] 0,.int .i64 4]).bind fun r33=>bS r33 fun c37 n39=>(oInt .i64 r33.1).bind fun n40=>bif (n40==0)then(LIM F.spec_l1Pick [.rref [.sl 1 a0_0,.int .i64 n39] 0,.sl 1 [.int .i64 0,.int .i64 4]]).bind fun r41=>bS r41 fun c45 n47=>(oInt .i64 r41.1).bind fun n48=>some (.agg [.int .i64 n48,.sl 1 c16],[.agg [.sl 1 a0_0,.int .i64 n47]])else bif (n40==1)then bif decide (0<=(1:Int))&&decide ((1:Int)<=(((c16.length/1):Nat):Int))&&decide ((((c16.length/1):Nat):Int)<=(((c16.length/1):Nat):Int))then some ((.agg [.int .i64 n14,(.sl 1 ((c16.take ((Int.toNat (((c16.length/1):Nat):Int))*1)).drop (1*1)))]),[.agg [.sl 1 a0_0,.int .i64 n39]])else none else bif (n40==2)then bif inB n32 (c16.length/1)then(c16[n32.toNat*1]?).bind fun e49=>(oSl 1 e49).bind fun c50=>bif Nat.ble ((c50.length+1)*8) (140737488355328*1)then bif inB n32 (c16.length/1)then bif decide ((n32.toNat*1)<c16.length)then some ((.agg [.int .i64 n14,(.sl 1 (List.set (List.set c16 (n32.toNat*1) .hole) (n32.toNat*1) (.sl 1 (c50++[.int .i64 0]:List T))))]),[.agg [.sl 1 a0_0,.int .i64 n39]])else none else none else none else none else bif inB n32 (c16.length/1)then(c16[n32.toNat*1]?).bind fun e51=>(oSl 1 e51).bind fun c52=>(LIM F.spec_l1Pick [.rref [.sl 1 a0_0,.int .i64 n39] 0,.sl 1 [.int .i64 3,.int .i64 (-1)]]).bind fun r53=>bS r53 fun c57 n59=>(oInt .i64 r53.1).bind fun n60=>bif inB (0:Int) (c52.length/1)then bif decide (0+1<=c52.length)then some (.agg [.int .i64 n14,.sl 1 (List.set c16 (n32.toNat*1) (.sl 1 (setCells c52 0 [.int .i64 n60])))],[.agg [.sl 1 a0_0,.int .i64 n59]])else none else none else none:=by kernel_rfl
theorem spec_l10Bit.ev(a0:Bool):callK prog A H LIM n F.spec_l10Bit [.bool a0]=bif a0 then some (.agg [.int .i64 0,.int .i64 1],[])else some (.agg [.int .i64 0,.int .i64 0],[]):=by kernel_rfl
def spec_l10Draw.st0(x0 x1:List T)(x2 x3 x4:Int)(x5:List T)(x6 x7:Int):St:=⟨[(0,(.one (.ptr 1000000 0))),(1,(.one (.t (.rref [(.sl 2 x0)] 0)))),(2,ol 2 x1),(6,(.one (.ptr 384 0))),(7,oi x2),(8,oi x3),(9,oi x4)],[(1000000,(.box [(.kept 0 (.sl 1 x5)),(.t (.int .i64 x6))])),(384,(.box [(.t (.int .i64 x7)),.nil]))]⟩
def spec_l10Draw.K0:=kx F.spec_l10Draw n [.block 0,.seq 0 (cx F.spec_l10Draw [1,1,1,1])] (endOf prog A F.spec_l10Draw)
def spec_l10Draw.at0:=lx F.spec_l10Draw n 0 [1,1,1,0,1,0,0] (spec_l10Draw.K0 n) m s
def spec_l10Draw.rd0:=rx F.spec_l10Draw n 0 [1,1,1,0,1,0,0] (spec_l10Draw.K0 n) L0 s
theorem spec_l10Draw.next0:spec_l10Draw.at0 n (m+1) s=spec_l10Draw.rd0 n (spec_l10Draw.at0 n m) s:=nx ..
theorem spec_l10Draw.round0(x0 x1:List T)(x2 x3 x4:Int)(x5:List T)(x6 x7:Int):spec_l10Draw.rd0 n L0 (spec_l10Draw.st0 x0 x1 x2 x3 x4 x5 x6 x7)=bif (decide (x4<12))then(LIM F.spec_l10Make [.rref [.sl 2 x0] 0,.int .i64 x2,.int .i64 (IntKind.wrap .i64 (x3+(IntKind.wrap .i64 (x4*97))))]).bind fun r17=>(oNil r17.2).bind fun _=>(oAgg r17.1).bind fun c18=>(oCons c18).bind fun p19=>(oInt .i64 p19.1).bind fun n20=>(oCons p19.2).bind fun p21=>(oSl 1 p21.1).bind fun c22=>(oNil p21.2).bind fun _=>(LIM F.spec_l10All [.rref [.sl 2 x0] 0,.rref [.int .i64 n20,.sl 1 c22] 0,.sl 2 x1]).bind fun r23=>bB r23 fun b24=>bif b24 then some (.agg [.int .i64 n20,.sl 1 c22],[.agg [.sl 1 x5,.int .i64 x6]])else L0 (spec_l10Draw.st0 x0 x1 x2 x3 (IntKind.wrap .i64 (x4+1)) x5 x6 x7)else(LIM F.spec_l1Pick [.rref [.sl 1 x5,.int .i64 x6] 0,.sl 1 [.int .i64 1,.int .i64 2,.int .i64 3]]).bind fun r25=>bS r25 fun c29 n31=>(oInt .i64 r25.1).bind fun n32=>(LIM F.spec_l10Make [.rref [.sl 2 x0] 0,.int .i64 n32,.int .i64 x3]).bind fun r33=>(oNil r33.2).bind fun _=>(oAgg r33.1).bind fun c34=>(oCons c34).bind fun p35=>(oInt .i64 p35.1).bind fun n36=>(oCons p35.2).bind fun p37=>(oSl 1 p37.1).bind fun c38=>(oNil p37.2).bind fun _=>some (.agg [.int .i64 n36,.sl 1 c38],[.agg [.sl 1 x5,.int .i64 n31]]):=by kernel_rfl
theorem spec_l10Draw.ev(a0_0:List T)(a0_1:Int)(a1_0 a2:List T):callK prog A H LIM n F.spec_l10Draw [.rref [.sl 1 a0_0,.int .i64 a0_1] 0,.rref [.sl 2 a1_0] 0,.sl 2 a2]=(LIM F.spec_l1Pick [.rref [.sl 1 a0_0,.int .i64 a0_1] 0,.sl 1 [.int .i64 1,.int .i64 2,.int .i64 2,.int .i64 3]]).bind fun r1=>bS r1 fun c5 n7=>(oInt .i64 r1.1).bind fun n8=>(LIM F.spec_l1Next [.rref [.sl 1 a0_0,.int .i64 n7] 0,.int .i64 60000]).bind fun r9=>bS r9 fun c13 n15=>(oInt .i64 r9.1).bind fun n16=>spec_l10Draw.at0 n n (spec_l10Draw.st0 a1_0 a2 n8 n16 (0:Int) a0_0 n15 (0:Int)):=by kernel_rfl
def spec_l10Eval.st0(x0:List T)(x1:Int)(x2 x3 x4:List T)(x5 x6 x7 x8:Int):St:=⟨[(0,(.one (.t (.rref [(.sl 2 x0)] 0)))),(1,(.one (.t (.rref [(.int .i64 x1),(.sl 1 x2)] 0)))),(2,ol 1 x3),(3,ol 1 x4),(4,oi x5),(11,oi x6),(12,oi x7),(13,oi x8)],[]⟩
def spec_l10Eval.K0:=kx F.spec_l10Eval n [.block 0,.seq 0 (cx F.spec_l10Eval [1,1,1,1,1])] (endOf prog A F.spec_l10Eval)
def spec_l10Eval.at0:=lx F.spec_l10Eval n 0 [1,1,1,1,0,1,0,0] (spec_l10Eval.K0 n) m s
def spec_l10Eval.rd0:=rx F.spec_l10Eval n 0 [1,1,1,1,0,1,0,0] (spec_l10Eval.K0 n) L0 s
theorem spec_l10Eval.next0:spec_l10Eval.at0 n (m+1) s=spec_l10Eval.rd0 n (spec_l10Eval.at0 n m) s:=nx ..
theorem spec_l10Eval.round0(x0:List T)(x1:Int)(x2 x3 x4:List T)(x5 x6 x7 x8:Int):spec_l10Eval.rd0 n L0 (spec_l10Eval.st0 x0 x1 x2 x3 x4 x5 x6 x7 x8)=bif inB x5 (x4.length/1)then(x4[x5.toNat*1]?).bind fun e7=>(oInt .i64 e7).bind fun n8=>bif inB n8 (x0.length/2)then(x0[(n8.toNat*2)+1]?).bind fun e9=>(oInt .i64 e9).bind fun n10=>bif (decide (x8<n10))then(LIM F.spec_l10Eval [.rref [.sl 2 x0] 0,.rref [.int .i64 x1,.sl 1 x2] 0,.sl 1 x3,.sl 1 x4,.int .i64 x7]).bind fun r11=>bI r11 fun n12=>(LIM F.spec_l3End [.rref [.sl 2 x0] 0,.sl 1 x4,.int .i64 x7]).bind fun r13=>bI r13 fun n14=>L0 (spec_l10Eval.st0 x0 x1 x2 x3 x4 x5 (IntKind.wrap .i64 ((IntKind.wrap .i64 (x6*x1))+n12)) n14 (IntKind.wrap .i64 (x8+1)))else bif inB x5 (x4.length/1)then(x4[x5.toNat*1]?).bind fun e15=>(oInt .i64 e15).bind fun n16=>bif inB n16 (x2.length/1)then(x2[n16.toNat*1]?).bind fun e17=>(oSl 1 e17).bind fun c18=>bif inB x6 (c18.length/1)then(c18[x6.toNat*1]?).bind fun e19=>(oInt .i64 e19).bind fun n20=>some (.int .i64 n20,[])else none else none else none else none else none:=by kernel_rfl
theorem spec_l10Eval.ev(a0_0:List T)(a1_0:Int)(a1_1 a2 a3:List T)(a4:Int):callK prog A H LIM n F.spec_l10Eval [.rref [.sl 2 a0_0] 0,.rref [.int .i64 a1_0,.sl 1 a1_1] 0,.sl 1 a2,.sl 1 a3,.int .i64 a4]=bif inB a4 (a3.length/1)then(a3[a4.toNat*1]?).bind fun e1=>(oInt .i64 e1).bind fun n2=>bif (decide (n2<0))then bif inB a4 (a3.length/1)then(a3[a4.toNat*1]?).bind fun e3=>(oInt .i64 e3).bind fun n4=>bif inB (IntKind.wrap .i64 ((-1:Int)-n4)) (a2.length/1)then(a2[(Int.toNat (IntKind.wrap .i64 ((-1:Int)-n4)))*1]?).bind fun e5=>(oInt .i64 e5).bind fun n6=>some (.int .i64 n6,[])else none else none else spec_l10Eval.at0 n n (spec_l10Eval.st0 a0_0 a1_0 a1_1 a2 a3 a4 (0:Int) (IntKind.wrap .i64 (a4+1)) (0:Int))else none:=by kernel_rfl
def spec_l10Holds.st2(x0:List T)(x1:Int)(x2 x3 x4:List T)(x5 x6 x7:Int)(x8:List T):St:=⟨[(0,(.one (.t (.rref [(.sl 2 x0)] 0)))),(1,(.one (.t (.rref [(.int .i64 x1),(.sl 1 x2)] 0)))),(2,(.one (.t (.rref [(.sl 1 x3),(.sl 1 x4)] 0)))),(7,oi x5),(8,(.one (.obj 1280))),(9,oi x6),(10,oi x7)],[(1280,(.arr true true 1 x8))]⟩
def spec_l10Holds.st0(x0:List T)(x1:Int)(x2 x3 x4:List T)(x5:Int):St:=⟨[(0,(.one (.t (.rref [(.sl 2 x0)] 0)))),(1,(.one (.t (.rref [(.int .i64 x1),(.sl 1 x2)] 0)))),(2,(.one (.t (.rref [(.sl 1 x3),(.sl 1 x4)] 0)))),(7,oi x5)],[]⟩
def spec_l10Holds.K0:=kx F.spec_l10Holds n [.block 0,.seq 0 (cx F.spec_l10Holds [1,1])] (endOf prog A F.spec_l10Holds)
def spec_l10Holds.at0:=lx F.spec_l10Holds n 0 [1,0,1,0,0] (spec_l10Holds.K0 n) m s
def spec_l10Holds.rd0:=rx F.spec_l10Holds n 0 [1,0,1,0,0] (spec_l10Holds.K0 n) L0 s
theorem spec_l10Holds.next0:spec_l10Holds.at0 n (m+1) s=spec_l10Holds.rd0 n (spec_l10Holds.at0 n m) s:=nx ..
def spec_l10Holds.K2:=kx F.spec_l10Holds n [.block 2,.seq 1 (cx F.spec_l10Holds [1,0,1,0,0,1,0,0,1,1,1]),.block 1,.seq 0 (cx F.spec_l10Holds [1,0,1,0,0,1,1])] (bx F.spec_l10Holds 0 (spec_l10Holds.K0 n) L0)
def spec_l10Holds.at2:=lx F.spec_l10Holds n 2 [1,0,1,0,0,1,0,0,1,1,0,1,0,0] (spec_l10Holds.K2 n L0) m s
def spec_l10Holds.rd2:=rx F.spec_l10Holds n 2 [1,0,1,0,0,1,0,0,1,1,0,1,0,0] (spec_l10Holds.K2 n L0) L2 s
theorem spec_l10Holds.next2:spec_l10Holds.at2 n L0 (m+1) s=spec_l10Holds.rd2 n L0 (spec_l10Holds.at2 n L0 m) s:=nx ..
theorem spec_l10Holds.round0(x0:List T)(x1:Int)(x2 x3 x4:List T)(x5:Int):spec_l10Holds.rd0 n L0 (spec_l10Holds.st0 x0 x1 x2 x3 x4 x5)=(LIM F.spec_l10Pow [.int .i64 x1,.int .i64 6]).bind fun r1=>bI r1 fun n2=>bif (decide (x5<n2))then spec_l10Holds.at2 n L0 n (spec_l10Holds.st2 x0 x1 x2 x3 x4 x5 x5 (0:Int) [])else some (.bool true,[]):=by kernel_rfl
theorem spec_l10Holds.round2(x0:List T)(x1:Int)(x2 x3 x4:List T)(x5 x6 x7:Int)(x8:List T):spec_l10Holds.rd2 n L0 L2 (spec_l10Holds.st2 x0 x1 x2 x3 x4 x5 x6 x7 x8)=bif (decide (x7<6))then bif decide (x1=0)then none else bif Nat.ble ((x8.length+1)*8) (140737488355328*1)then bif decide (x1=0)then none else L2 (spec_l10Holds.st2 x0 x1 x2 x3 x4 x5 (IntKind.wrap .i64 (Int.tdiv x6 x1)) (IntKind.wrap .i64 (x7+1)) (x8++[.int .i64 (Int.tmod x6 x1)]:List T))else none else(LIM F.spec_l10Eval [.rref [.sl 2 x0] 0,.rref [.int .i64 x1,.sl 1 x2] 0,.sl 1 x8,.sl 1 x3,.int .i64 0]).bind fun r3=>bI r3 fun n4=>(LIM F.spec_l10Eval [.rref [.sl 2 x0] 0,.rref [.int .i64 x1,.sl 1 x2] 0,.sl 1 x8,.sl 1 x4,.int .i64 0]).bind fun r5=>bI r5 fun n6=>bif (n4 != n6)then some (.bool false,[])else L0 (spec_l10Holds.st0 x0 x1 x2 x3 x4 (IntKind.wrap .i64 (x5+1))):=by kernel_rfl
theorem spec_l10Holds.ev(a0_0:List T)(a1_0:Int)(a1_1 a2_0 a2_1:List T):callK prog A H LIM n F.spec_l10Holds [.rref [.sl 2 a0_0] 0,.rref [.int .i64 a1_0,.sl 1 a1_1] 0,.rref [.sl 1 a2_0,.sl 1 a2_1] 0]=spec_l10Holds.at0 n n (spec_l10Holds.st0 a0_0 a1_0 a1_1 a2_0 a2_1 (0:Int)):=by kernel_rfl
def spec_l10Make.st2(x0:List T)(x1 x2 x3 x4 x5 x6:Int)(x7 x8:List T):St:=⟨[(0,(.one (.t (.rref [(.sl 2 x0)] 0)))),(1,oi x1),(2,oi x2),(6,(.one (.ptr 384 0))),(7,(.one (.ptr 448 0))),(8,oi x3),(9,(.one (.obj 1408))),(10,oi x4)],[(384,(.box [(.t (.int .i64 x5)),.nil])),(448,(.box [(.t (.int .i64 x6)),(.obj 517169)])),(517169,(.arr true true 1 x7)),(1408,(.arr true true 1 x8))]⟩
def spec_l10Make.st0(x0:List T)(x1 x2 x3 x4 x5:Int)(x6:List T):St:=⟨[(0,(.one (.t (.rref [(.sl 2 x0)] 0)))),(1,oi x1),(2,oi x2),(6,(.one (.ptr 384 0))),(7,(.one (.ptr 448 0))),(8,oi x3)],[(384,(.box [(.t (.int .i64 x4)),.nil])),(448,(.box [(.t (.int .i64 x5)),(.obj 517169)])),(517169,(.arr true true 1 x6))]⟩
def spec_l10Make.K0:=kx F.spec_l10Make n [.block 0,.seq 0 (cx F.spec_l10Make [1,1,1])] (endOf prog A F.spec_l10Make)
def spec_l10Make.at0:=lx F.spec_l10Make n 0 [1,1,0,1,0,0] (spec_l10Make.K0 n) m s
def spec_l10Make.rd0:=rx F.spec_l10Make n 0 [1,1,0,1,0,0] (spec_l10Make.K0 n) L0 s
theorem spec_l10Make.next0:spec_l10Make.at0 n (m+1) s=spec_l10Make.rd0 n (spec_l10Make.at0 n m) s:=nx ..
def spec_l10Make.K2:=kx F.spec_l10Make n [.block 2,.seq 1 (cx F.spec_l10Make [1,1,0,1,0,0,1,0,0,1,1]),.block 1,.seq 0 (cx F.spec_l10Make [1,1,0,1,0,0,1,1])] (bx F.spec_l10Make 0 (spec_l10Make.K0 n) L0)
def spec_l10Make.at2:=lx F.spec_l10Make n 2 [1,1,0,1,0,0,1,0,0,1,0,1,0,0] (spec_l10Make.K2 n L0) m s
def spec_l10Make.rd2:=rx F.spec_l10Make n 2 [1,1,0,1,0,0,1,0,0,1,0,1,0,0] (spec_l10Make.K2 n L0) L2 s
theorem spec_l10Make.next2:spec_l10Make.at2 n L0 (m+1) s=spec_l10Make.rd2 n L0 (spec_l10Make.at2 n L0 m) s:=nx ..
theorem spec_l10Make.round0(x0:List T)(x1 x2 x3 x4 x5:Int)(x6:List T):spec_l10Make.rd0 n L0 (spec_l10Make.st0 x0 x1 x2 x3 x4 x5 x6)=bif (decide (x3<(((x0.length/2):Nat):Int)))then bif inB x3 (x0.length/2)then(x0[(x3.toNat*2)+1]?).bind fun e1=>(oInt .i64 e1).bind fun n2=>(LIM F.spec_l10Pow [.int .i64 x1,.int .i64 n2]).bind fun r3=>bI r3 fun n4=>spec_l10Make.at2 n L0 n (spec_l10Make.st2 x0 x1 x2 x3 n4 x4 x5 x6 [])else none else some (.agg [.int .i64 x5,.sl 1 x6],[]):=by kernel_rfl
theorem spec_l10Make.round2(x0:List T)(x1 x2 x3 x4 x5 x6:Int)(x7 x8:List T):spec_l10Make.rd2 n L0 L2 (spec_l10Make.st2 x0 x1 x2 x3 x4 x5 x6 x7 x8)=bif (decide (x4>0))then bif decide (x1=0)then none else bif Nat.ble ((x8.length+1)*8) (140737488355328*1)then L2 (spec_l10Make.st2 x0 x1 (Int.tmod (IntKind.wrap .i64 ((IntKind.wrap .i64 ((227:Int)*x2))+1)) (65521:Int)) x3 (IntKind.wrap .i64 (x4-1)) x5 x6 x7 (x8++[.int .i64 (Int.tmod (Int.tmod (IntKind.wrap .i64 ((IntKind.wrap .i64 ((227:Int)*x2))+1)) (65521:Int)) x1)]:List T))else none else bif Nat.ble ((x7.length+1)*24) (140737488355328*1)then L0 (spec_l10Make.st0 x0 x1 x2 (IntKind.wrap .i64 (x3+1)) x5 x6 (x7++[.sl 1 x8]:List T))else none:=by kernel_rfl
theorem spec_l10Make.ev(a0_0:List T)(a1 a2:Int):callK prog A H LIM n F.spec_l10Make [.rref [.sl 2 a0_0] 0,.int .i64 a1,.int .i64 a2]=spec_l10Make.at0 n n (spec_l10Make.st0 a0_0 a1 a2 (0:Int) (0:Int) a1 []):=by kernel_rfl
theorem spec_l10Pow.ev(a0 a1:Int):callK prog A H LIM n F.spec_l10Pow [.int .i64 a0,.int .i64 a1]=bif (a1==0)then some (.int .i64 1,[])else(LIM F.spec_l10Pow [.int .i64 a0,.int .i64 (IntKind.wrap .i64 (a1-1))]).bind fun r1=>bI r1 fun n2=>some (.int .i64 (IntKind.wrap .i64 (a0*n2)),[]):=by kernel_rfl
theorem spec_l1Chance.ev(a0_0:List T)(a0_1 a1:Int):callK prog A H LIM n F.spec_l1Chance [.rref [.sl 1 a0_0,.int .i64 a0_1] 0,.int .i64 a1]=(LIM F.spec_l1Next [.rref [.sl 1 a0_0,.int .i64 a0_1] 0,.int .i64 a1]).bind fun r1=>bS r1 fun c5 n7=>(oInt .i64 r1.1).bind fun n8=>some (.bool (n8==0),[.agg [.sl 1 a0_0,.int .i64 n7]]):=by kernel_rfl
def spec_l1Cut.st0(x0:ByteArray)(x1 x2 x3:Int)(x4:List T):St:=⟨[(0,(.one (.t (.str x0)))),(1,(.one (.t (.int .u8 x1)))),(5,(.one (.obj 512))),(6,oi x2),(7,oi x3)],[(512,(.arr true true 1 x4))]⟩
def spec_l1Cut.K0:=kx F.spec_l1Cut n [.block 0,.seq 0 (cx F.spec_l1Cut [1,1,1,1])] (endOf prog A F.spec_l1Cut)
def spec_l1Cut.at0:=lx F.spec_l1Cut n 0 [1,1,1,0,1,0,0] (spec_l1Cut.K0 n) m s
def spec_l1Cut.rd0:=rx F.spec_l1Cut n 0 [1,1,1,0,1,0,0] (spec_l1Cut.K0 n) L0 s
theorem spec_l1Cut.next0:spec_l1Cut.at0 n (m+1) s=spec_l1Cut.rd0 n (spec_l1Cut.at0 n m) s:=nx ..
theorem spec_l1Cut.round0(x0:ByteArray)(x1 x2 x3:Int)(x4:List T):spec_l1Cut.rd0 n L0 (spec_l1Cut.st0 x0 x1 x2 x3 x4)=bif (decide (x3<=(x0.size:Int)))then bif (x3==(x0.size:Int))then bif decide (0<=x2)&&decide (x2<=x3)&&decide (x3<=(x0.size:Int))then bif Nat.ble ((x4.length+1)*16) (140737488355328*1)then L0 (spec_l1Cut.st0 x0 x1 (IntKind.wrap .i64 (x3+1)) (IntKind.wrap .i64 (x3+1)) (x4++[.str (x0.extract x2.toNat x3.toNat)]:List T))else none else none else bif inB x3 x0.size then bif ((((x0.data.getD x3.toNat 0).toNat:Int)==x1))then bif decide (0<=x2)&&decide (x2<=x3)&&decide (x3<=(x0.size:Int))then bif Nat.ble ((x4.length+1)*16) (140737488355328*1)then L0 (spec_l1Cut.st0 x0 x1 (IntKind.wrap .i64 (x3+1)) (IntKind.wrap .i64 (x3+1)) (x4++[.str (x0.extract x2.toNat x3.toNat)]:List T))else none else none else L0 (spec_l1Cut.st0 x0 x1 x2 (IntKind.wrap .i64 (x3+1)) x4)else none else some (.sl 1 x4,[]):=by kernel_rfl
theorem spec_l1Cut.ev(a0:ByteArray)(a1:Int):callK prog A H LIM n F.spec_l1Cut [.str a0,.int .u8 a1]=spec_l1Cut.at0 n n (spec_l1Cut.st0 a0 a1 (0:Int) (0:Int) []):=by kernel_rfl
theorem spec_l1In.ev(a0 a1 a2:Int):callK prog A H LIM n F.spec_l1In [.int .i64 a0,.int .i64 a1,.int .i64 a2]=bif (decide (a0>=a1))then some (.bool (decide (a0<=a2)),[])else some (.bool false,[]):=by kernel_rfl
theorem spec_l1Ints.ev(a0:List T):callK prog A H LIM n F.spec_l1Ints [.sl 1 a0]=bif a0.all T.scalar then bif Nat.ble ((0+a0.length)*8) (140737488355328*1)then some (.sl 1 a0,[])else none else none:=by kernel_rfl
theorem spec_l1Next.ev(a0_0:List T)(a0_1 a1:Int):callK prog A H LIM n F.spec_l1Next [.rref [.sl 1 a0_0,.int .i64 a0_1] 0,.int .i64 a1]=bif (decide (a1<1))then some (.int .i64 0,[.agg [.sl 1 a0_0,.int .i64 (IntKind.wrap .i64 (a0_1+1))]])else bif (((((a0_0.length/1):Nat):Int)==0))then bif decide (a1=0)then none else some (.int .i64 (Int.tmod (IntKind.wrap .i64 ((IntKind.wrap .i64 ((IntKind.wrap .i64 (a0_1+1))-1))*7)) a1),[.agg [.sl 1 a0_0,.int .i64 (IntKind.wrap .i64 (a0_1+1))]])else bif decide ((((a0_0.length/1):Nat):Int)=0)then none else bif inB (Int.tmod (IntKind.wrap .i64 ((IntKind.wrap .i64 (a0_1+1))-1)) (((a0_0.length/1):Nat):Int)) (a0_0.length/1)then(a0_0[((Int.toNat (Int.tmod (IntKind.wrap .i64 ((IntKind.wrap .i64 (a0_1+1))-1)) (((a0_0.length/1):Nat):Int)))*1)]?).bind fun e1=>(oInt .u8 e1).bind fun n2=>bif decide ((((a0_0.length/1):Nat):Int)=0)then none else bif (decide (a1>200))then bif decide ((((a0_0.length/1):Nat):Int)=0)then none else bif inB (Int.tmod (IntKind.wrap .i64 ((IntKind.wrap .i64 ((IntKind.wrap .i64 (a0_1+1))-1))+1)) (((a0_0.length/1):Nat):Int)) (a0_0.length/1)then(a0_0[((Int.toNat (Int.tmod (IntKind.wrap .i64 ((IntKind.wrap .i64 ((IntKind.wrap .i64 (a0_1+1))-1))+1)) (((a0_0.length/1):Nat):Int)))*1)]?).bind fun e3=>(oInt .u8 e3).bind fun n4=>bif decide (a1=0)then none else some ((.int .i64 (Int.tmod (IntKind.wrap .i64 ((IntKind.wrap .i64 ((IntKind.wrap .i64 ((IntKind.wrap .i64 ((IntKind.wrap .i64 n2)+(IntKind.wrap .i64 ((IntKind.wrap .i64 (Int.tdiv (IntKind.wrap .i64 ((IntKind.wrap .i64 (a0_1+1))-1)) (((a0_0.length/1):Nat):Int)))*37))))*251))+(IntKind.wrap .i64 ((IntKind.wrap .i64 n4)*13))))+(IntKind.wrap .i64 ((IntKind.wrap .i64 (a0_1+1))-1)))) a1)),[.agg [.sl 1 a0_0,.int .i64 (IntKind.wrap .i64 (a0_1+1))]])else none else bif decide (a1=0)then none else some ((.int .i64 (Int.tmod (IntKind.wrap .i64 ((IntKind.wrap .i64 n2)+(IntKind.wrap .i64 ((IntKind.wrap .i64 (Int.tdiv (IntKind.wrap .i64 ((IntKind.wrap .i64 (a0_1+1))-1)) (((a0_0.length/1):Nat):Int)))*37)))) a1)),[.agg [.sl 1 a0_0,.int .i64 (IntKind.wrap .i64 (a0_1+1))]])else none:=by kernel_rfl
theorem spec_l1Pick.ev(a0_0:List T)(a0_1:Int)(a1:List T):callK prog A H LIM n F.spec_l1Pick [.rref [.sl 1 a0_0,.int .i64 a0_1] 0,.sl 1 a1]=(LIM F.spec_l1Next [.rref [.sl 1 a0_0,.int .i64 a0_1] 0,(.int .i64 (((a1.length/1):Nat):Int))]).bind fun r1=>bS r1 fun c5 n7=>(oInt .i64 r1.1).bind fun n8=>bif inB n8 (a1.length/1)then(a1[n8.toNat*1]?).bind fun e9=>(oInt .i64 e9).bind fun n10=>some (.int .i64 n10,[.agg [.sl 1 a0_0,.int .i64 n7]])else none:=by kernel_rfl
def spec_l1Rise.st0(x0:List T)(x1:Int):St:=⟨[(0,ol 1 x0),(3,oi x1)],[]⟩
def spec_l1Rise.K0:=kx F.spec_l1Rise n [.block 0,.seq 0 (cx F.spec_l1Rise [1,1])] (endOf prog A F.spec_l1Rise)
def spec_l1Rise.at0:=lx F.spec_l1Rise n 0 [1,0,1,0,0] (spec_l1Rise.K0 n) m s
def spec_l1Rise.rd0:=rx F.spec_l1Rise n 0 [1,0,1,0,0] (spec_l1Rise.K0 n) L0 s
theorem spec_l1Rise.next0:spec_l1Rise.at0 n (m+1) s=spec_l1Rise.rd0 n (spec_l1Rise.at0 n m) s:=nx ..
theorem spec_l1Rise.round0(x0:List T)(x1:Int):spec_l1Rise.rd0 n L0 (spec_l1Rise.st0 x0 x1)=bif (decide (x1<(((x0.length/1):Nat):Int)))then bif inB x1 (x0.length/1)then(x0[x1.toNat*1]?).bind fun e1=>(oInt .i64 e1).bind fun n2=>bif inB (IntKind.wrap .i64 (x1-1)) (x0.length/1)then(x0[(Int.toNat (IntKind.wrap .i64 (x1-1)))*1]?).bind fun e3=>(oInt .i64 e3).bind fun n4=>bif (decide (n2<=n4))then some (.bool false,[])else L0 (spec_l1Rise.st0 x0 (IntKind.wrap .i64 (x1+1)))else none else none else some (.bool true,[]):=by kernel_rfl
theorem spec_l1Rise.ev(a0:List T):callK prog A H LIM n F.spec_l1Rise [.sl 1 a0]=spec_l1Rise.at0 n n (spec_l1Rise.st0 a0 (1:Int)):=by kernel_rfl
theorem spec_l1Source.ev(a0:List T):callK prog A H LIM n F.spec_l1Source [.sl 1 a0]=some (.bx [.sl 1 a0,.int .i64 0],[]):=by kernel_rfl
def spec_l2Bent.st3(x0 x1:Int)(x2:List T)(x3:Int)(x4:List T):St:=⟨[(0,(.one (.ptr 1000000 0))),(2,(.one (.ptr 128 0))),(3,(.one (.ptr 192 0))),(4,oi x0),(5,oi x1)],[(1000000,(.box [(.kept 0 (.sl 1 x2)),(.t (.int .i64 x3))])),(128,(.box [.nil])),(448,(.arr true true 2 x4)),(192,(.box [(.obj 448)]))]⟩
def spec_l2Bent.st1(x0:List T)(x1:Int)(x2:List T):St:=⟨[(0,(.one (.ptr 1000000 0))),(2,(.one (.ptr 128 0))),(3,(.one (.ptr 192 0)))],[(1000000,(.box [(.kept 0 (.sl 1 x0)),(.t (.int .i64 x1))])),(128,(.box [.nil])),(448,(.arr true true 2 x2)),(192,(.box [(.obj 448)]))]⟩
def spec_l2Bent.K1:=kx F.spec_l2Bent n [.block 1,.block 0,.seq 0 (cx F.spec_l2Bent [1,1,1,1,1])] (endOf prog A F.spec_l2Bent)
def spec_l2Bent.at1:=lx F.spec_l2Bent n 1 [1,1,1,1,0,1,0,1,1,1,1,1,1,1,1,1,1,1,1,0,0] (spec_l2Bent.K1 n) m s
def spec_l2Bent.rd1:=rx F.spec_l2Bent n 1 [1,1,1,1,0,1,0,1,1,1,1,1,1,1,1,1,1,1,1,0,0] (spec_l2Bent.K1 n) L1 s
theorem spec_l2Bent.next1:spec_l2Bent.at1 n (m+1) s=spec_l2Bent.rd1 n (spec_l2Bent.at1 n m) s:=nx ..
def spec_l2Bent.K3:=kx F.spec_l2Bent n [.block 3,.block 0,.seq 0 (cx F.spec_l2Bent [1,1,1,1,1])] (endOf prog A F.spec_l2Bent)
def spec_l2Bent.at3:=lx F.spec_l2Bent n 3 [1,1,1,1,0,1,0,1,1,1,1,1,1,1,1,1,1,1,0,1,0,0] (spec_l2Bent.K3 n) m s
def spec_l2Bent.rd3:=rx F.spec_l2Bent n 3 [1,1,1,1,0,1,0,1,1,1,1,1,1,1,1,1,1,1,0,1,0,0] (spec_l2Bent.K3 n) L3 s
theorem spec_l2Bent.next3:spec_l2Bent.at3 n (m+1) s=spec_l2Bent.rd3 n (spec_l2Bent.at3 n m) s:=nx ..
theorem spec_l2Bent.round1(x0:List T)(x1:Int)(x2:List T):spec_l2Bent.rd1 n L1 (spec_l2Bent.st1 x0 x1 x2)=bif (decide ((((x2.length/2):Nat):Int)<7))then bif Nat.ble ((x2.length+2)*24) (140737488355328*2)then L1 (spec_l2Bent.st1 x0 x1 (x2++[.str (ByteArray.mk #[122]),.int .i64 0]:List T))else none else some (.agg [.sl 2 x2],[.agg [.sl 1 x0,.int .i64 x1]]):=by kernel_rfl
theorem spec_l2Bent.round3(x0 x1:Int)(x2:List T)(x3:Int)(x4:List T):spec_l2Bent.rd3 n L3 (spec_l2Bent.st3 x0 x1 x2 x3 x4)=bif (decide (x1<x0))then bif inB x1 (x4.length/2)then bif decide (((x1.toNat*2)+1)+1<=x4.length)then L3 (spec_l2Bent.st3 x0 (IntKind.wrap .i64 (x1+1)) x2 x3 (setCells x4 ((x1.toNat*2)+1) [.int .i64 1]))else none else none else some (.agg [.sl 2 x4],[.agg [.sl 1 x2,.int .i64 x3]]):=by kernel_rfl
theorem spec_l2Bent.ev(a0_0:List T)(a0_1:Int):callK prog A H LIM n F.spec_l2Bent [.rref [.sl 1 a0_0,.int .i64 a0_1] 0]=(LIM F.spec_l2Sig [.rref [.sl 1 a0_0,.int .i64 a0_1] 0]).bind fun r1=>bS r1 fun c5 n7=>(oAgg r1.1).bind fun c8=>(oCons c8).bind fun p9=>(oSl 2 p9.1).bind fun c10=>(oNil p9.2).bind fun _=>(LIM F.spec_l1Chance [.rref [.sl 1 a0_0,.int .i64 n7] 0,.int .i64 9]).bind fun r11=>bS r11 fun c15 n17=>(oBool r11.1).bind fun b18=>bif (!b18)then some (.agg [.sl 2 c10],[.agg [.sl 1 a0_0,.int .i64 n17]])else(LIM F.spec_l1Next [.rref [.sl 1 a0_0,.int .i64 n17] 0,.int .i64 7]).bind fun r19=>bS r19 fun c23 n25=>(oInt .i64 r19.1).bind fun n26=>bif (n26==0)then some (.agg [.sl 2 []],[.agg [.sl 1 a0_0,.int .i64 n25]])else bif (n26==1)then bif inB (IntKind.wrap .i64 ((((c10.length/2):Nat):Int)-1)) (c10.length/2)then bif decide (((Int.toNat (IntKind.wrap .i64 ((((c10.length/2):Nat):Int)-1)))*2)+1<=c10.length)then some ((.agg [(.sl 2 (setCells c10 ((Int.toNat (IntKind.wrap .i64 ((((c10.length/2):Nat):Int)-1)))*2) [.str (ByteArray.mk #[97,98,99,100])]))]),[.agg [.sl 1 a0_0,.int .i64 n25]])else none else none else bif (n26==2)then(LIM F.spec_l1Next [.rref [.sl 1 a0_0,.int .i64 n25] 0,(.int .i64 (((c10.length/2):Nat):Int))]).bind fun r27=>bS r27 fun c31 n33=>(oInt .i64 r27.1).bind fun n34=>bif inB n34 (c10.length/2)then bif decide ((n34.toNat*2)+1<=c10.length)then some (.agg [.sl 2 (setCells c10 (n34.toNat*2) [.str (ByteArray.mk #[97,66])])],[.agg [.sl 1 a0_0,.int .i64 n33]])else none else none else bif (n26==3)then(LIM F.spec_l1Next [.rref [.sl 1 a0_0,.int .i64 n25] 0,(.int .i64 (((c10.length/2):Nat):Int))]).bind fun r35=>bS r35 fun c39 n41=>(oInt .i64 r35.1).bind fun n42=>(LIM F.spec_l1Pick [.rref [.sl 1 a0_0,.int .i64 n41] 0,.sl 1 [.int .i64 3,.int .i64 (-1)]]).bind fun r43=>bS r43 fun c47 n49=>(oInt .i64 r43.1).bind fun n50=>bif inB n42 (c10.length/2)then bif decide (((n42.toNat*2)+1)+1<=c10.length)then some (.agg [.sl 2 (setCells c10 ((n42.toNat*2)+1) [.int .i64 n50])],[.agg [.sl 1 a0_0,.int .i64 n49]])else none else none else bif (n26==4)then bif inB (0:Int) (c10.length/2)then(c10[0]?).bind fun e51=>(oStr e51).bind fun s52=>(c10[1]?).bind fun e53=>(oInt .i64 e53).bind fun n54=>bif Nat.ble ((c10.length+2)*24) (140737488355328*2)then some (.agg [.sl 2 (c10++[.str s52,.int .i64 n54]:List T)],[.agg [.sl 1 a0_0,.int .i64 n25]])else none else none else bif (n26==5)then spec_l2Bent.at3 n n (spec_l2Bent.st3 (((c10.length/2):Nat):Int) (0:Int) a0_0 n25 c10)else spec_l2Bent.at1 n n (spec_l2Bent.st1 a0_0 n25 c10):=by kernel_rfl
def spec_l2Find.st0(x0:List T)(x1:ByteArray)(x2:Int):St:=⟨[(0,(.one (.t (.rref [(.sl 2 x0)] 0)))),(1,(.one (.t (.str x1)))),(5,oi x2)],[]⟩
def spec_l2Find.K0:=kx F.spec_l2Find n [.block 0,.seq 0 (cx F.spec_l2Find [1,1])] (endOf prog A F.spec_l2Find)
def spec_l2Find.at0:=lx F.spec_l2Find n 0 [1,0,1,0,0] (spec_l2Find.K0 n) m s
def spec_l2Find.rd0:=rx F.spec_l2Find n 0 [1,0,1,0,0] (spec_l2Find.K0 n) L0 s
theorem spec_l2Find.next0:spec_l2Find.at0 n (m+1) s=spec_l2Find.rd0 n (spec_l2Find.at0 n m) s:=nx ..
theorem spec_l2Find.round0(x0:List T)(x1:ByteArray)(x2:Int):spec_l2Find.rd0 n L0 (spec_l2Find.st0 x0 x1 x2)=bif (decide (x2<(((x0.length/2):Nat):Int)))then bif inB x2 (x0.length/2)then(x0[x2.toNat*2]?).bind fun e1=>(oStr e1).bind fun s2=>bif (s2.toList==x1.toList)then some (.int .i64 x2,[])else L0 (spec_l2Find.st0 x0 x1 (IntKind.wrap .i64 (x2+1)))else none else some (.int .i64 (-1),[]):=by kernel_rfl
theorem spec_l2Find.ev(a0_0:List T)(a1:ByteArray):callK prog A H LIM n F.spec_l2Find [.rref [.sl 2 a0_0] 0,.str a1]=spec_l2Find.at0 n n (spec_l2Find.st0 a0_0 a1 (0:Int)):=by kernel_rfl
def spec_l2Name.st0(x0:ByteArray)(x1:Int):St:=⟨[(0,(.one (.t (.str x0)))),(3,oi x1)],[]⟩
def spec_l2Name.K0:=kx F.spec_l2Name n [.block 0,.seq 0 (cx F.spec_l2Name [1,1,1])] (endOf prog A F.spec_l2Name)
def spec_l2Name.at0:=lx F.spec_l2Name n 0 [1,1,0,1,0,0] (spec_l2Name.K0 n) m s
def spec_l2Name.rd0:=rx F.spec_l2Name n 0 [1,1,0,1,0,0] (spec_l2Name.K0 n) L0 s
theorem spec_l2Name.next0:spec_l2Name.at0 n (m+1) s=spec_l2Name.rd0 n (spec_l2Name.at0 n m) s:=nx ..
theorem spec_l2Name.round0(x0:ByteArray)(x1:Int):spec_l2Name.rd0 n L0 (spec_l2Name.st0 x0 x1)=bif (decide (x1<(x0.size:Int)))then bif inB x1 x0.size then bif (decide (((x0.data.getD x1.toNat 0).toNat:Int)<97))then some (.bool false,[])else bif inB x1 x0.size then bif (decide (((x0.data.getD x1.toNat 0).toNat:Int)>122))then some (.bool false,[])else L0 (spec_l2Name.st0 x0 (IntKind.wrap .i64 (x1+1)))else none else none else some (.bool true,[]):=by kernel_rfl
theorem spec_l2Name.ev(a0:ByteArray):callK prog A H LIM n F.spec_l2Name [.str a0]=bif (decide ((a0.size:Int)<1))then some (.bool false,[])else bif (decide ((a0.size:Int)>3))then some (.bool false,[])else spec_l2Name.at0 n n (spec_l2Name.st0 a0 (0:Int)):=by kernel_rfl
theorem spec_l2Sig.ev(a0_0:List T)(a0_1:Int):callK prog A H LIM n F.spec_l2Sig [.rref [.sl 1 a0_0,.int .i64 a0_1] 0]=(LIM F.spec_l1Next [.rref [.sl 1 a0_0,.int .i64 a0_1] 0,.int .i64 8]).bind fun r1=>bS r1 fun c5 n7=>(oInt .i64 r1.1).bind fun n8=>bif (n8==0)then bif (n8==0)then some (.agg [.sl 2 [.str (ByteArray.mk #[101]),.int .i64 0,.str (ByteArray.mk #[105]),.int .i64 1,.str (ByteArray.mk #[109]),.int .i64 2,.str (ByteArray.mk #[97]),.int .i64 0]],[.agg [.sl 1 a0_0,.int .i64 n7]])else bif (n8==3)then bif (n8==3)then some (.agg [.sl 2 [.str (ByteArray.mk #[97]),.int .i64 0,.str (ByteArray.mk #[115,117,99]),.int .i64 1,.str (ByteArray.mk #[97,100,100]),.int .i64 2,.str (ByteArray.mk #[98]),.int .i64 0]],[.agg [.sl 1 a0_0,.int .i64 n7]])else bif (n8==5)then some (.agg [.sl 2 [.str (ByteArray.mk #[97]),.int .i64 0,.str (ByteArray.mk #[102]),.int .i64 1,.str (ByteArray.mk #[103]),.int .i64 1]],[.agg [.sl 1 a0_0,.int .i64 n7]])else bif (n8==6)then some (.agg [.sl 2 [.str (ByteArray.mk #[97]),.int .i64 0,.str (ByteArray.mk #[98]),.int .i64 0,.str (ByteArray.mk #[101]),.int .i64 0,.str (ByteArray.mk #[109]),.int .i64 2,.str (ByteArray.mk #[105]),.int .i64 1,.str (ByteArray.mk #[115,117,99]),.int .i64 1]],[.agg [.sl 1 a0_0,.int .i64 n7]])else some (.agg [.sl 2 [.str (ByteArray.mk #[97]),.int .i64 0]],[.agg [.sl 1 a0_0,.int .i64 n7]])else bif (n8==4)then some (.agg [.sl 2 [.str (ByteArray.mk #[97]),.int .i64 0,.str (ByteArray.mk #[115,117,99]),.int .i64 1,.str (ByteArray.mk #[97,100,100]),.int .i64 2,.str (ByteArray.mk #[98]),.int .i64 0]],[.agg [.sl 1 a0_0,.int .i64 n7]])else bif (n8==5)then some (.agg [.sl 2 [.str (ByteArray.mk #[97]),.int .i64 0,.str (ByteArray.mk #[102]),.int .i64 1,.str (ByteArray.mk #[103]),.int .i64 1]],[.agg [.sl 1 a0_0,.int .i64 n7]])else bif (n8==6)then some (.agg [.sl 2 [.str (ByteArray.mk #[97]),.int .i64 0,.str (ByteArray.mk #[98]),.int .i64 0,.str (ByteArray.mk #[101]),.int .i64 0,.str (ByteArray.mk #[109]),.int .i64 2,.str (ByteArray.mk #[105]),.int .i64 1,.str (ByteArray.mk #[115,117,99]),.int .i64 1]],[.agg [.sl 1 a0_0,.int .i64 n7]])else some (.agg [.sl 2 [.str (ByteArray.mk #[97]),.int .i64 0]],[.agg [.sl 1 a0_0,.int .i64 n7]])else bif (n8==1)then bif (n8==1)then some (.agg [.sl 2 [.str (ByteArray.mk #[101]),.int .i64 0,.str (ByteArray.mk #[105]),.int .i64 1,.str (ByteArray.mk #[109]),.int .i64 2,.str (ByteArray.mk #[97]),.int .i64 0]],[.agg [.sl 1 a0_0,.int .i64 n7]])else bif (n8==3)then bif (n8==3)then some (.agg [.sl 2 [.str (ByteArray.mk #[97]),.int .i64 0,.str (ByteArray.mk #[115,117,99]),.int .i64 1,.str (ByteArray.mk #[97,100,100]),.int .i64 2,.str (ByteArray.mk #[98]),.int .i64 0]],[.agg [.sl 1 a0_0,.int .i64 n7]])else bif (n8==5)then some (.agg [.sl 2 [.str (ByteArray.mk #[97]),.int .i64 0,.str (ByteArray.mk #[102]),.int .i64 1,.str (ByteArray.mk #[103]),.int .i64 1]],[.agg [.sl 1 a0_0,.int .i64 n7]])else bif (n8==6)then some (.agg [.sl 2 [.str (ByteArray.mk #[97]),.int .i64 0,.str (ByteArray.mk #[98]),.int .i64 0,.str (ByteArray.mk #[101]),.int .i64 0,.str (ByteArray.mk #[109]),.int .i64 2,.str (ByteArray.mk #[105]),.int .i64 1,.str (ByteArray.mk #[115,117,99]),.int .i64 1]],[.agg [.sl 1 a0_0,.int .i64 n7]])else some (.agg [.sl 2 [.str (ByteArray.mk #[97]),.int .i64 0]],[.agg [.sl 1 a0_0,.int .i64 n7]])else bif (n8==4)then some (.agg [.sl 2 [.str (ByteArray.mk #[97]),.int .i64 0,.str (ByteArray.mk #[115,117,99]),.int .i64 1,.str (ByteArray.mk #[97,100,100]),.int .i64 2,.str (ByteArray.mk #[98]),.int .i64 0]],[.agg [.sl 1 a0_0,.int .i64 n7]])else bif (n8==5)then some (.agg [.sl 2 [.str (ByteArray.mk #[97]),.int .i64 0,.str (ByteArray.mk #[102]),.int .i64 1,.str (ByteArray.mk #[103]),.int .i64 1]],[.agg [.sl 1 a0_0,.int .i64 n7]])else bif (n8==6)then some (.agg [.sl 2 [.str (ByteArray.mk #[97]),.int .i64 0,.str (ByteArray.mk #[98]),.int .i64 0,.str (ByteArray.mk #[101]),.int .i64 0,.str (ByteArray.mk #[109]),.int .i64 2,.str (ByteArray.mk #[105]),.int .i64 1,.str (ByteArray.mk #[115,117,99]),.int .i64 1]],[.agg [.sl 1 a0_0,.int .i64 n7]])else some (.agg [.sl 2 [.str (ByteArray.mk #[97]),.int .i64 0]],[.agg [.sl 1 a0_0,.int .i64 n7]])else bif (n8==2)then some (.agg [.sl 2 [.str (ByteArray.mk #[101]),.int .i64 0,.str (ByteArray.mk #[105]),.int .i64 1,.str (ByteArray.mk #[109]),.int .i64 2,.str (ByteArray.mk #[97]),.int .i64 0]],[.agg [.sl 1 a0_0,.int .i64 n7]])else bif (n8==3)then bif (n8==3)then some (.agg [.sl 2 [.str (ByteArray.mk #[97]),.int .i64 0,.str (ByteArray.mk #[115,117,99]),.int .i64 1,.str (ByteArray.mk #[97,100,100]),.int .i64 2,.str (ByteArray.mk #[98]),.int .i64 0]],[.agg [.sl 1 a0_0,.int .i64 n7]])else bif (n8==5)then some (.agg [.sl 2 [.str (ByteArray.mk #[97]),.int .i64 0,.str (ByteArray.mk #[102]),.int .i64 1,.str (ByteArray.mk #[103]),.int .i64 1]],[.agg [.sl 1 a0_0,.int .i64 n7]])else bif (n8==6)then some (.agg [.sl 2 [.str (ByteArray.mk #[97]),.int .i64 0,.str (ByteArray.mk #[98]),.int .i64 0,.str (ByteArray.mk #[101]),.int .i64 0,.str (ByteArray.mk #[109]),.int .i64 2,.str (ByteArray.mk #[105]),.int .i64 1,.str (ByteArray.mk #[115,117,99]),.int .i64 1]],[.agg [.sl 1 a0_0,.int .i64 n7]])else some (.agg [.sl 2 [.str (ByteArray.mk #[97]),.int .i64 0]],[.agg [.sl 1 a0_0,.int .i64 n7]])else bif (n8==4)then some (.agg [.sl 2 [.str (ByteArray.mk #[97]),.int .i64 0,.str (ByteArray.mk #[115,117,99]),.int .i64 1,.str (ByteArray.mk #[97,100,100]),.int .i64 2,.str (ByteArray.mk #[98]),.int .i64 0]],[.agg [.sl 1 a0_0,.int .i64 n7]])else bif (n8==5)then some (.agg [.sl 2 [.str (ByteArray.mk #[97]),.int .i64 0,.str (ByteArray.mk #[102]),.int .i64 1,.str (ByteArray.mk #[103]),.int .i64 1]],[.agg [.sl 1 a0_0,.int .i64 n7]])else bif (n8==6)then some (.agg [.sl 2 [.str (ByteArray.mk #[97]),.int .i64 0,.str (ByteArray.mk #[98]),.int .i64 0,.str (ByteArray.mk #[101]),.int .i64 0,.str (ByteArray.mk #[109]),.int .i64 2,.str (ByteArray.mk #[105]),.int .i64 1,.str (ByteArray.mk #[115,117,99]),.int .i64 1]],[.agg [.sl 1 a0_0,.int .i64 n7]])else some (.agg [.sl 2 [.str (ByteArray.mk #[97]),.int .i64 0]],[.agg [.sl 1 a0_0,.int .i64 n7]]):=by kernel_rfl
theorem spec_l2Symbol.ev(a0_0:List T)(a1:Int):callK prog A H LIM n F.spec_l2Symbol [.rref [.sl 2 a0_0] 0,.int .i64 a1]=(LIM F.spec_l1In [.int .i64 a1,.int .i64 0,(.int .i64 (IntKind.wrap .i64 ((((a0_0.length/2):Nat):Int)-1)))]).bind fun r1=>bB r1 fun b2=>some (.bool b2,[]):=by kernel_rfl
def spec_l3BentTerm.st1(x0:Int)(x1:List T)(x2:Int)(x3:List T):St:=⟨[(0,(.one (.ptr 1000000 0))),(10,(.one (.obj 4224))),(11,oi x0)],[(1000000,(.box [(.kept 0 (.sl 1 x1)),(.t (.int .i64 x2))])),(4224,(.arr true true 1 x3))]⟩
def spec_l3BentTerm.K1:=kx F.spec_l3BentTerm n [.block 1,.seq 0 (cx F.spec_l3BentTerm [1,1,1,1,1,1,1])] (endOf prog A F.spec_l3BentTerm)
def spec_l3BentTerm.at1:=lx F.spec_l3BentTerm n 1 [1,1,1,1,1,1,0,1,0,0] (spec_l3BentTerm.K1 n) m s
def spec_l3BentTerm.rd1:=rx F.spec_l3BentTerm n 1 [1,1,1,1,1,1,0,1,0,0] (spec_l3BentTerm.K1 n) L1 s
theorem spec_l3BentTerm.next1:spec_l3BentTerm.at1 n (m+1) s=spec_l3BentTerm.rd1 n (spec_l3BentTerm.at1 n m) s:=nx ..
theorem spec_l3BentTerm.round1(x0:Int)(x1:List T)(x2:Int)(x3:List T):spec_l3BentTerm.rd1 n L1 (spec_l3BentTerm.st1 x0 x1 x2 x3)=(LIM F.spec_l1Pick [.rref [.sl 1 x1,.int .i64 x2] 0,.sl 1 [.int .i64 24,.int .i64 25]]).bind fun r43=>bS r43 fun c47 n49=>(oInt .i64 r43.1).bind fun n50=>bif (decide (x0<n50))then(LIM F.spec_l1Pick [.rref [.sl 1 x1,.int .i64 n49] 0,.sl 1 [.int .i64 1,.int .i64 2,.int .i64 0]]).bind fun r51=>bS r51 fun c55 n57=>(oInt .i64 r51.1).bind fun n58=>bif Nat.ble ((x3.length+1)*8) (140737488355328*1)then L1 (spec_l3BentTerm.st1 (IntKind.wrap .i64 (x0+1)) x1 n57 (x3++[.int .i64 n58]:List T))else none else some (.sl 1 x3,[.agg [.sl 1 x1,.int .i64 n49]]):=by kernel_rfl
theorem spec_l3BentTerm.ev(a0_0:List T)(a0_1:Int)(a1_0:List T)(a2 a3:Int):callK prog A H LIM n F.spec_l3BentTerm [.rref [.sl 1 a0_0,.int .i64 a0_1] 0,.rref [.sl 2 a1_0] 0,.int .i64 a2,.int .i64 a3]=bif (decide ((((a1_0.length/2):Nat):Int)<1))then some (.sl 1 [.int .i64 0],[.agg [.sl 1 a0_0,.int .i64 a0_1]])else(LIM F.spec_SignatureFault [.agg [.sl 2 a1_0]]).bind fun r1=>bI r1 fun n2=>bif (n2 != 0)then some (.sl 1 [.int .i64 0],[.agg [.sl 1 a0_0,.int .i64 a0_1]])else(LIM F.spec_l3Draw [.rref [.sl 1 a0_0,.int .i64 a0_1] 0,.rref [.sl 2 a1_0] 0,.int .i64 a2,.int .i64 a3]).bind fun r3=>bS r3 fun c7 n9=>(oSl 1 r3.1).bind fun c10=>(LIM F.spec_l1Chance [.rref [.sl 1 a0_0,.int .i64 n9] 0,.int .i64 11]).bind fun r11=>bS r11 fun c15 n17=>(oBool r11.1).bind fun b18=>bif (!b18)then some (.sl 1 c10,[.agg [.sl 1 a0_0,.int .i64 n17]])else(LIM F.spec_l1Next [.rref [.sl 1 a0_0,.int .i64 n17] 0,.int .i64 4]).bind fun r19=>bS r19 fun c23 n25=>(oInt .i64 r19.1).bind fun n26=>bif (n26==0)then bif decide (0<=(IntKind.wrap .i64 ((((c10.length/1):Nat):Int)-1)))&&decide ((IntKind.wrap .i64 ((((c10.length/1):Nat):Int)-1))<=(((c10.length/1):Nat):Int))then some ((.sl 1 (c10.take ((Int.toNat (IntKind.wrap .i64 ((((c10.length/1):Nat):Int)-1)))*1))),[.agg [.sl 1 a0_0,.int .i64 n25]])else none else bif (n26==1)then bif Nat.ble ((c10.length+1)*8) (140737488355328*1)then some ((.sl 1 (c10++[.int .i64 0]:List T)),[.agg [.sl 1 a0_0,.int .i64 n25]])else none else bif (n26==2)then(LIM F.spec_l1Next [.rref [.sl 1 a0_0,.int .i64 n25] 0,(.int .i64 (((c10.length/1):Nat):Int))]).bind fun r27=>bS r27 fun c31 n33=>(oInt .i64 r27.1).bind fun n34=>(LIM F.spec_l1Pick [.rref [.sl 1 a0_0,.int .i64 n33] 0,(.sl 1 [(.int .i64 (((a1_0.length/2):Nat):Int)),.int .i64 (-13),.int .i64 (-12)])]).bind fun r35=>bS r35 fun c39 n41=>(oInt .i64 r35.1).bind fun n42=>bif inB n34 (c10.length/1)then bif decide ((n34.toNat*1)+1<=c10.length)then some (.sl 1 (setCells c10 (n34.toNat*1) [.int .i64 n42]),[.agg [.sl 1 a0_0,.int .i64 n41]])else none else none else spec_l3BentTerm.at1 n n (spec_l3BentTerm.st1 (0:Int) a0_0 n25 []):=by kernel_rfl
def spec_l3Draw.st2(x0:List T)(x1 x2 x3 x4 x5:Int)(x6:List T)(x7:Int):St:=⟨[(0,(.one (.ptr 1000000 0))),(1,(.one (.t (.rref [(.sl 2 x0)] 0)))),(2,oi x1),(3,oi x2),(9,oi x3),(10,oi x4),(12,oi x5)],[(1000000,(.box [(.kept 0 (.sl 1 x6)),(.t (.int .i64 x7))]))]⟩
def spec_l3Draw.st0(x0:List T)(x1 x2 x3 x4 x5:Int)(x6:List T)(x7:Int):St:=⟨[(0,(.one (.ptr 1000000 0))),(1,(.one (.t (.rref [(.sl 2 x0)] 0)))),(2,oi x1),(3,oi x2),(9,oi x3),(10,oi x4),(11,oi x5)],[(1000000,(.box [(.kept 0 (.sl 1 x6)),(.t (.int .i64 x7))]))]⟩
def spec_l3Draw.K0:=kx F.spec_l3Draw n [.block 0,.seq 0 (cx F.spec_l3Draw [1,1,1,1,1])] (endOf prog A F.spec_l3Draw)
def spec_l3Draw.at0:=lx F.spec_l3Draw n 0 [1,1,1,1,0,1,0,0] (spec_l3Draw.K0 n) m s
def spec_l3Draw.rd0:=rx F.spec_l3Draw n 0 [1,1,1,1,0,1,0,0] (spec_l3Draw.K0 n) L0 s
theorem spec_l3Draw.next0:spec_l3Draw.at0 n (m+1) s=spec_l3Draw.rd0 n (spec_l3Draw.at0 n m) s:=nx ..
def spec_l3Draw.K2:=kx F.spec_l3Draw n [.block 2,.seq 0 (cx F.spec_l3Draw [1,1,1,1,1,1])] (endOf prog A F.spec_l3Draw)
def spec_l3Draw.at2:=lx F.spec_l3Draw n 2 [1,1,1,1,1,0,1,0,1,0,0] (spec_l3Draw.K2 n) m s
def spec_l3Draw.rd2:=rx F.spec_l3Draw n 2 [1,1,1,1,1,0,1,0,1,0,0] (spec_l3Draw.K2 n) L2 s
theorem spec_l3Draw.next2:spec_l3Draw.at2 n (m+1) s=spec_l3Draw.rd2 n (spec_l3Draw.at2 n m) s:=nx ..
theorem spec_l3Draw.round0(x0:List T)(x1 x2 x3 x4 x5:Int)(x6:List T)(x7:Int):spec_l3Draw.rd0 n L0 (spec_l3Draw.st0 x0 x1 x2 x3 x4 x5 x6 x7)=bif (decide (x5<x3))then bif inB x4 (x0.length/2)then(x0[(x4.toNat*2)+1]?).bind fun e41=>(oInt .i64 e41).bind fun n42=>bif (decide (n42>=x1))then bif decide (x3=0)then none else L0 (spec_l3Draw.st0 x0 x1 x2 x3 (Int.tmod (IntKind.wrap .i64 (x4+1)) x3) (IntKind.wrap .i64 (x5+1)) x6 x7)else bif (decide (x1<2))then spec_l3Draw.at2 n n (spec_l3Draw.st2 x0 x1 x2 x3 x4 (0:Int) x6 x7)else bif inB x4 (x0.length/2)then(x0[(x4.toNat*2)+1]?).bind fun e97=>(oInt .i64 e97).bind fun n98=>bif (n98==1)then(LIM F.spec_l3Draw [.rref [.sl 1 x6,.int .i64 x7] 0,.rref [.sl 2 x0] 0,.int .i64 (IntKind.wrap .i64 (x1-1)),.int .i64 x2]).bind fun r99=>bS r99 fun c103 n105=>(oSl 1 r99.1).bind fun c106=>bif c106.all T.scalar then bif Nat.ble ((1+c106.length)*8) (140737488355328*1)then some (.sl 1 ([.int .i64 x4]++c106:List T),[.agg [.sl 1 x6,.int .i64 n105]])else none else none else bif (n98==2)then(LIM F.spec_l3Draw [.rref [.sl 1 x6,.int .i64 x7] 0,.rref [.sl 2 x0] 0,.int .i64 (IntKind.wrap .i64 (x1-2)),.int .i64 x2]).bind fun r107=>bS r107 fun c111 n113=>(oSl 1 r107.1).bind fun c114=>bif c114.all T.scalar then bif Nat.ble ((1+c114.length)*8) (140737488355328*1)then(LIM F.spec_l3Draw [.rref [.sl 1 x6,.int .i64 n113] 0,.rref [.sl 2 x0] 0,(.int .i64 (IntKind.wrap .i64 ((IntKind.wrap .i64 (x1-1))-(((c114.length/1):Nat):Int)))),.int .i64 x2]).bind fun r115=>bS r115 fun c119 n121=>(oSl 1 r115.1).bind fun c122=>bif c122.all T.scalar then bif Nat.ble (((([.int .i64 x4]++c114:List T)).length+c122.length)*8) (140737488355328*1)then some ((.sl 1 (([.int .i64 x4]++c114:List T)++c122:List T)),[.agg [.sl 1 x6,.int .i64 n121]])else none else none else none else none else some (.sl 1 [.int .i64 x4],[.agg [.sl 1 x6,.int .i64 x7]])else none else none else bif (decide (x1<2))then spec_l3Draw.at2 n n (spec_l3Draw.st2 x0 x1 x2 x3 x4 (0:Int) x6 x7)else bif inB x4 (x0.length/2)then(x0[(x4.toNat*2)+1]?).bind fun e123=>(oInt .i64 e123).bind fun n124=>bif (n124==1)then(LIM F.spec_l3Draw [.rref [.sl 1 x6,.int .i64 x7] 0,.rref [.sl 2 x0] 0,.int .i64 (IntKind.wrap .i64 (x1-1)),.int .i64 x2]).bind fun r125=>bS r125 fun c129 n131=>(oSl 1 r125.1).bind fun c132=>bif c132.all T.scalar then bif Nat.ble ((1+c132.length)*8) (140737488355328*1)then some (.sl 1 ([.int .i64 x4]++c132:List T),[.agg [.sl 1 x6,.int .i64 n131]])else none else none else bif (n124==2)then(LIM F.spec_l3Draw [.rref [.sl 1 x6,.int .i64 x7] 0,.rref [.sl 2 x0] 0,.int .i64 (IntKind.wrap .i64 (x1-2)),.int .i64 x2]).bind fun r133=>bS r133 fun c137 n139=>(oSl 1 r133.1).bind fun c140=>bif c140.all T.scalar then bif Nat.ble ((1+c140.length)*8) (140737488355328*1)then(LIM F.spec_l3Draw [.rref [.sl 1 x6,.int .i64 n139] 0,.rref [.sl 2 x0] 0,(.int .i64 (IntKind.wrap .i64 ((IntKind.wrap .i64 (x1-1))-(((c140.length/1):Nat):Int)))),.int .i64 x2]).bind fun r141=>bS r141 fun c145 n147=>(oSl 1 r141.1).bind fun c148=>bif c148.all T.scalar then bif Nat.ble (((([.int .i64 x4]++c140:List T)).length+c148.length)*8) (140737488355328*1)then some ((.sl 1 (([.int .i64 x4]++c140:List T)++c148:List T)),[.agg [.sl 1 x6,.int .i64 n147]])else none else none else none else none else some (.sl 1 [.int .i64 x4],[.agg [.sl 1 x6,.int .i64 x7]])else none:=by kernel_rfl
theorem spec_l3Draw.round2(x0:List T)(x1 x2 x3 x4 x5:Int)(x6:List T)(x7:Int):spec_l3Draw.rd2 n L2 (spec_l3Draw.st2 x0 x1 x2 x3 x4 x5 x6 x7)=bif (decide (x5<x3))then bif inB x4 (x0.length/2)then(x0[(x4.toNat*2)+1]?).bind fun e43=>(oInt .i64 e43).bind fun n44=>bif (decide (n44>0))then bif decide (x3=0)then none else L2 (spec_l3Draw.st2 x0 x1 x2 x3 (Int.tmod (IntKind.wrap .i64 (x4+1)) x3) (IntKind.wrap .i64 (x5+1)) x6 x7)else bif inB x4 (x0.length/2)then(x0[(x4.toNat*2)+1]?).bind fun e45=>(oInt .i64 e45).bind fun n46=>bif (n46==1)then(LIM F.spec_l3Draw [.rref [.sl 1 x6,.int .i64 x7] 0,.rref [.sl 2 x0] 0,.int .i64 (IntKind.wrap .i64 (x1-1)),.int .i64 x2]).bind fun r47=>bS r47 fun c51 n53=>(oSl 1 r47.1).bind fun c54=>bif c54.all T.scalar then bif Nat.ble ((1+c54.length)*8) (140737488355328*1)then some (.sl 1 ([.int .i64 x4]++c54:List T),[.agg [.sl 1 x6,.int .i64 n53]])else none else none else bif (n46==2)then(LIM F.spec_l3Draw [.rref [.sl 1 x6,.int .i64 x7] 0,.rref [.sl 2 x0] 0,.int .i64 (IntKind.wrap .i64 (x1-2)),.int .i64 x2]).bind fun r55=>bS r55 fun c59 n61=>(oSl 1 r55.1).bind fun c62=>bif c62.all T.scalar then bif Nat.ble ((1+c62.length)*8) (140737488355328*1)then(LIM F.spec_l3Draw [.rref [.sl 1 x6,.int .i64 n61] 0,.rref [.sl 2 x0] 0,(.int .i64 (IntKind.wrap .i64 ((IntKind.wrap .i64 (x1-1))-(((c62.length/1):Nat):Int)))),.int .i64 x2]).bind fun r63=>bS r63 fun c67 n69=>(oSl 1 r63.1).bind fun c70=>bif c70.all T.scalar then bif Nat.ble (((([.int .i64 x4]++c62:List T)).length+c70.length)*8) (140737488355328*1)then some ((.sl 1 (([.int .i64 x4]++c62:List T)++c70:List T)),[.agg [.sl 1 x6,.int .i64 n69]])else none else none else none else none else some (.sl 1 [.int .i64 x4],[.agg [.sl 1 x6,.int .i64 x7]])else none else none else bif inB x4 (x0.length/2)then(x0[(x4.toNat*2)+1]?).bind fun e71=>(oInt .i64 e71).bind fun n72=>bif (n72==1)then(LIM F.spec_l3Draw [.rref [.sl 1 x6,.int .i64 x7] 0,.rref [.sl 2 x0] 0,.int .i64 (IntKind.wrap .i64 (x1-1)),.int .i64 x2]).bind fun r73=>bS r73 fun c77 n79=>(oSl 1 r73.1).bind fun c80=>bif c80.all T.scalar then bif Nat.ble ((1+c80.length)*8) (140737488355328*1)then some (.sl 1 ([.int .i64 x4]++c80:List T),[.agg [.sl 1 x6,.int .i64 n79]])else none else none else bif (n72==2)then(LIM F.spec_l3Draw [.rref [.sl 1 x6,.int .i64 x7] 0,.rref [.sl 2 x0] 0,.int .i64 (IntKind.wrap .i64 (x1-2)),.int .i64 x2]).bind fun r81=>bS r81 fun c85 n87=>(oSl 1 r81.1).bind fun c88=>bif c88.all T.scalar then bif Nat.ble ((1+c88.length)*8) (140737488355328*1)then(LIM F.spec_l3Draw [.rref [.sl 1 x6,.int .i64 n87] 0,.rref [.sl 2 x0] 0,(.int .i64 (IntKind.wrap .i64 ((IntKind.wrap .i64 (x1-1))-(((c88.length/1):Nat):Int)))),.int .i64 x2]).bind fun r89=>bS r89 fun c93 n95=>(oSl 1 r89.1).bind fun c96=>bif c96.all T.scalar then bif Nat.ble (((([.int .i64 x4]++c88:List T)).length+c96.length)*8) (140737488355328*1)then some ((.sl 1 (([.int .i64 x4]++c88:List T)++c96:List T)),[.agg [.sl 1 x6,.int .i64 n95]])else none else none else none else none else some (.sl 1 [.int .i64 x4],[.agg [.sl 1 x6,.int .i64 x7]])else none:=by kernel_rfl
theorem spec_l3Draw.ev(a0_0:List T)(a0_1:Int)(a1_0:List T)(a2 a3:Int):callK prog A H LIM n F.spec_l3Draw [.rref [.sl 1 a0_0,.int .i64 a0_1] 0,.rref [.sl 2 a1_0] 0,.int .i64 a2,.int .i64 a3]=bif (decide (a3>0))then bif (decide (a2<2))then(LIM F.spec_l1Chance [.rref [.sl 1 a0_0,.int .i64 a0_1] 0,.int .i64 2]).bind fun r1=>bS r1 fun c5 n7=>(oBool r1.1).bind fun b8=>bif b8 then(LIM F.spec_l1Next [.rref [.sl 1 a0_0,.int .i64 n7] 0,.int .i64 a3]).bind fun r9=>bS r9 fun c13 n15=>(oInt .i64 r9.1).bind fun n16=>some (.sl 1 [.int .i64 (IntKind.wrap .i64 ((-1:Int)-n16))],[.agg [.sl 1 a0_0,.int .i64 n15]])else(LIM F.spec_l1Chance [.rref [.sl 1 a0_0,.int .i64 n7] 0,.int .i64 4]).bind fun r17=>bS r17 fun c21 n23=>(oBool r17.1).bind fun b24=>bif b24 then(LIM F.spec_l1Next [.rref [.sl 1 a0_0,.int .i64 n23] 0,.int .i64 a3]).bind fun r25=>bS r25 fun c29 n31=>(oInt .i64 r25.1).bind fun n32=>some (.sl 1 [.int .i64 (IntKind.wrap .i64 ((-1:Int)-n32))],[.agg [.sl 1 a0_0,.int .i64 n31]])else(LIM F.spec_l1Next [.rref [.sl 1 a0_0,.int .i64 n23] 0,(.int .i64 (((a1_0.length/2):Nat):Int))]).bind fun r33=>bS r33 fun c37 n39=>(oInt .i64 r33.1).bind fun n40=>spec_l3Draw.at0 n n (spec_l3Draw.st0 a1_0 a2 a3 (((a1_0.length/2):Nat):Int) n40 (0:Int) a0_0 n39)else(LIM F.spec_l1Chance [.rref [.sl 1 a0_0,.int .i64 a0_1] 0,.int .i64 4]).bind fun r149=>bS r149 fun c153 n155=>(oBool r149.1).bind fun b156=>bif b156 then(LIM F.spec_l1Next [.rref [.sl 1 a0_0,.int .i64 n155] 0,.int .i64 a3]).bind fun r157=>bS r157 fun c161 n163=>(oInt .i64 r157.1).bind fun n164=>some (.sl 1 [.int .i64 (IntKind.wrap .i64 ((-1:Int)-n164))],[.agg [.sl 1 a0_0,.int .i64 n163]])else(LIM F.spec_l1Next [.rref [.sl 1 a0_0,.int .i64 n155] 0,(.int .i64 (((a1_0.length/2):Nat):Int))]).bind fun r165=>bS r165 fun c169 n171=>(oInt .i64 r165.1).bind fun n172=>spec_l3Draw.at0 n n (spec_l3Draw.st0 a1_0 a2 a3 (((a1_0.length/2):Nat):Int) n172 (0:Int) a0_0 n171)else(LIM F.spec_l1Next [.rref [.sl 1 a0_0,.int .i64 a0_1] 0,(.int .i64 (((a1_0.length/2):Nat):Int))]).bind fun r173=>bS r173 fun c177 n179=>(oInt .i64 r173.1).bind fun n180=>spec_l3Draw.at0 n n (spec_l3Draw.st0 a1_0 a2 a3 (((a1_0.length/2):Nat):Int) n180 (0:Int) a0_0 n179):=by kernel_rfl
def spec_l3End.st0(x0 x1:List T)(x2 x3 x4:Int):St:=⟨[(0,(.one (.t (.rref [(.sl 2 x0)] 0)))),(1,ol 1 x1),(2,oi x2),(7,oi x3),(8,oi x4)],[]⟩
def spec_l3End.K0:=kx F.spec_l3End n [.block 0,.seq 0 (cx F.spec_l3End [1,1,1,1,1])] (endOf prog A F.spec_l3End)
def spec_l3End.at0:=lx F.spec_l3End n 0 [1,1,1,1,0,1,0,0] (spec_l3End.K0 n) m s
def spec_l3End.rd0:=rx F.spec_l3End n 0 [1,1,1,1,0,1,0,0] (spec_l3End.K0 n) L0 s
theorem spec_l3End.next0:spec_l3End.at0 n (m+1) s=spec_l3End.rd0 n (spec_l3End.at0 n m) s:=nx ..
theorem spec_l3End.round0(x0 x1:List T)(x2 x3 x4:Int):spec_l3End.rd0 n L0 (spec_l3End.st0 x0 x1 x2 x3 x4)=bif inB x2 (x1.length/1)then(x1[x2.toNat*1]?).bind fun e3=>(oInt .i64 e3).bind fun n4=>bif inB n4 (x0.length/2)then(x0[(n4.toNat*2)+1]?).bind fun e5=>(oInt .i64 e5).bind fun n6=>bif (decide (x4<n6))then(LIM F.spec_l3End [.rref [.sl 2 x0] 0,.sl 1 x1,.int .i64 x3]).bind fun r7=>bI r7 fun n8=>bif (decide (n8<0))then some (.int .i64 (-1),[])else L0 (spec_l3End.st0 x0 x1 x2 n8 (IntKind.wrap .i64 (x4+1)))else some (.int .i64 x3,[])else none else none:=by kernel_rfl
theorem spec_l3End.ev(a0_0 a1:List T)(a2:Int):callK prog A H LIM n F.spec_l3End [.rref [.sl 2 a0_0] 0,.sl 1 a1,.int .i64 a2]=bif (decide (a2>=(((a1.length/1):Nat):Int)))then some (.int .i64 (-1),[])else bif inB a2 (a1.length/1)then(a1[a2.toNat*1]?).bind fun e1=>(oInt .i64 e1).bind fun n2=>bif (decide (n2<0))then some (.int .i64 (IntKind.wrap .i64 (a2+1)),[])else spec_l3End.at0 n n (spec_l3End.st0 a0_0 a1 a2 (IntKind.wrap .i64 (a2+1)) (0:Int))else none:=by kernel_rfl
def spec_l3Fault.st0(x0 x1:List T)(x2:Int):St:=⟨[(0,(.one (.t (.rref [(.sl 2 x0)] 0)))),(1,ol 1 x1),(5,oi x2)],[]⟩
def spec_l3Fault.K0:=kx F.spec_l3Fault n [.block 0,.seq 0 (cx F.spec_l3Fault [1,1,1])] (endOf prog A F.spec_l3Fault)
def spec_l3Fault.at0:=lx F.spec_l3Fault n 0 [1,1,0,1,0,0] (spec_l3Fault.K0 n) m s
def spec_l3Fault.rd0:=rx F.spec_l3Fault n 0 [1,1,0,1,0,0] (spec_l3Fault.K0 n) L0 s
theorem spec_l3Fault.next0:spec_l3Fault.at0 n (m+1) s=spec_l3Fault.rd0 n (spec_l3Fault.at0 n m) s:=nx ..
theorem spec_l3Fault.round0(x0 x1:List T)(x2:Int):spec_l3Fault.rd0 n L0 (spec_l3Fault.st0 x0 x1 x2)=bif (decide (x2<(((x1.length/1):Nat):Int)))then bif inB x2 (x1.length/1)then(x1[x2.toNat*1]?).bind fun e1=>(oInt .i64 e1).bind fun n2=>(LIM F.spec_l3Node [.rref [.sl 2 x0] 0,.int .i64 n2]).bind fun r3=>bB r3 fun b4=>bif (!b4)then some (.int .i64 3,[])else L0 (spec_l3Fault.st0 x0 x1 (IntKind.wrap .i64 (x2+1)))else none else(LIM F.spec_l3End [.rref [.sl 2 x0] 0,.sl 1 x1,.int .i64 0]).bind fun r5=>bI r5 fun n6=>bif ((n6 != (((x1.length/1):Nat):Int)))then some (.int .i64 1,[])else some (.int .i64 0,[]):=by kernel_rfl
theorem spec_l3Fault.ev(a0_0 a1:List T):callK prog A H LIM n F.spec_l3Fault [.rref [.sl 2 a0_0] 0,.sl 1 a1]=bif (decide ((((a1.length/1):Nat):Int)<1))then some (.int .i64 2,[])else bif (decide ((((a1.length/1):Nat):Int)>24))then some (.int .i64 2,[])else spec_l3Fault.at0 n n (spec_l3Fault.st0 a0_0 a1 (0:Int)):=by kernel_rfl
theorem spec_l3Node.ev(a0_0:List T)(a1:Int):callK prog A H LIM n F.spec_l3Node [.rref [.sl 2 a0_0] 0,.int .i64 a1]=(LIM F.spec_l2Symbol [.rref [.sl 2 a0_0] 0,.int .i64 a1]).bind fun r1=>bB r1 fun b2=>bif b2 then some (.bool true,[])else(LIM F.spec_l1In [.int .i64 a1,.int .i64 (-12),.int .i64 (-1)]).bind fun r3=>bB r3 fun b4=>some (.bool b4,[]):=by kernel_rfl
theorem spec_l4BentEquation.ev(a0_0:List T)(a0_1:Int)(a1_0:List T):callK prog A H LIM n F.spec_l4BentEquation [.rref [.sl 1 a0_0,.int .i64 a0_1] 0,.rref [.sl 2 a1_0] 0]=(LIM F.spec_SignatureFault [.agg [.sl 2 a1_0]]).bind fun r1=>bI r1 fun n2=>bif (n2 != 0)then some (.agg [.sl 1 [.int .i64 0],.sl 1 [.int .i64 0]],[.agg [.sl 1 a0_0,.int .i64 a0_1]])else(LIM F.spec_l1Chance [.rref [.sl 1 a0_0,.int .i64 a0_1] 0,.int .i64 6]).bind fun r3=>bS r3 fun c7 n9=>(oBool r3.1).bind fun b10=>bif b10 then(LIM F.spec_l3BentTerm [.rref [.sl 1 a0_0,.int .i64 n9] 0,.rref [.sl 2 a1_0] 0,.int .i64 9,.int .i64 7]).bind fun r11=>bS r11 fun c15 n17=>(oSl 1 r11.1).bind fun c18=>(LIM F.spec_l3BentTerm [.rref [.sl 1 a0_0,.int .i64 n17] 0,.rref [.sl 2 a1_0] 0,.int .i64 5,.int .i64 12]).bind fun r19=>bS r19 fun c23 n25=>(oSl 1 r19.1).bind fun c26=>some (.agg [.sl 1 c18,.sl 1 c26],[.agg [.sl 1 a0_0,.int .i64 n25]])else(LIM F.spec_l4Draw [.rref [.sl 1 a0_0,.int .i64 n9] 0,.rref [.sl 2 a1_0] 0]).bind fun r27=>bS r27 fun c31 n33=>(oAgg r27.1).bind fun c34=>(oCons c34).bind fun p35=>(oSl 1 p35.1).bind fun c36=>(oCons p35.2).bind fun p37=>(oSl 1 p37.1).bind fun c38=>(oNil p37.2).bind fun _=>some (.agg [.sl 1 c36,.sl 1 c38],[.agg [.sl 1 a0_0,.int .i64 n33]]):=by kernel_rfl
theorem spec_l4Copy.ev(a0_0 a0_1:List T):callK prog A H LIM n F.spec_l4Copy [.rref [.sl 1 a0_0,.sl 1 a0_1] 0]=(LIM F.spec_l1Ints [.sl 1 a0_0]).bind fun r1=>bL r1 fun c2=>(LIM F.spec_l1Ints [.sl 1 a0_1]).bind fun r3=>bL r3 fun c4=>some (.agg [.sl 1 c2,.sl 1 c4],[]):=by kernel_rfl
theorem spec_l4Draw.ev(a0_0:List T)(a0_1:Int)(a1_0:List T):callK prog A H LIM n F.spec_l4Draw [.rref [.sl 1 a0_0,.int .i64 a0_1] 0,.rref [.sl 2 a1_0] 0]=(LIM F.spec_l1Chance [.rref [.sl 1 a0_0,.int .i64 a0_1] 0,.int .i64 4]).bind fun r1=>bS r1 fun c5 n7=>(oBool r1.1).bind fun b8=>bif b8 then(LIM F.spec_l1Pick [.rref [.sl 1 a0_0,.int .i64 n7] 0,.sl 1 [.int .i64 4,.int .i64 7,.int .i64 9]]).bind fun r9=>bS r9 fun c13 n15=>(oInt .i64 r9.1).bind fun n16=>(LIM F.spec_l3Draw [.rref [.sl 1 a0_0,.int .i64 n15] 0,.rref [.sl 2 a1_0] 0,.int .i64 n16,.int .i64 3]).bind fun r17=>bS r17 fun c21 n23=>(oSl 1 r17.1).bind fun c24=>(LIM F.spec_l1Pick [.rref [.sl 1 a0_0,.int .i64 n23] 0,.sl 1 [.int .i64 1,.int .i64 3,.int .i64 5]]).bind fun r25=>bS r25 fun c29 n31=>(oInt .i64 r25.1).bind fun n32=>(LIM F.spec_l3Draw [.rref [.sl 1 a0_0,.int .i64 n31] 0,.rref [.sl 2 a1_0] 0,.int .i64 n32,.int .i64 3]).bind fun r33=>bS r33 fun c37 n39=>(oSl 1 r33.1).bind fun c40=>some (.agg [.sl 1 c24,.sl 1 c40],[.agg [.sl 1 a0_0,.int .i64 n39]])else(LIM F.spec_l4Pool [.rref [.sl 1 a0_0,.int .i64 n7] 0,.rref [.sl 2 a1_0] 0]).bind fun r41=>bS r41 fun c45 n47=>(oAgg r41.1).bind fun c48=>(oCons c48).bind fun p49=>(oSl 1 p49.1).bind fun c50=>(oCons p49.2).bind fun p51=>(oSl 1 p51.1).bind fun c52=>(oNil p51.2).bind fun _=>some (.agg [.sl 1 c50,.sl 1 c52],[.agg [.sl 1 a0_0,.int .i64 n47]]):=by kernel_rfl
theorem spec_l4Fault.ev(a0_0 a1_0 a1_1:List T):callK prog A H LIM n F.spec_l4Fault [.rref [.sl 2 a0_0] 0,.rref [.sl 1 a1_0,.sl 1 a1_1] 0]=(LIM F.spec_l3Fault [.rref [.sl 2 a0_0] 0,.sl 1 a1_0]).bind fun r1=>bI r1 fun n2=>bif (n2 != 0)then some (.int .i64 n2,[])else(LIM F.spec_l3Fault [.rref [.sl 2 a0_0] 0,.sl 1 a1_1]).bind fun r3=>bI r3 fun n4=>bif (n4 != 0)then some (.int .i64 n4,[])else(LIM F.spec_l4Low [.sl 1 a1_0]).bind fun r5=>bB r5 fun b6=>bif (!b6)then some (.int .i64 3,[])else(LIM F.spec_l4Low [.sl 1 a1_1]).bind fun r7=>bB r7 fun b8=>bif (!b8)then some (.int .i64 3,[])else some (.int .i64 0,[]):=by kernel_rfl
def spec_l4Low.st0(x0:List T)(x1:Int):St:=⟨[(0,ol 1 x0),(3,oi x1)],[]⟩
def spec_l4Low.K0:=kx F.spec_l4Low n [.block 0,.seq 0 (cx F.spec_l4Low [1,1])] (endOf prog A F.spec_l4Low)
def spec_l4Low.at0:=lx F.spec_l4Low n 0 [1,0,1,0,0] (spec_l4Low.K0 n) m s
def spec_l4Low.rd0:=rx F.spec_l4Low n 0 [1,0,1,0,0] (spec_l4Low.K0 n) L0 s
theorem spec_l4Low.next0:spec_l4Low.at0 n (m+1) s=spec_l4Low.rd0 n (spec_l4Low.at0 n m) s:=nx ..
theorem spec_l4Low.round0(x0:List T)(x1:Int):spec_l4Low.rd0 n L0 (spec_l4Low.st0 x0 x1)=bif (decide (x1<(((x0.length/1):Nat):Int)))then bif inB x1 (x0.length/1)then(x0[x1.toNat*1]?).bind fun e1=>(oInt .i64 e1).bind fun n2=>bif (decide (n2<(-6:Int)))then some (.bool false,[])else L0 (spec_l4Low.st0 x0 (IntKind.wrap .i64 (x1+1)))else none else some (.bool true,[]):=by kernel_rfl
theorem spec_l4Low.ev(a0:List T):callK prog A H LIM n F.spec_l4Low [.sl 1 a0]=spec_l4Low.at0 n n (spec_l4Low.st0 a0 (0:Int)):=by kernel_rfl
def spec_l4Nodes.st3(x0:List T)(x1:ByteArray)(x2 x3:Int)(x4:List T):St:=⟨[(0,(.one (.t (.rref [(.sl 2 x0)] 0)))),(1,(.one (.t (.str x1)))),(6,(.one (.obj 704))),(7,oi x2),(9,oi x3)],[(704,(.arr true true 1 x4))]⟩
def spec_l4Nodes.st0(x0:List T)(x1:ByteArray)(x2:Int)(x3:List T):St:=⟨[(0,(.one (.t (.rref [(.sl 2 x0)] 0)))),(1,(.one (.t (.str x1)))),(6,(.one (.obj 704))),(7,oi x2)],[(704,(.arr true true 1 x3))]⟩
def spec_l4Nodes.K0:=kx F.spec_l4Nodes n [.block 0,.seq 0 (cx F.spec_l4Nodes [1,1,1,1])] (endOf prog A F.spec_l4Nodes)
def spec_l4Nodes.at0:=lx F.spec_l4Nodes n 0 [1,1,1,0,0,0] (spec_l4Nodes.K0 n) m s
def spec_l4Nodes.rd0:=rx F.spec_l4Nodes n 0 [1,1,1,0,0,0] (spec_l4Nodes.K0 n) L0 s
theorem spec_l4Nodes.next0:spec_l4Nodes.at0 n (m+1) s=spec_l4Nodes.rd0 n (spec_l4Nodes.at0 n m) s:=nx ..
def spec_l4Nodes.K3:=kx F.spec_l4Nodes n [.block 3,.seq 2 (cx F.spec_l4Nodes [1,1,1,0,0,0,1,0,1,0,1,1,1,1,1,0,1,1]),.block 2,.block 1] (bx F.spec_l4Nodes 0 (spec_l4Nodes.K0 n) L0)
def spec_l4Nodes.at3:=lx F.spec_l4Nodes n 3 [1,1,1,0,0,0,1,0,1,0,1,1,1,1,1,0,1,0,0,0] (spec_l4Nodes.K3 n L0) m s
def spec_l4Nodes.rd3:=rx F.spec_l4Nodes n 3 [1,1,1,0,0,0,1,0,1,0,1,1,1,1,1,0,1,0,0,0] (spec_l4Nodes.K3 n L0) L3 s
theorem spec_l4Nodes.next3:spec_l4Nodes.at3 n L0 (m+1) s=spec_l4Nodes.rd3 n L0 (spec_l4Nodes.at3 n L0 m) s:=nx ..
theorem spec_l4Nodes.round0(x0:List T)(x1:ByteArray)(x2:Int)(x3:List T):spec_l4Nodes.rd0 n L0 (spec_l4Nodes.st0 x0 x1 x2 x3)=bif (decide (x2<(x1.size:Int)))then bif inB x2 x1.size then bif ((((x1.data.getD x2.toNat 0).toNat:Int)==40))then L0 (spec_l4Nodes.st0 x0 x1 (IntKind.wrap .i64 (x2+1)) x3)else bif ((((x1.data.getD x2.toNat 0).toNat:Int)==41))then L0 (spec_l4Nodes.st0 x0 x1 (IntKind.wrap .i64 (x2+1)) x3)else bif ((((x1.data.getD x2.toNat 0).toNat:Int)==44))then L0 (spec_l4Nodes.st0 x0 x1 (IntKind.wrap .i64 (x2+1)) x3)else bif (decide (((x1.data.getD x2.toNat 0).toNat:Int)>=65))then bif (decide (((x1.data.getD x2.toNat 0).toNat:Int)<77))then bif Nat.ble ((x3.length+1)*8) (140737488355328*1)then L0 (spec_l4Nodes.st0 x0 x1 (IntKind.wrap .i64 (x2+1)) (x3++[(.int .i64 (IntKind.wrap .i64 ((-1:Int)-(IntKind.wrap .i64 (IntKind.wrap .u8 (((x1.data.getD x2.toNat 0).toNat:Int)-65))))))]:List T))else none else bif (decide (((x1.data.getD x2.toNat 0).toNat:Int)>=97))then bif (decide (((x1.data.getD x2.toNat 0).toNat:Int)<=122))then spec_l4Nodes.at3 n L0 n (spec_l4Nodes.st3 x0 x1 x2 x2 x3)else some (.tup [.sl 1 [],.bool false],[])else some (.tup [.sl 1 [],.bool false],[])else bif (decide (((x1.data.getD x2.toNat 0).toNat:Int)>=97))then bif (decide (((x1.data.getD x2.toNat 0).toNat:Int)<=122))then spec_l4Nodes.at3 n L0 n (spec_l4Nodes.st3 x0 x1 x2 x2 x3)else some (.tup [.sl 1 [],.bool false],[])else some (.tup [.sl 1 [],.bool false],[])else none else some (.tup [.sl 1 x3,.bool true],[]):=by kernel_rfl
theorem spec_l4Nodes.round3(x0:List T)(x1:ByteArray)(x2 x3:Int)(x4:List T):spec_l4Nodes.rd3 n L0 L3 (spec_l4Nodes.st3 x0 x1 x2 x3 x4)=bif (decide (x3<(x1.size:Int)))then bif inB x3 x1.size then bif (decide (((x1.data.getD x3.toNat 0).toNat:Int)>=97))then bif inB x3 x1.size then bif (decide (((x1.data.getD x3.toNat 0).toNat:Int)<=122))then L3 (spec_l4Nodes.st3 x0 x1 x2 (IntKind.wrap .i64 (x3+1)) x4)else bif decide (0<=x2)&&decide (x2<=x3)&&decide (x3<=(x1.size:Int))then(LIM F.spec_l2Find [.rref [.sl 2 x0] 0,.str (x1.extract x2.toNat x3.toNat)]).bind fun r1=>bI r1 fun n2=>bif (decide (n2<0))then some (.tup [.sl 1 [],.bool false],[])else bif Nat.ble ((x4.length+1)*8) (140737488355328*1)then L0 (spec_l4Nodes.st0 x0 x1 x3 (x4++[.int .i64 n2]:List T))else none else none else none else bif decide (0<=x2)&&decide (x2<=x3)&&decide (x3<=(x1.size:Int))then(LIM F.spec_l2Find [.rref [.sl 2 x0] 0,.str (x1.extract x2.toNat x3.toNat)]).bind fun r3=>bI r3 fun n4=>bif (decide (n4<0))then some (.tup [.sl 1 [],.bool false],[])else bif Nat.ble ((x4.length+1)*8) (140737488355328*1)then L0 (spec_l4Nodes.st0 x0 x1 x3 (x4++[.int .i64 n4]:List T))else none else none else none else bif decide (0<=x2)&&decide (x2<=x3)&&decide (x3<=(x1.size:Int))then(LIM F.spec_l2Find [.rref [.sl 2 x0] 0,.str (x1.extract x2.toNat x3.toNat)]).bind fun r5=>bI r5 fun n6=>bif (decide (n6<0))then some (.tup [.sl 1 [],.bool false],[])else bif Nat.ble ((x4.length+1)*8) (140737488355328*1)then L0 (spec_l4Nodes.st0 x0 x1 x3 (x4++[.int .i64 n6]:List T))else none else none:=by kernel_rfl
theorem spec_l4Nodes.ev(a0_0:List T)(a1:ByteArray):callK prog A H LIM n F.spec_l4Nodes [.rref [.sl 2 a0_0] 0,.str a1]=spec_l4Nodes.at0 n n (spec_l4Nodes.st0 a0_0 a1 (0:Int) []):=by kernel_rfl
def spec_l4Pool.st0(x0:List T)(x1 x2 x3:Int)(x4:List T)(x5:Int)(x6:List T):St:=⟨[(0,(.one (.ptr 1000000 0))),(1,(.one (.t (.rref [(.sl 2 x0)] 0)))),(4,(.one (.ptr 256 0))),(5,(.one (.obj 640))),(6,oi x1),(7,oi x2),(8,oi x3)],[(1000000,(.box [(.kept 0 (.sl 1 x4)),(.t (.int .i64 x5))])),(256,(.box [.nil,.nil])),(640,(.arr true true 1 x6))]⟩
def spec_l4Pool.K0:=kx F.spec_l4Pool n [.block 0,.seq 0 (cx F.spec_l4Pool [1,1,1,1,1])] (endOf prog A F.spec_l4Pool)
def spec_l4Pool.at0:=lx F.spec_l4Pool n 0 [1,1,1,1,0,1,0,0] (spec_l4Pool.K0 n) m s
def spec_l4Pool.rd0:=rx F.spec_l4Pool n 0 [1,1,1,1,0,1,0,0] (spec_l4Pool.K0 n) L0 s
theorem spec_l4Pool.next0:spec_l4Pool.at0 n (m+1) s=spec_l4Pool.rd0 n (spec_l4Pool.at0 n m) s:=nx ..
theorem spec_l4Pool.round0(x0:List T)(x1 x2 x3:Int)(x4:List T)(x5:Int)(x6:List T):spec_l4Pool.rd0 n L0 (spec_l4Pool.st0 x0 x1 x2 x3 x4 x5 x6)=bif (decide (x3<x1))then bif decide (x1=0)then none else bif inB (Int.tmod (IntKind.wrap .i64 (x2+x3)) x1) (x6.length/1)then(x6[(Int.toNat (Int.tmod (IntKind.wrap .i64 (x2+x3)) x1))*1]?).bind fun e9=>(oStr e9).bind fun s10=>(LIM F.spec_ReadEquation [.agg [.sl 2 x0],.str s10]).bind fun r11=>(oNil r11.2).bind fun _=>(oAgg r11.1).bind fun c12=>(oCons c12).bind fun p13=>(oInt .i64 p13.1).bind fun n14=>(oCons p13.2).bind fun p15=>(oSl 1 p15.1).bind fun c16=>(oCons p15.2).bind fun p17=>(oSl 1 p17.1).bind fun c18=>(oNil p17.2).bind fun _=>bif (n14==0)then some (.agg [.sl 1 c16,.sl 1 c18],[.agg [.sl 1 x4,.int .i64 x5]])else L0 (spec_l4Pool.st0 x0 x1 x2 (IntKind.wrap .i64 (x3+1)) x4 x5 x6)else none else(LIM F.spec_l3Draw [.rref [.sl 1 x4,.int .i64 x5] 0,.rref [.sl 2 x0] 0,.int .i64 4,.int .i64 2]).bind fun r19=>bS r19 fun c23 n25=>(oSl 1 r19.1).bind fun c26=>(LIM F.spec_l3Draw [.rref [.sl 1 x4,.int .i64 n25] 0,.rref [.sl 2 x0] 0,.int .i64 2,.int .i64 2]).bind fun r27=>bS r27 fun c31 n33=>(oSl 1 r27.1).bind fun c34=>some (.agg [.sl 1 c26,.sl 1 c34],[.agg [.sl 1 x4,.int .i64 n33]]):=by kernel_rfl
theorem spec_l4Pool.ev(a0_0:List T)(a0_1:Int)(a1_0:List T):callK prog A H LIM n F.spec_l4Pool [.rref [.sl 1 a0_0,.int .i64 a0_1] 0,.rref [.sl 2 a1_0] 0]=(LIM F.spec_l1Next [.rref [.sl 1 a0_0,.int .i64 a0_1] 0,.int .i64 18]).bind fun r1=>bS r1 fun c5 n7=>(oInt .i64 r1.1).bind fun n8=>spec_l4Pool.at0 n n (spec_l4Pool.st0 a1_0 (18:Int) n8 (0:Int) a0_0 n7 [.str (ByteArray.mk #[109,40,101,44,65,41,61,65]),.str (ByteArray.mk #[109,40,65,44,101,41,61,65]),.str (ByteArray.mk #[109,40,105,40,65,41,44,65,41,61,101]),.str (ByteArray.mk #[105,40,105,40,65,41,41,61,65]),.str (ByteArray.mk #[105,40,101,41,61,101]),.str (ByteArray.mk #[97,100,100,40,97,44,65,41,61,65]),.str (ByteArray.mk #[97,100,100,40,115,117,99,40,65,41,44,66,41,61,115,117,99,40,97,100,100,40,65,44,66,41,41]),.str (ByteArray.mk #[102,40,103,40,65,41,41,61,65]),.str (ByteArray.mk #[102,40,102,40,65,41,41,61,65]),.str (ByteArray.mk #[103,40,102,40,97,41,41,61,97]),.str (ByteArray.mk #[109,40,109,40,65,44,66,41,44,67,41,61,109,40,65,44,109,40,66,44,67,41,41]),.str (ByteArray.mk #[115,117,99,40,115,117,99,40,65,41,41,61,65]),.str (ByteArray.mk #[98,61,97]),.str (ByteArray.mk #[109,40,97,44,97,41,61,97]),.str (ByteArray.mk #[97,100,100,40,65,44,98,41,61,65]),.str (ByteArray.mk #[115,117,99,40,98,41,61,97]),.str (ByteArray.mk #[102,40,102,40,102,40,97,41,41,41,61,97]),.str (ByteArray.mk #[105,40,109,40,65,44,66,41,41,61,109,40,105,40,66,41,44,105,40,65,41,41])]):=by kernel_rfl
theorem spec_l4Read.ev(a0_0:List T)(a1:ByteArray):callK prog A H LIM n F.spec_l4Read [.rref [.sl 2 a0_0] 0,.str a1]=bif (decide ((a1.size:Int)>168))then some (.sl 1 [],[])else(LIM F.spec_l4Nodes [.rref [.sl 2 a0_0] 0,.str a1]).bind fun r1=>(oNil r1.2).bind fun _=>(oTup r1.1).bind fun c2=>(oCons c2).bind fun p3=>(oSl 1 p3.1).bind fun c4=>(oCons p3.2).bind fun p5=>(oBool p5.1).bind fun b6=>(oNil p5.2).bind fun _=>bif (!b6)then some (.sl 1 [],[])else(LIM F.spec_l3Fault [.rref [.sl 2 a0_0] 0,.sl 1 c4]).bind fun r7=>bI r7 fun n8=>bif (n8 != 0)then some (.sl 1 [],[])else(LIM F.spec_l4Text [.rref [.sl 2 a0_0] 0,.sl 1 c4,.int .i64 0]).bind fun r9=>(oNil r9.2).bind fun _=>(oStr r9.1).bind fun s10=>bif (!(s10.toList==a1.toList))then some (.sl 1 [],[])else some (.sl 1 c4,[]):=by kernel_rfl
def spec_l4Text.st0(x0 x1:List T)(x2:ByteArray)(x3 x4:Int)(x5:ByteArray)(x6:Int):St:=⟨[(0,(.one (.t (.rref [(.sl 2 x0)] 0)))),(1,ol 1 x1),(7,(.one (.ptr 448 0))),(8,(.one (.t (.str x2)))),(9,oi x3),(10,oi x4)],[(448,(.box [(.t (.str x5)),(.t (.int .i64 x6))]))]⟩
def spec_l4Text.K0:=kx F.spec_l4Text n [.block 0,.seq 0 (cx F.spec_l4Text [1,1,1,1,1,1,1])] (endOf prog A F.spec_l4Text)
def spec_l4Text.at0:=lx F.spec_l4Text n 0 [1,1,1,1,1,1,0,1,0,0] (spec_l4Text.K0 n) m s
def spec_l4Text.rd0:=rx F.spec_l4Text n 0 [1,1,1,1,1,1,0,1,0,0] (spec_l4Text.K0 n) L0 s
theorem spec_l4Text.next0:spec_l4Text.at0 n (m+1) s=spec_l4Text.rd0 n (spec_l4Text.at0 n m) s:=nx ..
theorem spec_l4Text.round0(x0 x1:List T)(x2:ByteArray)(x3 x4:Int)(x5:ByteArray)(x6:Int):spec_l4Text.rd0 n L0 (spec_l4Text.st0 x0 x1 x2 x3 x4 x5 x6)=bif (decide (x4<x6))then bif (decide (x4>0))then bif decide (x2.size+(ByteArray.mk #[44]).size<=9223372036854775807)then(LIM F.spec_l4Text [.rref [.sl 2 x0] 0,.sl 1 x1,.int .i64 x3]).bind fun r11=>(oNil r11.2).bind fun _=>(oStr r11.1).bind fun s12=>bif decide ((x2++(ByteArray.mk #[44])).size+s12.size<=9223372036854775807)then(LIM F.spec_l3End [.rref [.sl 2 x0] 0,.sl 1 x1,.int .i64 x3]).bind fun r13=>bI r13 fun n14=>L0 (spec_l4Text.st0 x0 x1 ((x2++(ByteArray.mk #[44]))++s12) n14 (IntKind.wrap .i64 (x4+1)) x5 x6)else none else none else(LIM F.spec_l4Text [.rref [.sl 2 x0] 0,.sl 1 x1,.int .i64 x3]).bind fun r15=>(oNil r15.2).bind fun _=>(oStr r15.1).bind fun s16=>bif decide (x2.size+s16.size<=9223372036854775807)then(LIM F.spec_l3End [.rref [.sl 2 x0] 0,.sl 1 x1,.int .i64 x3]).bind fun r17=>bI r17 fun n18=>L0 (spec_l4Text.st0 x0 x1 (x2++s16) n18 (IntKind.wrap .i64 (x4+1)) x5 x6)else none else bif decide (x2.size+(ByteArray.mk #[41]).size<=9223372036854775807)then some (.str (x2++(ByteArray.mk #[41])),[])else none:=by kernel_rfl
theorem spec_l4Text.ev(a0_0 a1:List T)(a2:Int):callK prog A H LIM n F.spec_l4Text [.rref [.sl 2 a0_0] 0,.sl 1 a1,.int .i64 a2]=bif inB a2 (a1.length/1)then(a1[a2.toNat*1]?).bind fun e1=>(oInt .i64 e1).bind fun n2=>bif (decide (n2<0))then bif inB a2 (a1.length/1)then(a1[a2.toNat*1]?).bind fun e3=>(oInt .i64 e3).bind fun n4=>some (.str (List.foldl (fun r n=>ByteArray.push r (UInt8.ofNat n.toNat)) ByteArray.empty [IntKind.wrap .u8 (IntKind.wrap .i64 ((64:Int)-n4))]),[])else none else bif inB a2 (a1.length/1)then(a1[a2.toNat*1]?).bind fun e5=>(oInt .i64 e5).bind fun n6=>bif inB n6 (a0_0.length/2)then(a0_0[n6.toNat*2]?).bind fun e7=>(oStr e7).bind fun s8=>(a0_0[(n6.toNat*2)+1]?).bind fun e9=>(oInt .i64 e9).bind fun n10=>bif (n10==0)then some (.str s8,[])else bif decide (s8.size+(ByteArray.mk #[40]).size<=9223372036854775807)then spec_l4Text.at0 n n (spec_l4Text.st0 a0_0 a1 (s8++(ByteArray.mk #[40])) (IntKind.wrap .i64 (a2+1)) (0:Int) s8 n10)else none else none else none else none:=by kernel_rfl
def spec_l5Fault.st0(x0 x1:List T)(x2:Int):St:=⟨[(0,(.one (.t (.rref [(.sl 2 x0)] 0)))),(1,ol 2 x1),(5,oi x2)],[]⟩
def spec_l5Fault.K0:=kx F.spec_l5Fault n [.block 0,.seq 0 (cx F.spec_l5Fault [1,1,1])] (endOf prog A F.spec_l5Fault)
def spec_l5Fault.at0:=lx F.spec_l5Fault n 0 [1,1,0,1,0,0] (spec_l5Fault.K0 n) m s
def spec_l5Fault.rd0:=rx F.spec_l5Fault n 0 [1,1,0,1,0,0] (spec_l5Fault.K0 n) L0 s
theorem spec_l5Fault.next0:spec_l5Fault.at0 n (m+1) s=spec_l5Fault.rd0 n (spec_l5Fault.at0 n m) s:=nx ..
theorem spec_l5Fault.round0(x0 x1:List T)(x2:Int):spec_l5Fault.rd0 n L0 (spec_l5Fault.st0 x0 x1 x2)=bif (decide (x2<(((x1.length/2):Nat):Int)))then bif inB x2 (x1.length/2)then(LIM F.spec_l4Fault [.rref [.sl 2 x0] 0,.rref ((x1.drop (x2.toNat*2)).take 2) 0]).bind fun r1=>bI r1 fun n2=>bif (n2 != 0)then some (.int .i64 n2,[])else L0 (spec_l5Fault.st0 x0 x1 (IntKind.wrap .i64 (x2+1)))else none else some (.int .i64 0,[]):=by kernel_rfl
theorem spec_l5Fault.ev(a0_0 a1:List T):callK prog A H LIM n F.spec_l5Fault [.rref [.sl 2 a0_0] 0,.sl 2 a1]=bif (decide ((((a1.length/2):Nat):Int)>12))then some (.int .i64 2,[])else spec_l5Fault.at0 n n (spec_l5Fault.st0 a0_0 a1 (0:Int)):=by kernel_rfl
def spec_l6Apply.st0(x0 x1 x2:List T)(x3:Int)(x4:List T):St:=⟨[(0,(.one (.t (.rref [(.sl 1 x0),(.sl 1 x1)] 0)))),(1,ol 1 x2),(5,(.one (.obj 512))),(6,oi x3)],[(512,(.arr true true 1 x4))]⟩
def spec_l6Apply.K0:=kx F.spec_l6Apply n [.block 0,.seq 0 (cx F.spec_l6Apply [1,1,1])] (endOf prog A F.spec_l6Apply)
def spec_l6Apply.at0:=lx F.spec_l6Apply n 0 [1,1,0,1,0,0] (spec_l6Apply.K0 n) m s
def spec_l6Apply.rd0:=rx F.spec_l6Apply n 0 [1,1,0,1,0,0] (spec_l6Apply.K0 n) L0 s
theorem spec_l6Apply.next0:spec_l6Apply.at0 n (m+1) s=spec_l6Apply.rd0 n (spec_l6Apply.at0 n m) s:=nx ..
theorem spec_l6Apply.round0(x0 x1 x2:List T)(x3:Int)(x4:List T):spec_l6Apply.rd0 n L0 (spec_l6Apply.st0 x0 x1 x2 x3 x4)=bif (decide (x3<(((x2.length/1):Nat):Int)))then bif inB x3 (x2.length/1)then(x2[x3.toNat*1]?).bind fun e1=>(oInt .i64 e1).bind fun n2=>bif (decide (n2<0))then bif inB x3 (x2.length/1)then(x2[x3.toNat*1]?).bind fun e3=>(oInt .i64 e3).bind fun n4=>(LIM F.spec_l6Term [.rref [.sl 1 x0,.sl 1 x1] 0,.int .i64 (IntKind.wrap .i64 ((-1:Int)-n4))]).bind fun r5=>bL r5 fun c6=>bif c6.all T.scalar then bif (((((c6.length/1):Nat):Int)==0))then bif inB x3 (x2.length/1)then(x2[x3.toNat*1]?).bind fun e7=>(oInt .i64 e7).bind fun n8=>bif Nat.ble ((x4.length+1)*8) (140737488355328*1)then L0 (spec_l6Apply.st0 x0 x1 x2 (IntKind.wrap .i64 (x3+1)) (x4++[.int .i64 n8]:List T))else none else none else bif c6.all T.scalar then bif Nat.ble ((x4.length+c6.length)*8) (140737488355328*1)then L0 (spec_l6Apply.st0 x0 x1 x2 (IntKind.wrap .i64 (x3+1)) (x4++c6:List T))else none else none else none else none else bif inB x3 (x2.length/1)then(x2[x3.toNat*1]?).bind fun e9=>(oInt .i64 e9).bind fun n10=>bif Nat.ble ((x4.length+1)*8) (140737488355328*1)then L0 (spec_l6Apply.st0 x0 x1 x2 (IntKind.wrap .i64 (x3+1)) (x4++[.int .i64 n10]:List T))else none else none else none else some (.sl 1 x4,[]):=by kernel_rfl
theorem spec_l6Apply.ev(a0_0 a0_1 a1:List T):callK prog A H LIM n F.spec_l6Apply [.rref [.sl 1 a0_0,.sl 1 a0_1] 0,.sl 1 a1]=spec_l6Apply.at0 n n (spec_l6Apply.st0 a0_0 a0_1 a1 (0:Int) []):=by kernel_rfl
theorem spec_l6Bent.ev(a0_0:List T)(a0_1:Int)(a1_0:List T):callK prog A H LIM n F.spec_l6Bent [.rref [.sl 1 a0_0,.int .i64 a0_1] 0,.rref [.sl 2 a1_0] 0]=(LIM F.spec_SignatureFault [.agg [.sl 2 a1_0]]).bind fun r1=>bI r1 fun n2=>bif (n2 != 0)then some (.agg [.sl 1 [],.sl 1 []],[.agg [.sl 1 a0_0,.int .i64 a0_1]])else(LIM F.spec_l1Pick [.rref [.sl 1 a0_0,.int .i64 a0_1] 0,.sl 1 [.int .i64 1,.int .i64 3,.int .i64 6]]).bind fun r3=>bS r3 fun c7 n9=>(oInt .i64 r3.1).bind fun n10=>(LIM F.spec_l6Draw [.rref [.sl 1 a0_0,.int .i64 n9] 0,.rref [.sl 2 a1_0] 0,.int .i64 n10]).bind fun r11=>bS r11 fun c15 n17=>(oAgg r11.1).bind fun c18=>(oCons c18).bind fun p19=>(oSl 1 p19.1).bind fun c20=>(oCons p19.2).bind fun p21=>(oSl 1 p21.1).bind fun c22=>(oNil p21.2).bind fun _=>bif (decide ((((c20.length/1):Nat):Int)<1))then some (.agg [.sl 1 c20,.sl 1 c22],[.agg [.sl 1 a0_0,.int .i64 n17]])else(LIM F.spec_l1Chance [.rref [.sl 1 a0_0,.int .i64 n17] 0,.int .i64 8]).bind fun r23=>bS r23 fun c27 n29=>(oBool r23.1).bind fun b30=>bif (!b30)then some (.agg [.sl 1 c20,.sl 1 c22],[.agg [.sl 1 a0_0,.int .i64 n29]])else(LIM F.spec_l1Next [.rref [.sl 1 a0_0,.int .i64 n29] 0,.int .i64 4]).bind fun r31=>bS r31 fun c35 n37=>(oInt .i64 r31.1).bind fun n38=>bif (n38==0)then bif decide (0<=(1:Int))&&decide ((1:Int)<=(((c20.length/1):Nat):Int))&&decide ((((c20.length/1):Nat):Int)<=(((c20.length/1):Nat):Int))then some ((.agg [(.sl 1 ((c20.take ((Int.toNat (((c20.length/1):Nat):Int))*1)).drop (1*1))),.sl 1 c22]),[.agg [.sl 1 a0_0,.int .i64 n37]])else none else bif (n38==1)then(LIM F.spec_l1Next [.rref [.sl 1 a0_0,.int .i64 n37] 0,(.int .i64 (((c20.length/1):Nat):Int))]).bind fun r39=>bS r39 fun c43 n45=>(oInt .i64 r39.1).bind fun n46=>(LIM F.spec_l1Pick [.rref [.sl 1 a0_0,.int .i64 n45] 0,.sl 1 [.int .i64 12,.int .i64 (-1)]]).bind fun r47=>bS r47 fun c51 n53=>(oInt .i64 r47.1).bind fun n54=>bif inB n46 (c20.length/1)then bif decide ((n46.toNat*1)+1<=c20.length)then some (.agg [.sl 1 (setCells c20 (n46.toNat*1) [.int .i64 n54]),.sl 1 c22],[.agg [.sl 1 a0_0,.int .i64 n53]])else none else none else bif (n38==2)then(LIM F.spec_l1Next [.rref [.sl 1 a0_0,.int .i64 n37] 0,(.int .i64 (((c20.length/1):Nat):Int))]).bind fun r55=>bS r55 fun c59 n61=>(oInt .i64 r55.1).bind fun n62=>(LIM F.spec_l3BentTerm [.rref [.sl 1 a0_0,.int .i64 n61] 0,.rref [.sl 2 a1_0] 0,.int .i64 3,.int .i64 3]).bind fun r63=>bS r63 fun c67 n69=>(oSl 1 r63.1).bind fun c70=>bif inB n62 (c22.length/1)then bif decide ((n62.toNat*1)+1<=c22.length)then some (.agg [.sl 1 c20,.sl 1 (setCells c22 (n62.toNat*1) [.sl 1 c70])],[.agg [.sl 1 a0_0,.int .i64 n69]])else none else none else bif inB (0:Int) (c20.length/1)then bif decide (0+1<=c20.length)then some (.agg [.sl 1 (setCells c20 0 [.int .i64 11]),.sl 1 c22],[.agg [.sl 1 a0_0,.int .i64 n37]])else none else none:=by kernel_rfl
def spec_l6Draw.st0(x0:List T)(x1 x2:Int)(x3:List T)(x4:Int)(x5 x6:List T):St:=⟨[(0,(.one (.ptr 1000000 0))),(1,(.one (.t (.rref [(.sl 2 x0)] 0)))),(2,oi x1),(6,(.one (.ptr 384 0))),(7,(.one (.ptr 448 0))),(8,oi x2)],[(1000000,(.box [(.kept 0 (.sl 1 x3)),(.t (.int .i64 x4))])),(384,(.box [.nil,.nil])),(448,(.box [(.obj 517168),(.obj 517169)])),(517168,(.arr true true 1 x5)),(517169,(.arr true true 1 x6))]⟩
def spec_l6Draw.K0:=kx F.spec_l6Draw n [.block 0,.seq 0 (cx F.spec_l6Draw [1,1,1])] (endOf prog A F.spec_l6Draw)
def spec_l6Draw.at0:=lx F.spec_l6Draw n 0 [1,1,0,1,0,0] (spec_l6Draw.K0 n) m s
def spec_l6Draw.rd0:=rx F.spec_l6Draw n 0 [1,1,0,1,0,0] (spec_l6Draw.K0 n) L0 s
theorem spec_l6Draw.next0:spec_l6Draw.at0 n (m+1) s=spec_l6Draw.rd0 n (spec_l6Draw.at0 n m) s:=nx ..
theorem spec_l6Draw.round0(x0:List T)(x1 x2:Int)(x3:List T)(x4:Int)(x5 x6:List T):spec_l6Draw.rd0 n L0 (spec_l6Draw.st0 x0 x1 x2 x3 x4 x5 x6)=bif (decide (x2<x1))then(LIM F.spec_l1Chance [.rref [.sl 1 x3,.int .i64 x4] 0,.int .i64 3]).bind fun r1=>bS r1 fun c5 n7=>(oBool r1.1).bind fun b8=>bif (!b8)then bif Nat.ble ((x5.length+1)*8) (140737488355328*1)then(LIM F.spec_l1Pick [.rref [.sl 1 x3,.int .i64 n7] 0,.sl 1 [.int .i64 1,.int .i64 3,.int .i64 4]]).bind fun r9=>bS r9 fun c13 n15=>(oInt .i64 r9.1).bind fun n16=>(LIM F.spec_l3Draw [.rref [.sl 1 x3,.int .i64 n15] 0,.rref [.sl 2 x0] 0,.int .i64 n16,.int .i64 4]).bind fun r17=>bS r17 fun c21 n23=>(oSl 1 r17.1).bind fun c24=>bif Nat.ble ((x6.length+1)*24) (140737488355328*1)then L0 (spec_l6Draw.st0 x0 x1 (IntKind.wrap .i64 (x2+1)) x3 n23 (x5++[.int .i64 x2]:List T) (x6++[.sl 1 c24]:List T))else none else none else L0 (spec_l6Draw.st0 x0 x1 (IntKind.wrap .i64 (x2+1)) x3 n7 x5 x6)else some (.agg [.sl 1 x5,.sl 1 x6],[.agg [.sl 1 x3,.int .i64 x4]]):=by kernel_rfl
theorem spec_l6Draw.ev(a0_0:List T)(a0_1:Int)(a1_0:List T)(a2:Int):callK prog A H LIM n F.spec_l6Draw [.rref [.sl 1 a0_0,.int .i64 a0_1] 0,.rref [.sl 2 a1_0] 0,.int .i64 a2]=spec_l6Draw.at0 n n (spec_l6Draw.st0 a1_0 a2 (0:Int) a0_0 a0_1 [] []):=by kernel_rfl
def spec_l6Fault.st0(x0 x1 x2:List T)(x3:Int):St:=⟨[(0,(.one (.t (.rref [(.sl 2 x0)] 0)))),(1,(.one (.t (.rref [(.sl 1 x1),(.sl 1 x2)] 0)))),(5,oi x3)],[]⟩
def spec_l6Fault.K0:=kx F.spec_l6Fault n [.block 0,.seq 0 (cx F.spec_l6Fault [1,1,1])] (endOf prog A F.spec_l6Fault)
def spec_l6Fault.at0:=lx F.spec_l6Fault n 0 [1,1,0,1,0,0] (spec_l6Fault.K0 n) m s
def spec_l6Fault.rd0:=rx F.spec_l6Fault n 0 [1,1,0,1,0,0] (spec_l6Fault.K0 n) L0 s
theorem spec_l6Fault.next0:spec_l6Fault.at0 n (m+1) s=spec_l6Fault.rd0 n (spec_l6Fault.at0 n m) s:=nx ..
theorem spec_l6Fault.round0(x0 x1 x2:List T)(x3:Int):spec_l6Fault.rd0 n L0 (spec_l6Fault.st0 x0 x1 x2 x3)=bif (decide (x3<(((x1.length/1):Nat):Int)))then bif inB x3 (x1.length/1)then(x1[x3.toNat*1]?).bind fun e1=>(oInt .i64 e1).bind fun n2=>(LIM F.spec_l1In [.int .i64 n2,.int .i64 0,.int .i64 11]).bind fun r3=>bB r3 fun b4=>bif (!b4)then some (.int .i64 3,[])else bif inB x3 (x2.length/1)then(x2[x3.toNat*1]?).bind fun e5=>(oSl 1 e5).bind fun c6=>(LIM F.spec_l3Fault [.rref [.sl 2 x0] 0,.sl 1 c6]).bind fun r7=>bI r7 fun n8=>bif (n8 != 0)then some (.int .i64 n8,[])else L0 (spec_l6Fault.st0 x0 x1 x2 (IntKind.wrap .i64 (x3+1)))else none else none else(LIM F.spec_l1Rise [.sl 1 x1]).bind fun r9=>bB r9 fun b10=>bif (!b10)then some (.int .i64 1,[])else some (.int .i64 0,[]):=by kernel_rfl
theorem spec_l6Fault.ev(a0_0 a1_0 a1_1:List T):callK prog A H LIM n F.spec_l6Fault [.rref [.sl 2 a0_0] 0,.rref [.sl 1 a1_0,.sl 1 a1_1] 0]=bif (((((a1_0.length/1):Nat):Int) != (((a1_1.length/1):Nat):Int)))then some (.int .i64 2,[])else bif (decide ((((a1_0.length/1):Nat):Int)>12))then some (.int .i64 2,[])else spec_l6Fault.at0 n n (spec_l6Fault.st0 a0_0 a1_0 a1_1 (0:Int)):=by kernel_rfl
def spec_l6Term.st0(x0 x1:List T)(x2 x3:Int):St:=⟨[(0,(.one (.t (.rref [(.sl 1 x0),(.sl 1 x1)] 0)))),(1,oi x2),(5,oi x3)],[]⟩
def spec_l6Term.K0:=kx F.spec_l6Term n [.block 0,.seq 0 (cx F.spec_l6Term [1,1])] (endOf prog A F.spec_l6Term)
def spec_l6Term.at0:=lx F.spec_l6Term n 0 [1,0,1,0,0] (spec_l6Term.K0 n) m s
def spec_l6Term.rd0:=rx F.spec_l6Term n 0 [1,0,1,0,0] (spec_l6Term.K0 n) L0 s
theorem spec_l6Term.next0:spec_l6Term.at0 n (m+1) s=spec_l6Term.rd0 n (spec_l6Term.at0 n m) s:=nx ..
theorem spec_l6Term.round0(x0 x1:List T)(x2 x3:Int):spec_l6Term.rd0 n L0 (spec_l6Term.st0 x0 x1 x2 x3)=bif (decide (x3<(((x0.length/1):Nat):Int)))then bif inB x3 (x0.length/1)then(x0[x3.toNat*1]?).bind fun e1=>(oInt .i64 e1).bind fun n2=>bif (n2==x2)then bif inB x3 (x1.length/1)then(x1[x3.toNat*1]?).bind fun e3=>(oSl 1 e3).bind fun c4=>some (.sl 1 c4,[])else none else L0 (spec_l6Term.st0 x0 x1 x2 (IntKind.wrap .i64 (x3+1)))else none else some (.sl 1 [],[]):=by kernel_rfl
theorem spec_l6Term.ev(a0_0 a0_1:List T)(a1:Int):callK prog A H LIM n F.spec_l6Term [.rref [.sl 1 a0_0,.sl 1 a0_1] 0,.int .i64 a1]=spec_l6Term.at0 n n (spec_l6Term.st0 a0_0 a0_1 a1 (0:Int)):=by kernel_rfl
end
end Ev
end
section
end
section
namespace Ev.Ty
open Go Ev
open Enc (enc)
open Sm (sm)
theorem call2_of{g:FuncId}{args:List T}{r:T×List T}(hx:X g=none)(n:Nat)(h:callK prog A H LIM n g args=some r):LIM g args=some r:=lim_of hx n h
theorem cells_le{α:Type}[Enc α]{l:List α}{a:Nat}:(a<=(cells l).length)=(a<=l.length*Enc.sz α):=by rw[cells_length]
theorem set_same{α:Type}{o:List α}{i:Nat}{x:α}(h:o[i]?=some x):o.set i x=o:=by
 refine List.ext_getElem? fun j=>?_;rw[List.getElem?_set];split
 ·rename_i e;subst e;have:=(List.getElem?_eq_some_iff.1 h).1;rw[if_pos this,h]
 ·rfl
theorem fset_gen{α:Type}[Enc α]{o:List α}{i n j:Nat}{x x':α}{c:T}(hn:Enc.sz α=n)(hi:i<o.length)(hj:j<n)
 (he:(enc x).set j c=enc x'):setCells (cells (o.set i x)) (i*n+j) [c]=cells (o.set i x'):=by
 subst hn;rw[<- cells_set o _ i rfl x hi,<- cells_set o _ i rfl x' hi,<- he]
 have hle:i*Enc.sz α+Enc.sz α<=o.length*Enc.sz α:=by
  rw[<- Nat.succ_mul];exact Nat.mul_le_mul_right _ hi
 have hl:=cells_length o;refine List.ext_getElem? fun q=>?_;have hlen:(setCells (cells o) (i*Enc.sz α) (enc x)).length=(cells o).length:=setCells_len _ _ _;have l1:(enc x).length=Enc.sz α:=Enc.len x;have l2:((enc x).set j c).length=Enc.sz α:=by rw[List.length_set];exact l1
 rw[setCells_get [c] _ _ _ (by rw[hlen,List.length_singleton];omega),setCells_get (enc x) _ _ _ (by omega),setCells_get ((enc x).set j c) _ _ _ (by omega),l1,l2,List.length_singleton];by_cases hq:i*Enc.sz α+j=q
 ·subst hq;rw[if_pos ⟨by omega,by omega⟩,if_pos ⟨by omega,by omega⟩,List.getElem?_set,if_pos (by omega),if_pos (by omega)];simp
 ·rw[if_neg (by omega)];split
  ·rw[List.getElem?_set,if_neg (by omega)]
  ·rfl
end Ev.Ty
end
section
namespace Ev.Ty
open Go Ev
end Ev.Ty
end
section
namespace Ev.Ty
open Go Ev
open Enc (enc)
open Sm (sm)
def inR(n a b:Int):Bool:=decide (a<=n/\n<=b)
theorem impl_within(n a b:Int):Call F.impl_within [.int .i64 n,.int .i64 a,.int .i64 b] (.bool (inR n a b)):=by
 refine call_of rfl 0 ((impl_within.ev _ _ _ _).trans ?_);simp only[evz,Nat.reduceLT,inR,ge_iff_le];by_cases h:a<=n <;> simp[h]
theorem spec_l1In(n a b:Int):Call F.spec_l1In [.int .i64 n,.int .i64 a,.int .i64 b] (.bool (inR n a b)):=by
 refine call_of rfl 0 ((spec_l1In.ev _ _ _ _).trans ?_);simp only[evz,Nat.reduceLT,inR,ge_iff_le];by_cases h:a<=n <;> simp[h]
def twice{β:Type}[DecidableEq β](l:List β):Bool := !decide l.Nodup
theorem twice_iff{β:Type}[DecidableEq β](l:List β):twice l=true<->∃i j,j<i/\∃(h:i<l.length)(h':j<l.length),l[i]=l[j]:=by
 unfold twice;rw[Bool.not_eq_true',decide_eq_false_iff_not,List.Nodup,List.pairwise_iff_getElem];constructor
 ·intro h;simp only[Classical.not_forall]at h;obtain⟨i,j,h1,h2,h3,h4⟩:=h;simp only[ne_eq,Classical.not_not]at h4;exact⟨j,i,h3,h2,h1,h4.symm⟩
 ·rintro⟨i,j,h1,h2,h3,h4⟩ h;exact h j i h3 h2 h1 h4.symm
theorem twice_first{α β:Type}[DecidableEq β](f:α->β)(l:List α):((List.range l.length).any fun k=>l[k]?.any fun x=>decide (idx (fun y=>decide (f y=f x)) l≠(k:Nat)))=twice (l.map f):=by
 rw[Bool.eq_iff_iff,twice_iff];simp only[List.any_eq_true,List.mem_range,List.length_map,List.getElem_map];constructor
 ·rintro⟨k,hk,h⟩;rw[List.getElem?_eq_getElem hk,Option.any_some]at h;simp only[decide_eq_true_eq]at h;rcases idx_spec (fun y=>decide (f y=f l[k])) l with⟨_,h1⟩|⟨i,hi,h1,h2,h3⟩
  ·have:=h1 l[k] (List.getElem_mem hk);simp at this
  ·rw[h1]at h;simp only[decide_eq_true_eq]at h2;rcases Nat.lt_trichotomy i k with hlt|heq|hgt
   ·exact⟨k,i,hlt,hk,hi,h2.symm⟩
   ·subst heq;simp at h
   ·have:=h3 k hgt;simp at this
 ·rintro⟨i,j,hji,hi,hj,he⟩;refine⟨i,hi,?_⟩;rw[List.getElem?_eq_getElem hi,Option.any_some];simp only[decide_eq_true_eq];rcases idx_spec (fun y=>decide (f y=f l[i])) l with⟨h0,_⟩|⟨k,hk,h1,h2,h3⟩
  ·rw[h0];omega
  ·rw[h1];intro hk';have:k=i:=by omega
   subst this;have:=h3 j hji;simp[he]at this
theorem twice_pairs{α β:Type}[DecidableEq β](f:α->β)(l:List α):((List.range l.length).any fun i=>(List.range i).any fun j=>l[i]?.any fun x=>l[j]?.any fun y=>decide (f x=f y))=twice (l.map f):=by
 rw[Bool.eq_iff_iff,twice_iff];simp only[List.any_eq_true,List.mem_range,List.length_map,List.getElem_map];constructor
 ·rintro⟨i,hi,j,hj,h⟩;rw[List.getElem?_eq_getElem hi,List.getElem?_eq_getElem (show j<l.length by omega)]at h;exact⟨i,j,hj,hi,by omega,by simpa using h⟩
 ·rintro⟨i,j,hji,hi,hj,he⟩;refine⟨i,hi,j,hji,?_⟩;rw[List.getElem?_eq_getElem hi,List.getElem?_eq_getElem hj];simpa using he
def letter(b:UInt8):Bool:=decide (97<=b.toNat/\b.toNat<=122)
def nameOk(s:ByteArray):Bool:=decide (1<=s.size/\s.size<=3)&&s.data.toList.all letter
def letters:ByteArray:=ByteArray.mk #[97,98,99,100,101,102,103,104,105,106,107,108,109,110,111,112,113,114,115,116,117,118,119,120,121,122]
theorem letters_has(b:UInt8):letters.data.toList.contains b=letter b:=by
 have h:∀n:Fin 256,letters.data.toList.contains (UInt8.ofNat n.val)=letter (UInt8.ofNat n.val):=by decide +kernel
 have:=h ⟨b.toNat,b.toNat_lt⟩;simpa using this
theorem dropWhile_nil{α:Type}(p:α->Bool):∀l:List α,(l.dropWhile p).isEmpty=l.all p
 |[]=>rfl
 |x::l=>by
  rw[List.dropWhile_cons,List.all_cons];cases hp:p x with
  |true=>simpa using dropWhile_nil p l
  |false=>simp
theorem trimS_empty(l:List UInt8):(Lib.trimS l letters.data.toList).isEmpty=l.all letter:=by
 have e:(letters.data.toList.contains ·)=letter:=funext letters_has;unfold Lib.trimS Lib.trimLeftS;rw[e,dropWhile_nil];unfold Lib.trimRightS;rw[e,List.all_reverse]
 have:∀l:List UInt8,(l.dropWhile letter).all letter=l.all letter:=by
  intro l;induction l with
  |nil=>rfl
  |cons x l ih=>
   rw[List.dropWhile_cons];cases hp:letter x with
   |true=>simp[hp,ih]
   |false=>simp[hp]
 rw[this,List.all_reverse]
theorem strings_Trim(s:ByteArray)(h:s.size<=3):Call F.strings_Trim [.str s,.str letters] (.str ⟨(Lib.trimS s.data.toList letters.data.toList).toArray⟩):=by
 refine lim_ext (e:=trimE) rfl (Ev.of fun m=>?_);show(bif decide (s.size<=9223372036854775807)&&decide (letters.size<4294967281)&&letters.data.toList.all (fun b=>decide (b.toNat<128))then _ else _)=_;rw[decide_eq_true (by omega),show decide (letters.size<4294967281)=true by decide +kernel,show letters.data.toList.all (fun b=>decide (b.toNat<128))=true by decide +kernel];rfl
theorem impl_isName(s:ByteArray):Call F.impl_isName [.str s] (.bool (nameOk s)):=by
 refine call_of rfl 0 ((impl_isName.ev _ _).trans ?_);simp only[evz,Nat.reduceLT,ge_iff_le,nameOk];by_cases h1:1<=s.size
 ·by_cases h2:s.size<=3
  ·have h1':(1:Int)<=s.size:=by omega
   have h2':(s.size:Int)<=3:=by omega
   rw[show(ByteArray.mk #[97,98,99,100,101,102,103,104,105,106,107,108,109,110,111,112,113,114,115,116,117,118,119,120,121,122])=letters from rfl];simp only[h1,h2,h1',h2',(strings_Trim s h2).eq,evz,Nat.reduceLT,and_self,Bool.true_and];rw[<- trimS_empty];congr 3;rw[Bool.eq_iff_iff,decide_eq_true_eq,List.isEmpty_iff];simp
  ·have h1':(1:Int)<=s.size:=by omega
   have h2':¬(s.size:Int)<=3:=by omega
   simp only[h1,h2,h1',h2',evz,Nat.reduceLT,and_false,Bool.false_and]
 ·have h1':¬(1:Int)<=s.size:=by omega
  simp only[h1,h1',evz,Nat.reduceLT,false_and,Bool.false_and]
theorem byte_at{s:ByteArray}{k:Nat}(h:k<s.data.toList.length):s.data.getD k 0=s.data.toList[k]:=by
 simp at h;simp[Array.getD,h]
theorem spec_l2Name(s:ByteArray):Call F.spec_l2Name [.str s] (.bool (nameOk s)):=by
 refine call_of rfl (s.size+1) ((spec_l2Name.ev _ _).trans ?_);simp only[evz,Nat.reduceLT,gt_iff_lt,nameOk];by_cases h1:1<=s.size
 ·by_cases h2:s.size<=3
  ·have h1':¬(s.size:Int)<1:=by omega
   have h2':¬(3:Int)<s.size:=by omega
   simp only[h1,h2,h1',h2',if_false,and_self,decide_true,Bool.true_and];have hsz:s.data.toList.length=s.size:=by rw[Array.length_toList];rfl
   refine(any_loopL (l:=s.data.toList) (p:=fun b=>!letter b) (S:=fun m k=>spec_l2Name.at0 (s.size+1) m (spec_l2Name.st0 s (k:Nat))) (r:=some (.bool false,[])) (z:=some (.bool true,[])) (fun m k h=>?_) (fun m=>?_) (by omega)).trans ?_
   ·have h':k<s.size:=by omega
    simp only[spec_l2Name.next0,spec_l2Name.round0,evz,Nat.reduceLT,h',byte_at h];rw[wrap_succ (by omega)];unfold letter;by_cases c1:s.data.toList[k].toNat<97
    ·have c1':(s.data.toList[k].toNat:Int)<97:=by omega
     rw[if_pos c1',if_pos (by simp only[Bool.not_eq_true',decide_eq_false_iff_not];omega)]
    ·have c1':¬(s.data.toList[k].toNat:Int)<97:=by omega
     rw[if_neg c1'];by_cases c2:122<s.data.toList[k].toNat
     ·have c2':(s.data.toList[k].toNat:Int)>122:=by omega
      rw[if_pos c2',if_pos (by simp only[Bool.not_eq_true',decide_eq_false_iff_not];omega)]
     ·have c2':¬(s.data.toList[k].toNat:Int)>122:=by omega
      rw[if_neg c2',if_neg (by simp only[Bool.not_eq_true',decide_eq_false_iff_not];omega)]
   ·rw[hsz];simp only[spec_l2Name.next0,spec_l2Name.round0,evz,Nat.reduceLT,Nat.lt_irrefl]
   ·have:s.data.toList.any (fun b=>!letter b) = !s.data.toList.all letter:=by rw[List.not_all_eq_any_not]
    rw[this];cases s.data.toList.all letter <;> rfl
  ·have h1':¬(s.size:Int)<1:=by omega
   have h2':(3:Int)<s.size:=by omega
   simp only[h1,h2,h1',h2',evz,Nat.reduceLT,and_false,Bool.false_and]
 ·have h1':(s.size:Int)<1:=by omega
  simp only[h1,h1',evz,Nat.reduceLT,false_and,Bool.false_and]
def symFault(x:Symbol):Option Int:=if nameOk x.name=false then some 5 else if inR x.arity 0 2=false then some 3 else none
def sigFault(s:Signature):Int:=
 if s.symbols.length<1\/6<s.symbols.length then 2
 else match s.symbols.findSome? symFault with
  |some c=>c
  |none=>if twice (s.symbols.map (·.name))then 6 else if s.symbols.any (fun x=>decide (x.arity=0))then 0 else 4
theorem slices_IndexFunc_SSymbol_at1_impl_symbolIndex_1(l:List Symbol)(hs:l.length<=4294967296)(n:ByteArray):Call F.slices_IndexFunc_SSymbol [slc l,.clo F.impl_symbolIndex_1 [.rref [.str n] 0]] (.int .i64 (idx (fun x=>decide (x.name=n)) l)):=by
 refine call_of rfl (l.length+1) ((slices_IndexFunc_SSymbol_at1_impl_symbolIndex_1.ev _ _ _).trans ?_);refine idx_loop (S:=fun m k=>slices_IndexFunc_SSymbol_at1_impl_symbolIndex_1.at0 (l.length+1) m (slices_IndexFunc_SSymbol_at1_impl_symbolIndex_1.st0 (cells l) n _ (k:Nat))) (fun m k h=>?_) (fun m=>?_) (Nat.lt_succ_self _)
 ·have hlk:l[k]?=some l[k]:=List.getElem?_eq_getElem h
  have hc:Call F.impl_symbolIndex_1 [.agg [.str l[k].name,.int .i64 l[k].arity],.rref [.str n] 0] (.bool (decide (l[k].name=n))):=by
   refine call_of rfl 0 ((impl_symbolIndex_1.ev _ _ _ _).trans ?_);simp only[evz,Nat.reduceLT]
  simp only[slices_IndexFunc_SSymbol_at1_impl_symbolIndex_1.next0,slices_IndexFunc_SSymbol_at1_impl_symbolIndex_1.round0,evz,Nat.reduceLT,h,hlk,enc_Symbol,hc.eq];rw[wrap_succ (by omega)];simp only[decide_eq_true_eq]
 ·simp only[slices_IndexFunc_SSymbol_at1_impl_symbolIndex_1.next0,slices_IndexFunc_SSymbol_at1_impl_symbolIndex_1.round0,evz,Nat.reduceLT,Nat.lt_irrefl]
theorem impl_symbolIndex(l:List Symbol)(hs:l.length<=4294967296)(n:ByteArray):Call F.impl_symbolIndex [.agg [slc l],.str n] (.int .i64 (idx (fun x=>decide (x.name=n)) l)):=by
 refine call_of rfl 0 ((impl_symbolIndex.ev _ _ _).trans ?_);simp only[evz,Nat.reduceLT,(slices_IndexFunc_SSymbol_at1_impl_symbolIndex_1 l hs n).eq]
theorem slices_IndexFunc_SSymbol_at1_impl_SignatureFault_1(l:List Symbol)(hs:l.length<=4294967296):Call F.slices_IndexFunc_SSymbol [slc l,.clo F.impl_SignatureFault_1 []] (.int .i64 (idx (fun x=>decide (x.arity=0)) l)):=by
 refine call_of rfl (l.length+1) ((slices_IndexFunc_SSymbol_at1_impl_SignatureFault_1.ev _ _).trans ?_);refine idx_loop (S:=fun m k=>slices_IndexFunc_SSymbol_at1_impl_SignatureFault_1.at0 (l.length+1) m (slices_IndexFunc_SSymbol_at1_impl_SignatureFault_1.st0 (cells l) _ (k:Nat))) (fun m k h=>?_) (fun m=>?_) (Nat.lt_succ_self _)
 ·have hlk:l[k]?=some l[k]:=List.getElem?_eq_getElem h
  have hc:Call F.impl_SignatureFault_1 [.agg [.str l[k].name,.int .i64 l[k].arity]] (.bool (decide (l[k].arity=0))):=by
   refine call_of rfl 0 ((impl_SignatureFault_1.ev _ _ _).trans ?_);simp only[evz,Nat.reduceLT]
  simp only[slices_IndexFunc_SSymbol_at1_impl_SignatureFault_1.next0,slices_IndexFunc_SSymbol_at1_impl_SignatureFault_1.round0,evz,Nat.reduceLT,h,hlk,enc_Symbol,hc.eq];rw[wrap_succ (by omega)];simp only[decide_eq_true_eq]
 ·simp only[slices_IndexFunc_SSymbol_at1_impl_SignatureFault_1.next0,slices_IndexFunc_SSymbol_at1_impl_SignatureFault_1.round0,evz,Nat.reduceLT,Nat.lt_irrefl]
theorem slices_ContainsFunc_SSymbol_at1_impl_SignatureFault_1(l:List Symbol)(hs:l.length<=4294967296):Call F.slices_ContainsFunc_SSymbol [slc l,.clo F.impl_SignatureFault_1 []] (.bool (l.any fun x=>decide (x.arity=0))):=by
 refine call_of rfl 0 ((slices_ContainsFunc_SSymbol_at1_impl_SignatureFault_1.ev _ _).trans ?_);simp only[evz,Nat.reduceLT,(slices_IndexFunc_SSymbol_at1_impl_SignatureFault_1 l hs).eq,idx_nonneg]
theorem impl_SignatureFault(l:List Symbol)(hs:l.length<=4294967296):Call F.impl_SignatureFault [.agg [slc l]] (.int .i64 (sigFault ⟨l⟩)):=by
 refine call_of rfl (l.length+1) ((impl_SignatureFault.ev _ _).trans ?_);simp only[evz,Nat.reduceLT,sigFault,gt_iff_lt];by_cases h1:l.length<1
 ·have h1':(l.length:Int)<1:=by omega
  simp only[h1,h1',evz,Nat.reduceLT,true_or]
 by_cases h2:6<l.length
 ·have h1':¬(l.length:Int)<1:=by omega
  have h2':(6:Int)<l.length:=by omega
  simp only[h1,h1',h2,h2',evz,Nat.reduceLT,or_true]
 have h1':¬(l.length:Int)<1:=by omega
 have h2':¬(6:Int)<l.length:=by omega
 simp only[h1,h1',h2,h2',if_false,or_self]
 have two:=any_loop (n:=l.length) (bad:=fun k=>l[k]?.any fun x=>decide (idx (fun y=>decide (y.name=x.name)) l≠(k:Nat)))
  (S:=fun m k=>impl_SignatureFault.at2 (l.length+1) m (impl_SignatureFault.st2 (cells l) l.length (k:Nat) (cells l))) (r:=some (.int .i64 6,[])) (z:=if l.any (fun x=>decide (x.arity=0))then some (.int .i64 0,[])else some (.int .i64 4,[]))
  (fun m k h=>by
   have hlk:l[k]?=some l[k]:=List.getElem?_eq_getElem h;simp only[impl_SignatureFault.next2,impl_SignatureFault.round2,evz,Nat.reduceLT,h,hlk,enc_Symbol,(impl_symbolIndex l hs _).eq];rw[wrap_succ (by omega)];by_cases e:idx (fun y=>decide (y.name=l[k].name)) l=(k:Int) <;> simp[e])
  (fun m=>by
   simp only[impl_SignatureFault.next2,impl_SignatureFault.round2,evz,Nat.reduceLT,Nat.lt_irrefl,(slices_ContainsFunc_SSymbol_at1_impl_SignatureFault_1 l hs).eq];cases l.any (fun x=>decide (x.arity=0)) <;> rfl) (Nat.lt_succ_self _)
 have one:=scan_loop (l:=l) (g:=fun x=>(symFault x).map fun c=>some (.int .i64 c,[]))
  (S:=fun m k=>impl_SignatureFault.at0 (l.length+1) m (impl_SignatureFault.st0 (cells l) l.length (k:Nat) (cells l)))
  (fun m k h=>by
   have hlk:l[k]?=some l[k]:=List.getElem?_eq_getElem h;simp only[impl_SignatureFault.next0,impl_SignatureFault.round0,evz,Nat.reduceLT,h,hlk,enc_Symbol,(impl_isName _).eq,(impl_within _ _ _).eq];rw[wrap_succ (by omega)];cases h5:nameOk l[k].name with
   |false=>simp[symFault,h5]
   |true=>cases h6:inR l[k].arity 0 2 <;> simp[symFault,h5,h6])
  (fun m=>by simp only[impl_SignatureFault.next0,impl_SignatureFault.round0,evz,Nat.reduceLT,Nat.lt_irrefl];rfl) (Nat.lt_succ_self _)
 refine one.trans ?_;rw[show impl_SignatureFault.at2 (l.length+1) (l.length+1) (impl_SignatureFault.st2 (cells l) l.length 0 (cells l))=_ from two,twice_first (fun y:Symbol=>y.name),findSome_map];cases l.findSome? symFault with
 |some c=>rfl
 |none=>cases twice (l.map fun x=>x.name) <;> cases l.any (fun x=>decide (x.arity=0)) <;> rfl
theorem spec_SignatureFault(l:List Symbol)(hs:l.length<=4294967296):Call F.spec_SignatureFault [.agg [slc l]] (.int .i64 (sigFault ⟨l⟩)):=by
 obtain⟨n,hn⟩:∃n,n=l.length+1:=⟨_,rfl⟩;refine call_of rfl n ((spec_SignatureFault.ev _ _).trans ?_);simp only[evz,Nat.reduceLT,sigFault,gt_iff_lt];by_cases h1:l.length<1
 ·have h1':(l.length:Int)<1:=by omega
  simp only[h1,h1',evz,Nat.reduceLT,true_or]
 by_cases h2:6<l.length
 ·have h1':¬(l.length:Int)<1:=by omega
  have h2':(6:Int)<l.length:=by omega
  simp only[h1,h1',h2,h2',evz,Nat.reduceLT,or_true]
 have h1':¬(l.length:Int)<1:=by omega
 have h2':¬(6:Int)<l.length:=by omega
 simp only[h1,h1',h2,h2',if_false,or_self]
 have six:=any_loopL (l:=l) (p:=fun x=>decide (x.arity=0)) (S:=fun m k=>spec_SignatureFault.at6 n m (spec_SignatureFault.st6 l.length (k:Nat) (cells l))) (r:=some (.int .i64 0,[])) (z:=some (.int .i64 4,[]))
  (fun m k h=>by
   have hlk:l[k]?=some l[k]:=List.getElem?_eq_getElem h;simp only[spec_SignatureFault.next6,spec_SignatureFault.round6,evz,Nat.reduceLT,h,hlk,enc_Symbol];rw[wrap_succ (by omega)];simp only[decide_eq_true_eq])
  (fun m=>by simp only[spec_SignatureFault.next6,spec_SignatureFault.round6,evz,Nat.reduceLT,Nat.lt_irrefl]) (show l.length<n by omega)
 have two:=any_loop (n:=l.length) (bad:=fun i=>(List.range i).any fun j=>l[i]?.any fun x=>l[j]?.any fun y=>decide (x.name=y.name))
  (S:=fun m i=>spec_SignatureFault.at2 n m (spec_SignatureFault.st2 l.length (i:Nat) (cells l))) (r:=some (.int .i64 6,[]))
  (fun m i h=>by
   have hlk:l[i]?=some l[i]:=List.getElem?_eq_getElem h;simp only[spec_SignatureFault.next2,spec_SignatureFault.round2,evz,Nat.reduceLT,h]
   refine any_loop (n:=i) (f:=n) (bad:=fun j=>l[i]?.any fun x=>l[j]?.any fun y=>decide (x.name=y.name))
    (S:=fun m' j=>spec_SignatureFault.at4 n (spec_SignatureFault.at2 n m) m' (spec_SignatureFault.st4 l.length (i:Nat) (j:Nat) (cells l))) (fun m' j hj=>?_) (fun m'=>?_) (by omega)
   ·have hj':j<l.length:=by omega
    have hjk:l[j]?=some l[j]:=List.getElem?_eq_getElem hj';simp only[spec_SignatureFault.next4,spec_SignatureFault.round4,evz,Nat.reduceLT,h,hj,hj',hlk,hjk,enc_Symbol];rw[wrap_succ (by omega)];by_cases e:l[i].name=l[j].name <;> simp[e]
   ·simp only[spec_SignatureFault.next4,spec_SignatureFault.round4,evz,Nat.reduceLT,Nat.lt_irrefl];rw[wrap_succ (by omega)])
  (fun m=>by simp only[spec_SignatureFault.next2,spec_SignatureFault.round2,evz,Nat.reduceLT,Nat.lt_irrefl];exact six) (show l.length<n by omega)
 have one:=scan_loop (l:=l) (g:=fun x=>(symFault x).map fun c=>some (.int .i64 c,[]))
  (S:=fun m k=>spec_SignatureFault.at0 n m (spec_SignatureFault.st0 l.length (k:Nat) (cells l)))
  (fun m k h=>by
   have hlk:l[k]?=some l[k]:=List.getElem?_eq_getElem h;simp only[spec_SignatureFault.next0,spec_SignatureFault.round0,evz,Nat.reduceLT,h,hlk,enc_Symbol,(spec_l2Name _).eq,(spec_l1In _ _ _).eq];rw[wrap_succ (by omega)];cases h5:nameOk l[k].name with
   |false=>simp[symFault,h5]
   |true=>cases h6:inR l[k].arity 0 2 <;> simp[symFault,h5,h6])
  (fun m=>by simp only[spec_SignatureFault.next0,spec_SignatureFault.round0,evz,Nat.reduceLT,Nat.lt_irrefl];rfl) (show l.length<n by omega)
 refine one.trans ?_;rw[show spec_SignatureFault.at2 n n (spec_SignatureFault.st2 l.length 0 (cells l))=_ from two,twice_pairs (fun y:Symbol=>y.name),findSome_map];cases l.findSome? symFault with
 |some c=>rfl
 |none=>cases twice (l.map fun x=>x.name) <;> cases l.any (fun x=>decide (x.arity=0)) <;> rfl
theorem inR_iff{n a b:Int}:inR n a b=true<->a<=n/\n<=b:=by unfold inR;simp
structure SigOk(s:Signature):Prop where
 pos:1<=s.symbols.length
 le:s.symbols.length<=6
 name:∀x∈s.symbols,nameOk x.name=true
 arity:∀x∈s.symbols,0<=x.arity/\x.arity<=2
 nodup:(s.symbols.map (·.name)).Nodup
 const:∃x∈s.symbols,x.arity=0
theorem findSome_none{α β:Type}{f:α->Option β}:∀{l:List α},l.findSome? f=none<->∀x∈l,f x=none
 |[]=>by simp
 |x::l=>by
  rw[List.findSome?_cons];cases h:f x with
  |some b=>simp[h]
  |none=>simp[h,findSome_none (l:=l)]
theorem sigOk_iff(s:Signature):sigFault s=0<->SigOk s:=by
 unfold sigFault;constructor
 ·intro h;split at h
  ·cases h
  ·rename_i h1;split at h
   ·rename_i c hc;obtain⟨x,hx,hf⟩:=List.exists_of_findSome?_eq_some hc;unfold symFault at hf;split at hf
    ·cases hf;cases h
    ·split at hf
     ·cases hf;cases h
     ·cases hf
   ·rename_i hn;rw[findSome_none]at hn;split at h
    ·cases h
    ·rename_i ht;split at h
     ·rename_i ha
      have hx:∀x∈s.symbols,nameOk x.name=true/\inR x.arity 0 2=true:=fun x hx=>by
       have:=hn x hx;unfold symFault at this;split at this
       ·cases this
       ·split at this
        ·cases this
        ·rename_i h1 h2;exact⟨by simpa using h1,by simpa using h2⟩
      refine⟨by omega,by omega,fun x h=>(hx x h).1,fun x h=>inR_iff.1 (hx x h).2,?_,?_⟩
      ·unfold twice at ht;simpa using ht
      ·rw[List.any_eq_true]at ha;obtain⟨x,h1,h2⟩:=ha;exact⟨x,h1,by simpa using h2⟩
     ·cases h
 ·intro h;rw[if_neg (by have:=h.pos;have:=h.le;omega)]
  have:s.symbols.findSome? symFault=none:=findSome_none.2 fun x hx=>by
   unfold symFault;rw[if_neg (by simp[h.name x hx]),if_neg (by have:=inR_iff.2 (h.arity x hx);simp[this])]
  rw[this];simp only;rw[if_neg (by unfold twice;simpa using h.nodup),if_pos];rw[List.any_eq_true];obtain⟨x,h1,h2⟩:=h.const;exact⟨x,h1,by simpa using h2⟩
theorem pow_small{z k:Nat}(hz:z<=3)(hk:k<=12):z ^ k<=531441:=
 Nat.le_trans (Nat.pow_le_pow_left hz k) (Nat.le_trans (Nat.pow_le_pow_right (by omega) hk) (by decide))
theorem impl_power(z r:Nat)(hz:z<=3)(hr:r<=12):Call F.impl_power [.int .i64 z,.int .i64 r] (.int .i64 (z ^ r:Nat)):=by
 refine call_of rfl (r+1) ((impl_power.ev _ _ _).trans ?_)
 have:∀m k,k<=r->r<m+k->impl_power.at0 (r+1) m (impl_power.st0 z (z ^ k:Nat) r (k:Nat))=some (.int .i64 (z ^ r:Nat),[]):=by
  intro m;induction m with
  |zero=>intros;omega
  |succ m ih=>
   intro k hk hm;simp only[impl_power.next0,impl_power.round0,evz,Nat.reduceLT];by_cases h:k<r
   ·have hb:=pow_small (k:=k.succ) hz (by omega);rw[if_pos h,wrap_succ (by omega),<- Int.natCast_mul,<- Nat.pow_succ,wrap64 (by omega)];exact ih (k+1) (by omega) (by omega)
   ·obtain rfl:k=r:=by omega
    rw[if_neg h]
 exact this (r+1) 0 (by omega) (by omega)
theorem spec_l10Pow(z r:Nat)(hz:z<=3)(hr:r<=12):Call F.spec_l10Pow [.int .i64 z,.int .i64 r] (.int .i64 (z ^ r:Nat)):=by
 induction r with
 |zero=>exact call_of rfl 0 ((spec_l10Pow.ev _ _ _).trans rfl)
 |succ r ih=>
  refine call_of rfl 0 ((spec_l10Pow.ev _ _ _).trans ?_);have hb:=pow_small (k:=r.succ) hz hr;have h1:¬(((r+1:Nat):Int)=0):=by omega
  have h2:IntKind.wrap .i64 (((r+1:Nat):Int)-1)=(r:Nat):=by rw[wrap64 (by omega)];omega
  simp only[evz,Nat.reduceLT,h1,h2,(ih (by omega)).eq];rw[<- Int.natCast_mul,Nat.mul_comm,<- Nat.pow_succ,wrap64 (by omega)]
def tableFault(z:Int)(x:Symbol×List Int):Option Int:=
 if x.2.length≠z.toNat ^ x.1.arity.toNat then some 2 else if x.2.any (fun n=>!inR n 0 (z-1))then some 3 else none
def algFault(s:Signature)(a:Algebra):Int:=
 if sigFault s≠0 then sigFault s
 else if inR a.size 1 3=false then 3
 else if a.tables.length≠s.symbols.length then 2
 else match (s.symbols.zip a.tables).findSome? (tableFault a.size)with
  |some c=>c
  |none=>0
theorem slices_IndexFunc_Sint64_at1_impl_AlgebraFault_1(l:List Int)(hs:l.length<=4294967296)(z:Int)(t:List (List Int))(hz:1<=z/\z<=3) :
 Call F.slices_IndexFunc_Sint64 [slc l,.clo F.impl_AlgebraFault_1 [.rref [.int .i64 z,slc t] 0]] (.int .i64 (idx (fun n=>!inR n 0 (z-1)) l)):=by
 refine call_of rfl (l.length+1) ((slices_IndexFunc_Sint64_at1_impl_AlgebraFault_1.ev _ _ _ _).trans ?_);refine idx_loop (S:=fun m k=>slices_IndexFunc_Sint64_at1_impl_AlgebraFault_1.at0 (l.length+1) m (slices_IndexFunc_Sint64_at1_impl_AlgebraFault_1.st0 (cells l) z _ _ (k:Nat))) (fun m k h=>?_) (fun m=>?_) (Nat.lt_succ_self _)
 ·have hlk:l[k]?=some l[k]:=List.getElem?_eq_getElem h
  have hc:Call F.impl_AlgebraFault_1 [.int .i64 l[k],.rref [.int .i64 z,slc t] 0] (.bool (!inR l[k] 0 (z-1))):=by
   refine call_of rfl 0 ((impl_AlgebraFault_1.ev _ _ _ _).trans ?_);simp only[evz,Nat.reduceLT,wrap64 (x:=z-1) (by omega),(impl_within _ _ _).eq]
  simp only[slices_IndexFunc_Sint64_at1_impl_AlgebraFault_1.next0,slices_IndexFunc_Sint64_at1_impl_AlgebraFault_1.round0,evz,Nat.reduceLT,h,hlk,enc_int,hc.eq];rw[wrap_succ (by omega)];cases inR l[k] 0 (z-1) <;> rfl
 ·simp only[slices_IndexFunc_Sint64_at1_impl_AlgebraFault_1.next0,slices_IndexFunc_Sint64_at1_impl_AlgebraFault_1.round0,evz,Nat.reduceLT,Nat.lt_irrefl]
theorem slices_ContainsFunc_Sint64_at1_impl_AlgebraFault_1(l:List Int)(hs:l.length<=4294967296)(z:Int)(t:List (List Int))(hz:1<=z/\z<=3) :
 Call F.slices_ContainsFunc_Sint64 [slc l,.clo F.impl_AlgebraFault_1 [.rref [.int .i64 z,slc t] 0]] (.bool (l.any fun n=>!inR n 0 (z-1))):=by
 refine call_of rfl 0 ((slices_ContainsFunc_Sint64_at1_impl_AlgebraFault_1.ev _ _ _ _).trans ?_);simp only[evz,Nat.reduceLT,(slices_IndexFunc_Sint64_at1_impl_AlgebraFault_1 l hs z t hz).eq,idx_nonneg]
theorem cast_ne{a b:Nat}:((a:Int)=(b:Int))=(a=b):=by rw[eq_iff_iff];omega
theorem impl_AlgebraFault(l:List Symbol)(z:Int)(t:List (List Int))(hs:l.length<=4294967296)(ht:sm 4294967296 t) :
 Call F.impl_AlgebraFault [.agg [slc l],.agg [.int .i64 z,slc t]] (.int .i64 (algFault ⟨l⟩ ⟨z,t⟩)):=by
 have htl:=ht.1;refine call_of rfl (t.length+1) ((impl_AlgebraFault.ev _ _ _ _).trans ?_);simp only[evz,Nat.reduceLT,(impl_SignatureFault l hs).eq,(impl_within _ _ _).eq,algFault];by_cases h1:sigFault ⟨l⟩=0
 case neg=>simp only[h1,evz,Nat.reduceLT,ne_eq,not_false_eq_true]
 have ok:=(sigOk_iff _).1 h1;simp only[h1,evz,Nat.reduceLT,ne_eq,not_true_eq_false];cases h2:inR z 1 3 with
 |false=>simp only[evz,Nat.reduceLT]
 |true=>
  have hz:=inR_iff.1 h2;simp only[evz,Nat.reduceLT,cast_ne,Bool.true_eq_false];by_cases h3:t.length=l.length
  case neg=>simp only[h3,evz,Nat.reduceLT,ne_eq,not_false_eq_true]
  simp only[h3,evz,Nat.reduceLT,ne_eq,not_true_eq_false];have hzip:(l.zip t).length=t.length:=by rw[List.length_zip];omega
  have one:=scan_loop (l:=l.zip t) (g:=fun x=>(tableFault z x).map fun c=>some (.int .i64 c,[])) (z:=some (.int .i64 0,[]))
   (S:=fun m k=>impl_AlgebraFault.at0 (t.length+1) m (impl_AlgebraFault.st0 (cells t) l.length (k:Nat) (cells l) z (cells t)))
   (fun m k h=>by
    have hk:k<t.length:=by omega
    have hkl:k<l.length:=by omega
    have htk:t[k]?=some t[k]:=List.getElem?_eq_getElem hk;have hlk:l[k]?=some l[k]:=List.getElem?_eq_getElem hkl;have har:=ok.arity l[k] (List.getElem_mem hkl);obtain⟨r,hr⟩:∃r:Nat,l[k].arity=r:=⟨l[k].arity.toNat,by omega⟩;obtain⟨y,hy⟩:∃y:Nat,z=y:=⟨z.toNat,by omega⟩;have hp:=impl_power y r (by omega) (by omega);rw[<- hy,<- hr]at hp;simp only[impl_AlgebraFault.next0,impl_AlgebraFault.round0,evz,Nat.reduceLT,hk,hkl,htk,hlk,enc_Symbol,enc_list,hp.eq,cast_ne,(slices_ContainsFunc_Sint64_at1_impl_AlgebraFault_1 t[k] (ht.2 _ (List.getElem_mem hk)).1 z t hz).eq];rw[wrap_succ (by omega)];simp only[tableFault,List.getElem_zip,hr,hy,Int.toNat_natCast];by_cases h6:t[k].length=y ^ r
    ·simp only[h6,if_true,ne_eq,not_true_eq_false,if_false];cases t[k].any fun n=>!inR n 0 ((y:Int)-1) <;> rfl
    ·simp only[h6,if_false,ne_eq,not_false_eq_true,if_true];rfl)
   (fun m=>by rw[hzip];simp only[impl_AlgebraFault.next0,impl_AlgebraFault.round0,evz,Nat.reduceLT,h3,Nat.lt_irrefl]) (show(l.zip t).length<t.length+1 by omega)
  refine Eq.trans ?_ (one.trans ?_)
  ·rw[h3];rfl
  ·rw[findSome_map];cases (l.zip t).findSome? (tableFault z) <;> rfl
theorem spec_AlgebraFault(l:List Symbol)(z:Int)(t:List (List Int))(hs:l.length<=4294967296)(ht:sm 4294967296 t) :
 Call F.spec_AlgebraFault [.agg [slc l],.agg [.int .i64 z,slc t]] (.int .i64 (algFault ⟨l⟩ ⟨z,t⟩)):=by
 have htl:=ht.1;obtain⟨n,hn,hn2⟩:∃n,t.length<n/\∀x∈t,x.length<n:=⟨4294967297,by omega,fun x hx=>by have:=(ht.2 x hx).1;omega⟩;refine call_of rfl n ((spec_AlgebraFault.ev _ _ _ _).trans ?_);simp only[evz,Nat.reduceLT,(spec_SignatureFault l hs).eq,(spec_l1In _ _ _).eq,algFault];by_cases h1:sigFault ⟨l⟩=0
 case neg=>simp only[h1,evz,Nat.reduceLT,ne_eq,not_false_eq_true]
 have ok:=(sigOk_iff _).1 h1;simp only[h1,evz,Nat.reduceLT,ne_eq,not_true_eq_false];cases h2:inR z 1 3 with
 |false=>simp only[evz,Nat.reduceLT]
 |true=>
  have hz:=inR_iff.1 h2;simp only[evz,Nat.reduceLT,cast_ne,Bool.true_eq_false];by_cases h3:t.length=l.length
  case neg=>simp only[h3,evz,Nat.reduceLT,ne_eq,not_false_eq_true]
  simp only[h3,evz,Nat.reduceLT,ne_eq,not_true_eq_false];have hzip:(l.zip t).length=t.length:=by rw[List.length_zip];omega
  have one:=scan_loop (l:=l.zip t) (g:=fun x=>(tableFault z x).map fun c=>some (.int .i64 c,[])) (z:=some (.int .i64 0,[]))
   (S:=fun m k=>spec_AlgebraFault.at0 n m (spec_AlgebraFault.st0 (k:Nat) (cells l) z (cells t)))
   (fun m k h=>by
    have hk:k<t.length:=by omega
    have hkl:k<l.length:=by omega
    have htk:t[k]?=some t[k]:=List.getElem?_eq_getElem hk;have hlk:l[k]?=some l[k]:=List.getElem?_eq_getElem hkl;have har:=ok.arity l[k] (List.getElem_mem hkl);obtain⟨r,hr⟩:∃r:Nat,l[k].arity=r:=⟨l[k].arity.toNat,by omega⟩;obtain⟨y,hy⟩:∃y:Nat,z=y:=⟨z.toNat,by omega⟩;have hp:=spec_l10Pow y r (by omega) (by omega);rw[<- hy,<- hr]at hp
    have two:=any_loopL (l:=t[k]) (p:=fun n=>!inR n 0 (z-1)) (S:=fun m' j=>spec_AlgebraFault.at2 n (spec_AlgebraFault.at0 n m) m' (spec_AlgebraFault.st2 (k:Nat) (j:Nat) (cells l) z (cells t)))
     (r:=some (.int .i64 3,[])) (z:=spec_AlgebraFault.at0 n m (spec_AlgebraFault.st0 ((k+1:Nat):Int) (cells l) z (cells t))) (f:=n)
     (fun m' j hj=>by
      have hjk:t[k][j]?=some t[k][j]:=List.getElem?_eq_getElem hj;have hjl:=(ht.2 t[k] (List.getElem_mem hk)).1;simp only[spec_AlgebraFault.next2,spec_AlgebraFault.round2,evz,Nat.reduceLT,hk,htk,hj,hjk,enc_list,enc_int,wrap64 (x:=z-1) (by omega),(spec_l1In _ _ _).eq];rw[wrap_succ (by omega)];cases inR t[k][j] 0 (z-1) <;> rfl)
     (fun m'=>by
      simp only[spec_AlgebraFault.next2,spec_AlgebraFault.round2,evz,Nat.reduceLT,hk,htk,enc_list,Nat.lt_irrefl];rw[wrap_succ (by omega)])
     (hn2 _ (List.getElem_mem hk))
    simp only[spec_AlgebraFault.next0,spec_AlgebraFault.round0,evz,Nat.reduceLT,hk,hkl,htk,hlk,enc_Symbol,enc_list,hp.eq,cast_ne];rw[show spec_AlgebraFault.at2 n (spec_AlgebraFault.at0 n m) n (spec_AlgebraFault.st2 (k:Nat) 0 (cells l) z (cells t))=_ from two];simp only[tableFault,List.getElem_zip,hr,hy,Int.toNat_natCast];by_cases h6:t[k].length=y ^ r
    ·simp only[h6,if_true,ne_eq,not_true_eq_false,if_false];cases t[k].any fun n=>!inR n 0 ((y:Int)-1) <;> rfl
    ·simp only[h6,if_false,ne_eq,not_false_eq_true,if_true];rfl)
   (fun m=>by rw[hzip];simp only[spec_AlgebraFault.next0,spec_AlgebraFault.round0,evz,Nat.reduceLT,Nat.lt_irrefl]) (show(l.zip t).length<n by omega)
  refine one.trans ?_;rw[findSome_map];cases (l.zip t).findSome? (tableFault z) <;> rfl
def rise(n:Nat):List Int:=(List.range n).map fun(i:Nat)=>(i:Int)
theorem rise_length(n:Nat):(rise n).length=n:=by simp[rise]
def lcg(s:Int):Int:=(227*s+1) % 65521
theorem lcg_in(s:Int):0<=lcg s/\lcg s<=65520:=by unfold lcg;omega
theorem lcg_eq{s:Int}(h:0<=s/\s<=65520):Int.tmod (IntKind.wrap .i64 (IntKind.wrap .i64 (227*s)+1)) 65521=lcg s:=by
 rw[wrap64 (x:=227*s) (by omega),wrap64 (by omega),Int.tmod_eq_emod_of_nonneg (by omega)];rfl
def draws(z:Int):Nat->Int->List Int->Int×List Int
 |0,s,t=>(s,t)
 |n+1,s,t=>draws z n (lcg s) (t++[lcg s % z])
theorem draws_in(z:Int):∀n s t,0<=s/\s<=65520->(0<=(draws z n s t).1/\(draws z n s t).1<=65520)/\(draws z n s t).2.length=t.length+n
 |0,s,t,h=>⟨h,rfl⟩
 |n+1,s,t,h=>by
  have:=draws_in z n (lcg s) (t++[lcg s % z]) (lcg_in s);refine⟨this.1,this.2.trans ?_⟩;simp;omega
theorem draws_loop{z:Int}{c:Nat}{S:Nat->Nat->Int->List Int->R}{y:Int->List Int->R}
 (step:∀m j s t,j<c->0<=s/\s<=65520->t.length=j->S (m+1) j s t=S m (j+1) (lcg s) (t++[lcg s % z]))
 (stop:∀m s t,0<=s/\s<=65520->t.length=c->S (m+1) c s t=y s t) {f:Nat} (hf:c<f) (s:Int) (hs:0<=s/\s<=65520) :
 S f 0 s []=y (draws z c s []).1 (draws z c s []).2:=by
 have:∀n m j s t,j+n=c->n<m->0<=s/\s<=65520->t.length=j->S m j s t=y (draws z n s t).1 (draws z n s t).2:=by
  intro n;induction n with
  |zero=>intro m j s t hj hm hs ht
         obtain⟨m,rfl⟩:∃q,m=q+1:=⟨m-1,by omega⟩;obtain rfl:j=c:=by omega
         exact stop m s t hs ht
  |succ n ih=>
   intro m j s t hj hm hs ht;obtain⟨m,rfl⟩:∃q,m=q+1:=⟨m-1,by omega⟩;rw[step m j s t (by omega) hs ht];exact ih m (j+1) _ _ (by omega) (by omega) (lcg_in s) (by simp[ht])
 exact this c f 0 s [] (by omega) hf hs rfl
def tabStep(z:Nat)(p:Int×List (List Int))(x:Symbol):Int×List (List Int):=((draws z (z ^ x.arity.toNat) p.1 []).1,p.2++[(draws z (z ^ x.arity.toNat) p.1 []).2])
def algebraOfR(s:Signature)(z seed:Int):AlgebraResult:=
 if sigFault s=0 then if inR z 1 3=true/\inR seed 0 65520=true then⟨0,⟨z,(s.symbols.foldl (tabStep z.toNat) (seed,[])).2⟩⟩else⟨3,⟨0,[]⟩⟩else⟨sigFault s,⟨0,[]⟩⟩
def tabI(k:Nat)(p:Int×List (List Int)):Prop:=(0<=p.1/\p.1<=65520)/\p.2.length=k/\∀t∈p.2,t.length<=9
theorem pow_le9{z r:Nat}(hz:z<=3)(hr:r<=2):z ^ r<=9:=Nat.le_trans (Nat.pow_le_pow_left hz r) (Nat.le_trans (Nat.pow_le_pow_right (by omega) hr) (by decide))
theorem tabI_step{z:Nat}(hz:z<=3){x:Symbol}(hx:0<=x.arity/\x.arity<=2){k:Nat}{p:Int×List (List Int)}(h:tabI k p):tabI (k+1) (tabStep z p x):=by
 obtain⟨h1,h2,h3⟩:=h;have hd:=draws_in z (z ^ x.arity.toNat) p.1 [] h1;have h9:=pow_le9 (r:=x.arity.toNat) hz (by omega);refine⟨hd.1,by simp[tabStep,h2],fun t ht=>?_⟩;rcases List.mem_append.1 ht with h|h
 ·exact h3 t h
 ·rw[List.mem_singleton]at h;subst h;rw[hd.2];simp;omega
theorem tabI_zero{seed:Int}(h:0<=seed/\seed<=65520):tabI 0 (seed,[]):=⟨h,rfl,by simp⟩
theorem spec_l10Make(l:List Symbol)(ok:SigOk ⟨l⟩)(z:Nat)(seed:Int)(hz:1<=z/\z<=3)(hseed:0<=seed/\seed<=65520) :
 Call F.spec_l10Make [.rref [slc l] 0,.int .i64 z,.int .i64 seed] (.agg [.int .i64 z,slc (l.foldl (tabStep z) (seed,[])).2]):=by
 refine call_of rfl (l.length+10) ((spec_l10Make.ev _ _ _ _).trans ?_);have hle:l.length<=6:=ok.le;have hz3:z<=3:=hz.2;show spec_l10Make.at0 (l.length+10) (l.length+10) (spec_l10Make.st0 (cells l) z seed 0 0 z [])=_;have key:=fold_loop (l:=l) (f:=l.length+10) (S:=fun m k (p:Int×List (List Int))=>spec_l10Make.at0 (l.length+10) m (spec_l10Make.st0 (cells l) z p.1 (k:Nat) 0 z (cells p.2))) (g:=tabStep z) (z:=fun(p:Int×List (List Int))=>some (.agg [.int .i64 z,slc p.2],[])) tabI (fun m k p h hp=>?_) (fun k p h hp=>tabI_step hz3 (ok.arity _ (List.getElem_mem h)) hp) (fun m p hp=>?_) (seed,[]) (tabI_zero hseed) (by omega)
 ·exact key
 ·have hx:=ok.arity _ (List.getElem_mem h);have h9:=pow_le9 (z:=z) (r:=l[k].arity.toNat) (by omega) (by omega);have hpw:=(spec_l10Pow z l[k].arity.toNat (by omega) (by omega)).eq;rw[Int.toNat_of_nonneg hx.1]at hpw;simp only[spec_l10Make.next0,spec_l10Make.round0,evz,Nat.reduceLT,h,List.getElem?_eq_getElem,enc_Symbol,hpw]
  refine(draws_loop (z:=z) (c:=z ^ l[k].arity.toNat) (S:=fun m' j s t=>spec_l10Make.at2 (l.length+10) (spec_l10Make.at0 (l.length+10) m) m' (spec_l10Make.st2 (cells l) z s (k:Nat) (((z ^ l[k].arity.toNat:Nat):Int)-(j:Nat)) 0 z (cells p.2) (cells t)))
   (y:=fun s t=>spec_l10Make.at0 (l.length+10) m (spec_l10Make.st0 (cells l) z s ((k+1:Nat):Int) 0 z (cells (p.2++[t])))) (fun m' j s t hj hs ht=>?_) (fun m' s t hs ht=>?_) (by omega) p.1 hp.1)
  ·have hz0:¬((z:Int)=0):=by omega
   have hj0:((z ^ l[k].arity.toNat:Nat):Int)-(j:Nat)>0:=by omega
   have hj1:IntKind.wrap .i64 (((z ^ l[k].arity.toNat:Nat):Int)-(j:Nat)-1)=((z ^ l[k].arity.toNat:Nat):Int)-((j+1:Nat):Int):=by rw[wrap64 (by omega)];omega
   simp only[spec_l10Make.next2,spec_l10Make.round2,evz,Nat.reduceLT,hj0,hj1,hz0,lcg_eq hs,cells_length,ht];rw[cond_pos (ble_ok (by omega)),Int.tmod_eq_emod_of_nonneg (lcg_in s).1,cells_snoc_int]
  ·have:=hp.2.1;have hj0:¬(((z ^ l[k].arity.toNat:Nat):Int)-((z ^ l[k].arity.toNat:Nat):Int)>0):=by omega
   simp only[spec_l10Make.next2,spec_l10Make.round2,evz,Nat.reduceLT,hj0,cells_length,hp.2.1];rw[cond_pos (ble_ok (by omega)),cells_snoc_list,wrap_succ (by omega)]
 ·simp only[spec_l10Make.next0,spec_l10Make.round0,evz,Nat.reduceLT,Nat.lt_irrefl]
def ar(l:List Symbol)(n:Int):Nat:=if n<0 then 0 else((l[n.toNat]?).map fun x=>x.arity.toNat).getD 0
def nodeOk(l:List Symbol)(n:Int):Bool:=inR n 0 (l.length-1)||inR n (-12) (-1)
def skip(a:Int->Nat):Nat->List Int->Option (List Int)
 |0,l=>some l
 |_+1,[]=>none
 |k+1,n::l=>skip a (k+a n) l
def termFault0(l:List Symbol)(t:List Int):Int:=
 if t.length<1\/24<t.length then 2 else if t.any (fun n=>!nodeOk l n)then 3 else if skip (ar l) 1 t=some []then 0 else 1
def termFault(s:Signature)(t:List Int):Int:=if sigFault s≠0 then sigFault s else termFault0 s.symbols t
section
variable {a:Int->Nat}
@[simp] theorem skip_zero(l:List Int):skip a 0 l=some l:=by cases l <;> rfl
theorem skip_suffix:∀{l r:List Int}{k:Nat},skip a k l=some r->∃p,l=p++r/\(0<k->0<p.length)
 |l,r,0,h=>by rw[skip_zero]at h;cases h;exact⟨[],rfl,by omega⟩
 |[],r,k+1,h=>by cases h
 |n::l,r,k+1,h=>by
  obtain⟨p,hp,_⟩:=skip_suffix (l:=l) (k:=k+a n) h;exact⟨n::p,by rw[hp];rfl,by simp⟩
theorem skip_add:∀(l:List Int)(j k:Nat),skip a (j+k) l=(skip a j l).bind (skip a k)
 |l,0,k=>by simp
 |[],j+1,k=>by rw[Nat.add_right_comm];rfl
 |n::l,j+1,k=>by
  rw[Nat.add_right_comm];show skip a (j+k+a n) l=(skip a (j+a n) l).bind (skip a k);rw[Nat.add_right_comm,skip_add l (j+a n) k]
theorem skip_at{t r:List Int}{e k:Nat}(h:skip a k (t.drop e)=some r):r=t.drop (t.length-r.length)/\r.length<=t.length-e/\(0<k->r.length<t.length-e):=by
 obtain⟨p,hp,hk⟩:=skip_suffix h;have hl:(t.drop e).length=p.length+r.length:=by rw[hp,List.length_append]
 rw[List.length_drop]at hl;refine⟨?_,by omega,fun h0=>by have:=hk h0;omega⟩;have h1:t.length-r.length=e+p.length\/t.length<=e:=by omega
 rcases h1 with h1|h1
 ·rw[h1,<- List.drop_drop,hp,List.drop_left]
 ·have:r.length=0:=by omega
  rw[List.eq_nil_of_length_eq_zero this];simp
end
theorem nodeOk_iff{l:List Symbol}{n:Int}:nodeOk l n=true<->(0<=n/\n<l.length)\/(-12<=n/\n <= -1):=by
 unfold nodeOk;rw[Bool.or_eq_true,inR_iff,inR_iff];omega
section
variable {l:List Symbol}(ok:SigOk ⟨l⟩)
include ok
theorem ar_le(n:Int):ar l n<=2:=by
 unfold ar;split
 ·omega
 ·cases h:l[n.toNat]? with
  |none=>simp
  |some x=>
   have:=ok.arity x (List.mem_of_getElem? h);simp;omega
theorem impl_isNode(n:Int):Call F.impl_isNode [.agg [slc l],.int .i64 n] (.bool (nodeOk l n)):=by
 have hle:=ok.le
 have h1:Call F.impl_isSymbol [.agg [slc l],.int .i64 n] (.bool (inR n 0 (l.length-1))):=by
  refine call_of rfl 0 ((impl_isSymbol.ev _ _ _).trans ?_);simp only[evz,Nat.reduceLT,wrap64 (x:=(l.length:Int)-1) (by simp at hle;omega),(impl_within _ _ _).eq]
 refine call_of rfl 0 ((impl_isNode.ev _ _ _).trans ?_);simp only[evz,Nat.reduceLT,h1.eq,(impl_within _ _ _).eq,nodeOk];cases inR n 0 (l.length-1) <;> simp[evz,Nat.reduceLT]
theorem spec_l3Node(n:Int):Call F.spec_l3Node [.rref [slc l] 0,.int .i64 n] (.bool (nodeOk l n)):=by
 have hle:=ok.le
 have h1:Call F.spec_l2Symbol [.rref [slc l] 0,.int .i64 n] (.bool (inR n 0 (l.length-1))):=by
  refine call_of rfl 0 ((spec_l2Symbol.ev _ _ _).trans ?_);simp only[evz,Nat.reduceLT,wrap64 (x:=(l.length:Int)-1) (by simp at hle;omega),(spec_l1In _ _ _).eq]
 refine call_of rfl 0 ((spec_l3Node.ev _ _ _).trans ?_);simp only[evz,Nat.reduceLT,h1.eq,(spec_l1In _ _ _).eq,nodeOk];cases inR n 0 (l.length-1) <;> simp[evz,Nat.reduceLT]
theorem ar_eq{n:Int}(hn:0<=n)(h:n.toNat<l.length):(l[n.toNat]).arity=(ar l n:Nat):=by
 have:=ok.arity l[n.toNat] (List.getElem_mem h);unfold ar;rw[if_neg (by omega),List.getElem?_eq_getElem h];simp;omega
theorem impl_arityOf(n:Int)(h:nodeOk l n=true):Call F.impl_arityOf [.agg [slc l],.int .i64 n] (.int .i64 (ar l n:Nat)):=by
 refine call_of rfl 0 ((impl_arityOf.ev _ _ _).trans ?_);rw[nodeOk_iff]at h;by_cases hn:n<0
 ·simp[hn,ar]
 ·obtain⟨m,rfl⟩:∃m:Nat,n=m:=⟨n.toNat,by omega⟩;have hm:m<l.length:=by omega
  have e:=ar_eq ok (n:=m) (by omega) (by simpa using hm);have hl:l[m]?=some l[m]:=List.getElem?_eq_getElem hm;have hn':¬((m:Int)<0):=by omega
  simp only[evz,Nat.reduceLT,hn',hm,hl,enc_Symbol];simp at e;rw[e]
def endRes(none':Int)(t:List Int)(r:Option (List Int)):Int:=match r with
 |some r=>((t.length-r.length:Nat):Int)
 |none=>none'
theorem impl_endOf(t:List Int)(ht:∀n∈t,nodeOk l n=true)(hl:t.length<=4294967296)(e:Nat)(he:e<=t.length) :
 Call F.impl_endOf [.agg [slc l],slc t,.int .i64 e] (.int .i64 (endRes (t.length+1) t (skip (ar l) 1 (t.drop e)))):=by
 have loop:∀m k o,k<=t.length->t.length+1<m+k->o<=2*k+1->
  impl_endOf.at0 (t.length+2) m (impl_endOf.st0 (cells t) (k:Nat) (o:Nat) (cells l))=some (.int .i64 (endRes (t.length+1) t (skip (ar l) o (t.drop k))),[]):=by
  intro m;induction m with
  |zero=>intros;omega
  |succ m ih=>
   intro k o hk hm ho;simp only[impl_endOf.next0,impl_endOf.round0,evz,Nat.reduceLT,gt_iff_lt,ge_iff_le];cases o with
   |zero=>
    rw[if_neg (by omega),skip_zero];simp only[endRes,List.length_drop];congr 3;omega
   |succ o=>
    rw[if_pos (by omega)];by_cases h:k<t.length
    ·have hk':t[k]?=some t[k]:=List.getElem?_eq_getElem h;have hn:=ht t[k] (List.getElem_mem h);have h2:=ar_le ok t[k];rw[if_neg (by omega)];simp only[h,hk',evz,Nat.reduceLT,enc_int,(impl_arityOf ok t[k] hn).eq];rw[wrap_succ (by omega),wrap64 (x:=((ar l t[k]:Nat):Int)-1) (by omega),wrap64 (by omega)];rw[show((o+1:Nat):Int)+(((ar l t[k]:Nat):Int)-1)=((o+ar l t[k]:Nat):Int) by omega];rw[ih (k+1) (o+ar l t[k]) (by omega) (by omega) (by omega),List.drop_eq_getElem_cons h];rfl
    ·obtain rfl:k=t.length:=by omega
     rw[if_pos (by omega),wrap64 (by omega),List.drop_of_length_le (Nat.le_refl _)];rfl
 refine call_of rfl (t.length+2) ((impl_endOf.ev _ _ _ _).trans ?_);have:=loop (t.length+2) e 1 he (by omega) (by omega);exact this
theorem spec_l3End(t:List Int)(ht:∀n∈t,nodeOk l n=true)(hl:t.length<=4294967296)(e:Nat)(he:e<=t.length) :
 Call F.spec_l3End [.rref [slc l] 0,slc t,.int .i64 e] (.int .i64 (endRes (-1) t (skip (ar l) 1 (t.drop e)))):=by
 obtain⟨d,hd⟩:∃d,d=t.length-e:=⟨_,rfl⟩;induction d using Nat.strongRecOn generalizing e with
 |ind d ih=>
 refine call_of rfl 4 ((spec_l3End.ev _ _ _ _).trans ?_);simp only[evz,Nat.reduceLT,ge_iff_le];by_cases h:e<t.length
 case neg=>
  obtain rfl:e=t.length:=by omega
  rw[if_pos (by omega),List.drop_of_length_le (Nat.le_refl _)];rfl
 have hk':t[e]?=some t[e]:=List.getElem?_eq_getElem h;have hn:=ht t[e] (List.getElem_mem h);have h2:=ar_le ok t[e];rw[if_neg (by omega)];simp only[h,hk',evz,Nat.reduceLT,enc_int];rw[List.drop_eq_getElem_cons h];show _=some (T.int .i64 (endRes (-1) t (skip (ar l) (0+ar l t[e]) (t.drop (e+1)))),[]);rw[Nat.zero_add,wrap_succ (by omega)];by_cases hneg:t[e]<0
 ·rw[if_pos hneg];have:ar l t[e]=0:=by unfold ar;rw[if_pos hneg]
  rw[this,skip_zero];simp only[endRes,List.length_drop];congr 3;omega
 rw[if_neg hneg];rw[nodeOk_iff]at hn;obtain⟨y,hy⟩:∃y:Nat,t[e]=y:=⟨t[e].toNat,by omega⟩;have hym:y<l.length:=by omega
 have hyl:l[y]?=some l[y]:=List.getElem?_eq_getElem hym
 have hya:l[y].arity=(ar l t[e]:Nat):=by
  have:=ar_eq ok (n:=t[e]) (by omega) (by omega);simpa[hy]using this
 have loop:∀m i k,e<k->k<=t.length->i<=ar l t[e]->ar l t[e]<m+i->
  spec_l3End.at0 4 m (spec_l3End.st0 (cells l) (cells t) e (k:Nat) (i:Nat))=some (.int .i64 (endRes (-1) t (skip (ar l) (ar l t[e]-i) (t.drop k))),[]):=by
  intro m;induction m with
  |zero=>intros;omega
  |succ m ihm=>
   intro i k hk1 hk2 hi hm;simp only[spec_l3End.next0,spec_l3End.round0,evz,Nat.reduceLT,h,hk',enc_int];simp only[hy,evz,Nat.reduceLT,hym,hyl,enc_Symbol,hya];by_cases hia:i<ar l t[e]
   ·rw[hy]at hia;rw[if_pos hia,(ih (t.length-k) (by omega) k hk2 rfl).eq];simp only[evz,Nat.reduceLT];rw[<- hy]at hia;rw[show ar l ((y:Nat):Int)-i=1+(ar l t[e]-(i+1)) by rw[hy];rw[hy]at hia;omega,skip_add];cases hs:skip (ar l) 1 (t.drop k)with
    |none=>rfl
    |some r=>
     obtain⟨hr1,hr2,hr3⟩:=skip_at hs;have hr4:=hr3 (by omega);have hnn:¬ endRes (-1) t (some r)<0:=by show ¬((t.length-r.length:Nat):Int)<0;omega
     rw[if_neg hnn,wrap_succ (by omega),show endRes (-1) t (some r)=((t.length-r.length:Nat):Int)from rfl,ihm (i+1) (t.length-r.length) (by omega) (by omega) (by omega) (by omega),<- hr1];rfl
   ·have:i=ar l t[e]:=by omega
    rw[if_neg (by rw[<- hy];exact hia),show ar l ((y:Nat):Int)-i=0 by rw[<- hy];omega,skip_zero];simp only[endRes,List.length_drop];congr 3;omega
 have:=loop 4 0 (e+1) (by omega) (by omega) (by omega) (by omega);exact this
end
theorem any_nodes{l:List Symbol}{t:List Int}:(t.any fun n=>!nodeOk l n)=false<->∀n∈t,nodeOk l n=true:=by
 rw[List.any_eq_false];simp
theorem skip_whole{a:Int->Nat}{t:List Int}:(endRes (t.length+1) t (skip a 1 t)=t.length<->skip a 1 t=some [])/\(endRes (-1) t (skip a 1 t)=t.length<->skip a 1 t=some []):=by
 cases h:skip a 1 t with
 |none=>simp[endRes];omega
 |some r=>
  obtain⟨p,hp,_⟩:=skip_suffix h;have:r.length<=t.length:=by rw[hp];simp
  cases r with
  |nil=>simp[endRes]
  |cons x r=>
   simp only[List.length_cons]at this;refine⟨⟨fun h=>?_,fun h=>by cases h⟩,⟨fun h=>?_,fun h=>by cases h⟩⟩ <;> (simp only[endRes,List.length_cons]at h;omega)
theorem slices_ContainsFunc_Sint64_at1_impl_TermFault_1(l:List Symbol)(ok:SigOk ⟨l⟩)(t:List Int)(hs:t.length<=4294967296) :
 Call F.slices_ContainsFunc_Sint64 [slc t,.clo F.impl_TermFault_1 [.rref [slc l] 0]] (.bool (t.any fun n=>!nodeOk l n)):=by
 have hi:Call F.slices_IndexFunc_Sint64 [slc t,.clo F.impl_TermFault_1 [.rref [slc l] 0]] (.int .i64 (idx (fun n=>!nodeOk l n) t)):=by
  refine call_of rfl (t.length+1) ((slices_IndexFunc_Sint64_at1_impl_TermFault_1.ev _ _ _).trans ?_);refine idx_loop (S:=fun m k=>slices_IndexFunc_Sint64_at1_impl_TermFault_1.at0 (t.length+1) m (slices_IndexFunc_Sint64_at1_impl_TermFault_1.st0 (cells t) _ _ (k:Nat))) (fun m k h=>?_) (fun m=>?_) (Nat.lt_succ_self _)
  ·have hlk:t[k]?=some t[k]:=List.getElem?_eq_getElem h
   have hc:Call F.impl_TermFault_1 [.int .i64 t[k],.rref [slc l] 0] (.bool (!nodeOk l t[k])):=by
    refine call_of rfl 0 ((impl_TermFault_1.ev _ _ _).trans ?_);simp only[evz,Nat.reduceLT,(impl_isNode ok _).eq]
   simp only[slices_IndexFunc_Sint64_at1_impl_TermFault_1.next0,slices_IndexFunc_Sint64_at1_impl_TermFault_1.round0,evz,Nat.reduceLT,h,hlk,enc_int,hc.eq];rw[wrap_succ (by omega)];cases nodeOk l t[k] <;> rfl
  ·simp only[slices_IndexFunc_Sint64_at1_impl_TermFault_1.next0,slices_IndexFunc_Sint64_at1_impl_TermFault_1.round0,evz,Nat.reduceLT,Nat.lt_irrefl]
 refine call_of rfl 0 ((slices_ContainsFunc_Sint64_at1_impl_TermFault_1.ev _ _ _).trans ?_);simp only[evz,Nat.reduceLT,hi.eq,idx_nonneg]
theorem impl_TermFault(l:List Symbol)(hs:l.length<=4294967296)(t:List Int)(ht:t.length<=4294967296):Call F.impl_TermFault [.agg [slc l],slc t] (.int .i64 (termFault ⟨l⟩ t)):=by
 refine call_of rfl 0 ((impl_TermFault.ev _ _ _).trans ?_);simp only[evz,Nat.reduceLT,(impl_SignatureFault l hs).eq,termFault,termFault0,gt_iff_lt];by_cases h1:sigFault ⟨l⟩=0
 case neg=>simp only[h1,evz,Nat.reduceLT,ne_eq,not_false_eq_true]
 have ok:=(sigOk_iff _).1 h1;simp only[h1,evz,Nat.reduceLT,ne_eq,not_true_eq_false];by_cases h2:t.length<1
 ·have h2':(t.length:Int)<1:=by omega
  simp only[h2,h2',evz,Nat.reduceLT,true_or]
 by_cases h3:24<t.length
 ·have h2':¬(t.length:Int)<1:=by omega
  have h3':(24:Int)<t.length:=by omega
  simp only[h2,h2',h3,h3',evz,Nat.reduceLT,or_true]
 have h2':¬(t.length:Int)<1:=by omega
 have h3':¬(24:Int)<t.length:=by omega
 simp only[h2,h2',h3,h3',evz,Nat.reduceLT,or_self,(slices_ContainsFunc_Sint64_at1_impl_TermFault_1 l ok t ht).eq];cases h4:t.any fun n=>!nodeOk l n with
 |true=>simp only[evz,Nat.reduceLT]
 |false=>
  have hn:=any_nodes.1 h4;have he:=impl_endOf ok t hn ht 0 (by omega);simp only[evz,Nat.reduceLT,Bool.false_eq_true,show LIM F.impl_endOf [.agg [slc l],slc t,.int .i64 0]=_ from he,List.drop_zero];by_cases h5:skip (ar l) 1 t=some []
  ·rw[if_pos (skip_whole.1.2 h5),if_pos h5]
  ·rw[if_neg fun h=>h5 (skip_whole.1.1 h),if_neg h5]
theorem spec_l3Fault(l:List Symbol)(ok:SigOk ⟨l⟩)(t:List Int)(ht:t.length<=4294967296):Call F.spec_l3Fault [.rref [slc l] 0,slc t] (.int .i64 (termFault0 l t)):=by
 refine call_of rfl (t.length+1) ((spec_l3Fault.ev _ _ _).trans ?_);simp only[evz,Nat.reduceLT,termFault0,gt_iff_lt];by_cases h2:t.length<1
 ·have h2':(t.length:Int)<1:=by omega
  simp only[h2,h2',evz,Nat.reduceLT,true_or]
 by_cases h3:24<t.length
 ·have h2':¬(t.length:Int)<1:=by omega
  have h3':(24:Int)<t.length:=by omega
  simp only[h2,h2',h3,h3',evz,Nat.reduceLT,or_true]
 have h2':¬(t.length:Int)<1:=by omega
 have h3':¬(24:Int)<t.length:=by omega
 simp only[h2,h2',h3,h3',evz,Nat.reduceLT,or_self]
 have step:∀m k (h:k<t.length),spec_l3Fault.at0 (t.length+1) (m+1) (spec_l3Fault.st0 (cells l) (cells t) (k:Nat))=
  if(fun n=>!nodeOk l n) t[k]=true then some (.int .i64 3,[])else spec_l3Fault.at0 (t.length+1) m (spec_l3Fault.st0 (cells l) (cells t) ((k+1:Nat):Int)):=fun m k h=>by
  have hlk:t[k]?=some t[k]:=List.getElem?_eq_getElem h;simp only[spec_l3Fault.next0,spec_l3Fault.round0,evz,Nat.reduceLT,h,hlk,enc_int,(spec_l3Node ok _).eq];rw[wrap_succ (by omega)];by_cases hb:nodeOk l t[k]=true <;> simp[hb]
 cases h4:t.any fun n=>!nodeOk l n with
 |true=>
  refine(hit_loop (p:=fun n=>!nodeOk l n) (r:=some (.int .i64 3,[])) (S:=fun m k=>spec_l3Fault.at0 (t.length+1) m (spec_l3Fault.st0 (cells l) (cells t) (k:Nat))) step h4 (Nat.lt_succ_self _)).trans ?_;simp only[evz,Nat.reduceLT]
 |false=>
  have hn:=any_nodes.1 h4;have he:=spec_l3End ok t hn ht 0 (by omega);refine(any_loopL (p:=fun n=>!nodeOk l n) (r:=some (.int .i64 3,[])) (S:=fun m k=>spec_l3Fault.at0 (t.length+1) m (spec_l3Fault.st0 (cells l) (cells t) (k:Nat))) (z:=if skip (ar l) 1 t=some []then some (.int .i64 0,[])else some (.int .i64 1,[])) step (fun m=>?_) (Nat.lt_succ_self _)).trans ?_
  ·simp only[spec_l3Fault.next0,spec_l3Fault.round0,evz,Nat.reduceLT,Nat.lt_irrefl,show LIM F.spec_l3End [.rref [slc l] 0,slc t,.int .i64 0]=_ from he,List.drop_zero];by_cases h5:skip (ar l) 1 t=some []
   ·rw[if_pos (skip_whole.2.2 h5),if_pos h5]
   ·rw[if_neg fun h=>h5 (skip_whole.2.1 h),if_neg h5]
  ·rw[h4];simp only[evz,Nat.reduceLT,Bool.false_eq_true];by_cases h5:skip (ar l) 1 t=some [] <;> simp only[h5,if_true,if_false]
end Ev.Ty
end
section
namespace Ev.Ty
open Go Ev
inductive Tm where
 |v (n:Int)
 |k (n:Int)
 |u (n:Int) (x:Tm)
 |b (n:Int) (x y:Tm)
 deriving DecidableEq
namespace Tm
def flat:Tm->List Int
 |v n=>[n]
 |k n=>[n]
 |u n x=>n::x.flat
 |b n x y=>n::(x.flat++y.flat)
def head:Tm->Int
 |v n=>n
 |k n=>n
 |u n _=>n
 |b n _ _=>n
def ok(a:Int->Nat):Tm->Prop
 |v n=>n<0
 |k n=>0<=n/\a n=0
 |u n x=>0<=n/\a n=1/\x.ok a
 |b n x y=>0<=n/\a n=2/\x.ok a/\y.ok a
theorem flat_pos(x:Tm):0<x.flat.length:=by cases x <;> simp[flat]
theorem flat_head(x:Tm):∃r,x.flat=x.head::r:=by cases x <;> exact⟨_,rfl⟩
variable {a:Int->Nat}
theorem skip_flat(ha:∀n,n<0->a n=0):∀(x:Tm)(r:List Int)(j:Nat),x.ok a->skip a (j+1) (x.flat++r)=skip a j r
 |v n,r,j,h=>by
  show skip a (j+a n) r=_;rw[ha n h,Nat.add_zero]
 |k n,r,j,h=>by
  show skip a (j+a n) r=_;rw[h.2,Nat.add_zero]
 |u n x,r,j,h=>by
  show skip a (j+a n) (x.flat++r)=_;rw[h.2.1];exact skip_flat ha x r j h.2.2
 |b n x y,r,j,h=>by
  show skip a (j+a n) ((x.flat++y.flat)++r)=_;rw[h.2.1,List.append_assoc,skip_flat ha x _ (j+1) h.2.2.1,skip_flat ha y _ j h.2.2.2]
theorem parse(ha:∀n,n<0->a n=0)(h2:∀n,a n<=2):∀(m:Nat)(l r:List Int),l.length<=m->skip a 1 l=some r->∃x:Tm,x.ok a/\l=x.flat++r
 |_,[],r,_,h=>by cases h
 |0,n::l,r,hm,h=>by simp at hm
 |m+1,n::l,r,hm,h=>by
  have hm:l.length<=m:=by simpa using hm
  have h:skip a (0+a n) l=some r:=h;rw[Nat.zero_add]at h;by_cases hn:n<0
  ·rw[ha n hn,skip_zero]at h;cases h;exact⟨.v n,hn,rfl⟩
  ·have:=h2 n;have h3:a n=0\/a n=1\/a n=2:=by omega
   rcases h3 with h0|h1|h2'
   ·rw[h0,skip_zero]at h;cases h;exact⟨.k n,⟨by omega,h0⟩,rfl⟩
   ·rw[h1]at h;obtain⟨x,hx,rfl⟩:=parse ha h2 m l r hm h;exact⟨.u n x,⟨by omega,h1,hx⟩,rfl⟩
   ·rw[h2',show 2=1+1 from rfl,skip_add]at h;cases hs:skip a 1 l with
    |none=>rw[hs]at h;cases h
    |some r1=>
     rw[hs]at h;have h9:skip a 1 r1=some r:=h;obtain⟨x,hx,rfl⟩:=parse ha h2 m l r1 hm hs;obtain⟨y,hy,rfl⟩:=parse ha h2 m r1 r (by simp at hm;omega) h9;exact⟨.b n x y,⟨by omega,h2',hx,hy⟩,by simp[flat]⟩
end Tm
theorem ar_neg(l:List Symbol){n:Int}(h:n<0):ar l n=0:=by unfold ar;rw[if_pos h]
structure TermOk(l:List Symbol)(t:List Int):Prop where
 pos:1<=t.length
 le:t.length<=24
 node:∀n∈t,nodeOk l n=true
 skip:skip (ar l) 1 t=some []
theorem termOk_iff(l:List Symbol)(t:List Int):termFault0 l t=0<->TermOk l t:=by
 unfold termFault0;constructor
 ·intro h;split at h
  ·cases h
  ·split at h
   ·cases h
   ·rename_i h1 h2;split at h
    ·rename_i h3;exact⟨by omega,by omega,any_nodes.1 (by simpa using h2),h3⟩
    ·cases h
 ·intro h;have:=h.pos;have:=h.le;rw[if_neg (by omega),if_neg (by rw[any_nodes.2 h.node];simp),if_pos h.skip]
theorem TermOk.tree{l:List Symbol}{t:List Int}(ok:SigOk ⟨l⟩)(h:TermOk l t):∃x:Tm,x.ok (ar l)/\t=x.flat:=by
 obtain⟨x,hx,e⟩:=Tm.parse (fun n hn=>ar_neg l hn) (ar_le ok) t.length t [] (Nat.le_refl _) h.skip;exact⟨x,hx,by simpa using e⟩
theorem at_head{t r:List Int}{e:Nat}{x:Tm}(h:t.drop e=x.flat++r):e<t.length/\t[e]?=some x.head/\e+x.flat.length<=t.length:=by
 have hl:(t.drop e).length=x.flat.length+r.length:=by rw[h,List.length_append]
 have hp:=x.flat_pos;rw[List.length_drop]at hl;refine⟨by omega,?_,by omega⟩
 have:(t.drop e)[0]?=some x.head:=by
  rw[h];obtain⟨r',e'⟩:=x.flat_head;rw[e'];rfl
 rwa[List.getElem?_drop,Nat.add_zero]at this
theorem at_next{t r q:List Int}{e:Nat}(h:t.drop e=q++r):t.drop (e+q.length)=r:=by
 rw[<- List.drop_drop,h,List.drop_left]
end Ev.Ty
end
section
namespace Ev.Ty
open Go Ev
open Enc (enc)
open Sm (sm)
structure AlgOk(l:List Symbol)(z:Int)(tb:List (List Int)):Prop where
 sig:SigOk ⟨l⟩
 size:1<=z/\z<=3
 len:tb.length=l.length
 rows:∀(k:Nat)(h:k<l.length)(h':k<tb.length),tb[k].length=z.toNat ^ (l[k]).arity.toNat/\∀n∈tb[k],0<=n/\n<=z-1
theorem algOk{l:List Symbol}{z:Int}{tb:List (List Int)}(h:algFault ⟨l⟩ ⟨z,tb⟩=0):AlgOk l z tb:=by
 unfold algFault at h;by_cases h1:sigFault ⟨l⟩=0
 case neg=>rw[if_pos h1]at h;exact absurd h h1
 rw[if_neg (by simpa using h1)]at h;split at h
 ·cases h
 rename_i h2;split at h
 ·cases h
 rename_i h3;have h3:tb.length=l.length:=by simpa using h3
 have hn:(l.zip tb).findSome? (tableFault z)=none:=by
  cases hx:(l.zip tb).findSome? (tableFault z)with
  |none=>rfl
  |some c=>
   simp only[hx]at h;obtain⟨x,hx,hf⟩:=List.exists_of_findSome?_eq_some hx;unfold tableFault at hf;split at hf
   ·cases hf;cases h
   ·split at hf
    ·cases hf;cases h
    ·cases hf
 rw[findSome_none]at hn;refine⟨(sigOk_iff _).1 h1,inR_iff.1 (by simpa using h2),h3,fun k hk hk'=>?_⟩
 have hz:(l.zip tb)[k]?=some (l[k],tb[k]):=by
  rw[List.getElem?_zip_eq_some];exact⟨List.getElem?_eq_getElem hk,List.getElem?_eq_getElem hk'⟩
 have:=hn _ (List.mem_of_getElem? hz);unfold tableFault at this;split at this
 ·cases this
 ·rename_i h4;split at this
  ·cases this
  ·rename_i h5;refine⟨by simpa using h4,fun n hn=>?_⟩;rw[List.any_eq_true]at h5
   have:inR n 0 (z-1)=true:=by
    apply Classical.byContradiction;intro hc;exact h5 ⟨n,hn,by simpa using hc⟩
   exact inR_iff.1 this
def Tm.eval(z:Int)(tb:List (List Int))(vs:List Int):Tm->Int
 |v n=>vs.getD (-1-n).toNat 0
 |k n=>(tb.getD n.toNat []).getD 0 0
 |u n x=>(tb.getD n.toNat []).getD (x.eval z tb vs).toNat 0
 |b n x y=>(tb.getD n.toNat []).getD (x.eval z tb vs*z+y.eval z tb vs).toNat 0
def Tm.low(m:Int):Tm->Prop
 |v n => -m<=n
 |k _=>True
 |u _ x=>x.low m
 |b _ x y=>x.low m/\y.low m
def Tm.syms(c:Nat):Tm->Prop
 |v _=>True
 |k n=>n<c
 |u n x=>n<c/\x.syms c
 |b n x y=>n<c/\x.syms c/\y.syms c
theorem Tm.low_of{m:Int}:∀{x:Tm},(∀n∈x.flat,-m<=n)->x.low m
 |v n,h=>h n (by simp[Tm.flat])
 |k n,_=>trivial
 |u n x,h=>Tm.low_of (x:=x) fun j hj=>h j (by simp[Tm.flat,hj])
 |b n x y,h=>⟨Tm.low_of (x:=x) fun j hj=>h j (by simp[Tm.flat,hj]),Tm.low_of (x:=y) fun j hj=>h j (by simp[Tm.flat,hj])⟩
theorem Tm.syms_of{l:List Symbol}{a:Int->Nat}:∀{x:Tm},x.ok a->(∀n∈x.flat,nodeOk l n=true)->x.syms l.length
 |v n,_,h=>trivial
 |k n,ok,h=>by
  have:=nodeOk_iff.1 (h n (by simp[Tm.flat]));have:=ok.1;show n<(l.length:Int);omega
 |u n x,ok,h=>by
  have:=nodeOk_iff.1 (h n (by simp[Tm.flat]));have:=ok.1;exact⟨by show n<(l.length:Int);omega,Tm.syms_of (x:=x) ok.2.2 fun j hj=>h j (by simp[Tm.flat,hj])⟩
 |b n x y,ok,h=>by
  have:=nodeOk_iff.1 (h n (by simp[Tm.flat]));have:=ok.1;exact⟨by show n<(l.length:Int);omega,Tm.syms_of (x:=x) ok.2.2.1 fun j hj=>h j (by simp[Tm.flat,hj]),Tm.syms_of (x:=y) ok.2.2.2 fun j hj=>h j (by simp[Tm.flat,hj])⟩
section
variable {l:List Symbol}{z:Int}{tb:List (List Int)}(al:AlgOk l z tb){vs:List Int}(hv:vs.length=6)(hr:∀n∈vs,0<=n/\n<=z-1)
include al
theorem row_at{n:Int}(h0:0<=n)(h1:n<l.length):∃y:Nat,n=y/\∃(h:y<l.length)(h':y<tb.length),tb[y].length=z.toNat ^ ar l n/\(∀j∈tb[y],0<=j/\j<=z-1)/\tb.getD n.toNat []=tb[y]/\(l[y]).arity=(ar l n:Nat):=by
 obtain⟨y,rfl⟩:∃y:Nat,n=y:=⟨n.toNat,by omega⟩;have h:y<l.length:=by omega
 have h':y<tb.length:=by rw[al.len];exact h
 obtain⟨r1,r2⟩:=al.rows y h h';have ha:(l[y]).arity=(ar l y:Nat):=by simpa using ar_eq al.sig (n:=y) (by omega) (by simpa using h)
 refine⟨y,rfl,h,h',?_,r2,by simp[h'],ha⟩;rw[r1,ha];simp
include hv hr
theorem Tm.eval_range:∀{x:Tm},x.ok (ar l)->x.syms l.length->x.low 6->0<=x.eval z tb vs/\x.eval z tb vs<=z-1
 |v n,ok,hs,hl=>by
  have ok:n<0:=ok;have hl : -6<=n:=hl;have h:(-1-n).toNat<vs.length:=by omega
  have e:vs.getD (-1-n).toNat 0=vs[(-1-n).toNat]:=by simp[h]
  show 0<=vs.getD (-1-n).toNat 0/\vs.getD (-1-n).toNat 0<=z-1;rw[e];exact hr _ (List.getElem_mem h)
 |k n,ok,hs,hl=>by
  obtain⟨y,rfl,h,h',r1,r2,r3,r4⟩:=row_at al ok.1 hs;rw[ok.2,Nat.pow_zero]at r1;have h0:0<tb[y].length:=by omega
  show 0<=(tb.getD (y:Int).toNat []).getD 0 0/\(tb.getD (y:Int).toNat []).getD 0 0<=z-1;rw[r3,show tb[y].getD 0 0=tb[y][0] by simp[h0]];exact r2 _ (List.getElem_mem h0)
 |u n x,ok,hs,hl=>by
  obtain⟨y,rfl,h,h',r1,r2,r3,r4⟩:=row_at al ok.1 hs.1;obtain⟨i1,i2⟩:=Tm.eval_range (x:=x) ok.2.2 hs.2 hl;rw[ok.2.1,Nat.pow_one]at r1;have h0:(x.eval z tb vs).toNat<tb[y].length:=by omega
  show 0<=(tb.getD (y:Int).toNat []).getD (x.eval z tb vs).toNat 0/\(tb.getD (y:Int).toNat []).getD (x.eval z tb vs).toNat 0<=z-1;rw[r3,show tb[y].getD (x.eval z tb vs).toNat 0=tb[y][(x.eval z tb vs).toNat] by simp[h0]];exact r2 _ (List.getElem_mem h0)
 |b n x w,ok,hs,hl=>by
  obtain⟨y,rfl,h,h',r1,r2,r3,r4⟩:=row_at al ok.1 hs.1;obtain⟨i1,i2⟩:=Tm.eval_range (x:=x) ok.2.2.1 hs.2.1 hl.1;obtain⟨j1,j2⟩:=Tm.eval_range (x:=w) ok.2.2.2 hs.2.2 hl.2;rw[ok.2.1]at r1;have hz:=al.size
  have h0:(x.eval z tb vs*z+w.eval z tb vs).toNat<tb[y].length:=by
   rw[r1];have:z=1\/z=2\/z=3:=by omega
   rcases this with rfl|rfl|rfl <;> simp <;> omega
  show 0<=(tb.getD (y:Int).toNat []).getD (x.eval z tb vs*z+w.eval z tb vs).toNat 0/\(tb.getD (y:Int).toNat []).getD (x.eval z tb vs*z+w.eval z tb vs).toNat 0<=z-1;rw[r3,show tb[y].getD (x.eval z tb vs*z+w.eval z tb vs).toNat 0=tb[y][(x.eval z tb vs*z+w.eval z tb vs).toNat] by simp[h0]];exact r2 _ (List.getElem_mem h0)
end
end Ev.Ty
end
