/- Steps on the way to RowDerives: TyData, TyOf, TyLoops, X0. -/
import Derived.Test.YtgmpnljofoadnaaGreatDoorM2
set_option linter.unusedSectionVars false
set_option linter.unusedVariables false
set_option linter.unusedSimpArgs false
section
namespace Ev.Ty
open Go Ev
open Enc (enc)
open Sm (sm)
set_option linter.unusedVariables false
structure Symbol where
 name:ByteArray
 arity:Int
 deriving DecidableEq
instance:Enc Symbol:=⟨2,by decide,fun x=>[.str x.name,.int .i64 x.arity],fun _=>rfl⟩
@[simp] theorem sz_Symbol:Enc.sz Symbol=2:=rfl
theorem q30 (x:Symbol):enc x=[.str x.name,.int .i64 x.arity]:=rfl
instance:Sm Symbol:=⟨fun n x=>sm n x.name,fun h x=>q29 h x⟩
structure Signature where
 symbols:List Symbol
 deriving DecidableEq
instance:Enc Signature:=⟨1,by decide,fun x=>[slc x.symbols],fun _=>rfl⟩
@[simp] theorem sz_Signature:Enc.sz Signature=1:=rfl
instance:Sm Signature:=⟨fun n x=>sm n x.symbols,fun h x=>q29 h x⟩
structure Equation where
 left:List Int
 right:List Int
 deriving DecidableEq
instance:Enc Equation:=⟨2,by decide,fun x=>[slc x.left,slc x.right],fun _=>rfl⟩
@[simp] theorem q6a:Enc.sz Equation=2:=rfl
theorem q4y (x:Equation):enc x=[slc x.left,slc x.right]:=rfl
instance:Sm Equation:=⟨fun n x=>sm n x.left∧sm n x.right,fun h x=>⟨q29 h x.1,q29 h x.2⟩⟩
structure Binding where
 vars:List Int
 terms:List (List Int)
 deriving DecidableEq
instance:Enc Binding:=⟨2,by decide,fun x=>[slc x.vars,slc x.terms],fun _=>rfl⟩
@[simp] theorem sz_Binding:Enc.sz Binding=2:=rfl
instance:Sm Binding:=⟨fun n x=>sm n x.vars∧sm n x.terms,fun h x=>⟨q29 h x.1,q29 h x.2⟩⟩
structure Algebra where
 size:Int
 tables:List (List Int)
 deriving DecidableEq
instance:Enc Algebra:=⟨2,by decide,fun x=>[.int .i64 x.size,slc x.tables],fun _=>rfl⟩
@[simp] theorem sz_Algebra:Enc.sz Algebra=2:=rfl
instance:Sm Algebra:=⟨fun n x=>sm n x.tables,fun h x=>q29 h x⟩
structure Entry where
 kind:Int
 a:Int
 b:Int
 place:Int
 side:Int
 left:List Int
 right:List Int
 deriving DecidableEq
instance:Enc Entry:=⟨7,by decide,fun x=>[.int .i64 x.kind,.int .i64 x.a,.int .i64 x.b,.int .i64 x.place,.int .i64 x.side,slc x.left,slc x.right],fun _=>rfl⟩
@[simp] theorem q7k:Enc.sz Entry=7:=rfl
theorem q31 (x:Entry):enc x=[.int .i64 x.kind,.int .i64 x.a,.int .i64 x.b,.int .i64 x.place,.int .i64 x.side,slc x.left,slc x.right]:=rfl
instance:Sm Entry:=⟨fun n x=>sm n x.left∧sm n x.right,fun h x=>⟨q29 h x.1,q29 h x.2⟩⟩
structure Completion where
 order:List Int
 equations:List Equation
 entries:List Entry
 rules:List Int
 waiting:List Int
 rounds:Int
 deriving DecidableEq
instance:Enc Completion:=⟨6,by decide,fun x=>[slc x.order,slc x.equations,slc x.entries,slc x.rules,slc x.waiting,.int .i64 x.rounds],fun _=>rfl⟩
@[simp] theorem sz_Completion:Enc.sz Completion=6:=rfl
instance:Sm Completion:=⟨fun n x=>sm n x.order∧sm n x.equations∧sm n x.entries∧sm n x.rules∧sm n x.waiting,fun h x=>⟨q29 h x.1,q29 h x.2.1,q29 h x.2.2.1,q29 h x.2.2.2.1,q29 h x.2.2.2.2⟩⟩
structure Theory where
 order:List Int
 equations:List Equation
 rules:List Equation
 deriving DecidableEq
instance:Enc Theory:=⟨3,by decide,fun x=>[slc x.order,slc x.equations,slc x.rules],fun _=>rfl⟩
@[simp] theorem sz_Theory:Enc.sz Theory=3:=rfl
instance:Sm Theory:=⟨fun n x=>sm n x.order∧sm n x.equations∧sm n x.rules,fun h x=>⟨q29 h x.1,q29 h x.2.1,q29 h x.2.2⟩⟩
structure Put where
 sector:Int
 bytes:List UInt8
 deriving DecidableEq
instance:Enc Put:=⟨2,by decide,fun x=>[.int .i64 x.sector,slc x.bytes],fun _=>rfl⟩
@[simp] theorem sz_Put:Enc.sz Put=2:=rfl
instance:Sm Put:=⟨fun n x=>sm n x.bytes,fun h x=>q29 h x⟩
structure Disk where
 sectors:List (List UInt8)
 pending:List Put
 deriving DecidableEq
instance:Enc Disk:=⟨2,by decide,fun x=>[slc x.sectors,slc x.pending],fun _=>rfl⟩
@[simp] theorem sz_Disk:Enc.sz Disk=2:=rfl
instance:Sm Disk:=⟨fun n x=>sm n x.sectors∧sm n x.pending,fun h x=>⟨q29 h x.1,q29 h x.2⟩⟩
structure Act where
 kind:Int
 put:Put
 deriving DecidableEq
instance:Enc Act:=⟨3,by decide,fun x=>[.int .i64 x.kind,.int .i64 x.put.sector,slc x.put.bytes],fun _=>rfl⟩
@[simp] theorem sz_Act:Enc.sz Act=3:=rfl
instance:Sm Act:=⟨fun n x=>sm n x.put,fun h x=>q29 h x⟩
structure IntResult where
 code:Int
 value:Int
 deriving DecidableEq
instance:Enc IntResult:=⟨2,by decide,fun x=>[.int .i64 x.code,.int .i64 x.value],fun _=>rfl⟩
@[simp] theorem sz_IntResult:Enc.sz IntResult=2:=rfl
instance:Sm IntResult:=⟨fun n x=>True,fun _ h=>h⟩
structure IntsResult where
 code:Int
 list:List Int
 deriving DecidableEq
instance:Enc IntsResult:=⟨2,by decide,fun x=>[.int .i64 x.code,slc x.list],fun _=>rfl⟩
@[simp] theorem sz_IntsResult:Enc.sz IntsResult=2:=rfl
instance:Sm IntsResult:=⟨fun n x=>sm n x.list,fun h x=>q29 h x⟩
structure BytesResult where
 code:Int
 bytes:List UInt8
 deriving DecidableEq
instance:Enc BytesResult:=⟨2,by decide,fun x=>[.int .i64 x.code,slc x.bytes],fun _=>rfl⟩
@[simp] theorem sz_BytesResult:Enc.sz BytesResult=2:=rfl
instance:Sm BytesResult:=⟨fun n x=>sm n x.bytes,fun h x=>q29 h x⟩
structure TextResult where
 code:Int
 text:ByteArray
 deriving DecidableEq
instance:Enc TextResult:=⟨2,by decide,fun x=>[.int .i64 x.code,.str x.text],fun _=>rfl⟩
@[simp] theorem sz_TextResult:Enc.sz TextResult=2:=rfl
instance:Sm TextResult:=⟨fun n x=>sm n x.text,fun h x=>q29 h x⟩
structure SignatureResult where
 code:Int
 signature:Signature
 deriving DecidableEq
instance:Enc SignatureResult:=⟨2,by decide,fun x=>[.int .i64 x.code,slc x.signature.symbols],fun _=>rfl⟩
@[simp] theorem sz_SignatureResult:Enc.sz SignatureResult=2:=rfl
instance:Sm SignatureResult:=⟨fun n x=>sm n x.signature,fun h x=>q29 h x⟩
structure TermResult where
 code:Int
 term:List Int
 deriving DecidableEq
instance:Enc TermResult:=⟨2,by decide,fun x=>[.int .i64 x.code,slc x.term],fun _=>rfl⟩
@[simp] theorem sz_TermResult:Enc.sz TermResult=2:=rfl
theorem q2l (x:TermResult):enc x=[.int .i64 x.code,slc x.term]:=rfl
instance:Sm TermResult:=⟨fun n x=>sm n x.term,fun h x=>q29 h x⟩
structure TermsResult where
 code:Int
 terms:List (List Int)
 deriving DecidableEq
instance:Enc TermsResult:=⟨2,by decide,fun x=>[.int .i64 x.code,slc x.terms],fun _=>rfl⟩
@[simp] theorem sz_TermsResult:Enc.sz TermsResult=2:=rfl
instance:Sm TermsResult:=⟨fun n x=>sm n x.terms,fun h x=>q29 h x⟩
structure EquationResult where
 code:Int
 equation:Equation
 deriving DecidableEq
instance:Enc EquationResult:=⟨3,by decide,fun x=>[.int .i64 x.code,slc x.equation.left,slc x.equation.right],fun _=>rfl⟩
@[simp] theorem sz_EquationResult:Enc.sz EquationResult=3:=rfl
theorem q1p (x:EquationResult):enc x=[.int .i64 x.code,slc x.equation.left,slc x.equation.right]:=rfl
instance:Sm EquationResult:=⟨fun n x=>sm n x.equation,fun h x=>q29 h x⟩
structure EquationsResult where
 code:Int
 list:List Equation
 deriving DecidableEq
instance:Enc EquationsResult:=⟨2,by decide,fun x=>[.int .i64 x.code,slc x.list],fun _=>rfl⟩
@[simp] theorem sz_EquationsResult:Enc.sz EquationsResult=2:=rfl
instance:Sm EquationsResult:=⟨fun n x=>sm n x.list,fun h x=>q29 h x⟩
structure KeyResult where
 code:Int
 normal:List Int
 term:List Int
 deriving DecidableEq
instance:Enc KeyResult:=⟨3,by decide,fun x=>[.int .i64 x.code,slc x.normal,slc x.term],fun _=>rfl⟩
@[simp] theorem sz_KeyResult:Enc.sz KeyResult=3:=rfl
instance:Sm KeyResult:=⟨fun n x=>sm n x.normal∧sm n x.term,fun h x=>⟨q29 h x.1,q29 h x.2⟩⟩
structure BindingResult where
 code:Int
 binding:Binding
 deriving DecidableEq
instance:Enc BindingResult:=⟨3,by decide,fun x=>[.int .i64 x.code,slc x.binding.vars,slc x.binding.terms],fun _=>rfl⟩
@[simp] theorem sz_BindingResult:Enc.sz BindingResult=3:=rfl
instance:Sm BindingResult:=⟨fun n x=>sm n x.binding,fun h x=>q29 h x⟩
structure RedexResult where
 code:Int
 place:Int
 rule:Int
 deriving DecidableEq
instance:Enc RedexResult:=⟨3,by decide,fun x=>[.int .i64 x.code,.int .i64 x.place,.int .i64 x.rule],fun _=>rfl⟩
@[simp] theorem sz_RedexResult:Enc.sz RedexResult=3:=rfl
instance:Sm RedexResult:=⟨fun n x=>True,fun _ h=>h⟩
structure NormalResult where
 code:Int
 term:List Int
 steps:Int
 deriving DecidableEq
instance:Enc NormalResult:=⟨3,by decide,fun x=>[.int .i64 x.code,slc x.term,.int .i64 x.steps],fun _=>rfl⟩
@[simp] theorem sz_NormalResult:Enc.sz NormalResult=3:=rfl
instance:Sm NormalResult:=⟨fun n x=>sm n x.term,fun h x=>q29 h x⟩
structure AlgebraResult where
 code:Int
 algebra:Algebra
 deriving DecidableEq
instance:Enc AlgebraResult:=⟨3,by decide,fun x=>[.int .i64 x.code,.int .i64 x.algebra.size,slc x.algebra.tables],fun _=>rfl⟩
@[simp] theorem sz_AlgebraResult:Enc.sz AlgebraResult=3:=rfl
instance:Sm AlgebraResult:=⟨fun n x=>sm n x.algebra,fun h x=>q29 h x⟩
structure EntryResult where
 code:Int
 entry:Entry
 deriving DecidableEq
instance:Enc EntryResult:=⟨8,by decide,fun x=>[.int .i64 x.code,.int .i64 x.entry.kind,.int .i64 x.entry.a,.int .i64 x.entry.b,.int .i64 x.entry.place,.int .i64 x.entry.side,slc x.entry.left,slc x.entry.right],fun _=>rfl⟩
@[simp] theorem sz_EntryResult:Enc.sz EntryResult=8:=rfl
theorem q46 (x:EntryResult):enc x=[.int .i64 x.code,.int .i64 x.entry.kind,.int .i64 x.entry.a,.int .i64 x.entry.b,.int .i64 x.entry.place,.int .i64 x.entry.side,slc x.entry.left,slc x.entry.right]:=rfl
instance:Sm EntryResult:=⟨fun n x=>sm n x.entry,fun h x=>q29 h x⟩
structure CompletionResult where
 code:Int
 completion:Completion
 deriving DecidableEq
instance:Enc CompletionResult:=⟨7,by decide,fun x=>[.int .i64 x.code,slc x.completion.order,slc x.completion.equations,slc x.completion.entries,slc x.completion.rules,slc x.completion.waiting,.int .i64 x.completion.rounds],fun _=>rfl⟩
@[simp] theorem sz_CompletionResult:Enc.sz CompletionResult=7:=rfl
instance:Sm CompletionResult:=⟨fun n x=>sm n x.completion,fun h x=>q29 h x⟩
structure TheoryResult where
 code:Int
 theory:Theory
 deriving DecidableEq
instance:Enc TheoryResult:=⟨4,by decide,fun x=>[.int .i64 x.code,slc x.theory.order,slc x.theory.equations,slc x.theory.rules],fun _=>rfl⟩
@[simp] theorem sz_TheoryResult:Enc.sz TheoryResult=4:=rfl
instance:Sm TheoryResult:=⟨fun n x=>sm n x.theory,fun h x=>q29 h x⟩
structure DiskResult where
 code:Int
 disk:Disk
 deriving DecidableEq
instance:Enc DiskResult:=⟨3,by decide,fun x=>[.int .i64 x.code,slc x.disk.sectors,slc x.disk.pending],fun _=>rfl⟩
@[simp] theorem sz_DiskResult:Enc.sz DiskResult=3:=rfl
instance:Sm DiskResult:=⟨fun n x=>sm n x.disk,fun h x=>q29 h x⟩
theorem szs:Enc.sz Int=1∧Enc.sz UInt8=1∧Enc.sz Symbol=2∧Enc.sz Signature=1∧Enc.sz Equation=2∧Enc.sz Binding=2∧Enc.sz Algebra=2∧Enc.sz Entry=7∧Enc.sz Completion=6∧Enc.sz Theory=3∧Enc.sz Put=2∧Enc.sz Disk=2∧Enc.sz Act=3∧Enc.sz IntResult=2∧Enc.sz IntsResult=2∧Enc.sz BytesResult=2∧Enc.sz TextResult=2∧Enc.sz SignatureResult=2∧Enc.sz TermResult=2∧Enc.sz TermsResult=2∧Enc.sz EquationResult=3∧Enc.sz EquationsResult=2∧Enc.sz KeyResult=3∧Enc.sz BindingResult=3∧Enc.sz RedexResult=3∧Enc.sz NormalResult=3∧Enc.sz AlgebraResult=3∧Enc.sz EntryResult=8∧Enc.sz CompletionResult=7∧Enc.sz TheoryResult=4∧Enc.sz DiskResult=3:=⟨rfl,rfl,rfl,rfl,rfl,rfl,rfl,rfl,rfl,rfl,rfl,rfl,rfl,rfl,rfl,rfl,rfl,rfl,rfl,rfl,rfl,rfl,rfl,rfl,rfl,rfl,rfl,rfl,rfl,rfl,rfl⟩
theorem evs:(∀ {n m:Nat},((n:Int) < (m:Int))↔n < m)∧(∀ {a b:ByteArray},(a.toList=b.toList)=(a=b)) ∧
 (∀ {α:Type} [BEq α] [LawfulBEq α] [DecidableEq α] {a b:α},(a == b)=decide (a=b))∧(∀ {α:Type} [BEq α] [LawfulBEq α] [DecidableEq α] {a b:α},(a != b) = !decide (a=b)) ∧
 (∀ {β:Type} {p:Prop} [Decidable p] {x y:β},(bif decide p then x else y)=if p then x else y)∧(∀ {β:Type} {b:Bool} {x y:β},(bif !b then x else y)=bif b then y else x) ∧
 (∀ {a b:UInt8},((a.toNat:Int)=(b.toNat:Int))=(a=b))∧(∀ {α:Type} [Enc α] {l:List α} {k:Nat},Enc.sz α=k→(cells l).length / k=l.length)∧(∀ {α:Type} [Enc α],Enc.sz (List α)=1) ∧
 (∀ i n:Nat,inB (i:Int) n=decide (i < n))∧(∀ n:Nat,((n:Nat):Int).toNat=n) ∧
 (∀ {α:Type} [Enc α] {l:List α} {k i:Nat},Enc.sz α=k→(cells l)[i*k]?=(l[i]?).bind fun x=>(Enc.enc x)[0]?) ∧
 (∀ {α:Type} [Enc α] {l:List α} {k i:Nat},Enc.sz α=k→1 < k→(cells l)[i*k+1]?=(l[i]?).bind fun x=>(Enc.enc x)[1]?) ∧
 (∀ {α:Type} [Enc α] {l:List α} {k i:Nat},Enc.sz α=k→2 < k→(cells l)[i*k+1+1]?=(l[i]?).bind fun x=>(Enc.enc x)[2]?) ∧
 (∀ {α:Type} [Enc α] {l:List α} {k i:Nat},Enc.sz α=k→3 < k→(cells l)[i*k+1+1+1]?=(l[i]?).bind fun x=>(Enc.enc x)[3]?) ∧
 (∀ {α:Type} [Enc α] {l:List α} {k i:Nat},Enc.sz α=k→4 < k→(cells l)[i*k+1+1+1+1]?=(l[i]?).bind fun x=>(Enc.enc x)[4]?) ∧
 (∀ {α:Type} [Enc α] {l:List α} {k i:Nat},Enc.sz α=k→5 < k→(cells l)[i*k+1+1+1+1+1]?=(l[i]?).bind fun x=>(Enc.enc x)[5]?) ∧
 (∀ {α:Type} [Enc α] {l:List α} {k i:Nat},Enc.sz α=k→6 < k→(cells l)[i*k+1+1+1+1+1+1]?=(l[i]?).bind fun x=>(Enc.enc x)[6]?) ∧
 (∀ {α:Type} [Enc α] {l:List α} {k i:Nat},Enc.sz α=k→7 < k→(cells l)[i*k+1+1+1+1+1+1+1]?=(l[i]?).bind fun x=>(Enc.enc x)[7]?) ∧
 (∀ {α:Type} [Enc α] {l:List α} {k i:Nat},Enc.sz α=k→8 < k→(cells l)[i*k+1+1+1+1+1+1+1+1]?=(l[i]?).bind fun x=>(Enc.enc x)[8]?) ∧
 (∀ {α β:Type} {x:α} {f:α→Option β},Option.bind (some x) f=f x)∧(∀ {α:Type} {a:α} {l:List α},(a::l)[0]?=some a)∧(∀ {α:Type} {a:α} {i:Nat} {l:List α},(a::l)[i+1]?=l[i]?) ∧
 (∀ (k:IntKind) (n:Int),oInt k (.int k n)=some n)∧(∀ b:Bool,oBool (.bool b)=some b)∧(∀ b:ByteArray,oStr (.str b)=some b)∧(∀ {α:Type} [Enc α] {k:Nat} (l:List α),Enc.sz α=k→oSl k (slc l)=some (cells l)) ∧
 (∀ c:List T,oAgg (.agg c)=some c)∧(∀ c:List T,oTup (.tup c)=some c)∧(∀ (x:T) (c:List T),oCons (x::c)=some (x,c))∧oNil []=some () ∧
 (∀ {α:Type} [Enc α] {k:Nat} {l:List α},Enc.sz α=k→T.sl k (cells l)=slc l) :=
 ⟨Int.ofNat_lt,str_inj,beq_dec,bne_dec,cond_dec,cond_nt,u8_inj,q4j,sz_list,q62,Int.toNat_natCast,get0,get1,get2,get3,get4,get5,get6,get7,get8,bind_of,List.getElem?_cons_zero,List.getElem?_cons_succ,oInt_int,oBool_bool,oStr_str,oSl_slc,oAgg_agg,oTup_tup,oCons_cons,oNil_nil,sl_cells⟩
theorem tfs:(∀ {α:Type} {h:Decidable True} (a b:α),ite True a b=a)∧(∀ {α:Type} {h:Decidable False} (a b:α),ite False a b=b)∧(∀ (h:Decidable True),@decide True h=true) ∧
 (∀ (h:Decidable False),@decide False h=false)∧(∀ {α:Type} {a b:α},cond true a b=a)∧(∀ {α:Type} {a b:α},cond false a b=b) :=
 ⟨if_true,if_false,decide_true,decide_false,rfl,rfl⟩
theorem evz:type_of% tfs∧type_of% evs∧type_of% szs:=⟨tfs,evs,szs⟩
end Ev.Ty
end
section
namespace Ev.Ty
open Go Ev
open Enc (enc)
open Sm (sm)
class OfSh (s:Sh) (α:Type) [Enc α] [Sm α] where
 of:s.Val→α
 enc:∀ x,s.wf x→s.enc x=Enc.enc (of x)
 sz:s.size=Enc.sz α
 sm:∀ x,s.wf x→Sm.sm maxLen (of x)
theorem q3a {a b:Sh} {x:(Sh.pair a b).Val} {l r:List T} (h1:a.enc x.1=l) (h2:b.enc x.2=r):(Sh.pair a b).enc x=l++r:=by rw [Sh.enc,h1,h2]
instance:OfSh (.int .i64) Int:=⟨id,fun _ _=>rfl,rfl,fun _ _=>trivial⟩
instance:OfSh .bool Bool:=⟨id,fun _ _=>rfl,rfl,fun _ _=>trivial⟩
instance:OfSh .str ByteArray:=⟨id,fun _ _=>rfl,rfl,fun _ h=>h⟩
theorem u8_enc (x:Int) (h:(Lit.int .u8 x).wf=true):[T.int .u8 x]=[T.int .u8 ((UInt8.ofNat (Int.toNat x)).toNat:Int)]:=by
 simp [Lit.wf,IntKind.min,IntKind.max,IntKind.signed,IntKind.bits] at h
 rw [UInt8.toNat_ofNat']
 congr 2
 omega
instance:OfSh (.int .u8) UInt8:=⟨fun n=>UInt8.ofNat (Int.toNat n),fun x h=>u8_enc x h,rfl,fun _ _=>trivial⟩
theorem cells_of {s:Sh} {α:Type} [Enc α] [Sm α] [OfSh s α]:∀ (l:List s.Val),(∀ x,x∈l→s.wf x)→l.flatMap s.enc=cells (l.map (OfSh.of (s:=s) (α:=α)))
 | [],_=>rfl
 | x::l,h=>by
   rw [List.flatMap_cons,List.map_cons,q6y,OfSh.enc (α:=α) x (h x (by simp)),cells_of (α:=α) l fun y hy=>h y (by simp [hy])]
instance {s:Sh} {α:Type} [Enc α] [Sm α] [OfSh s α]:OfSh (.sl s) (List α):=⟨fun l=>l.map (OfSh.of (s:=s) (α:=α)),fun l h=>by
 show [T.sl s.size (List.flatMap s.enc l)]=[slc _]
 rw [cells_of (α:=α) l h.2,OfSh.sz (s:=s) (α:=α)]; rfl,rfl,fun l h=>⟨by simpa using h.1,fun x hx=>by
  obtain ⟨y,hy,rfl⟩:=List.mem_map.1 hx
  exact OfSh.sm y (h.2 y hy)⟩⟩
theorem arg_list {s:Sh} {α:Type} [Enc α] [Sm α] [OfSh s α] (l:List s.Val) (h:(Sh.sl s).wf l):argOf (.sl s) l=slc (OfSh.of (s := .sl s) (α:=List α) l):=by
 have:=OfSh.enc (s := .sl s) (α:=List α) l h
 simpa [Sh.enc,argOf] using this
@[reducible] def sh_Symbol:Sh := .pair .str (.pair (.int .i64) .unit)
instance:OfSh sh_Symbol Symbol:=⟨fun x=>⟨OfSh.of (s := .str) (α:=ByteArray) x.1,OfSh.of (s:=(.int .i64)) (α:=Int) x.2.1⟩,fun x h=>q3a (OfSh.enc (α:=ByteArray) x.1 h.1) (q3a (OfSh.enc (α:=Int) x.2.1 h.2.1) (rfl)),rfl,fun x h=>OfSh.sm (α:=ByteArray) x.1 h.1⟩
@[reducible] def sh_Signature:Sh := .pair (.sl sh_Symbol) .unit
instance:OfSh sh_Signature Signature:=⟨fun x=>⟨OfSh.of (s:=(.sl sh_Symbol)) (α:=List Symbol) x.1⟩,fun x h=>q3a (OfSh.enc (α:=List Symbol) x.1 h.1) (rfl),rfl,fun x h=>OfSh.sm (α:=List Symbol) x.1 h.1⟩
@[reducible] def q6v:Sh := .pair (.sl (.int .i64)) (.pair (.sl (.int .i64)) .unit)
instance:OfSh q6v Equation:=⟨fun x=>⟨OfSh.of (s:=(.sl (.int .i64))) (α:=List Int) x.1,OfSh.of (s:=(.sl (.int .i64))) (α:=List Int) x.2.1⟩,fun x h=>q3a (OfSh.enc (α:=List Int) x.1 h.1) (q3a (OfSh.enc (α:=List Int) x.2.1 h.2.1) (rfl)),rfl,fun x h=>⟨OfSh.sm (α:=List Int) x.1 h.1,OfSh.sm (α:=List Int) x.2.1 h.2.1⟩⟩
@[reducible] def sh_Binding:Sh := .pair (.sl (.int .i64)) (.pair (.sl (.sl (.int .i64))) .unit)
instance:OfSh sh_Binding Binding:=⟨fun x=>⟨OfSh.of (s:=(.sl (.int .i64))) (α:=List Int) x.1,OfSh.of (s:=(.sl (.sl (.int .i64)))) (α:=List (List Int)) x.2.1⟩,fun x h=>q3a (OfSh.enc (α:=List Int) x.1 h.1) (q3a (OfSh.enc (α:=List (List Int)) x.2.1 h.2.1) (rfl)),rfl,fun x h=>⟨OfSh.sm (α:=List Int) x.1 h.1,OfSh.sm (α:=List (List Int)) x.2.1 h.2.1⟩⟩
@[reducible] def sh_Algebra:Sh := .pair (.int .i64) (.pair (.sl (.sl (.int .i64))) .unit)
instance:OfSh sh_Algebra Algebra:=⟨fun x=>⟨OfSh.of (s:=(.int .i64)) (α:=Int) x.1,OfSh.of (s:=(.sl (.sl (.int .i64)))) (α:=List (List Int)) x.2.1⟩,fun x h=>q3a (OfSh.enc (α:=Int) x.1 h.1) (q3a (OfSh.enc (α:=List (List Int)) x.2.1 h.2.1) (rfl)),rfl,fun x h=>OfSh.sm (α:=List (List Int)) x.2.1 h.2.1⟩
@[reducible] def sh_Entry:Sh := .pair (.int .i64) (.pair (.int .i64) (.pair (.int .i64) (.pair (.int .i64) (.pair (.int .i64) (.pair (.sl (.int .i64)) (.pair (.sl (.int .i64)) .unit))))))
instance:OfSh sh_Entry Entry:=⟨fun x=>⟨OfSh.of (s:=(.int .i64)) (α:=Int) x.1,OfSh.of (s:=(.int .i64)) (α:=Int) x.2.1,OfSh.of (s:=(.int .i64)) (α:=Int) x.2.2.1,OfSh.of (s:=(.int .i64)) (α:=Int) x.2.2.2.1,OfSh.of (s:=(.int .i64)) (α:=Int) x.2.2.2.2.1,OfSh.of (s:=(.sl (.int .i64))) (α:=List Int) x.2.2.2.2.2.1,OfSh.of (s:=(.sl (.int .i64))) (α:=List Int) x.2.2.2.2.2.2.1⟩,fun x h=>q3a (OfSh.enc (α:=Int) x.1 h.1) (q3a (OfSh.enc (α:=Int) x.2.1 h.2.1) (q3a (OfSh.enc (α:=Int) x.2.2.1 h.2.2.1) (q3a (OfSh.enc (α:=Int) x.2.2.2.1 h.2.2.2.1) (q3a (OfSh.enc (α:=Int) x.2.2.2.2.1 h.2.2.2.2.1) (q3a (OfSh.enc (α:=List Int) x.2.2.2.2.2.1 h.2.2.2.2.2.1) (q3a (OfSh.enc (α:=List Int) x.2.2.2.2.2.2.1 h.2.2.2.2.2.2.1) (rfl))))))),rfl,fun x h=>⟨OfSh.sm (α:=List Int) x.2.2.2.2.2.1 h.2.2.2.2.2.1,OfSh.sm (α:=List Int) x.2.2.2.2.2.2.1 h.2.2.2.2.2.2.1⟩⟩
@[reducible] def sh_Completion:Sh := .pair (.sl (.int .i64)) (.pair (.sl q6v) (.pair (.sl sh_Entry) (.pair (.sl (.int .i64)) (.pair (.sl (.int .i64)) (.pair (.int .i64) .unit)))))
instance:OfSh sh_Completion Completion:=⟨fun x=>⟨OfSh.of (s:=(.sl (.int .i64))) (α:=List Int) x.1,OfSh.of (s:=(.sl q6v)) (α:=List Equation) x.2.1,OfSh.of (s:=(.sl sh_Entry)) (α:=List Entry) x.2.2.1,OfSh.of (s:=(.sl (.int .i64))) (α:=List Int) x.2.2.2.1,OfSh.of (s:=(.sl (.int .i64))) (α:=List Int) x.2.2.2.2.1,OfSh.of (s:=(.int .i64)) (α:=Int) x.2.2.2.2.2.1⟩,fun x h=>q3a (OfSh.enc (α:=List Int) x.1 h.1) (q3a (OfSh.enc (α:=List Equation) x.2.1 h.2.1) (q3a (OfSh.enc (α:=List Entry) x.2.2.1 h.2.2.1) (q3a (OfSh.enc (α:=List Int) x.2.2.2.1 h.2.2.2.1) (q3a (OfSh.enc (α:=List Int) x.2.2.2.2.1 h.2.2.2.2.1) (q3a (OfSh.enc (α:=Int) x.2.2.2.2.2.1 h.2.2.2.2.2.1) (rfl)))))),rfl,fun x h=>⟨OfSh.sm (α:=List Int) x.1 h.1,OfSh.sm (α:=List Equation) x.2.1 h.2.1,OfSh.sm (α:=List Entry) x.2.2.1 h.2.2.1,OfSh.sm (α:=List Int) x.2.2.2.1 h.2.2.2.1,OfSh.sm (α:=List Int) x.2.2.2.2.1 h.2.2.2.2.1⟩⟩
@[reducible] def sh_Theory:Sh := .pair (.sl (.int .i64)) (.pair (.sl q6v) (.pair (.sl q6v) .unit))
instance:OfSh sh_Theory Theory:=⟨fun x=>⟨OfSh.of (s:=(.sl (.int .i64))) (α:=List Int) x.1,OfSh.of (s:=(.sl q6v)) (α:=List Equation) x.2.1,OfSh.of (s:=(.sl q6v)) (α:=List Equation) x.2.2.1⟩,fun x h=>q3a (OfSh.enc (α:=List Int) x.1 h.1) (q3a (OfSh.enc (α:=List Equation) x.2.1 h.2.1) (q3a (OfSh.enc (α:=List Equation) x.2.2.1 h.2.2.1) (rfl))),rfl,fun x h=>⟨OfSh.sm (α:=List Int) x.1 h.1,OfSh.sm (α:=List Equation) x.2.1 h.2.1,OfSh.sm (α:=List Equation) x.2.2.1 h.2.2.1⟩⟩
@[reducible] def sh_Put:Sh := .pair (.int .i64) (.pair (.sl (.int .u8)) .unit)
instance:OfSh sh_Put Put:=⟨fun x=>⟨OfSh.of (s:=(.int .i64)) (α:=Int) x.1,OfSh.of (s:=(.sl (.int .u8))) (α:=List UInt8) x.2.1⟩,fun x h=>q3a (OfSh.enc (α:=Int) x.1 h.1) (q3a (OfSh.enc (α:=List UInt8) x.2.1 h.2.1) (rfl)),rfl,fun x h=>OfSh.sm (α:=List UInt8) x.2.1 h.2.1⟩
@[reducible] def sh_Disk:Sh := .pair (.sl (.sl (.int .u8))) (.pair (.sl sh_Put) .unit)
instance:OfSh sh_Disk Disk:=⟨fun x=>⟨OfSh.of (s:=(.sl (.sl (.int .u8)))) (α:=List (List UInt8)) x.1,OfSh.of (s:=(.sl sh_Put)) (α:=List Put) x.2.1⟩,fun x h=>q3a (OfSh.enc (α:=List (List UInt8)) x.1 h.1) (q3a (OfSh.enc (α:=List Put) x.2.1 h.2.1) (rfl)),rfl,fun x h=>⟨OfSh.sm (α:=List (List UInt8)) x.1 h.1,OfSh.sm (α:=List Put) x.2.1 h.2.1⟩⟩
@[reducible] def sh_Act:Sh := .pair (.int .i64) (.pair sh_Put .unit)
instance:OfSh sh_Act Act:=⟨fun x=>⟨OfSh.of (s:=(.int .i64)) (α:=Int) x.1,OfSh.of (s:=sh_Put) (α:=Put) x.2.1⟩,fun x h=>q3a (OfSh.enc (α:=Int) x.1 h.1) (q3a (OfSh.enc (α:=Put) x.2.1 h.2.1) (rfl)),rfl,fun x h=>OfSh.sm (α:=Put) x.2.1 h.2.1⟩
end Ev.Ty
end
section
namespace Ev.Ty
open Go Ev
open Enc (enc)
open Sm (sm)
def idx {α:Type} (p:α→Bool) (l:List α):Int:=match l.findIdx? p with
 | some i=>(i:Nat)
 | none => -1
theorem any_loop {n:Nat} {bad:Nat→Bool} {S:Nat→Nat→R} {r z:R}
 (step:∀ m k,k < n→S (m+1) k=if bad k=true then r else S m (k+1)) (stop:∀ m,S (m+1) n=z) {f:Nat} (hf:n < f) :
 S f 0=if (List.range n).any bad=true then r else z:=by
 have:∀ m k,k≤n→n < m+k→S m k=if (List.range' k (n - k)).any bad=true then r else z:=by
  intro m
  induction m with
  | zero=>intros; omega
  | succ m ih =>
    intro k hk hm
    by_cases h:k < n
    · rw [step m k h,ih (k+1) (by omega) (by omega),show n - k=(n - (k+1))+1 by omega,List.range'_succ,List.any_cons]
      by_cases hb:bad k=true
      · rw [if_pos hb,hb,Bool.true_or,if_pos rfl]
      · have hb':=Bool.eq_false_iff.2 hb; rw [if_neg hb,hb',Bool.false_or]
    · obtain rfl:k=n:=by omega
      rw [stop m]; simp
 have:=this f 0 (by omega) (by omega)
 rwa [Nat.sub_zero,← List.range_eq_range'] at this
theorem q7e {α:Type} {l:List α} {g:α→Option R} {S:Nat→Nat→R} {z:R}
 (step:∀ m k (h:k < l.length),S (m+1) k=match g l[k] with | some r=>r | none=>S m (k+1)) (stop:∀ m,S (m+1) l.length=z) {f:Nat} (hf:l.length < f) :
 S f 0=match l.findSome? g with | some r=>r | none=>z:=by
 have:∀ m k,k≤l.length→l.length < m+k→S m k=match (l.drop k).findSome? g with | some r=>r | none=>z:=by
  intro m
  induction m with
  | zero=>intros; omega
  | succ m ih =>
    intro k hk hm
    by_cases h:k < l.length
    · rw [step m k h,List.drop_eq_getElem_cons h,List.findSome?_cons]
      cases g l[k] with
      | none=>exact ih (k+1) (by omega) (by omega)
      | some r=>rfl
    · obtain rfl:k=l.length:=by omega
      rw [stop m]; simp
 simpa using this f 0 (by omega) (by omega)
theorem q8i {α:Type} {l:List α} {p:α→Bool} {S:Nat→Nat→R} {r z:R}
 (step:∀ m k (h:k < l.length),S (m+1) k=if p l[k]=true then r else S m (k+1)) (stop:∀ m,S (m+1) l.length=z) {f:Nat} (hf:l.length < f) :
 S f 0=if l.any p=true then r else z:=by
 have:∀ m k,k≤l.length→l.length < m+k→S m k=if (l.drop k).any p=true then r else z:=by
  intro m
  induction m with
  | zero=>intros; omega
  | succ m ih =>
    intro k hk hm
    by_cases h:k < l.length
    · rw [step m k h,List.drop_eq_getElem_cons h,List.any_cons,ih (k+1) (by omega) (by omega)]
      by_cases hb:p l[k]=true
      · rw [if_pos hb,hb,Bool.true_or,if_pos rfl]
      · have hb':=Bool.eq_false_iff.2 hb; rw [if_neg hb,hb',Bool.false_or]
    · obtain rfl:k=l.length:=by omega
      rw [stop m]; simp
 simpa using this f 0 (by omega) (by omega)
theorem hit_loop {α:Type} {l:List α} {p:α→Bool} {S:Nat→Nat→R} {r:R}
 (step:∀ m k (h:k < l.length),S (m+1) k=if p l[k]=true then r else S m (k+1)) (ha:l.any p=true) {f:Nat} (hf:l.length < f):S f 0=r:=by
 have:∀ m k,l.length < m+k→k≤l.length→(l.drop k).any p=true→S m k=r:=by
  intro m
  induction m with
  | zero=>intros; omega
  | succ m ih =>
    intro k hm hk ha
    by_cases h:k < l.length
    · rw [List.drop_eq_getElem_cons h,List.any_cons,Bool.or_eq_true] at ha
      rw [step m k h]
      by_cases hb:p l[k]=true
      · rw [if_pos hb]
      · rw [if_neg hb]; exact ih (k+1) (by omega) (by omega) (ha.resolve_left hb)
    · rw [List.drop_of_length_le (by omega)] at ha; cases ha
 exact this f 0 (by omega) (by omega) (by simpa using ha)
theorem q7l {α:Type} {l:List α} {p:α→Bool} {S:Nat→Nat→R}
 (step:∀ m k (h:k < l.length),S (m+1) k=if p l[k]=true then some (.int .i64 (k:Nat),[]) else S m (k+1)) (stop:∀ m,S (m+1) l.length=some (.int .i64 (-1),[])) {f:Nat} (hf:l.length < f) :
 S f 0=some (.int .i64 (idx p l),[]):=by
 have:∀ m k,k≤l.length→l.length < m+k→S m k=some (.int .i64 (match (l.drop k).findIdx? p with | some i=>((i+k:Nat):Int) | none => -1),[]):=by
  intro m
  induction m with
  | zero=>intros; omega
  | succ m ih =>
    intro k hk hm
    by_cases h:k < l.length
    · rw [step m k h,List.drop_eq_getElem_cons h,List.findIdx?_cons,ih (k+1) (by omega) (by omega)]
      by_cases hb:p l[k]=true
      · simp [hb]
      · simp only [hb]
        cases (l.drop (k+1)).findIdx? p with
        | none=>simp
        | some i=>simp; omega
    · obtain rfl:k=l.length:=by omega
      rw [stop m]; simp
 simpa [idx] using this f 0 (by omega) (by omega)
theorem q7o {α:Type} (p:α→Bool) (l:List α):decide (idx p l ≥ 0)=l.any p:=by
 unfold idx
 cases h:l.findIdx? p with
 | none =>
   rw [List.findIdx?_eq_none_iff] at h
   rw [Bool.eq_iff_iff]
   simp
   intro x hx; simpa using h x hx
 | some i =>
   rw [List.findIdx?_eq_some_iff_getElem] at h
   obtain ⟨h1,h2,_⟩:=h
   rw [Bool.eq_iff_iff]
   simp
   exact ⟨l[i],List.getElem_mem h1,h2⟩
theorem q7c {α:Type} (p:α→Bool) (l:List α):(idx p l = -1∧∀ x,x∈l→p x=false)∨∃ i,∃ h:i < l.length,idx p l=(i:Nat)∧p l[i]=true∧∀ j (hj:j < i),p (l[j]'(Nat.lt_trans hj h))=false:=by
 unfold idx
 cases hx:l.findIdx? p with
 | none=>rw [List.findIdx?_eq_none_iff] at hx; exact .inl ⟨rfl,hx⟩
 | some i =>
   rw [List.findIdx?_eq_some_iff_getElem] at hx
   obtain ⟨h1,h2,h3⟩:=hx
   exact .inr ⟨i,h1,rfl,h2,fun j hj=>by simpa using h3 j hj⟩
theorem q66 {α β γ:Type} (f:α→Option β) (g:β→γ):∀ l:List α,l.findSome? (fun x=>(f x).map g)=(l.findSome? f).map g
 | []=>rfl
 | x::l=>by
   rw [List.findSome?_cons,List.findSome?_cons]
   cases f x with
   | none=>exact q66 f g l
   | some b=>rfl
theorem fold_loop {α σ:Type} {l:List α} {S:Nat→Nat→σ→R} {g:σ→α→σ} {z:σ→R} (I:Nat→σ→Prop)
 (step:∀ m k s (h:k < l.length),I k s→S (m+1) k s=S m (k+1) (g s l[k]))
 (inv:∀ k s (h:k < l.length),I k s→I (k+1) (g s l[k]))
 (stop:∀ m s,I l.length s→S (m+1) l.length s=z s) (s:σ) (h0:I 0 s) {f:Nat} (hf:l.length < f):S f 0 s=z (l.foldl g s):=by
 have:∀ m k s,k≤l.length→l.length < m+k→I k s→S m k s=z ((l.drop k).foldl g s):=by
  intro m
  induction m with
  | zero=>intros; omega
  | succ m ih =>
    intro k s hk hm hi
    by_cases h:k < l.length
    · rw [step m k s h hi,List.drop_eq_getElem_cons h,List.foldl_cons]
      exact ih (k+1) _ (by omega) (by omega) (inv k s h hi)
    · obtain rfl:k=l.length:=by omega
      rw [stop m s hi,List.drop_of_length_le (Nat.le_refl _),List.foldl_nil]
 simpa using this f 0 s (by omega) (by omega) h0
theorem fold_inv {α σ:Type} {l:List α} {g:σ→α→σ} (I:Nat→σ→Prop) (inv:∀ k s (h:k < l.length),I k s→I (k+1) (g s l[k])) (s:σ) (h0:I 0 s):I l.length (l.foldl g s):=by
 have:∀ n k s,k+n=l.length→I k s→I l.length ((l.drop k).foldl g s):=by
  intro n
  induction n with
  | zero=>intro k s hk hi; obtain rfl:k=l.length:=by omega
          rw [List.drop_of_length_le (Nat.le_refl _)]; exact hi
  | succ n ih =>
    intro k s hk hi
    have h:k < l.length:=by omega
    rw [List.drop_eq_getElem_cons h,List.foldl_cons]
    exact ih (k+1) _ (by omega) (inv k s h hi)
 simpa using this l.length 0 s (by omega) h0
theorem q36 {α:Type} [Enc α]:slc ([]:List α)=T.sl (Enc.sz α) []:=rfl
theorem q2d (l:List Int) (x:Int):cells l++[.int .i64 x]=cells (l++[x]):=by rw [q2m,← q28,enc_cells_one]
theorem q72 {α:Type} [Enc α] (l:List (List α)) (x:List α):cells l++[slc x]=cells (l++[x]):=by rw [q2m,← q8s,enc_cells_one]
theorem q3i {a b:Nat} (h:a≤b):Nat.ble a b=true:=Nat.ble_eq_true_of_le h
theorem q8v {σ:Type} {n:Nat} {S:Nat→Nat→σ→R} {st:Nat→σ} {z:R} (step:∀ m k,k < n→S (m+1) k (st k)=S m (k+1) (st (k+1))) (stop:∀ m,S (m+1) n (st n)=z) {f:Nat} (hf:n < f) :
 S f 0 (st 0)=z:=by
 have:∀ m k,k≤n→n < m+k→S m k (st k)=z:=by
  intro m
  induction m with
  | zero=>intros; omega
  | succ m ih =>
    intro k hk hm
    by_cases h:k < n
    · rw [step m k h]; exact ih (k+1) (by omega) (by omega)
    · obtain rfl:k=n:=by omega
      exact stop m
 exact this f 0 (by omega) (by omega)
theorem q3o (l:List Int):(cells l).all T.scalar=true:=by
 rw [List.all_eq_true]
 intro x hx
 obtain ⟨y,_,hy⟩:=List.mem_flatMap.1 hx
 obtain rfl:=List.mem_singleton.1 hy
 rfl
end Ev.Ty
end
section
open Go
set_option linter.unusedVariables false
set_option maxRecDepth 100000
namespace Ev
def q1n.st0 (x0:Int) (x1:List T) (x2 x3:Int):St:=⟨[(3,oi x0),(6,ol 1 x1),(7,oi x2),(8,oi x3)],[]⟩
noncomputable def q1n.K0 (n:Nat):Ex→St→R:=kx F.q1n n [.block 0,.seq 0 (cx F.q1n [1,1,1])] (endOf prog A F.q1n)
noncomputable def q1n.at0 (n:Nat) (m:Nat) (s:St):R:=lx F.q1n n 0 [1,1,0,1,0,0] (q1n.K0 n) m s
noncomputable def q1n.rd0 (n:Nat) (L0:St→R) (s:St):R:=rx F.q1n n 0 [1,1,0,1,0,0] (q1n.K0 n) L0 s
theorem q1n.next0 (n:Nat) (m:Nat) (s:St):q1n.at0 n (m+1) s=q1n.rd0 n (q1n.at0 n m) s:=nx _ _ _ _ _ _ _
theorem q1n.round0 (n:Nat) (L0:St→R) (x0:Int) (x1:List T) (x2 x3:Int):q1n.rd0 n L0 (q1n.st0 x0 x1 x2 x3)=(bif (decide (x3 < x2)) then (bif inB x3 ((x1).length / 1) then ((x1[((Int.toNat x3)*1)]?).bind fun e1=>((oInt .i64 e1).bind fun n2=>(bif ((n2 != x0)) then some ((.int .i64 n2),[]) else (L0 (q1n.st0 x0 x1 x2 (IntKind.wrap .i64 (x3+(1:Int)))))))) else none) else some ((.int .i64 x0),[])):=by kernel_rfl
theorem q1n.ev (n:Nat) (a0:List T):callK prog A H LIM n F.q1n [(.sl 1 a0)]=(q1n.at0 n n (q1n.st0 (0:Int) a0 ((((a0).length / 1):Nat):Int) (0:Int))):=by kernel_rfl
def q0e.st0 (x0:List T) (x1 x2:Int) (x3 x4 x5:List T):St:=⟨[(2,(.one (.ptr 128 0))),(5,(.one (.obj 640))),(11,ol 1 x0),(12,oi x1),(13,oi x2)],[(128,(.box [(.t (.sl 1 x3)),(.t (.sl 1 x4))])),(640,(.arr true true 1 x5))]⟩
noncomputable def q0e.K0 (n:Nat):Ex→St→R:=kx F.q0e n [.block 0,.seq 0 (cx F.q0e [1,1,1])] (endOf prog A F.q0e)
noncomputable def q0e.at0 (n:Nat) (m:Nat) (s:St):R:=lx F.q0e n 0 [1,1,0,1,0,0] (q0e.K0 n) m s
noncomputable def q0e.rd0 (n:Nat) (L0:St→R) (s:St):R:=rx F.q0e n 0 [1,1,0,1,0,0] (q0e.K0 n) L0 s
theorem q0e.next0 (n:Nat) (m:Nat) (s:St):q0e.at0 n (m+1) s=q0e.rd0 n (q0e.at0 n m) s:=nx _ _ _ _ _ _ _
theorem q0e.round0 (n:Nat) (L0:St→R) (x0:List T) (x1 x2:Int) (x3 x4 x5:List T):q0e.rd0 n L0 (q0e.st0 x0 x1 x2 x3 x4 x5)=(bif (decide (x2 < x1)) then (bif inB x2 ((x0).length / 1) then ((x0[((Int.toNat x2)*1)]?).bind fun e1=>((oInt .i64 e1).bind fun n2=>((LIM F.q47 [(.agg [(.sl 1 x3),(.sl 1 x4)]),(.int .i64 (IntKind.wrap .i64 ((-1:Int) - n2)))]).bind fun r3=>((oNil r3.2).bind fun _=>((oTup r3.1).bind fun c4=>((oCons c4).bind fun p5=>((oSl 1 p5.1).bind fun c6=>(bif (c6).all T.scalar then ((oCons p5.2).bind fun p7=>((oBool p7.1).bind fun b8=>((oNil p7.2).bind fun _=>(bif b8 then (bif (c6).all T.scalar then (bif Nat.ble (((x5).length+(c6).length)*8) (140737488355328*1) then (L0 (q0e.st0 x0 x1 (IntKind.wrap .i64 (x2+(1:Int))) x3 x4 (x5++c6:List T))) else none) else none) else (bif Nat.ble (((x5).length+1)*8) (140737488355328*1) then (L0 (q0e.st0 x0 x1 (IntKind.wrap .i64 (x2+(1:Int))) x3 x4 (x5++[(.int .i64 n2)]:List T))) else none))))) else none)))))))) else none) else some ((.sl 1 x5),[])):=by kernel_rfl
theorem q0e.ev (n:Nat) (a0_0 a0_1 a1:List T):callK prog A H LIM n F.q0e [(.agg [(.sl 1 a0_0),(.sl 1 a0_1)]),(.sl 1 a1)]=(q0e.at0 n n (q0e.st0 a1 ((((a1).length / 1):Nat):Int) (0:Int) a0_0 a0_1 [])):=by kernel_rfl
def q0o.st0 (x0:Int) (x1:List T) (x2:Int) (x3 x4:List T):St:=⟨[(0,(.one (.ptr 1000000 0))),(1,oi x0),(2,ol 1 x1),(6,oi x2)],[(1000000,(.box [(.obj 1000001),(.obj 1000002)])),(1000001,(.arr true true 1 x3)),(1000002,(.arr true true 1 x4))]⟩
noncomputable def q0o.K0 (n:Nat):Ex→St→R:=kx F.q0o n [.block 0,.seq 0 (cx F.q0o [1,1])] (endOf prog A F.q0o)
noncomputable def q0o.at0 (n:Nat) (m:Nat) (s:St):R:=lx F.q0o n 0 [1,0,0,0] (q0o.K0 n) m s
noncomputable def q0o.rd0 (n:Nat) (L0:St→R) (s:St):R:=rx F.q0o n 0 [1,0,0,0] (q0o.K0 n) L0 s
theorem q0o.next0 (n:Nat) (m:Nat) (s:St):q0o.at0 n (m+1) s=q0o.rd0 n (q0o.at0 n m) s:=nx _ _ _ _ _ _ _
theorem q0o.round0 (n:Nat) (L0:St→R) (x0:Int) (x1:List T) (x2:Int) (x3 x4:List T):q0o.rd0 n L0 (q0o.st0 x0 x1 x2 x3 x4)=(bif (decide (x2 < ((((x3).length / 1):Nat):Int))) then (bif inB x2 ((x3).length / 1) then ((x3[((Int.toNat x2)*1)]?).bind fun e1=>((oInt .i64 e1).bind fun n2=>(bif (decide (n2 < x0)) then (L0 (q0o.st0 x0 x1 (IntKind.wrap .i64 (x2+(1:Int))) x3 x4)) else ((LIM F.q4q [(.sl 1 x3),(.int .i64 x2),(.sl 1 [(.int .i64 x0)])]).bind fun r3=>((oNil r3.2).bind fun _=>((oSl 1 r3.1).bind fun c4=>((LIM F.q23 [(.sl 1 x1)]).bind fun r5=>((oNil r5.2).bind fun _=>((oSl 1 r5.1).bind fun c6=>((LIM F.q4i [(.sl 1 x4),(.int .i64 x2),(.sl 1 [(.sl 1 c6)])]).bind fun r7=>((oNil r7.2).bind fun _=>((oSl 1 r7.1).bind fun c8=>some ((.tup []),[(.agg [(.sl 1 c4),(.sl 1 c8)])]))))))))))))) else none) else ((LIM F.q4q [(.sl 1 x3),(.int .i64 x2),(.sl 1 [(.int .i64 x0)])]).bind fun r9=>((oNil r9.2).bind fun _=>((oSl 1 r9.1).bind fun c10=>((LIM F.q23 [(.sl 1 x1)]).bind fun r11=>((oNil r11.2).bind fun _=>((oSl 1 r11.1).bind fun c12=>((LIM F.q4i [(.sl 1 x4),(.int .i64 x2),(.sl 1 [(.sl 1 c12)])]).bind fun r13=>((oNil r13.2).bind fun _=>((oSl 1 r13.1).bind fun c14=>some ((.tup []),[(.agg [(.sl 1 c10),(.sl 1 c14)])]))))))))))):=by kernel_rfl
theorem q0o.ev (n:Nat) (a0_0 a0_1:List T) (a1:Int) (a2:List T):callK prog A H LIM n F.q0o [(.rref [(.sl 1 a0_0),(.sl 1 a0_1)] 0),(.int .i64 a1),(.sl 1 a2)]=(q0o.at0 n n (q0o.st0 a1 a2 (0:Int) a0_0 a0_1)):=by kernel_rfl
theorem q47.ev (n:Nat) (a0_0 a0_1:List T) (a1:Int):callK prog A H LIM n F.q47 [(.agg [(.sl 1 a0_0),(.sl 1 a0_1)]),(.int .i64 a1)]=((LIM F.q0b [(.sl 1 a0_0),(.int .i64 a1)]).bind fun r1=>((oNil r1.2).bind fun _=>((oInt .i64 r1.1).bind fun n2=>(bif (decide (n2 < (0:Int))) then some ((.tup [(.sl 1 []),(.bool false)]),[]) else (bif inB n2 ((a0_1).length / 1) then ((a0_1[((Int.toNat n2)*1)]?).bind fun e3=>((oSl 1 e3).bind fun c4=>some ((.tup [(.sl 1 c4),(.bool true)]),[]))) else none))))):=by kernel_rfl
def q0l.st0 (x0 x1 x2:List T) (x3 x4:Int) (x5:List T):St:=⟨[(1,ol 2 x0),(2,ol 7 x1),(3,(.one (.ptr 192 0))),(21,ol 7 x2),(22,oi x3),(23,oi x4)],[(192,(.box [(.t (.sl 2 x5))]))]⟩
noncomputable def q0l.K0 (n:Nat):Ex→St→R:=kx F.q0l n [.block 0,.seq 0 (cx F.q0l [1,1,1,1])] (endOf prog A F.q0l)
noncomputable def q0l.at0 (n:Nat) (m:Nat) (s:St):R:=lx F.q0l n 0 [1,1,1,0,1,0,0] (q0l.K0 n) m s
noncomputable def q0l.rd0 (n:Nat) (L0:St→R) (s:St):R:=rx F.q0l n 0 [1,1,1,0,1,0,0] (q0l.K0 n) L0 s
theorem q0l.next0 (n:Nat) (m:Nat) (s:St):q0l.at0 n (m+1) s=q0l.rd0 n (q0l.at0 n m) s:=nx _ _ _ _ _ _ _
theorem q0l.round0 (n:Nat) (L0:St→R) (x0 x1 x2:List T) (x3 x4:Int) (x5:List T):q0l.rd0 n L0 (q0l.st0 x0 x1 x2 x3 x4 x5)=(bif (decide (x4 < x3)) then (bif inB x4 ((x2).length / 7) then ((x2[((Int.toNat x4)*7)]?).bind fun e3=>((oInt .i64 e3).bind fun n4=>((x2[(((Int.toNat x4)*7)+1)]?).bind fun e5=>((oInt .i64 e5).bind fun n6=>((x2[((((Int.toNat x4)*7)+1)+1)]?).bind fun e7=>((oInt .i64 e7).bind fun n8=>((x2[(((((Int.toNat x4)*7)+1)+1)+1)]?).bind fun e9=>((oInt .i64 e9).bind fun n10=>((x2[((((((Int.toNat x4)*7)+1)+1)+1)+1)]?).bind fun e11=>((oInt .i64 e11).bind fun n12=>((x2[(((((((Int.toNat x4)*7)+1)+1)+1)+1)+1)]?).bind fun e13=>((oSl 1 e13).bind fun c14=>((x2[((((((((Int.toNat x4)*7)+1)+1)+1)+1)+1)+1)]?).bind fun e15=>((oSl 1 e15).bind fun c16=>(bif decide (0≤(0:Int))&&decide ((0:Int)≤x4)&&decide (x4≤((((x1).length / 7):Nat):Int)) then ((LIM F.q0g [(.agg [(.sl 2 x5)]),(.sl 2 x0),(.sl 7 ((x1.take ((Int.toNat x4)*7)).drop (0*7))),(.agg [(.int .i64 n4),(.int .i64 n6),(.int .i64 n8),(.int .i64 n10),(.int .i64 n12),(.sl 1 []),(.sl 1 [])])]).bind fun r17=>((oNil r17.2).bind fun _=>((oTup r17.1).bind fun c18=>((oCons c18).bind fun p19=>((oAgg p19.1).bind fun c20=>((oCons c20).bind fun p21=>((oInt .i64 p21.1).bind fun n22=>((oCons p21.2).bind fun p23=>((oInt .i64 p23.1).bind fun n24=>((oCons p23.2).bind fun p25=>((oInt .i64 p25.1).bind fun n26=>((oCons p25.2).bind fun p27=>((oInt .i64 p27.1).bind fun n28=>((oCons p27.2).bind fun p29=>((oInt .i64 p29.1).bind fun n30=>((oCons p29.2).bind fun p31=>((oSl 1 p31.1).bind fun c32=>((oCons p31.2).bind fun p33=>((oSl 1 p33.1).bind fun c34=>((oNil p33.2).bind fun _=>((oCons p19.2).bind fun p35=>((oInt .i64 p35.1).bind fun n36=>((oNil p35.2).bind fun _=>(bif ((n36 != (0:Int))) then some ((.int .i64 n36),[]) else ((LIM F.q1o [(.agg [(.int .i64 n22),(.int .i64 n24),(.int .i64 n26),(.int .i64 n28),(.int .i64 n30),(.sl 1 c32),(.sl 1 c34)])]).bind fun r37=>((oNil r37.2).bind fun _=>((oAgg r37.1).bind fun c38=>((oCons c38).bind fun p39=>((oSl 1 p39.1).bind fun c40=>((oCons p39.2).bind fun p41=>((oSl 1 p41.1).bind fun c42=>((oNil p41.2).bind fun _=>((LIM F.q1o [(.agg [(.int .i64 n4),(.int .i64 n6),(.int .i64 n8),(.int .i64 n10),(.int .i64 n12),(.sl 1 c14),(.sl 1 c16)])]).bind fun r43=>((oNil r43.2).bind fun _=>((oAgg r43.1).bind fun c44=>((oCons c44).bind fun p45=>((oSl 1 p45.1).bind fun c46=>((oCons p45.2).bind fun p47=>((oSl 1 p47.1).bind fun c48=>((oNil p47.2).bind fun _=>((LIM F.q3n [(.agg [(.sl 1 c40),(.sl 1 c42)]),(.agg [(.sl 1 c46),(.sl 1 c48)])]).bind fun r49=>((oNil r49.2).bind fun _=>((oBool r49.1).bind fun b50=>(bif (!b50) then some ((.int .i64 (8:Int)),[]) else (L0 (q0l.st0 x0 x1 x2 x3 (IntKind.wrap .i64 (x4+(1:Int))) x5)))))))))))))))))))))))))))))))))))))))))))))) else none))))))))))))))) else none) else some ((.int .i64 (0:Int)),[])):=by kernel_rfl
theorem q0l.ev (n:Nat) (a0_0 a1 a2:List T):callK prog A H LIM n F.q0l [(.agg [(.sl 2 a0_0)]),(.sl 2 a1),(.sl 7 a2)]=((LIM F.q0i [(.agg [(.sl 2 a0_0)]),(.sl 2 a1)]).bind fun r1=>((oNil r1.2).bind fun _=>((oInt .i64 r1.1).bind fun n2=>(bif ((n2 != (0:Int))) then some ((.int .i64 n2),[]) else (bif (decide (((((a2).length / 7):Nat):Int) > (500:Int))) then some ((.int .i64 (2:Int)),[]) else (q0l.at0 n n (q0l.st0 a1 a2 a2 ((((a2).length / 7):Nat):Int) (0:Int) a0_0))))))):=by kernel_rfl
theorem q3z.ev (n:Nat) (a0_0 a1 a2:List T) (a3 a4 a5 a6 a7:Int):callK prog A H LIM n F.q3z [(.agg [(.sl 2 a0_0)]),(.sl 2 a1),(.sl 7 a2),(.int .i64 a3),(.int .i64 a4),(.int .i64 a5),(.int .i64 a6),(.int .i64 a7)]=((LIM F.q0i [(.agg [(.sl 2 a0_0)]),(.sl 2 a1)]).bind fun r1=>((oNil r1.2).bind fun _=>((oInt .i64 r1.1).bind fun n2=>((LIM F.q0r [(.agg [(.sl 2 a0_0)]),(.sl 7 a2)]).bind fun r3=>((oNil r3.2).bind fun _=>((oInt .i64 r3.1).bind fun n4=>((LIM F.q4u [(.sl 1 [(.int .i64 n2),(.int .i64 n4)])]).bind fun r5=>((oNil r5.2).bind fun _=>((oInt .i64 r5.1).bind fun n6=>(bif ((n6 != (0:Int))) then some ((.agg [(.int .i64 n6),(.int .i64 (0:Int)),(.int .i64 (0:Int)),(.int .i64 (0:Int)),(.int .i64 (0:Int)),(.int .i64 (0:Int)),(.sl 1 []),(.sl 1 [])]),[]) else ((LIM F.q0g [(.agg [(.sl 2 a0_0)]),(.sl 2 a1),(.sl 7 a2),(.agg [(.int .i64 a3),(.int .i64 a4),(.int .i64 a5),(.int .i64 a6),(.int .i64 a7),(.sl 1 []),(.sl 1 [])])]).bind fun r7=>((oNil r7.2).bind fun _=>((oTup r7.1).bind fun c8=>((oCons c8).bind fun p9=>((oAgg p9.1).bind fun c10=>((oCons c10).bind fun p11=>((oInt .i64 p11.1).bind fun n12=>((oCons p11.2).bind fun p13=>((oInt .i64 p13.1).bind fun n14=>((oCons p13.2).bind fun p15=>((oInt .i64 p15.1).bind fun n16=>((oCons p15.2).bind fun p17=>((oInt .i64 p17.1).bind fun n18=>((oCons p17.2).bind fun p19=>((oInt .i64 p19.1).bind fun n20=>((oCons p19.2).bind fun p21=>((oSl 1 p21.1).bind fun c22=>((oCons p21.2).bind fun p23=>((oSl 1 p23.1).bind fun c24=>((oNil p23.2).bind fun _=>((oCons p9.2).bind fun p25=>((oInt .i64 p25.1).bind fun n26=>((oNil p25.2).bind fun _=>some ((.agg [(.int .i64 n26),(.int .i64 n12),(.int .i64 n14),(.int .i64 n16),(.int .i64 n18),(.int .i64 n20),(.sl 1 c22),(.sl 1 c24)]),[])))))))))))))))))))))))))))))))))):=by kernel_rfl
theorem q1o.ev (n:Nat) (a0_0 a0_1 a0_2 a0_3 a0_4:Int) (a0_5 a0_6:List T):callK prog A H LIM n F.q1o [(.agg [(.int .i64 a0_0),(.int .i64 a0_1),(.int .i64 a0_2),(.int .i64 a0_3),(.int .i64 a0_4),(.sl 1 a0_5),(.sl 1 a0_6)])]=some ((.agg [(.sl 1 a0_5),(.sl 1 a0_6)]),[]):=by kernel_rfl
theorem q2v.ev (n:Nat) (a0_0 a1_0 a1_1:List T):callK prog A H LIM n F.q2v [(.agg [(.sl 2 a0_0)]),(.agg [(.sl 1 a1_0),(.sl 1 a1_1)])]=((LIM F.q3u [(.agg [(.sl 2 a0_0)]),(.sl 1 a1_0)]).bind fun r1=>((oNil r1.2).bind fun _=>((oInt .i64 r1.1).bind fun n2=>((LIM F.q3u [(.agg [(.sl 2 a0_0)]),(.sl 1 a1_1)]).bind fun r3=>((oNil r3.2).bind fun _=>((oInt .i64 r3.1).bind fun n4=>((LIM F.q4u [(.sl 1 [(.int .i64 n2),(.int .i64 n4)])]).bind fun r5=>((oNil r5.2).bind fun _=>((oInt .i64 r5.1).bind fun n6=>(bif ((n6 != (0:Int))) then some ((.int .i64 n6),[]) else ((LIM F.q0m [(.sl 1 [(.sl 1 a1_0),(.sl 1 a1_1)])]).bind fun r7=>((oNil r7.2).bind fun _=>((oSl 1 r7.1).bind fun c8=>((LIM F.q2a [(.sl 1 c8),(.clo F.q2c [])]).bind fun r9=>((oNil r9.2).bind fun _=>((oBool r9.1).bind fun b10=>(bif b10 then some ((.int .i64 (3:Int)),[]) else some ((.int .i64 (0:Int)),[])))))))))))))))))):=by kernel_rfl
theorem q2c.ev (n:Nat) (a0:Int):callK prog A H LIM n F.q2c [(.int .i64 a0)]=some ((.bool (decide (a0 ≥ (6:Int)))),[]):=by kernel_rfl
def q0i.st0 (x0:List T) (x1 x2:Int) (x3:List T):St:=⟨[(2,(.one (.ptr 128 0))),(17,ol 2 x0),(18,oi x1),(19,oi x2)],[(128,(.box [(.t (.sl 2 x3))]))]⟩
noncomputable def q0i.K0 (n:Nat):Ex→St→R:=kx F.q0i n [.block 0,.seq 0 (cx F.q0i [1,1,1,1])] (endOf prog A F.q0i)
noncomputable def q0i.at0 (n:Nat) (m:Nat) (s:St):R:=lx F.q0i n 0 [1,1,1,0,1,0,0] (q0i.K0 n) m s
noncomputable def q0i.rd0 (n:Nat) (L0:St→R) (s:St):R:=rx F.q0i n 0 [1,1,1,0,1,0,0] (q0i.K0 n) L0 s
theorem q0i.next0 (n:Nat) (m:Nat) (s:St):q0i.at0 n (m+1) s=q0i.rd0 n (q0i.at0 n m) s:=nx _ _ _ _ _ _ _
theorem q0i.round0 (n:Nat) (L0:St→R) (x0:List T) (x1 x2:Int) (x3:List T):q0i.rd0 n L0 (q0i.st0 x0 x1 x2 x3)=(bif (decide (x2 < x1)) then (bif inB x2 ((x0).length / 2) then ((x0[((Int.toNat x2)*2)]?).bind fun e3=>((oSl 1 e3).bind fun c4=>((x0[(((Int.toNat x2)*2)+1)]?).bind fun e5=>((oSl 1 e5).bind fun c6=>((LIM F.q2v [(.agg [(.sl 2 x3)]),(.agg [(.sl 1 c4),(.sl 1 c6)])]).bind fun r7=>((oNil r7.2).bind fun _=>((oInt .i64 r7.1).bind fun n8=>(bif ((n8 != (0:Int))) then some ((.int .i64 n8),[]) else (L0 (q0i.st0 x0 x1 (IntKind.wrap .i64 (x2+(1:Int))) x3)))))))))) else none) else some ((.int .i64 (0:Int)),[])):=by kernel_rfl
theorem q0i.ev (n:Nat) (a0_0 a1:List T):callK prog A H LIM n F.q0i [(.agg [(.sl 2 a0_0)]),(.sl 2 a1)]=((LIM F.q05 [(.agg [(.sl 2 a0_0)])]).bind fun r1=>((oNil r1.2).bind fun _=>((oInt .i64 r1.1).bind fun n2=>(bif ((n2 != (0:Int))) then some ((.int .i64 n2),[]) else (bif (decide (((((a1).length / 2):Nat):Int) > (12:Int))) then some ((.int .i64 (2:Int)),[]) else (q0i.at0 n n (q0i.st0 a1 ((((a1).length / 2):Nat):Int) (0:Int) a0_0))))))):=by kernel_rfl
theorem q5s.ev (n:Nat) (a0_0 a1_0 a1_1 a2_0 a2_1:List T) (a3:Int):callK prog A H LIM n F.q5s [(.agg [(.sl 2 a0_0)]),(.agg [(.sl 1 a1_0),(.sl 1 a1_1)]),(.agg [(.sl 1 a2_0),(.sl 1 a2_1)]),(.int .i64 a3)]=((LIM F.q3v [(.agg [(.sl 2 a0_0)]),(.sl 2 [(.sl 1 a1_0),(.sl 1 a1_1),(.sl 1 a2_0),(.sl 1 a2_1)])]).bind fun r1=>((oNil r1.2).bind fun _=>((oInt .i64 r1.1).bind fun n2=>(bif ((n2 != (0:Int))) then some ((.agg [(.int .i64 n2),(.sl 1 []),(.sl 1 [])]),[]) else ((LIM F.q2g [(.int .i64 a3),(.int .i64 (0:Int)),(.int .i64 (IntKind.wrap .i64 (((((a1_0).length / 1):Nat):Int) - (1:Int))))]).bind fun r3=>((oNil r3.2).bind fun _=>((oBool r3.1).bind fun b4=>(bif (!b4) then some ((.agg [(.int .i64 (3:Int)),(.sl 1 []),(.sl 1 [])]),[]) else (bif inB a3 ((a1_0).length / 1) then ((a1_0[((Int.toNat a3)*1)]?).bind fun e5=>((oInt .i64 e5).bind fun n6=>(bif (decide (n6 < (0:Int))) then some ((.agg [(.int .i64 (1:Int)),(.sl 1 []),(.sl 1 [])]),[]) else ((LIM F.q6p [(.agg [(.sl 2 a0_0)]),(.agg [(.sl 1 a1_0),(.sl 1 a1_1)]),(.agg [(.sl 1 a2_0),(.sl 1 a2_1)]),(.int .i64 a3)]).bind fun r7=>((oNil r7.2).bind fun _=>((oAgg r7.1).bind fun c8=>((oCons c8).bind fun p9=>((oInt .i64 p9.1).bind fun n10=>((oCons p9.2).bind fun p11=>((oSl 1 p11.1).bind fun c12=>((oCons p11.2).bind fun p13=>((oSl 1 p13.1).bind fun c14=>((oNil p13.2).bind fun _=>some ((.agg [(.int .i64 n10),(.sl 1 c12),(.sl 1 c14)]),[])))))))))))))) else none))))))))):=by kernel_rfl
theorem q3l.ev (n:Nat) (a0_0 a1:List T) (a2 a3:Int) (a4:List T):callK prog A H LIM n F.q3l [(.agg [(.sl 2 a0_0)]),(.sl 2 a1),(.int .i64 a2),(.int .i64 a3),(.sl 1 a4)]=((LIM F.q4b [(.agg [(.sl 2 a0_0)]),(.sl 2 a1),(.sl 1 a4)]).bind fun r1=>((oNil r1.2).bind fun _=>((oInt .i64 r1.1).bind fun n2=>(bif ((n2 != (0:Int))) then some ((.agg [(.int .i64 n2),(.sl 1 [])]),[]) else ((LIM F.q2g [(.int .i64 a2),(.int .i64 (0:Int)),(.int .i64 (IntKind.wrap .i64 (((((a1).length / 2):Nat):Int) - (1:Int))))]).bind fun r3=>((oNil r3.2).bind fun _=>((oBool r3.1).bind fun b4=>(bif (!b4) then some ((.agg [(.int .i64 (3:Int)),(.sl 1 [])]),[]) else ((LIM F.q2g [(.int .i64 a3),(.int .i64 (0:Int)),(.int .i64 (IntKind.wrap .i64 (((((a4).length / 1):Nat):Int) - (1:Int))))]).bind fun r5=>((oNil r5.2).bind fun _=>((oBool r5.1).bind fun b6=>(bif (!b6) then some ((.agg [(.int .i64 (3:Int)),(.sl 1 [])]),[]) else (bif inB a2 ((a1).length / 2) then ((a1[((Int.toNat a2)*2)]?).bind fun e7=>((oSl 1 e7).bind fun c8=>((a1[(((Int.toNat a2)*2)+1)]?).bind fun e9=>((oSl 1 e9).bind fun c10=>((LIM F.q5k [(.agg [(.sl 2 a0_0)]),(.agg [(.sl 1 c8),(.sl 1 c10)]),(.sl 1 a4),(.int .i64 a3)]).bind fun r11=>((oNil r11.2).bind fun _=>((oAgg r11.1).bind fun c12=>((oCons c12).bind fun p13=>((oInt .i64 p13.1).bind fun n14=>((oCons p13.2).bind fun p15=>((oSl 1 p15.1).bind fun c16=>((oNil p15.2).bind fun _=>some ((.agg [(.int .i64 n14),(.sl 1 c16)]),[]))))))))))))) else none))))))))))))):=by kernel_rfl
theorem q3v.ev (n:Nat) (a0_0 a1:List T):callK prog A H LIM n F.q3v [(.agg [(.sl 2 a0_0)]),(.sl 2 a1)]=((LIM F.q0i [(.agg [(.sl 2 a0_0)]),(.sl 2 a1)]).bind fun r1=>((oNil r1.2).bind fun _=>((oInt .i64 r1.1).bind fun n2=>(bif ((n2 != (0:Int))) then some ((.int .i64 n2),[]) else ((LIM F.q4o [(.sl 2 a1),(.clo F.q2s [])]).bind fun r3=>((oNil r3.2).bind fun _=>((oBool r3.1).bind fun b4=>(bif b4 then some ((.int .i64 (1:Int)),[]) else some ((.int .i64 (0:Int)),[]))))))))):=by kernel_rfl
theorem q2s.ev (n:Nat) (a0_0 a0_1:List T):callK prog A H LIM n F.q2s [(.agg [(.sl 1 a0_0),(.sl 1 a0_1)])]=((LIM F.q6r [(.agg [(.sl 1 a0_0),(.sl 1 a0_1)])]).bind fun r1=>((oNil r1.2).bind fun _=>((oBool r1.1).bind fun b2=>some ((.bool (!b2)),[])))):=by kernel_rfl
theorem q4p.ev (n:Nat) (a0 a1:List T):callK prog A H LIM n F.q4p [(.sl 7 a0),(.sl 7 a1)]=((LIM F.q2t [(.sl 7 a0),(.sl 7 a1),(.clo F.q3t [])]).bind fun r1=>((oNil r1.2).bind fun _=>((oBool r1.1).bind fun b2=>some ((.bool b2),[])))):=by kernel_rfl
def q05.st2 (x0:List T) (x1 x2:Int) (x3:List T):St:=⟨[(1,(.one (.ptr 64 0))),(34,ol 2 x0),(35,oi x1),(36,oi x2)],[(64,(.box [(.t (.sl 2 x3))]))]⟩
def q05.st0 (x0:List T) (x1 x2:Int) (x3:List T):St:=⟨[(1,(.one (.ptr 64 0))),(18,ol 2 x0),(19,oi x1),(20,oi x2)],[(64,(.box [(.t (.sl 2 x3))]))]⟩
noncomputable def q05.K0 (n:Nat):Ex→St→R:=kx F.q05 n [.block 0,.seq 0 (cx F.q05 [1,1,1])] (endOf prog A F.q05)
noncomputable def q05.at0 (n:Nat) (m:Nat) (s:St):R:=lx F.q05 n 0 [1,1,0,1,0,0] (q05.K0 n) m s
noncomputable def q05.rd0 (n:Nat) (L0:St→R) (s:St):R:=rx F.q05 n 0 [1,1,0,1,0,0] (q05.K0 n) L0 s
theorem q05.next0 (n:Nat) (m:Nat) (s:St):q05.at0 n (m+1) s=q05.rd0 n (q05.at0 n m) s:=nx _ _ _ _ _ _ _
noncomputable def q05.K2 (n:Nat):Ex→St→R:=kx F.q05 n [.block 2,.seq 0 (cx F.q05 [1,1,1,1])] (endOf prog A F.q05)
noncomputable def q05.at2 (n:Nat) (m:Nat) (s:St):R:=lx F.q05 n 2 [1,1,1,0,1,0,0] (q05.K2 n) m s
noncomputable def q05.rd2 (n:Nat) (L2:St→R) (s:St):R:=rx F.q05 n 2 [1,1,1,0,1,0,0] (q05.K2 n) L2 s
theorem q05.next2 (n:Nat) (m:Nat) (s:St):q05.at2 n (m+1) s=q05.rd2 n (q05.at2 n m) s:=nx _ _ _ _ _ _ _
theorem q05.round0 (n:Nat) (L0:St→R) (x0:List T) (x1 x2:Int) (x3:List T):q05.rd0 n L0 (q05.st0 x0 x1 x2 x3)=(bif (decide (x2 < x1)) then (bif inB x2 ((x0).length / 2) then ((x0[((Int.toNat x2)*2)]?).bind fun e1=>((oStr e1).bind fun s2=>((x0[(((Int.toNat x2)*2)+1)]?).bind fun e3=>((oInt .i64 e3).bind fun n4=>((LIM F.q6q [(.str s2)]).bind fun r5=>((oNil r5.2).bind fun _=>((oBool r5.1).bind fun b6=>(bif (!b6) then some ((.int .i64 (5:Int)),[]) else ((LIM F.q2g [(.int .i64 n4),(.int .i64 (0:Int)),(.int .i64 (2:Int))]).bind fun r7=>((oNil r7.2).bind fun _=>((oBool r7.1).bind fun b8=>(bif (!b8) then some ((.int .i64 (3:Int)),[]) else (L0 (q05.st0 x0 x1 (IntKind.wrap .i64 (x2+(1:Int))) x3)))))))))))))) else none) else (q05.at2 n n (q05.st2 x3 ((((x3).length / 2):Nat):Int) (0:Int) x3))):=by kernel_rfl
theorem q05.round2 (n:Nat) (L2:St→R) (x0:List T) (x1 x2:Int) (x3:List T):q05.rd2 n L2 (q05.st2 x0 x1 x2 x3)=(bif (decide (x2 < x1)) then (bif inB x2 ((x0).length / 2) then ((x0[((Int.toNat x2)*2)]?).bind fun e9=>((oStr e9).bind fun s10=>((x0[(((Int.toNat x2)*2)+1)]?).bind fun e11=>((oInt .i64 e11).bind fun n12=>((LIM F.q4m [(.agg [(.sl 2 x3)]),(.str s10)]).bind fun r13=>((oNil r13.2).bind fun _=>((oInt .i64 r13.1).bind fun n14=>(bif ((n14 != x2)) then some ((.int .i64 (6:Int)),[]) else (L2 (q05.st2 x0 x1 (IntKind.wrap .i64 (x2+(1:Int))) x3)))))))))) else none) else ((LIM F.q53 [(.sl 2 x3),(.clo F.q26 [])]).bind fun r15=>((oNil r15.2).bind fun _=>((oBool r15.1).bind fun b16=>(bif (!b16) then some ((.int .i64 (4:Int)),[]) else some ((.int .i64 (0:Int)),[])))))):=by kernel_rfl
theorem q05.ev (n:Nat) (a0_0:List T):callK prog A H LIM n F.q05 [(.agg [(.sl 2 a0_0)])]=(bif (decide (((((a0_0).length / 2):Nat):Int) < (1:Int))) then some ((.int .i64 (2:Int)),[]) else (bif (decide (((((a0_0).length / 2):Nat):Int) > (6:Int))) then some ((.int .i64 (2:Int)),[]) else (q05.at0 n n (q05.st0 a0_0 ((((a0_0).length / 2):Nat):Int) (0:Int) a0_0)))):=by kernel_rfl
theorem q26.ev (n:Nat) (a0_0:ByteArray) (a0_1:Int):callK prog A H LIM n F.q26 [(.agg [(.str a0_0),(.int .i64 a0_1)])]=some ((.bool ((a0_1 == (0:Int)))),[]):=by kernel_rfl
theorem q3u.ev (n:Nat) (a0_0 a1:List T):callK prog A H LIM n F.q3u [(.agg [(.sl 2 a0_0)]),(.sl 1 a1)]=((LIM F.q05 [(.agg [(.sl 2 a0_0)])]).bind fun r1=>((oNil r1.2).bind fun _=>((oInt .i64 r1.1).bind fun n2=>(bif ((n2 != (0:Int))) then some ((.int .i64 n2),[]) else (bif (decide (((((a1).length / 1):Nat):Int) < (1:Int))) then some ((.int .i64 (2:Int)),[]) else (bif (decide (((((a1).length / 1):Nat):Int) > (24:Int))) then some ((.int .i64 (2:Int)),[]) else ((LIM F.q2a [(.sl 1 a1),(.clo F.q2z [(.rref [(.sl 2 a0_0)] 0)])]).bind fun r3=>((oNil r3.2).bind fun _=>((oBool r3.1).bind fun b4=>(bif b4 then some ((.int .i64 (3:Int)),[]) else ((LIM F.q22 [(.agg [(.sl 2 a0_0)]),(.sl 1 a1),(.int .i64 (0:Int))]).bind fun r5=>((oNil r5.2).bind fun _=>((oInt .i64 r5.1).bind fun n6=>(bif ((n6 != ((((a1).length / 1):Nat):Int))) then some ((.int .i64 (1:Int)),[]) else some ((.int .i64 (0:Int)),[]))))))))))))))):=by kernel_rfl
theorem q2z.ev (n:Nat) (a0:Int) (a1_0:List T):callK prog A H LIM n F.q2z [(.int .i64 a0),(.rref [(.sl 2 a1_0)] 0)]=((LIM F.q6o [(.agg [(.sl 2 a1_0)]),(.int .i64 a0)]).bind fun r1=>((oNil r1.2).bind fun _=>((oBool r1.1).bind fun b2=>some ((.bool (!b2)),[])))):=by kernel_rfl
def q0p.st0 (x0:List T) (x1 x2 x3:Int) (x4 x5:List T):St:=⟨[(1,ol 1 x0),(3,(.one (.ptr 192 0))),(7,(.one (.obj 576))),(8,oi x1),(17,oi x2),(18,oi x3)],[(192,(.box [(.t (.sl 2 x4))])),(576,(.arr true true 1 x5))]⟩
noncomputable def q0p.K0 (n:Nat):Ex→St→R:=kx F.q0p n [.block 0,.seq 0 (cx F.q0p [1,1,1,1])] (endOf prog A F.q0p)
noncomputable def q0p.at0 (n:Nat) (m:Nat) (s:St):R:=lx F.q0p n 0 [1,1,1,0,1,0,0] (q0p.K0 n) m s
noncomputable def q0p.rd0 (n:Nat) (L0:St→R) (s:St):R:=rx F.q0p n 0 [1,1,1,0,1,0,0] (q0p.K0 n) L0 s
theorem q0p.next0 (n:Nat) (m:Nat) (s:St):q0p.at0 n (m+1) s=q0p.rd0 n (q0p.at0 n m) s:=nx _ _ _ _ _ _ _
theorem q0p.round0 (n:Nat) (L0:St→R) (x0:List T) (x1 x2 x3:Int) (x4 x5:List T):q0p.rd0 n L0 (q0p.st0 x0 x1 x2 x3 x4 x5)=(bif (decide (x3 < x2)) then (bif Nat.ble (((x5).length+1)*8) (140737488355328*1) then ((LIM F.q22 [(.agg [(.sl 2 x4)]),(.sl 1 x0),(.int .i64 x1)]).bind fun r5=>((oNil r5.2).bind fun _=>((oInt .i64 r5.1).bind fun n6=>(L0 (q0p.st0 x0 n6 x2 (IntKind.wrap .i64 (x3+(1:Int))) x4 (x5++[(.int .i64 x1)]:List T)))))) else none) else some ((.sl 1 x5),[])):=by kernel_rfl
theorem q0p.ev (n:Nat) (a0_0 a1:List T) (a2:Int):callK prog A H LIM n F.q0p [(.agg [(.sl 2 a0_0)]),(.sl 1 a1),(.int .i64 a2)]=(bif inB a2 ((a1).length / 1) then ((a1[((Int.toNat a2)*1)]?).bind fun e1=>((oInt .i64 e1).bind fun n2=>((LIM F.q5f [(.agg [(.sl 2 a0_0)]),(.int .i64 n2)]).bind fun r3=>((oNil r3.2).bind fun _=>((oInt .i64 r3.1).bind fun n4=>(q0p.at0 n n (q0p.st0 a1 (IntKind.wrap .i64 (a2+(1:Int))) n4 (0:Int) a0_0 []))))))) else none):=by kernel_rfl
theorem q5f.ev (n:Nat) (a0_0:List T) (a1:Int):callK prog A H LIM n F.q5f [(.agg [(.sl 2 a0_0)]),(.int .i64 a1)]=(bif (decide (a1 < (0:Int))) then some ((.int .i64 (0:Int)),[]) else (bif inB a1 ((a0_0).length / 2) then ((a0_0[(((Int.toNat a1)*2)+1)]?).bind fun e1=>((oInt .i64 e1).bind fun n2=>some ((.int .i64 n2),[]))) else none)):=by kernel_rfl
noncomputable def q0g.j8 (n:Nat) (x0 x1:List T) (x2 x3 x4 x5 x6:Int) (x7 x8:List T) (x9 x10 x11 x12 x13:Int):R:=(bif inB x3 ((x0).length / 2) then ((x0[((Int.toNat x3)*2)]?).bind fun e9=>((oSl 1 e9).bind fun c10=>((x0[(((Int.toNat x3)*2)+1)]?).bind fun e11=>((oSl 1 e11).bind fun c12=>((LIM F.q3j [(.agg [(.sl 1 c10),(.sl 1 c12)])]).bind fun r13=>((oNil r13.2).bind fun _=>((oAgg r13.1).bind fun c14=>((oCons c14).bind fun p15=>((oSl 1 p15.1).bind fun c16=>((oCons p15.2).bind fun p17=>((oSl 1 p17.1).bind fun c18=>((oNil p17.2).bind fun _=>some ((.tup [(.agg [(.int .i64 x2),(.int .i64 x3),(.int .i64 x4),(.int .i64 x5),(.int .i64 x6),(.sl 1 c16),(.sl 1 c18)]),(.int .i64 (0:Int))]),[]))))))))))))) else none)
noncomputable def q0g.j10 (n:Nat) (x0 x1:List T) (x2 x3 x4 x5 x6:Int) (x7 x8:List T) (x9 x10 x11 x12 x13:Int):R:=(bif inB x3 ((x0).length / 7) then ((x0[(((Int.toNat x3)*7)+6)]?).bind fun e19=>((oSl 1 e19).bind fun c20=>(bif inB x3 ((x0).length / 7) then ((x0[(((Int.toNat x3)*7)+5)]?).bind fun e21=>((oSl 1 e21).bind fun c22=>((LIM F.q3j [(.agg [(.sl 1 c20),(.sl 1 c22)])]).bind fun r23=>((oNil r23.2).bind fun _=>((oAgg r23.1).bind fun c24=>((oCons c24).bind fun p25=>((oSl 1 p25.1).bind fun c26=>((oCons p25.2).bind fun p27=>((oSl 1 p27.1).bind fun c28=>((oNil p27.2).bind fun _=>some ((.tup [(.agg [(.int .i64 x2),(.int .i64 x3),(.int .i64 x4),(.int .i64 x5),(.int .i64 x6),(.sl 1 c26),(.sl 1 c28)]),(.int .i64 (0:Int))]),[]))))))))))) else none))) else none)
noncomputable def q0g.j12 (n:Nat) (x0 x1:List T) (x2 x3 x4 x5 x6:Int) (x7 x8:List T) (x9 x10 x11 x12 x13:Int):R:=(bif inB x3 ((x0).length / 7) then ((x0[((Int.toNat x3)*7)]?).bind fun e29=>((oInt .i64 e29).bind fun n30=>((x0[(((Int.toNat x3)*7)+1)]?).bind fun e31=>((oInt .i64 e31).bind fun n32=>((x0[((((Int.toNat x3)*7)+1)+1)]?).bind fun e33=>((oInt .i64 e33).bind fun n34=>((x0[(((((Int.toNat x3)*7)+1)+1)+1)]?).bind fun e35=>((oInt .i64 e35).bind fun n36=>((x0[((((((Int.toNat x3)*7)+1)+1)+1)+1)]?).bind fun e37=>((oInt .i64 e37).bind fun n38=>((x0[(((((((Int.toNat x3)*7)+1)+1)+1)+1)+1)]?).bind fun e39=>((oSl 1 e39).bind fun c40=>((x0[((((((((Int.toNat x3)*7)+1)+1)+1)+1)+1)+1)]?).bind fun e41=>((oSl 1 e41).bind fun c42=>((LIM F.q1o [(.agg [(.int .i64 n30),(.int .i64 n32),(.int .i64 n34),(.int .i64 n36),(.int .i64 n38),(.sl 1 c40),(.sl 1 c42)])]).bind fun r43=>((oNil r43.2).bind fun _=>((oAgg r43.1).bind fun c44=>((oCons c44).bind fun p45=>((oSl 1 p45.1).bind fun c46=>((oCons p45.2).bind fun p47=>((oSl 1 p47.1).bind fun c48=>((oNil p47.2).bind fun _=>((LIM F.q08 [(.agg [(.sl 1 c46),(.sl 1 c48)])]).bind fun r49=>((oNil r49.2).bind fun _=>((oTup r49.1).bind fun c50=>((oCons c50).bind fun p51=>((oAgg p51.1).bind fun c52=>((oCons c52).bind fun p53=>((oSl 1 p53.1).bind fun c54=>((oCons p53.2).bind fun p55=>((oSl 1 p55.1).bind fun c56=>((oNil p55.2).bind fun _=>((oCons p51.2).bind fun p57=>((oBool p57.1).bind fun b58=>((oNil p57.2).bind fun _=>some ((.tup [(.agg [(.int .i64 x2),(.int .i64 x3),(.int .i64 x4),(.int .i64 x5),(.int .i64 x6),(.sl 1 c54),(.sl 1 c56)]),(.int .i64 (0:Int))]),[])))))))))))))))))))))))))))))))))))) else none)
noncomputable def q0g.j18 (n:Nat) (x0 x1:List T) (x2 x3 x4 x5 x6:Int) (x7 x8:List T) (x9 x10 x11 x12 x13:Int) (x14 x15:List T):R:=(bif inB x4 ((x0).length / 7) then ((x0[((Int.toNat x4)*7)]?).bind fun e85=>((oInt .i64 e85).bind fun n86=>((x0[(((Int.toNat x4)*7)+1)]?).bind fun e87=>((oInt .i64 e87).bind fun n88=>((x0[((((Int.toNat x4)*7)+1)+1)]?).bind fun e89=>((oInt .i64 e89).bind fun n90=>((x0[(((((Int.toNat x4)*7)+1)+1)+1)]?).bind fun e91=>((oInt .i64 e91).bind fun n92=>((x0[((((((Int.toNat x4)*7)+1)+1)+1)+1)]?).bind fun e93=>((oInt .i64 e93).bind fun n94=>((x0[(((((((Int.toNat x4)*7)+1)+1)+1)+1)+1)]?).bind fun e95=>((oSl 1 e95).bind fun c96=>((x0[((((((((Int.toNat x4)*7)+1)+1)+1)+1)+1)+1)]?).bind fun e97=>((oSl 1 e97).bind fun c98=>((LIM F.q1o [(.agg [(.int .i64 n86),(.int .i64 n88),(.int .i64 n90),(.int .i64 n92),(.int .i64 n94),(.sl 1 c96),(.sl 1 c98)])]).bind fun r99=>((oNil r99.2).bind fun _=>((oAgg r99.1).bind fun c100=>((oCons c100).bind fun p101=>((oSl 1 p101.1).bind fun c102=>((oCons p101.2).bind fun p103=>((oSl 1 p103.1).bind fun c104=>((oNil p103.2).bind fun _=>((LIM F.q3l [(.agg [(.sl 2 x1)]),(.sl 2 [(.sl 1 c102),(.sl 1 c104)]),(.int .i64 (0:Int)),(.int .i64 x5),(.sl 1 x15)]).bind fun r105=>((oNil r105.2).bind fun _=>((oAgg r105.1).bind fun c106=>((oCons c106).bind fun p107=>((oInt .i64 p107.1).bind fun n108=>((oCons p107.2).bind fun p109=>((oSl 1 p109.1).bind fun c110=>((oNil p109.2).bind fun _=>(bif ((n108 != (0:Int))) then some ((.tup [(.agg [(.int .i64 (0:Int)),(.int .i64 (0:Int)),(.int .i64 (0:Int)),(.int .i64 (0:Int)),(.int .i64 (0:Int)),(.sl 1 []),(.sl 1 [])]),(.int .i64 n108)]),[]) else some ((.tup [(.agg [(.int .i64 x2),(.int .i64 x3),(.int .i64 x4),(.int .i64 x5),(.int .i64 x6),(.sl 1 x14),(.sl 1 c110)]),(.int .i64 (0:Int))]),[])))))))))))))))))))))))))))))))) else none)
noncomputable def q0g.j17 (n:Nat) (x0 x1:List T) (x2 x3 x4 x5 x6:Int) (x7 x8:List T) (x9 x10 x11 x12 x13:Int) (x14 x15:List T):R:=(q0g.j18 n x0 x1 x2 x3 x4 x5 x6 x7 x8 x9 x10 x11 x12 x13 x14 x15)
noncomputable def q0g.j19 (n:Nat) (x0 x1:List T) (x2 x3 x4 x5 x6:Int) (x7 x8:List T) (x9 x10 x11 x12 x13:Int) (x14 x15:List T):R:=(bif inB x4 ((x0).length / 7) then ((x0[((Int.toNat x4)*7)]?).bind fun e111=>((oInt .i64 e111).bind fun n112=>((x0[(((Int.toNat x4)*7)+1)]?).bind fun e113=>((oInt .i64 e113).bind fun n114=>((x0[((((Int.toNat x4)*7)+1)+1)]?).bind fun e115=>((oInt .i64 e115).bind fun n116=>((x0[(((((Int.toNat x4)*7)+1)+1)+1)]?).bind fun e117=>((oInt .i64 e117).bind fun n118=>((x0[((((((Int.toNat x4)*7)+1)+1)+1)+1)]?).bind fun e119=>((oInt .i64 e119).bind fun n120=>((x0[(((((((Int.toNat x4)*7)+1)+1)+1)+1)+1)]?).bind fun e121=>((oSl 1 e121).bind fun c122=>((x0[((((((((Int.toNat x4)*7)+1)+1)+1)+1)+1)+1)]?).bind fun e123=>((oSl 1 e123).bind fun c124=>((LIM F.q1o [(.agg [(.int .i64 n112),(.int .i64 n114),(.int .i64 n116),(.int .i64 n118),(.int .i64 n120),(.sl 1 c122),(.sl 1 c124)])]).bind fun r125=>((oNil r125.2).bind fun _=>((oAgg r125.1).bind fun c126=>((oCons c126).bind fun p127=>((oSl 1 p127.1).bind fun c128=>((oCons p127.2).bind fun p129=>((oSl 1 p129.1).bind fun c130=>((oNil p129.2).bind fun _=>((LIM F.q3l [(.agg [(.sl 2 x1)]),(.sl 2 [(.sl 1 c128),(.sl 1 c130)]),(.int .i64 (0:Int)),(.int .i64 x5),(.sl 1 x14)]).bind fun r131=>((oNil r131.2).bind fun _=>((oAgg r131.1).bind fun c132=>((oCons c132).bind fun p133=>((oInt .i64 p133.1).bind fun n134=>((oCons p133.2).bind fun p135=>((oSl 1 p135.1).bind fun c136=>((oNil p135.2).bind fun _=>(bif ((n134 != (0:Int))) then some ((.tup [(.agg [(.int .i64 (0:Int)),(.int .i64 (0:Int)),(.int .i64 (0:Int)),(.int .i64 (0:Int)),(.int .i64 (0:Int)),(.sl 1 []),(.sl 1 [])]),(.int .i64 n134)]),[]) else some ((.tup [(.agg [(.int .i64 x2),(.int .i64 x3),(.int .i64 x4),(.int .i64 x5),(.int .i64 x6),(.sl 1 c136),(.sl 1 x15)]),(.int .i64 (0:Int))]),[])))))))))))))))))))))))))))))))) else none)
noncomputable def q0g.j16 (n:Nat) (x0 x1:List T) (x2 x3 x4 x5 x6:Int) (x7 x8:List T) (x9 x10 x11 x12 x13:Int) (x14 x15:List T):R:=(bif ((x6 == (1:Int))) then (q0g.j17 n x0 x1 x2 x3 x4 x5 x6 x7 x8 x9 x10 x11 x12 x13 x14 x15) else (q0g.j19 n x0 x1 x2 x3 x4 x5 x6 x7 x8 x9 x10 x11 x12 x13 x14 x15))
noncomputable def q0g.j15 (n:Nat) (x0 x1:List T) (x2 x3 x4 x5 x6:Int) (x7 x8:List T) (x9 x10 x11 x12 x13:Int) (x14 x15:List T):R:=(q0g.j16 n x0 x1 x2 x3 x4 x5 x6 x7 x8 x9 x10 x11 x12 x13 x14 x15)
noncomputable def q0g.j14 (n:Nat) (x0 x1:List T) (x2 x3 x4 x5 x6:Int) (x7 x8:List T) (x9 x10 x11 x12 x13:Int):R:=(bif inB x3 ((x0).length / 7) then ((x0[((Int.toNat x3)*7)]?).bind fun e59=>((oInt .i64 e59).bind fun n60=>((x0[(((Int.toNat x3)*7)+1)]?).bind fun e61=>((oInt .i64 e61).bind fun n62=>((x0[((((Int.toNat x3)*7)+1)+1)]?).bind fun e63=>((oInt .i64 e63).bind fun n64=>((x0[(((((Int.toNat x3)*7)+1)+1)+1)]?).bind fun e65=>((oInt .i64 e65).bind fun n66=>((x0[((((((Int.toNat x3)*7)+1)+1)+1)+1)]?).bind fun e67=>((oInt .i64 e67).bind fun n68=>((x0[(((((((Int.toNat x3)*7)+1)+1)+1)+1)+1)]?).bind fun e69=>((oSl 1 e69).bind fun c70=>((x0[((((((((Int.toNat x3)*7)+1)+1)+1)+1)+1)+1)]?).bind fun e71=>((oSl 1 e71).bind fun c72=>((LIM F.q1o [(.agg [(.int .i64 n60),(.int .i64 n62),(.int .i64 n64),(.int .i64 n66),(.int .i64 n68),(.sl 1 c70),(.sl 1 c72)])]).bind fun r73=>((oNil r73.2).bind fun _=>((oAgg r73.1).bind fun c74=>((oCons c74).bind fun p75=>((oSl 1 p75.1).bind fun c76=>((oCons p75.2).bind fun p77=>((oSl 1 p77.1).bind fun c78=>((oNil p77.2).bind fun _=>((LIM F.q3j [(.agg [(.sl 1 c76),(.sl 1 c78)])]).bind fun r79=>((oNil r79.2).bind fun _=>((oAgg r79.1).bind fun c80=>((oCons c80).bind fun p81=>((oSl 1 p81.1).bind fun c82=>((oCons p81.2).bind fun p83=>((oSl 1 p83.1).bind fun c84=>((oNil p83.2).bind fun _=>(q0g.j15 n x0 x1 x2 x3 x4 x5 x6 x7 x8 x9 x10 x11 x12 x13 c82 c84))))))))))))))))))))))))))))))) else none)
noncomputable def q0g.j21 (n:Nat) (x0 x1:List T) (x2 x3 x4 x5 x6:Int) (x7 x8:List T) (x9 x10 x11 x12 x13:Int):R:=(bif inB x3 ((x0).length / 7) then ((x0[((Int.toNat x3)*7)]?).bind fun e137=>((oInt .i64 e137).bind fun n138=>((x0[(((Int.toNat x3)*7)+1)]?).bind fun e139=>((oInt .i64 e139).bind fun n140=>((x0[((((Int.toNat x3)*7)+1)+1)]?).bind fun e141=>((oInt .i64 e141).bind fun n142=>((x0[(((((Int.toNat x3)*7)+1)+1)+1)]?).bind fun e143=>((oInt .i64 e143).bind fun n144=>((x0[((((((Int.toNat x3)*7)+1)+1)+1)+1)]?).bind fun e145=>((oInt .i64 e145).bind fun n146=>((x0[(((((((Int.toNat x3)*7)+1)+1)+1)+1)+1)]?).bind fun e147=>((oSl 1 e147).bind fun c148=>((x0[((((((((Int.toNat x3)*7)+1)+1)+1)+1)+1)+1)]?).bind fun e149=>((oSl 1 e149).bind fun c150=>((LIM F.q1o [(.agg [(.int .i64 n138),(.int .i64 n140),(.int .i64 n142),(.int .i64 n144),(.int .i64 n146),(.sl 1 c148),(.sl 1 c150)])]).bind fun r151=>((oNil r151.2).bind fun _=>((oAgg r151.1).bind fun c152=>((oCons c152).bind fun p153=>((oSl 1 p153.1).bind fun c154=>((oCons p153.2).bind fun p155=>((oSl 1 p155.1).bind fun c156=>((oNil p155.2).bind fun _=>(bif inB x4 ((x0).length / 7) then ((x0[((Int.toNat x4)*7)]?).bind fun e157=>((oInt .i64 e157).bind fun n158=>((x0[(((Int.toNat x4)*7)+1)]?).bind fun e159=>((oInt .i64 e159).bind fun n160=>((x0[((((Int.toNat x4)*7)+1)+1)]?).bind fun e161=>((oInt .i64 e161).bind fun n162=>((x0[(((((Int.toNat x4)*7)+1)+1)+1)]?).bind fun e163=>((oInt .i64 e163).bind fun n164=>((x0[((((((Int.toNat x4)*7)+1)+1)+1)+1)]?).bind fun e165=>((oInt .i64 e165).bind fun n166=>((x0[(((((((Int.toNat x4)*7)+1)+1)+1)+1)+1)]?).bind fun e167=>((oSl 1 e167).bind fun c168=>((x0[((((((((Int.toNat x4)*7)+1)+1)+1)+1)+1)+1)]?).bind fun e169=>((oSl 1 e169).bind fun c170=>((LIM F.q1o [(.agg [(.int .i64 n158),(.int .i64 n160),(.int .i64 n162),(.int .i64 n164),(.int .i64 n166),(.sl 1 c168),(.sl 1 c170)])]).bind fun r171=>((oNil r171.2).bind fun _=>((oAgg r171.1).bind fun c172=>((oCons c172).bind fun p173=>((oSl 1 p173.1).bind fun c174=>((oCons p173.2).bind fun p175=>((oSl 1 p175.1).bind fun c176=>((oNil p175.2).bind fun _=>((LIM F.q5s [(.agg [(.sl 2 x1)]),(.agg [(.sl 1 c154),(.sl 1 c156)]),(.agg [(.sl 1 c174),(.sl 1 c176)]),(.int .i64 x5)]).bind fun r177=>((oNil r177.2).bind fun _=>((oAgg r177.1).bind fun c178=>((oCons c178).bind fun p179=>((oInt .i64 p179.1).bind fun n180=>((oCons p179.2).bind fun p181=>((oSl 1 p181.1).bind fun c182=>((oCons p181.2).bind fun p183=>((oSl 1 p183.1).bind fun c184=>((oNil p183.2).bind fun _=>(bif ((n180 != (0:Int))) then some ((.tup [(.agg [(.int .i64 (0:Int)),(.int .i64 (0:Int)),(.int .i64 (0:Int)),(.int .i64 (0:Int)),(.int .i64 (0:Int)),(.sl 1 []),(.sl 1 [])]),(.int .i64 n180)]),[]) else some ((.tup [(.agg [(.int .i64 x2),(.int .i64 x3),(.int .i64 x4),(.int .i64 x5),(.int .i64 x6),(.sl 1 c182),(.sl 1 c184)]),(.int .i64 (0:Int))]),[])))))))))))))))))))))))))))))))))) else none))))))))))))))))))))))) else none)
noncomputable def q0g.j20 (n:Nat) (x0:List T) (x1:Int) (x2:List T) (x3 x4 x5 x6 x7:Int) (x8 x9:List T) (x10 x11 x12 x13 x14:Int):R:=(bif ((x1 == (5:Int))) then (q0g.j21 n x0 x2 x3 x4 x5 x6 x7 x8 x9 x10 x11 x12 x13 x14) else some ((.tup [(.agg [(.int .i64 x3),(.int .i64 x4),(.int .i64 x5),(.int .i64 x6),(.int .i64 x7),(.sl 1 []),(.sl 1 [])]),(.int .i64 (0:Int))]),[]))
noncomputable def q0g.j13 (n:Nat) (x0:List T) (x1:Int) (x2:List T) (x3 x4 x5 x6 x7:Int) (x8 x9:List T) (x10 x11 x12 x13 x14:Int):R:=(bif ((x1 == (4:Int))) then (q0g.j14 n x0 x2 x3 x4 x5 x6 x7 x8 x9 x10 x11 x12 x13 x14) else (q0g.j20 n x0 x1 x2 x3 x4 x5 x6 x7 x8 x9 x10 x11 x12 x13 x14))
noncomputable def q0g.j11 (n:Nat) (x0:List T) (x1:Int) (x2:List T) (x3 x4 x5 x6 x7:Int) (x8 x9:List T) (x10 x11 x12 x13 x14:Int):R:=(bif ((x1 == (3:Int))) then (q0g.j12 n x0 x2 x3 x4 x5 x6 x7 x8 x9 x10 x11 x12 x13 x14) else (q0g.j13 n x0 x1 x2 x3 x4 x5 x6 x7 x8 x9 x10 x11 x12 x13 x14))
noncomputable def q0g.j9 (n:Nat) (x0:List T) (x1:Int) (x2:List T) (x3 x4 x5 x6 x7:Int) (x8 x9:List T) (x10 x11 x12 x13 x14:Int):R:=(bif ((x1 == (2:Int))) then (q0g.j10 n x0 x2 x3 x4 x5 x6 x7 x8 x9 x10 x11 x12 x13 x14) else (q0g.j11 n x0 x1 x2 x3 x4 x5 x6 x7 x8 x9 x10 x11 x12 x13 x14))
noncomputable def q0g.j7 (n:Nat) (x0 x1:List T) (x2:Int) (x3:List T) (x4 x5 x6 x7 x8:Int) (x9 x10:List T) (x11 x12 x13 x14 x15:Int):R:=(bif ((x2 == (1:Int))) then (q0g.j8 n x0 x3 x4 x5 x6 x7 x8 x9 x10 x11 x12 x13 x14 x15) else (q0g.j9 n x1 x2 x3 x4 x5 x6 x7 x8 x9 x10 x11 x12 x13 x14 x15))
noncomputable def q0g.j6 (n:Nat) (x0 x1 x2:List T) (x3 x4 x5 x6 x7:Int) (x8 x9:List T) (x10 x11 x12 x13 x14:Int):R:=(q0g.j7 n x0 x1 x3 x2 x3 x4 x5 x6 x7 x8 x9 x10 x11 x12 x13 x14)
noncomputable def q0g.j5 (n:Nat) (x0 x1 x2:List T) (x3 x4 x5 x6 x7:Int) (x8 x9:List T) (x10 x11 x12 x13 x14:Int):R:=(q0g.j6 n x0 x1 x2 x3 x4 x5 x6 x7 x8 x9 x10 x11 x12 x13 x14)
noncomputable def q0g.j4 (n:Nat) (x0 x1:List T) (x2:Bool) (x3 x4:Int) (x5:List T) (x6 x7 x8 x9 x10:Int) (x11 x12:List T) (x13 x14 x15 x16 x17:Int):R:=((LIM F.q2g [(.int .i64 x7),(.int .i64 (0:Int)),(.int .i64 x4)]).bind fun r3=>((oNil r3.2).bind fun _=>((oBool r3.1).bind fun b4=>(bif (!b4) then some ((.tup [(.agg [(.int .i64 (0:Int)),(.int .i64 (0:Int)),(.int .i64 (0:Int)),(.int .i64 (0:Int)),(.int .i64 (0:Int)),(.sl 1 []),(.sl 1 [])]),(.int .i64 (3:Int))]),[]) else (bif x2 then ((LIM F.q2g [(.int .i64 x8),(.int .i64 (0:Int)),(.int .i64 x3)]).bind fun r5=>((oNil r5.2).bind fun _=>((oBool r5.1).bind fun b6=>(bif (!b6) then some ((.tup [(.agg [(.int .i64 (0:Int)),(.int .i64 (0:Int)),(.int .i64 (0:Int)),(.int .i64 (0:Int)),(.int .i64 (0:Int)),(.sl 1 []),(.sl 1 [])]),(.int .i64 (3:Int))]),[]) else ((LIM F.q2g [(.int .i64 x10),(.int .i64 (0:Int)),(.int .i64 (1:Int))]).bind fun r7=>((oNil r7.2).bind fun _=>((oBool r7.1).bind fun b8=>(bif (!b8) then some ((.tup [(.agg [(.int .i64 (0:Int)),(.int .i64 (0:Int)),(.int .i64 (0:Int)),(.int .i64 (0:Int)),(.int .i64 (0:Int)),(.sl 1 []),(.sl 1 [])]),(.int .i64 (3:Int))]),[]) else (q0g.j5 n x0 x1 x5 x6 x7 x8 x9 x10 x11 x12 x13 x14 x15 x16 x17))))))))) else ((LIM F.q2g [(.int .i64 x10),(.int .i64 (0:Int)),(.int .i64 (1:Int))]).bind fun r185=>((oNil r185.2).bind fun _=>((oBool r185.1).bind fun b186=>(bif (!b186) then some ((.tup [(.agg [(.int .i64 (0:Int)),(.int .i64 (0:Int)),(.int .i64 (0:Int)),(.int .i64 (0:Int)),(.int .i64 (0:Int)),(.sl 1 []),(.sl 1 [])]),(.int .i64 (3:Int))]),[]) else (q0g.j5 n x0 x1 x5 x6 x7 x8 x9 x10 x11 x12 x13 x14 x15 x16 x17))))))))))
noncomputable def q0g.j3 (n:Nat) (x0 x1:List T) (x2:Bool) (x3:Int) (x4:List T) (x5 x6 x7 x8 x9:Int) (x10 x11:List T) (x12 x13 x14 x15 x16:Int):R:=(q0g.j4 n x0 x1 x2 x3 (IntKind.wrap .i64 (((((x0).length / 2):Nat):Int) - (1:Int))) x4 x5 x6 x7 x8 x9 x10 x11 x12 x13 x14 x15 x16)
noncomputable def q0g.j2 (n:Nat) (x0 x1:List T) (x2:Bool) (x3 x4:Int) (x5:List T) (x6 x7 x8 x9 x10:Int) (x11 x12:List T) (x13 x14 x15 x16 x17:Int):R:=(bif ((x6 == (1:Int))) then (q0g.j3 n x0 x1 x2 x3 x5 x6 x7 x8 x9 x10 x11 x12 x13 x14 x15 x16 x17) else (q0g.j4 n x0 x1 x2 x3 x4 x5 x6 x7 x8 x9 x10 x11 x12 x13 x14 x15 x16 x17))
noncomputable def q0g.j1 (n:Nat) (x0 x1:List T) (x2:Bool) (x3:Int) (x4:List T) (x5 x6 x7 x8 x9:Int) (x10 x11:List T) (x12 x13 x14 x15 x16:Int):R:=(q0g.j2 n x0 x1 x2 x3 x3 x4 x5 x6 x7 x8 x9 x10 x11 x12 x13 x14 x15 x16)
noncomputable def q0g.j0 (n:Nat) (x0 x1:List T) (x2:Bool) (x3:List T) (x4 x5 x6 x7 x8:Int) (x9 x10:List T) (x11 x12 x13 x14 x15:Int):R:=(q0g.j1 n x0 x1 x2 (IntKind.wrap .i64 (((((x1).length / 7):Nat):Int) - (1:Int))) x3 x4 x5 x6 x7 x8 x9 x10 x11 x12 x13 x14 x15)
theorem q0g.ev (n:Nat) (a0_0 a1 a2:List T) (a3_0 a3_1 a3_2 a3_3 a3_4:Int) (a3_5 a3_6:List T):callK prog A H LIM n F.q0g [(.agg [(.sl 2 a0_0)]),(.sl 2 a1),(.sl 7 a2),(.agg [(.int .i64 a3_0),(.int .i64 a3_1),(.int .i64 a3_2),(.int .i64 a3_3),(.int .i64 a3_4),(.sl 1 a3_5),(.sl 1 a3_6)])]=(bif ((a3_0 == (4:Int))) then ((LIM F.q2g [(.int .i64 a3_0),(.int .i64 (1:Int)),(.int .i64 (5:Int))]).bind fun r1=>((oNil r1.2).bind fun _=>((oBool r1.1).bind fun b2=>(bif (!b2) then some ((.tup [(.agg [(.int .i64 (0:Int)),(.int .i64 (0:Int)),(.int .i64 (0:Int)),(.int .i64 (0:Int)),(.int .i64 (0:Int)),(.sl 1 []),(.sl 1 [])]),(.int .i64 (1:Int))]),[]) else (bif ((a3_0 != (4:Int))) then (bif ((a3_4 != (0:Int))) then some ((.tup [(.agg [(.int .i64 (0:Int)),(.int .i64 (0:Int)),(.int .i64 (0:Int)),(.int .i64 (0:Int)),(.int .i64 (0:Int)),(.sl 1 []),(.sl 1 [])]),(.int .i64 (1:Int))]),[]) else (q0g.j0 n a1 a2 true a0_0 a3_0 a3_1 a3_2 a3_3 a3_4 a3_5 a3_6 (0:Int) (0:Int) (0:Int) (0:Int) (0:Int))) else (q0g.j0 n a1 a2 true a0_0 a3_0 a3_1 a3_2 a3_3 a3_4 a3_5 a3_6 (0:Int) (0:Int) (0:Int) (0:Int) (0:Int))))))) else ((LIM F.q2g [(.int .i64 a3_0),(.int .i64 (1:Int)),(.int .i64 (5:Int))]).bind fun r187=>((oNil r187.2).bind fun _=>((oBool r187.1).bind fun b188=>(bif (!b188) then some ((.tup [(.agg [(.int .i64 (0:Int)),(.int .i64 (0:Int)),(.int .i64 (0:Int)),(.int .i64 (0:Int)),(.int .i64 (0:Int)),(.sl 1 []),(.sl 1 [])]),(.int .i64 (1:Int))]),[]) else (bif (!((a3_0 == (5:Int)))) then (bif ((a3_2 != (0:Int))) then some ((.tup [(.agg [(.int .i64 (0:Int)),(.int .i64 (0:Int)),(.int .i64 (0:Int)),(.int .i64 (0:Int)),(.int .i64 (0:Int)),(.sl 1 []),(.sl 1 [])]),(.int .i64 (1:Int))]),[]) else (bif ((a3_3 != (0:Int))) then some ((.tup [(.agg [(.int .i64 (0:Int)),(.int .i64 (0:Int)),(.int .i64 (0:Int)),(.int .i64 (0:Int)),(.int .i64 (0:Int)),(.sl 1 []),(.sl 1 [])]),(.int .i64 (1:Int))]),[]) else (bif ((a3_0 != (4:Int))) then (bif ((a3_4 != (0:Int))) then some ((.tup [(.agg [(.int .i64 (0:Int)),(.int .i64 (0:Int)),(.int .i64 (0:Int)),(.int .i64 (0:Int)),(.int .i64 (0:Int)),(.sl 1 []),(.sl 1 [])]),(.int .i64 (1:Int))]),[]) else (q0g.j0 n a1 a2 ((a3_0 == (5:Int))) a0_0 a3_0 a3_1 a3_2 a3_3 a3_4 a3_5 a3_6 (0:Int) (0:Int) (0:Int) (0:Int) (0:Int))) else (q0g.j0 n a1 a2 ((a3_0 == (5:Int))) a0_0 a3_0 a3_1 a3_2 a3_3 a3_4 a3_5 a3_6 (0:Int) (0:Int) (0:Int) (0:Int) (0:Int))))) else (bif ((a3_0 != (4:Int))) then (bif ((a3_4 != (0:Int))) then some ((.tup [(.agg [(.int .i64 (0:Int)),(.int .i64 (0:Int)),(.int .i64 (0:Int)),(.int .i64 (0:Int)),(.int .i64 (0:Int)),(.sl 1 []),(.sl 1 [])]),(.int .i64 (1:Int))]),[]) else (q0g.j0 n a1 a2 ((a3_0 == (5:Int))) a0_0 a3_0 a3_1 a3_2 a3_3 a3_4 a3_5 a3_6 (0:Int) (0:Int) (0:Int) (0:Int) (0:Int))) else (q0g.j0 n a1 a2 ((a3_0 == (5:Int))) a0_0 a3_0 a3_1 a3_2 a3_3 a3_4 a3_5 a3_6 (0:Int) (0:Int) (0:Int) (0:Int) (0:Int))))))))):=by kernel_rfl
def q22.st0 (x0:List T) (x1 x2:Int) (x3:List T):St:=⟨[(1,ol 1 x0),(2,oi x1),(3,(.one (.ptr 192 0))),(7,oi x2)],[(192,(.box [(.t (.sl 2 x3))]))]⟩
noncomputable def q22.K0 (n:Nat):Ex→St→R:=kx F.q22 n [.block 0,.seq 0 (cx F.q22 [1,1])] (endOf prog A F.q22)
noncomputable def q22.at0 (n:Nat) (m:Nat) (s:St):R:=lx F.q22 n 0 [1,0,1,0,0] (q22.K0 n) m s
noncomputable def q22.rd0 (n:Nat) (L0:St→R) (s:St):R:=rx F.q22 n 0 [1,0,1,0,0] (q22.K0 n) L0 s
theorem q22.next0 (n:Nat) (m:Nat) (s:St):q22.at0 n (m+1) s=q22.rd0 n (q22.at0 n m) s:=nx _ _ _ _ _ _ _
theorem q22.round0 (n:Nat) (L0:St→R) (x0:List T) (x1 x2:Int) (x3:List T):q22.rd0 n L0 (q22.st0 x0 x1 x2 x3)=(bif (decide (x2 > (0:Int))) then (bif (decide (x1 ≥ ((((x0).length / 1):Nat):Int))) then some ((.int .i64 (IntKind.wrap .i64 (((((x0).length / 1):Nat):Int)+(1:Int)))),[]) else (bif inB x1 ((x0).length / 1) then ((x0[((Int.toNat x1)*1)]?).bind fun e1=>((oInt .i64 e1).bind fun n2=>((LIM F.q5f [(.agg [(.sl 2 x3)]),(.int .i64 n2)]).bind fun r3=>((oNil r3.2).bind fun _=>((oInt .i64 r3.1).bind fun n4=>(L0 (q22.st0 x0 (IntKind.wrap .i64 (x1+(1:Int))) (IntKind.wrap .i64 (x2+(IntKind.wrap .i64 (n4 - (1:Int))))) x3))))))) else none)) else some ((.int .i64 x1),[])):=by kernel_rfl
theorem q22.ev (n:Nat) (a0_0 a1:List T) (a2:Int):callK prog A H LIM n F.q22 [(.agg [(.sl 2 a0_0)]),(.sl 1 a1),(.int .i64 a2)]=(q22.at0 n n (q22.st0 a1 a2 (1:Int) a0_0)):=by kernel_rfl
def q0r.st0 (x0:List T) (x1 x2:Int) (x3:List T):St:=⟨[(2,(.one (.ptr 128 0))),(11,ol 7 x0),(12,oi x1),(13,oi x2)],[(128,(.box [(.t (.sl 2 x3))]))]⟩
noncomputable def q0r.K0 (n:Nat):Ex→St→R:=kx F.q0r n [.block 0,.seq 0 (cx F.q0r [1,1,1])] (endOf prog A F.q0r)
noncomputable def q0r.at0 (n:Nat) (m:Nat) (s:St):R:=lx F.q0r n 0 [1,1,0,1,0,0] (q0r.K0 n) m s
noncomputable def q0r.rd0 (n:Nat) (L0:St→R) (s:St):R:=rx F.q0r n 0 [1,1,0,1,0,0] (q0r.K0 n) L0 s
theorem q0r.next0 (n:Nat) (m:Nat) (s:St):q0r.at0 n (m+1) s=q0r.rd0 n (q0r.at0 n m) s:=nx _ _ _ _ _ _ _
theorem q0r.round0 (n:Nat) (L0:St→R) (x0:List T) (x1 x2:Int) (x3:List T):q0r.rd0 n L0 (q0r.st0 x0 x1 x2 x3)=(bif (decide (x2 < x1)) then (bif inB x2 ((x0).length / 7) then ((x0[((Int.toNat x2)*7)]?).bind fun e1=>((oInt .i64 e1).bind fun n2=>((x0[(((Int.toNat x2)*7)+1)]?).bind fun e3=>((oInt .i64 e3).bind fun n4=>((x0[((((Int.toNat x2)*7)+1)+1)]?).bind fun e5=>((oInt .i64 e5).bind fun n6=>((x0[(((((Int.toNat x2)*7)+1)+1)+1)]?).bind fun e7=>((oInt .i64 e7).bind fun n8=>((x0[((((((Int.toNat x2)*7)+1)+1)+1)+1)]?).bind fun e9=>((oInt .i64 e9).bind fun n10=>((x0[(((((((Int.toNat x2)*7)+1)+1)+1)+1)+1)]?).bind fun e11=>((oSl 1 e11).bind fun c12=>((x0[((((((((Int.toNat x2)*7)+1)+1)+1)+1)+1)+1)]?).bind fun e13=>((oSl 1 e13).bind fun c14=>((LIM F.q1o [(.agg [(.int .i64 n2),(.int .i64 n4),(.int .i64 n6),(.int .i64 n8),(.int .i64 n10),(.sl 1 c12),(.sl 1 c14)])]).bind fun r15=>((oNil r15.2).bind fun _=>((oAgg r15.1).bind fun c16=>((oCons c16).bind fun p17=>((oSl 1 p17.1).bind fun c18=>((oCons p17.2).bind fun p19=>((oSl 1 p19.1).bind fun c20=>((oNil p19.2).bind fun _=>((LIM F.q2v [(.agg [(.sl 2 x3)]),(.agg [(.sl 1 c18),(.sl 1 c20)])]).bind fun r21=>((oNil r21.2).bind fun _=>((oInt .i64 r21.1).bind fun n22=>(bif ((n22 != (0:Int))) then some ((.int .i64 n22),[]) else (L0 (q0r.st0 x0 x1 (IntKind.wrap .i64 (x2+(1:Int))) x3)))))))))))))))))))))))))))) else none) else some ((.int .i64 (0:Int)),[])):=by kernel_rfl
theorem q0r.ev (n:Nat) (a0_0 a1:List T):callK prog A H LIM n F.q0r [(.agg [(.sl 2 a0_0)]),(.sl 7 a1)]=(bif (decide (((((a1).length / 7):Nat):Int) > (500:Int))) then some ((.int .i64 (2:Int)),[]) else (q0r.at0 n n (q0r.st0 a1 ((((a1).length / 7):Nat):Int) (0:Int) a0_0))):=by kernel_rfl
theorem q4u.ev (n:Nat) (a0:List T):callK prog A H LIM n F.q4u [(.sl 1 a0)]=((LIM F.q1n [(.sl 1 a0)]).bind fun r1=>((oNil r1.2).bind fun _=>((oInt .i64 r1.1).bind fun n2=>some ((.int .i64 n2),[])))):=by kernel_rfl
theorem q68.ev (n:Nat) (a0:List T):callK prog A H LIM n F.q68 [(.sl 1 a0)]=(bif (decide (((((a0).length / 1):Nat):Int) > (24:Int))) then some ((.agg [(.int .i64 (2:Int)),(.sl 1 [])]),[]) else some ((.agg [(.int .i64 (0:Int)),(.sl 1 a0)]),[])):=by kernel_rfl
theorem q6q.ev (n:Nat) (a0:ByteArray):callK prog A H LIM n F.q6q [(.str a0)]=(bif (decide ((a0.size:Int) ≥ (1:Int))) then (bif (decide ((a0.size:Int)≤(3:Int))) then ((LIM F.q84 [(.str a0),(.str (ByteArray.mk #[97,98,99,100,101,102,103,104,105,106,107,108,109,110,111,112,113,114,115,116,117,118,119,120,121,122]))]).bind fun r1=>((oNil r1.2).bind fun _=>((oStr r1.1).bind fun s2=>some ((.bool (s2.toList == (ByteArray.mk #[]).toList)),[])))) else some ((.bool false),[])) else some ((.bool false),[])):=by kernel_rfl
theorem q6o.ev (n:Nat) (a0_0:List T) (a1:Int):callK prog A H LIM n F.q6o [(.agg [(.sl 2 a0_0)]),(.int .i64 a1)]=((LIM F.q5e [(.agg [(.sl 2 a0_0)]),(.int .i64 a1)]).bind fun r1=>((oNil r1.2).bind fun _=>((oBool r1.1).bind fun b2=>(bif b2 then some ((.bool true),[]) else ((LIM F.q2g [(.int .i64 a1),(.int .i64 (-12:Int)),(.int .i64 (-1:Int))]).bind fun r3=>((oNil r3.2).bind fun _=>((oBool r3.1).bind fun b4=>some ((.bool b4),[])))))))):=by kernel_rfl
theorem q6r.ev (n:Nat) (a0_0 a0_1:List T):callK prog A H LIM n F.q6r [(.agg [(.sl 1 a0_0),(.sl 1 a0_1)])]=(bif inB (0:Int) ((a0_0).length / 1) then ((a0_0[0]?).bind fun e1=>((oInt .i64 e1).bind fun n2=>(bif (decide (n2 < (0:Int))) then some ((.bool false),[]) else ((LIM F.q0m [(.sl 1 [(.sl 1 a0_0)])]).bind fun r3=>((oNil r3.2).bind fun _=>((oSl 1 r3.1).bind fun c4=>((LIM F.q0m [(.sl 1 [(.sl 1 a0_1)])]).bind fun r5=>((oNil r5.2).bind fun _=>((oSl 1 r5.1).bind fun c6=>((LIM F.q2a [(.sl 1 c6),(.clo F.q40 [(.rref [(.sl 1 c4)] 0)])]).bind fun r7=>((oNil r7.2).bind fun _=>((oBool r7.1).bind fun b8=>some ((.bool (!b8)),[]))))))))))))) else none):=by kernel_rfl
theorem q40.ev (n:Nat) (a0:Int) (a1_0:List T):callK prog A H LIM n F.q40 [(.int .i64 a0),(.rref [(.sl 1 a1_0)] 0)]=((LIM F.q1e [(.sl 1 a1_0),(.int .i64 a0)]).bind fun r1=>((oNil r1.2).bind fun _=>((oBool r1.1).bind fun b2=>some ((.bool (!b2)),[])))):=by kernel_rfl
theorem q5e.ev (n:Nat) (a0_0:List T) (a1:Int):callK prog A H LIM n F.q5e [(.agg [(.sl 2 a0_0)]),(.int .i64 a1)]=((LIM F.q2g [(.int .i64 a1),(.int .i64 (0:Int)),(.int .i64 (IntKind.wrap .i64 (((((a0_0).length / 2):Nat):Int) - (1:Int))))]).bind fun r1=>((oNil r1.2).bind fun _=>((oBool r1.1).bind fun b2=>some ((.bool b2),[])))):=by kernel_rfl
def q1i.st0 (x0:List T) (x1:Int) (x2:List T) (x3 x4:Int) (x5 x6 x7:List T):St:=⟨[(2,ol 1 x0),(3,(.one (.ptr 192 0))),(6,(.one (.ptr 384 0))),(8,(.one (.ptr 512 0))),(9,oi x1),(16,ol 1 x2),(17,oi x3),(18,oi x4)],[(192,(.box [(.t (.sl 2 x5))])),(384,(.box [.nil,.nil])),(512,(.box [(.obj 518192),(.obj 518193)])),(518192,(.arr true true 1 x6)),(518193,(.arr true true 1 x7))]⟩
noncomputable def q1i.K0 (n:Nat):Ex→St→R:=kx F.q1i n [.block 0,.seq 0 (cx F.q1i [1,1,1,1])] (endOf prog A F.q1i)
noncomputable def q1i.at0 (n:Nat) (m:Nat) (s:St):R:=lx F.q1i n 0 [1,1,1,0,1,0,0] (q1i.K0 n) m s
noncomputable def q1i.rd0 (n:Nat) (L0:St→R) (s:St):R:=rx F.q1i n 0 [1,1,1,0,1,0,0] (q1i.K0 n) L0 s
theorem q1i.next0 (n:Nat) (m:Nat) (s:St):q1i.at0 n (m+1) s=q1i.rd0 n (q1i.at0 n m) s:=nx _ _ _ _ _ _ _
theorem q1i.round0 (n:Nat) (L0:St→R) (x0:List T) (x1:Int) (x2:List T) (x3 x4:Int) (x5 x6 x7:List T):q1i.rd0 n L0 (q1i.st0 x0 x1 x2 x3 x4 x5 x6 x7)=(bif (decide (x4 < x3)) then (bif inB x4 ((x2).length / 1) then ((x2[((Int.toNat x4)*1)]?).bind fun e1=>((oInt .i64 e1).bind fun n2=>(bif (decide (x1 ≥ ((((x0).length / 1):Nat):Int))) then some ((.tup [(.agg [(.sl 1 []),(.sl 1 [])]),(.bool false)]),[]) else (bif (decide (n2 ≥ (0:Int))) then (bif inB x1 ((x0).length / 1) then ((x0[((Int.toNat x1)*1)]?).bind fun e3=>((oInt .i64 e3).bind fun n4=>(bif ((n4 != n2)) then some ((.tup [(.agg [(.sl 1 []),(.sl 1 [])]),(.bool false)]),[]) else (L0 (q1i.st0 x0 (IntKind.wrap .i64 (x1+(1:Int))) x2 x3 (IntKind.wrap .i64 (x4+(1:Int))) x5 x6 x7))))) else none) else ((LIM F.q3e [(.agg [(.sl 2 x5)]),(.sl 1 x0),(.int .i64 x1)]).bind fun r5=>((oNil r5.2).bind fun _=>((oSl 1 r5.1).bind fun c6=>((LIM F.q47 [(.agg [(.sl 1 x6),(.sl 1 x7)]),(.int .i64 (IntKind.wrap .i64 ((-1:Int) - n2)))]).bind fun r7=>((oNil r7.2).bind fun _=>((oTup r7.1).bind fun c8=>((oCons c8).bind fun p9=>((oSl 1 p9.1).bind fun c10=>(bif (c10).all T.scalar then ((oCons p9.2).bind fun p11=>((oBool p11.1).bind fun b12=>((oNil p11.2).bind fun _=>(bif (!b12) then ((LIM F.q0o [(.rref [(.sl 1 x6),(.sl 1 x7)] 0),(.int .i64 (IntKind.wrap .i64 ((-1:Int) - n2))),(.sl 1 c6)]).bind fun r13=>((oCons r13.2).bind fun p14=>((oNil p14.2).bind fun _=>((oAgg p14.1).bind fun c15=>((oCons c15).bind fun p16=>((oSl 1 p16.1).bind fun c17=>((oCons p16.2).bind fun p18=>((oSl 1 p18.1).bind fun c19=>((oNil p18.2).bind fun _=>((oTup r13.1).bind fun c20=>((oNil c20).bind fun _=>(L0 (q1i.st0 x0 (IntKind.wrap .i64 (x1+((((c6).length / 1):Nat):Int))) x2 x3 (IntKind.wrap .i64 (x4+(1:Int))) x5 c17 c19))))))))))))) else ((LIM F.q0h [(.sl 1 c10),(.sl 1 c6)]).bind fun r21=>((oNil r21.2).bind fun _=>((oBool r21.1).bind fun b22=>(bif (!b22) then some ((.tup [(.agg [(.sl 1 []),(.sl 1 [])]),(.bool false)]),[]) else (L0 (q1i.st0 x0 (IntKind.wrap .i64 (x1+((((c6).length / 1):Nat):Int))) x2 x3 (IntKind.wrap .i64 (x4+(1:Int))) x5 x6 x7)))))))))) else none))))))))))))) else none) else some ((.tup [(.agg [(.sl 1 x6),(.sl 1 x7)]),(.bool ((x1 == ((((x0).length / 1):Nat):Int))))]),[])):=by kernel_rfl
theorem q1i.ev (n:Nat) (a0_0 a1 a2:List T):callK prog A H LIM n F.q1i [(.agg [(.sl 2 a0_0)]),(.sl 1 a1),(.sl 1 a2)]=(q1i.at0 n n (q1i.st0 a2 (0:Int) a1 ((((a1).length / 1):Nat):Int) (0:Int) a0_0 [] [])):=by kernel_rfl
theorem q3j.ev (n:Nat) (a0_0 a0_1:List T):callK prog A H LIM n F.q3j [(.agg [(.sl 1 a0_0),(.sl 1 a0_1)])]=((LIM F.q23 [(.sl 1 a0_0)]).bind fun r1=>((oNil r1.2).bind fun _=>((oSl 1 r1.1).bind fun c2=>((LIM F.q23 [(.sl 1 a0_1)]).bind fun r3=>((oNil r3.2).bind fun _=>((oSl 1 r3.1).bind fun c4=>some ((.agg [(.sl 1 c2),(.sl 1 c4)]),[]))))))):=by kernel_rfl
theorem q6p.ev (n:Nat) (a0_0 a1_0 a1_1 a2_0 a2_1:List T) (a3:Int):callK prog A H LIM n F.q6p [(.agg [(.sl 2 a0_0)]),(.agg [(.sl 1 a1_0),(.sl 1 a1_1)]),(.agg [(.sl 1 a2_0),(.sl 1 a2_1)]),(.int .i64 a3)]=((LIM F.q1c [(.sl 1 a2_0),(.int .i64 (6:Int))]).bind fun r1=>((oNil r1.2).bind fun _=>((oSl 1 r1.1).bind fun c2=>((LIM F.q1c [(.sl 1 a2_1),(.int .i64 (6:Int))]).bind fun r3=>((oNil r3.2).bind fun _=>((oSl 1 r3.1).bind fun c4=>((LIM F.q3e [(.agg [(.sl 2 a0_0)]),(.sl 1 a1_0),(.int .i64 a3)]).bind fun r5=>((oNil r5.2).bind fun _=>((oSl 1 r5.1).bind fun c6=>((LIM F.q0c [(.agg [(.sl 2 a0_0)]),(.sl 1 c6),(.sl 1 c2)]).bind fun r7=>((oNil r7.2).bind fun _=>((oTup r7.1).bind fun c8=>((oCons c8).bind fun p9=>((oAgg p9.1).bind fun c10=>((oCons c10).bind fun p11=>((oSl 1 p11.1).bind fun c12=>((oCons p11.2).bind fun p13=>((oSl 1 p13.1).bind fun c14=>((oNil p13.2).bind fun _=>((oCons p9.2).bind fun p15=>((oInt .i64 p15.1).bind fun n16=>((oNil p15.2).bind fun _=>(bif ((n16 != (0:Int))) then some ((.agg [(.int .i64 n16),(.sl 1 []),(.sl 1 [])]),[]) else ((LIM F.q4s [(.agg [(.sl 2 a0_0)]),(.sl 1 a1_0),(.int .i64 a3),(.sl 1 c4)]).bind fun r17=>((oNil r17.2).bind fun _=>((oSl 1 r17.1).bind fun c18=>(bif (decide (((((c18).length / 1):Nat):Int) > (24:Int))) then some ((.agg [(.int .i64 (2:Int)),(.sl 1 []),(.sl 1 [])]),[]) else ((LIM F.q0e [(.agg [(.sl 1 c12),(.sl 1 c14)]),(.sl 1 a1_1)]).bind fun r19=>((oNil r19.2).bind fun _=>((oSl 1 r19.1).bind fun c20=>((LIM F.q0e [(.agg [(.sl 1 c12),(.sl 1 c14)]),(.sl 1 c18)]).bind fun r21=>((oNil r21.2).bind fun _=>((oSl 1 r21.1).bind fun c22=>(bif (decide (((((c20).length / 1):Nat):Int) > (24:Int))) then some ((.agg [(.int .i64 (2:Int)),(.sl 1 []),(.sl 1 [])]),[]) else (bif (decide (((((c22).length / 1):Nat):Int) > (24:Int))) then some ((.agg [(.int .i64 (2:Int)),(.sl 1 []),(.sl 1 [])]),[]) else ((LIM F.q08 [(.agg [(.sl 1 c20),(.sl 1 c22)])]).bind fun r23=>((oNil r23.2).bind fun _=>((oTup r23.1).bind fun c24=>((oCons c24).bind fun p25=>((oAgg p25.1).bind fun c26=>((oCons c26).bind fun p27=>((oSl 1 p27.1).bind fun c28=>((oCons p27.2).bind fun p29=>((oSl 1 p29.1).bind fun c30=>((oNil p29.2).bind fun _=>((oCons p25.2).bind fun p31=>((oBool p31.1).bind fun b32=>((oNil p31.2).bind fun _=>(bif (!b32) then some ((.agg [(.int .i64 (2:Int)),(.sl 1 []),(.sl 1 [])]),[]) else some ((.agg [(.int .i64 (0:Int)),(.sl 1 c28),(.sl 1 c30)]),[])))))))))))))))))))))))))))))))))))))))))))))))))):=by kernel_rfl
def q08.st2 (x0 x1 x2 x3:Int) (x4 x5 x6:List T):St:=⟨[(2,(.one (.ptr 128 0))),(4,(.one (.obj 640))),(5,(.one (.ptr 320 0))),(17,(.one (.obj 1088))),(18,oi x0),(19,oi x1),(7,(.one (.obj 768))),(23,(.one (.obj 768))),(24,oi x2),(25,oi x3)],[(128,(.box [.nil,.nil])),(640,(.arr true true 1 x4)),(768,(.arr true true 1 x5)),(769,(.arr true true 1 x6)),(320,(.box [(.obj 768),(.obj 769)])),(1088,(.opn 1 [(.bool false),(.bool false)] [(0,(.obj 768)),(1,(.obj 769))]))]⟩
def q08.st1002 (x0 x1 x2 x3:Int) (x4 x5 x6:List T):St:=⟨[(2,(.one (.ptr 128 0))),(4,(.one (.obj 640))),(5,(.one (.ptr 320 0))),(17,(.one (.obj 1088))),(18,oi x0),(19,oi x1),(7,(.one (.obj 769))),(23,(.one (.obj 769))),(24,oi x2),(25,oi x3)],[(128,(.box [.nil,.nil])),(640,(.arr true true 1 x4)),(768,(.arr true true 1 x5)),(769,(.arr true true 1 x6)),(320,(.box [(.obj 768),(.obj 769)])),(1088,(.opn 1 [(.bool false),(.bool false)] [(0,(.obj 768)),(1,(.obj 769))]))]⟩
def q08.st2002 (x0 x1 x2 x3:Int) (x4 x5 x6 x7:List T) (x8:Nat):St:=⟨[(2,(.one (.ptr 128 0))),(4,(.one (.obj 640))),(5,(.one (.ptr 320 0))),(17,(.one (.obj 1088))),(18,oi x0),(19,oi x1),(7,(.one .undef)),(23,(.one .undef)),(24,oi x2),(25,oi x3)],[(128,(.box [.nil,.nil])),(640,(.arr true true 1 x4)),(768,(.arr true true 1 x5)),(769,(.arr true true 1 x6)),(320,(.box [(.obj 768),(.obj 769)])),(1088,(.opn 1 x7 [(x8,.undef),(0,(.obj 768)),(1,(.obj 769))]))]⟩
def q08.st0 (x0 x1:Int) (x2 x3 x4:List T):St:=⟨[(2,(.one (.ptr 128 0))),(4,(.one (.obj 640))),(5,(.one (.ptr 320 0))),(17,(.one (.obj 1088))),(18,oi x0),(19,oi x1)],[(128,(.box [.nil,.nil])),(640,(.arr true true 1 x2)),(768,(.arr true true 1 x3)),(769,(.arr true true 1 x4)),(320,(.box [(.obj 768),(.obj 769)])),(1088,(.opn 1 [(.bool false),(.bool false)] [(0,(.obj 768)),(1,(.obj 769))]))]⟩
noncomputable def q08.K0 (n:Nat):Ex→St→R:=kx F.q08 n [.block 0,.seq 0 (cx F.q08 [1,1,1,1])] (endOf prog A F.q08)
noncomputable def q08.at0 (n:Nat) (m:Nat) (s:St):R:=lx F.q08 n 0 [1,1,1,0,1,0,0] (q08.K0 n) m s
noncomputable def q08.rd0 (n:Nat) (L0:St→R) (s:St):R:=rx F.q08 n 0 [1,1,1,0,1,0,0] (q08.K0 n) L0 s
theorem q08.next0 (n:Nat) (m:Nat) (s:St):q08.at0 n (m+1) s=q08.rd0 n (q08.at0 n m) s:=nx _ _ _ _ _ _ _
noncomputable def q08.K2002 (n:Nat) (L0:St→R):Ex→St→R:=kx F.q08 n [.block 2,.block 1,.seq 0 (cx F.q08 [1,1,1,0,1,0,0,1,1,1])] (bx F.q08 0 (q08.K0 n) L0)
noncomputable def q08.at2002 (n:Nat) (L0:St→R) (m:Nat) (s:St):R:=lx F.q08 n 2 [1,1,1,0,1,0,0,1,1,0,0,1,1,0,0] (q08.K2002 n L0) m s
noncomputable def q08.K1002 (n:Nat) (L0:St→R):Ex→St→R:=kx F.q08 n [.block 2,.block 1,.seq 0 (cx F.q08 [1,1,1,0,1,0,0,1,1,1])] (bx F.q08 0 (q08.K0 n) L0)
noncomputable def q08.at1002 (n:Nat) (L0:St→R) (m:Nat) (s:St):R:=lx F.q08 n 2 [1,1,1,0,1,0,0,1,1,0,0,1,1,0,0] (q08.K1002 n L0) m s
noncomputable def q08.rd1002 (n:Nat) (L0:St→R) (L1002:St→R) (s:St):R:=rx F.q08 n 2 [1,1,1,0,1,0,0,1,1,0,0,1,1,0,0] (q08.K1002 n L0) L1002 s
theorem q08.next1002 (n:Nat) (L0:St→R) (m:Nat) (s:St):q08.at1002 n L0 (m+1) s=q08.rd1002 n L0 (q08.at1002 n L0 m) s:=nx _ _ _ _ _ _ _
noncomputable def q08.K2 (n:Nat) (L0:St→R):Ex→St→R:=kx F.q08 n [.block 2,.block 1,.seq 0 (cx F.q08 [1,1,1,0,1,0,0,1,1,1])] (bx F.q08 0 (q08.K0 n) L0)
noncomputable def q08.at2 (n:Nat) (L0:St→R) (m:Nat) (s:St):R:=lx F.q08 n 2 [1,1,1,0,1,0,0,1,1,0,0,1,1,0,0] (q08.K2 n L0) m s
noncomputable def q08.rd2 (n:Nat) (L0:St→R) (L2:St→R) (s:St):R:=rx F.q08 n 2 [1,1,1,0,1,0,0,1,1,0,0,1,1,0,0] (q08.K2 n L0) L2 s
theorem q08.next2 (n:Nat) (L0:St→R) (m:Nat) (s:St):q08.at2 n L0 (m+1) s=q08.rd2 n L0 (q08.at2 n L0 m) s:=nx _ _ _ _ _ _ _
theorem q08.round0 (n:Nat) (L0:St→R) (x0 x1:Int) (x2 x3 x4:List T):q08.rd0 n L0 (q08.st0 x0 x1 x2 x3 x4)=(bif (decide (x1 < x0)) then (bif inB x1 2 then (bif Nat.beq 0 ((Int.toNat x1)*1) then (q08.at2 n L0 n (q08.st2 x0 x1 ((((x3).length / 1):Nat):Int) (0:Int) x2 x3 x4)) else (bif Nat.beq 1 ((Int.toNat x1)*1) then (q08.at1002 n L0 n (q08.st1002 x0 x1 ((((x4).length / 1):Nat):Int) (0:Int) x2 x3 x4)) else ((([(.bool false),(.bool false)]:List T)[((Int.toNat x1)*1)]?).bind fun e23=>((oSl 1 e23).bind fun c24=>(q08.at2002 n L0 n (q08.st2002 x0 x1 ((((c24).length / 1):Nat):Int) (0:Int) x2 x3 x4 [(.bool false),(.bool false)] ((Int.toNat x1)*1))))))) else none) else some ((.tup [(.agg [(.sl 1 x3),(.sl 1 x4)]),(.bool (decide (((((x2).length / 1):Nat):Int)≤(6:Int))))]),[])):=by kernel_rfl
theorem q08.round1002 (n:Nat) (L0:St→R) (L1002:St→R) (x0 x1 x2 x3:Int) (x4 x5 x6:List T):q08.rd1002 n L0 L1002 (q08.st1002 x0 x1 x2 x3 x4 x5 x6)=(bif (decide (x3 < x2)) then (bif inB x3 ((x6).length / 1) then ((x6[((Int.toNat x3)*1)]?).bind fun e15=>((oInt .i64 e15).bind fun n16=>(bif (decide (n16 ≥ (0:Int))) then (L1002 (q08.st1002 x0 x1 x2 (IntKind.wrap .i64 (x3+(1:Int))) x4 x5 x6)) else ((LIM F.q1e [(.sl 1 x4),(.int .i64 n16)]).bind fun r17=>((oNil r17.2).bind fun _=>((oBool r17.1).bind fun b18=>(bif (!b18) then (bif Nat.ble (((x4).length+1)*8) (140737488355328*1) then ((LIM F.q0b [(.sl 1 (x4++[(.int .i64 n16)]:List T)),(.int .i64 n16)]).bind fun r19=>((oNil r19.2).bind fun _=>((oInt .i64 r19.1).bind fun n20=>(bif inB x3 ((x6).length / 1) then (bif decide (((Int.toNat x3)*1)+1≤(x6).length) then (L1002 (q08.st1002 x0 x1 x2 (IntKind.wrap .i64 (x3+(1:Int))) (x4++[(.int .i64 n16)]:List T) x5 (setCells x6 ((Int.toNat x3)*1) [(.int .i64 (IntKind.wrap .i64 ((-1:Int) - n20)))]))) else none) else none)))) else none) else ((LIM F.q0b [(.sl 1 x4),(.int .i64 n16)]).bind fun r21=>((oNil r21.2).bind fun _=>((oInt .i64 r21.1).bind fun n22=>(bif inB x3 ((x6).length / 1) then (bif decide (((Int.toNat x3)*1)+1≤(x6).length) then (L1002 (q08.st1002 x0 x1 x2 (IntKind.wrap .i64 (x3+(1:Int))) x4 x5 (setCells x6 ((Int.toNat x3)*1) [(.int .i64 (IntKind.wrap .i64 ((-1:Int) - n22)))]))) else none) else none))))))))))) else none) else (L0 (q08.st0 x0 (IntKind.wrap .i64 (x1+(1:Int))) x4 x5 x6))):=by kernel_rfl
theorem q08.round2 (n:Nat) (L0:St→R) (L2:St→R) (x0 x1 x2 x3:Int) (x4 x5 x6:List T):q08.rd2 n L0 L2 (q08.st2 x0 x1 x2 x3 x4 x5 x6)=(bif (decide (x3 < x2)) then (bif inB x3 ((x5).length / 1) then ((x5[((Int.toNat x3)*1)]?).bind fun e7=>((oInt .i64 e7).bind fun n8=>(bif (decide (n8 ≥ (0:Int))) then (L2 (q08.st2 x0 x1 x2 (IntKind.wrap .i64 (x3+(1:Int))) x4 x5 x6)) else ((LIM F.q1e [(.sl 1 x4),(.int .i64 n8)]).bind fun r9=>((oNil r9.2).bind fun _=>((oBool r9.1).bind fun b10=>(bif (!b10) then (bif Nat.ble (((x4).length+1)*8) (140737488355328*1) then ((LIM F.q0b [(.sl 1 (x4++[(.int .i64 n8)]:List T)),(.int .i64 n8)]).bind fun r11=>((oNil r11.2).bind fun _=>((oInt .i64 r11.1).bind fun n12=>(bif inB x3 ((x5).length / 1) then (bif decide (((Int.toNat x3)*1)+1≤(x5).length) then (L2 (q08.st2 x0 x1 x2 (IntKind.wrap .i64 (x3+(1:Int))) (x4++[(.int .i64 n8)]:List T) (setCells x5 ((Int.toNat x3)*1) [(.int .i64 (IntKind.wrap .i64 ((-1:Int) - n12)))]) x6)) else none) else none)))) else none) else ((LIM F.q0b [(.sl 1 x4),(.int .i64 n8)]).bind fun r13=>((oNil r13.2).bind fun _=>((oInt .i64 r13.1).bind fun n14=>(bif inB x3 ((x5).length / 1) then (bif decide (((Int.toNat x3)*1)+1≤(x5).length) then (L2 (q08.st2 x0 x1 x2 (IntKind.wrap .i64 (x3+(1:Int))) x4 (setCells x5 ((Int.toNat x3)*1) [(.int .i64 (IntKind.wrap .i64 ((-1:Int) - n14)))]) x6)) else none) else none))))))))))) else none) else (L0 (q08.st0 x0 (IntKind.wrap .i64 (x1+(1:Int))) x4 x5 x6))):=by kernel_rfl
theorem q08.ev (n:Nat) (a0_0 a0_1:List T):callK prog A H LIM n F.q08 [(.agg [(.sl 1 a0_0),(.sl 1 a0_1)])]=((LIM F.q3j [(.agg [(.sl 1 a0_0),(.sl 1 a0_1)])]).bind fun r1=>((oNil r1.2).bind fun _=>((oAgg r1.1).bind fun c2=>((oCons c2).bind fun p3=>((oSl 1 p3.1).bind fun c4=>((oCons p3.2).bind fun p5=>((oSl 1 p5.1).bind fun c6=>((oNil p5.2).bind fun _=>(q08.at0 n n (q08.st0 (2:Int) (0:Int) [] c4 c6)))))))))):=by kernel_rfl
theorem q4s.ev (n:Nat) (a0_0 a1:List T) (a2:Int) (a3:List T):callK prog A H LIM n F.q4s [(.agg [(.sl 2 a0_0)]),(.sl 1 a1),(.int .i64 a2),(.sl 1 a3)]=(bif decide (0≤(0:Int))&&decide ((0:Int)≤a2)&&decide (a2≤((((a1).length / 1):Nat):Int)) then ((LIM F.q23 [(.sl 1 ((a1.take ((Int.toNat a2)*1)).drop (0*1)))]).bind fun r1=>((oNil r1.2).bind fun _=>((oSl 1 r1.1).bind fun c2=>(bif (a3).all T.scalar then (bif Nat.ble (((c2).length+(a3).length)*8) (140737488355328*1) then ((LIM F.q22 [(.agg [(.sl 2 a0_0)]),(.sl 1 a1),(.int .i64 a2)]).bind fun r3=>((oNil r3.2).bind fun _=>((oInt .i64 r3.1).bind fun n4=>(bif decide (0≤n4)&&decide (n4≤((((a1).length / 1):Nat):Int))&&decide (((((a1).length / 1):Nat):Int)≤((((a1).length / 1):Nat):Int)) then (bif (((a1.take ((Int.toNat ((((a1).length / 1):Nat):Int))*1)).drop ((Int.toNat n4)*1))).all T.scalar then (bif Nat.ble ((((c2++a3:List T)).length+(((a1.take ((Int.toNat ((((a1).length / 1):Nat):Int))*1)).drop ((Int.toNat n4)*1))).length)*8) (140737488355328*1) then some ((.sl 1 ((c2++a3:List T)++((a1.take ((Int.toNat ((((a1).length / 1):Nat):Int))*1)).drop ((Int.toNat n4)*1)):List T)),[]) else none) else none) else none)))) else none) else none)))) else none):=by kernel_rfl
theorem q4b.ev (n:Nat) (a0_0 a1 a2:List T):callK prog A H LIM n F.q4b [(.agg [(.sl 2 a0_0)]),(.sl 2 a1),(.sl 1 a2)]=((LIM F.q3v [(.agg [(.sl 2 a0_0)]),(.sl 2 a1)]).bind fun r1=>((oNil r1.2).bind fun _=>((oInt .i64 r1.1).bind fun n2=>((LIM F.q3u [(.agg [(.sl 2 a0_0)]),(.sl 1 a2)]).bind fun r3=>((oNil r3.2).bind fun _=>((oInt .i64 r3.1).bind fun n4=>((LIM F.q4u [(.sl 1 [(.int .i64 n2),(.int .i64 n4)])]).bind fun r5=>((oNil r5.2).bind fun _=>((oInt .i64 r5.1).bind fun n6=>some ((.int .i64 n6),[])))))))))):=by kernel_rfl
theorem q5k.ev (n:Nat) (a0_0 a1_0 a1_1 a2:List T) (a3:Int):callK prog A H LIM n F.q5k [(.agg [(.sl 2 a0_0)]),(.agg [(.sl 1 a1_0),(.sl 1 a1_1)]),(.sl 1 a2),(.int .i64 a3)]=((LIM F.q3e [(.agg [(.sl 2 a0_0)]),(.sl 1 a2),(.int .i64 a3)]).bind fun r1=>((oNil r1.2).bind fun _=>((oSl 1 r1.1).bind fun c2=>((LIM F.q1i [(.agg [(.sl 2 a0_0)]),(.sl 1 a1_0),(.sl 1 c2)]).bind fun r3=>((oNil r3.2).bind fun _=>((oTup r3.1).bind fun c4=>((oCons c4).bind fun p5=>((oAgg p5.1).bind fun c6=>((oCons c6).bind fun p7=>((oSl 1 p7.1).bind fun c8=>((oCons p7.2).bind fun p9=>((oSl 1 p9.1).bind fun c10=>((oNil p9.2).bind fun _=>((oCons p5.2).bind fun p11=>((oBool p11.1).bind fun b12=>((oNil p11.2).bind fun _=>(bif (!b12) then some ((.agg [(.int .i64 (4:Int)),(.sl 1 [])]),[]) else ((LIM F.q0e [(.agg [(.sl 1 c8),(.sl 1 c10)]),(.sl 1 a1_1)]).bind fun r13=>((oNil r13.2).bind fun _=>((oSl 1 r13.1).bind fun c14=>((LIM F.q4s [(.agg [(.sl 2 a0_0)]),(.sl 1 a2),(.int .i64 a3),(.sl 1 c14)]).bind fun r15=>((oNil r15.2).bind fun _=>((oSl 1 r15.1).bind fun c16=>((LIM F.q68 [(.sl 1 c16)]).bind fun r17=>((oNil r17.2).bind fun _=>((oAgg r17.1).bind fun c18=>((oCons c18).bind fun p19=>((oInt .i64 p19.1).bind fun n20=>((oCons p19.2).bind fun p21=>((oSl 1 p21.1).bind fun c22=>((oNil p21.2).bind fun _=>some ((.agg [(.int .i64 n20),(.sl 1 c22)]),[])))))))))))))))))))))))))))))))):=by kernel_rfl
theorem q3t.ev (n:Nat) (a0_0 a0_1 a0_2 a0_3 a0_4:Int) (a0_5 a0_6:List T) (a1_0 a1_1 a1_2 a1_3 a1_4:Int) (a1_5 a1_6:List T):callK prog A H LIM n F.q3t [(.agg [(.int .i64 a0_0),(.int .i64 a0_1),(.int .i64 a0_2),(.int .i64 a0_3),(.int .i64 a0_4),(.sl 1 a0_5),(.sl 1 a0_6)]),(.agg [(.int .i64 a1_0),(.int .i64 a1_1),(.int .i64 a1_2),(.int .i64 a1_3),(.int .i64 a1_4),(.sl 1 a1_5),(.sl 1 a1_6)])]=(bif ((a0_0 == a1_0)) then (bif ((a0_1 == a1_1)) then (bif ((a0_2 == a1_2)) then (bif ((a0_3 == a1_3)) then (bif ((a0_4 == a1_4)) then ((LIM F.q1o [(.agg [(.int .i64 a0_0),(.int .i64 a0_1),(.int .i64 a0_2),(.int .i64 a0_3),(.int .i64 a0_4),(.sl 1 a0_5),(.sl 1 a0_6)])]).bind fun r1=>((oNil r1.2).bind fun _=>((oAgg r1.1).bind fun c2=>((oCons c2).bind fun p3=>((oSl 1 p3.1).bind fun c4=>((oCons p3.2).bind fun p5=>((oSl 1 p5.1).bind fun c6=>((oNil p5.2).bind fun _=>((LIM F.q1o [(.agg [(.int .i64 a1_0),(.int .i64 a1_1),(.int .i64 a1_2),(.int .i64 a1_3),(.int .i64 a1_4),(.sl 1 a1_5),(.sl 1 a1_6)])]).bind fun r7=>((oNil r7.2).bind fun _=>((oAgg r7.1).bind fun c8=>((oCons c8).bind fun p9=>((oSl 1 p9.1).bind fun c10=>((oCons p9.2).bind fun p11=>((oSl 1 p11.1).bind fun c12=>((oNil p11.2).bind fun _=>((LIM F.q3n [(.agg [(.sl 1 c4),(.sl 1 c6)]),(.agg [(.sl 1 c10),(.sl 1 c12)])]).bind fun r13=>((oNil r13.2).bind fun _=>((oBool r13.1).bind fun b14=>some ((.bool b14),[])))))))))))))))))))) else some ((.bool false),[])) else some ((.bool false),[])) else some ((.bool false),[])) else some ((.bool false),[])) else some ((.bool false),[])):=by kernel_rfl
theorem q3n.ev (n:Nat) (a0_0 a0_1 a1_0 a1_1:List T):callK prog A H LIM n F.q3n [(.agg [(.sl 1 a0_0),(.sl 1 a0_1)]),(.agg [(.sl 1 a1_0),(.sl 1 a1_1)])]=((LIM F.q0h [(.sl 1 a0_0),(.sl 1 a1_0)]).bind fun r1=>((oNil r1.2).bind fun _=>((oBool r1.1).bind fun b2=>(bif b2 then ((LIM F.q0h [(.sl 1 a0_1),(.sl 1 a1_1)]).bind fun r3=>((oNil r3.2).bind fun _=>((oBool r3.1).bind fun b4=>some ((.bool b4),[])))) else some ((.bool false),[]))))):=by kernel_rfl
def q1c.st0 (x0 x1 x2:Int) (x3:List T):St:=⟨[(1,oi x0),(5,(.one (.obj 576))),(10,(.one (.obj 576))),(11,oi x1),(12,oi x2)],[(576,(.arr true true 1 x3))]⟩
noncomputable def q1c.K0 (n:Nat):Ex→St→R:=kx F.q1c n [.block 0,.seq 0 (cx F.q1c [1,1,1])] (endOf prog A F.q1c)
noncomputable def q1c.at0 (n:Nat) (m:Nat) (s:St):R:=lx F.q1c n 0 [1,1,0,1,0,0] (q1c.K0 n) m s
noncomputable def q1c.rd0 (n:Nat) (L0:St→R) (s:St):R:=rx F.q1c n 0 [1,1,0,1,0,0] (q1c.K0 n) L0 s
theorem q1c.next0 (n:Nat) (m:Nat) (s:St):q1c.at0 n (m+1) s=q1c.rd0 n (q1c.at0 n m) s:=nx _ _ _ _ _ _ _
theorem q1c.round0 (n:Nat) (L0:St→R) (x0 x1 x2:Int) (x3:List T):q1c.rd0 n L0 (q1c.st0 x0 x1 x2 x3)=(bif (decide (x2 < x1)) then (bif inB x2 ((x3).length / 1) then ((x3[((Int.toNat x2)*1)]?).bind fun e3=>((oInt .i64 e3).bind fun n4=>(bif (decide (n4 < (0:Int))) then (bif inB x2 ((x3).length / 1) then (bif decide (((Int.toNat x2)*1)+1≤(x3).length) then (L0 (q1c.st0 x0 x1 (IntKind.wrap .i64 (x2+(1:Int))) (setCells x3 ((Int.toNat x2)*1) [(.int .i64 (IntKind.wrap .i64 (n4 - x0)))]))) else none) else none) else (L0 (q1c.st0 x0 x1 (IntKind.wrap .i64 (x2+(1:Int))) x3))))) else none) else some ((.sl 1 x3),[])):=by kernel_rfl
theorem q1c.ev (n:Nat) (a0:List T) (a1:Int):callK prog A H LIM n F.q1c [(.sl 1 a0),(.int .i64 a1)]=((LIM F.q23 [(.sl 1 a0)]).bind fun r1=>((oNil r1.2).bind fun _=>((oSl 1 r1.1).bind fun c2=>(q1c.at0 n n (q1c.st0 a1 ((((c2).length / 1):Nat):Int) (0:Int) c2))))):=by kernel_rfl
theorem q3e.ev (n:Nat) (a0_0 a1:List T) (a2:Int):callK prog A H LIM n F.q3e [(.agg [(.sl 2 a0_0)]),(.sl 1 a1),(.int .i64 a2)]=((LIM F.q22 [(.agg [(.sl 2 a0_0)]),(.sl 1 a1),(.int .i64 a2)]).bind fun r1=>((oNil r1.2).bind fun _=>((oInt .i64 r1.1).bind fun n2=>(bif decide (0≤a2)&&decide (a2≤n2)&&decide (n2≤((((a1).length / 1):Nat):Int)) then some ((.sl 1 ((a1.take ((Int.toNat n2)*1)).drop ((Int.toNat a2)*1))),[]) else none)))):=by kernel_rfl
theorem q4m.ev (n:Nat) (a0_0:List T) (a1:ByteArray):callK prog A H LIM n F.q4m [(.agg [(.sl 2 a0_0)]),(.str a1)]=((LIM F.q17 [(.sl 2 a0_0),(.clo F.q3g [(.rref [(.str a1)] 0)])]).bind fun r1=>((oNil r1.2).bind fun _=>((oInt .i64 r1.1).bind fun n2=>some ((.int .i64 n2),[])))):=by kernel_rfl
theorem q3g.ev (n:Nat) (a0_0:ByteArray) (a0_1:Int) (a1_0:ByteArray):callK prog A H LIM n F.q3g [(.agg [(.str a0_0),(.int .i64 a0_1)]),(.rref [(.str a1_0)] 0)]=some ((.bool (a0_0.toList == a1_0.toList)),[]):=by kernel_rfl
def q0c.st5 (x0 x1 x2:List T) (x3 x4:Int) (x5 x6 x7 x8 x9:List T):St:=⟨[(3,(.one (.ptr 192 0))),(6,(.one (.ptr 384 0))),(8,(.one (.ptr 512 0))),(9,ol 2 x0),(10,ol 1 x1),(11,ol 1 x2),(12,(.one (.ptr 768 0))),(118,(.one (.obj 518193))),(119,oi x3),(120,oi x4)],[(192,(.box [(.t (.sl 2 x5))])),(384,(.box [.nil,.nil])),(512,(.box [(.obj 518192),(.obj 518193)])),(518192,(.arr true true 1 x6)),(518193,(.arr true true 1 x7)),(7232,(.arr true true 1 x8)),(7360,(.arr true false 1 x9)),(768,(.box [(.obj 7232),(.obj 7360)]))]⟩
def q0c.st3 (x0 x1 x2:List T) (x3 x4:Int) (x5 x6 x7 x8 x9 x10:List T):St:=⟨[(3,(.one (.ptr 192 0))),(6,(.one (.ptr 384 0))),(8,(.one (.ptr 512 0))),(9,ol 2 x0),(10,ol 1 x1),(11,ol 1 x2),(15,(.one (.obj 3200))),(16,(.one (.obj 3392))),(56,(.one (.obj 3584))),(57,oi x3),(58,oi x4)],[(192,(.box [(.t (.sl 2 x5))])),(384,(.box [.nil,.nil])),(512,(.box [(.obj 518192),(.obj 518193)])),(518192,(.arr true true 1 x6)),(518193,(.arr true true 1 x7)),(3392,(.arr true true 1 x8)),(3584,(.arr true true 1 x9)),(3200,(.arr true false 2 x10))]⟩
def q0c.st0 (x0 x1 x2 x3:List T):St:=⟨[(3,(.one (.ptr 192 0))),(6,(.one (.ptr 384 0))),(8,(.one (.ptr 512 0))),(9,ol 2 x0)],[(192,(.box [(.t (.sl 2 x1))])),(384,(.box [.nil,.nil])),(512,(.box [(.obj 518192),(.obj 518193)])),(518192,(.arr true true 1 x2)),(518193,(.arr true true 1 x3))]⟩
noncomputable def q0c.K0 (n:Nat):Ex→St→R:=kx F.q0c n [.block 0,.seq 0 (cx F.q0c [1,1,1,1])] (endOf prog A F.q0c)
noncomputable def q0c.at0 (n:Nat) (m:Nat) (s:St):R:=lx F.q0c n 0 [1,1,1,0,0,0] (q0c.K0 n) m s
noncomputable def q0c.rd0 (n:Nat) (L0:St→R) (s:St):R:=rx F.q0c n 0 [1,1,1,0,0,0] (q0c.K0 n) L0 s
theorem q0c.next0 (n:Nat) (m:Nat) (s:St):q0c.at0 n (m+1) s=q0c.rd0 n (q0c.at0 n m) s:=nx _ _ _ _ _ _ _
noncomputable def q0c.K3 (n:Nat) (L0:St→R):Ex→St→R:=kx F.q0c n [.block 3,.seq 2 (cx F.q0c [1,1,1,0,0,0,1,0,1,1,1,0,1,1,1,1,1,1,1,1,1]),.block 2,.block 1] (bx F.q0c 0 (q0c.K0 n) L0)
noncomputable def q0c.at3 (n:Nat) (L0:St→R) (m:Nat) (s:St):R:=lx F.q0c n 3 [1,1,1,0,0,0,1,0,1,1,1,0,1,1,1,1,1,1,1,1,0,1,0,0] (q0c.K3 n L0) m s
noncomputable def q0c.rd3 (n:Nat) (L0:St→R) (L3:St→R) (s:St):R:=rx F.q0c n 3 [1,1,1,0,0,0,1,0,1,1,1,0,1,1,1,1,1,1,1,1,0,1,0,0] (q0c.K3 n L0) L3 s
theorem q0c.next3 (n:Nat) (L0:St→R) (m:Nat) (s:St):q0c.at3 n L0 (m+1) s=q0c.rd3 n L0 (q0c.at3 n L0 m) s:=nx _ _ _ _ _ _ _
noncomputable def q0c.K5 (n:Nat) (L0:St→R):Ex→St→R:=kx F.q0c n [.block 5,.seq 2 (cx F.q0c [1,1,1,0,0,0,1,0,1,1,1,0,1,1,1,0,1,1,1,1]),.block 2,.block 1] (bx F.q0c 0 (q0c.K0 n) L0)
noncomputable def q0c.at5 (n:Nat) (L0:St→R) (m:Nat) (s:St):R:=lx F.q0c n 5 [1,1,1,0,0,0,1,0,1,1,1,0,1,1,1,0,1,1,1,0,1,0,0] (q0c.K5 n L0) m s
noncomputable def q0c.rd5 (n:Nat) (L0:St→R) (L5:St→R) (s:St):R:=rx F.q0c n 5 [1,1,1,0,0,0,1,0,1,1,1,0,1,1,1,0,1,1,1,0,1,0,0] (q0c.K5 n L0) L5 s
theorem q0c.next5 (n:Nat) (L0:St→R) (m:Nat) (s:St):q0c.at5 n L0 (m+1) s=q0c.rd5 n L0 (q0c.at5 n L0 m) s:=nx _ _ _ _ _ _ _
theorem q0c.round0 (n:Nat) (L0:St→R) (x0 x1 x2 x3:List T):q0c.rd0 n L0 (q0c.st0 x0 x1 x2 x3)=(bif (decide (((((x0).length / 2):Nat):Int) > (0:Int))) then (bif inB (0:Int) ((x0).length / 2) then ((x0[0]?).bind fun e1=>((oSl 1 e1).bind fun c2=>((LIM F.q0e [(.agg [(.sl 1 x2),(.sl 1 x3)]),(.sl 1 c2)]).bind fun r3=>((oNil r3.2).bind fun _=>((oSl 1 r3.1).bind fun c4=>(bif inB (0:Int) ((x0).length / 2) then ((x0[1]?).bind fun e5=>((oSl 1 e5).bind fun c6=>((LIM F.q0e [(.agg [(.sl 1 x2),(.sl 1 x3)]),(.sl 1 c6)]).bind fun r7=>((oNil r7.2).bind fun _=>((oSl 1 r7.1).bind fun c8=>(bif decide (0≤(1:Int))&&decide ((1:Int)≤((((x0).length / 2):Nat):Int))&&decide (((((x0).length / 2):Nat):Int)≤((((x0).length / 2):Nat):Int)) then (bif (decide (((((c4).length / 1):Nat):Int) > (24:Int))) then some ((.tup [(.agg [(.sl 1 []),(.sl 1 [])]),(.int .i64 (2:Int))]),[]) else (bif (decide (((((c8).length / 1):Nat):Int) > (24:Int))) then some ((.tup [(.agg [(.sl 1 []),(.sl 1 [])]),(.int .i64 (2:Int))]),[]) else ((LIM F.q0h [(.sl 1 c4),(.sl 1 c8)]).bind fun r9=>((oNil r9.2).bind fun _=>((oBool r9.1).bind fun b10=>(bif b10 then (L0 (q0c.st0 ((x0.take ((Int.toNat ((((x0).length / 2):Nat):Int))*2)).drop (1*2)) x1 x2 x3)) else (bif inB (0:Int) ((c4).length / 1) then ((c4[0]?).bind fun e11=>((oInt .i64 e11).bind fun n12=>(bif (decide (n12 < (0:Int))) then (bif inB (0:Int) ((c4).length / 1) then ((c4[0]?).bind fun e13=>((oInt .i64 e13).bind fun n14=>(bif (decide (n14 ≥ (0:Int))) then (bif inB (0:Int) ((c8).length / 1) then ((c8[0]?).bind fun e15=>((oInt .i64 e15).bind fun n16=>((LIM F.q1e [(.sl 1 c4),(.int .i64 n16)]).bind fun r17=>((oNil r17.2).bind fun _=>((oBool r17.1).bind fun b18=>(bif b18 then some ((.tup [(.agg [(.sl 1 []),(.sl 1 [])]),(.int .i64 (4:Int))]),[]) else (bif inB (0:Int) ((c8).length / 1) then ((c8[0]?).bind fun e19=>((oInt .i64 e19).bind fun n20=>(q0c.at5 n L0 n (q0c.st5 ((x0.take ((Int.toNat ((((x0).length / 2):Nat):Int))*2)).drop (1*2)) c8 c4 ((((x3).length / 1):Nat):Int) (0:Int) x1 x2 x3 [(.int .i64 (IntKind.wrap .i64 ((-1:Int) - n20)))] [(.sl 1 c4)])))) else none))))))) else none) else (bif inB (0:Int) ((c4).length / 1) then ((c4[0]?).bind fun e37=>((oInt .i64 e37).bind fun n38=>((LIM F.q1e [(.sl 1 c8),(.int .i64 n38)]).bind fun r39=>((oNil r39.2).bind fun _=>((oBool r39.1).bind fun b40=>(bif b40 then some ((.tup [(.agg [(.sl 1 []),(.sl 1 [])]),(.int .i64 (4:Int))]),[]) else (bif inB (0:Int) ((c4).length / 1) then ((c4[0]?).bind fun e41=>((oInt .i64 e41).bind fun n42=>(q0c.at5 n L0 n (q0c.st5 ((x0.take ((Int.toNat ((((x0).length / 2):Nat):Int))*2)).drop (1*2)) c4 c8 ((((x3).length / 1):Nat):Int) (0:Int) x1 x2 x3 [(.int .i64 (IntKind.wrap .i64 ((-1:Int) - n42)))] [(.sl 1 c8)])))) else none))))))) else none)))) else none) else (bif inB (0:Int) ((c8).length / 1) then ((c8[0]?).bind fun e43=>((oInt .i64 e43).bind fun n44=>(bif (decide (n44 < (0:Int))) then (bif inB (0:Int) ((c4).length / 1) then ((c4[0]?).bind fun e45=>((oInt .i64 e45).bind fun n46=>(bif (decide (n46 ≥ (0:Int))) then (bif inB (0:Int) ((c8).length / 1) then ((c8[0]?).bind fun e47=>((oInt .i64 e47).bind fun n48=>((LIM F.q1e [(.sl 1 c4),(.int .i64 n48)]).bind fun r49=>((oNil r49.2).bind fun _=>((oBool r49.1).bind fun b50=>(bif b50 then some ((.tup [(.agg [(.sl 1 []),(.sl 1 [])]),(.int .i64 (4:Int))]),[]) else (bif inB (0:Int) ((c8).length / 1) then ((c8[0]?).bind fun e51=>((oInt .i64 e51).bind fun n52=>(q0c.at5 n L0 n (q0c.st5 ((x0.take ((Int.toNat ((((x0).length / 2):Nat):Int))*2)).drop (1*2)) c8 c4 ((((x3).length / 1):Nat):Int) (0:Int) x1 x2 x3 [(.int .i64 (IntKind.wrap .i64 ((-1:Int) - n52)))] [(.sl 1 c4)])))) else none))))))) else none) else (bif inB (0:Int) ((c4).length / 1) then ((c4[0]?).bind fun e53=>((oInt .i64 e53).bind fun n54=>((LIM F.q1e [(.sl 1 c8),(.int .i64 n54)]).bind fun r55=>((oNil r55.2).bind fun _=>((oBool r55.1).bind fun b56=>(bif b56 then some ((.tup [(.agg [(.sl 1 []),(.sl 1 [])]),(.int .i64 (4:Int))]),[]) else (bif inB (0:Int) ((c4).length / 1) then ((c4[0]?).bind fun e57=>((oInt .i64 e57).bind fun n58=>(q0c.at5 n L0 n (q0c.st5 ((x0.take ((Int.toNat ((((x0).length / 2):Nat):Int))*2)).drop (1*2)) c4 c8 ((((x3).length / 1):Nat):Int) (0:Int) x1 x2 x3 [(.int .i64 (IntKind.wrap .i64 ((-1:Int) - n58)))] [(.sl 1 c8)])))) else none))))))) else none)))) else none) else (bif inB (0:Int) ((c4).length / 1) then ((c4[0]?).bind fun e59=>((oInt .i64 e59).bind fun n60=>(bif inB (0:Int) ((c8).length / 1) then ((c8[0]?).bind fun e61=>((oInt .i64 e61).bind fun n62=>(bif ((n60 != n62)) then some ((.tup [(.agg [(.sl 1 []),(.sl 1 [])]),(.int .i64 (4:Int))]),[]) else ((LIM F.q0p [(.agg [(.sl 2 x1)]),(.sl 1 c8),(.int .i64 (0:Int))]).bind fun r63=>((oNil r63.2).bind fun _=>((oSl 1 r63.1).bind fun c64=>((LIM F.q0p [(.agg [(.sl 2 x1)]),(.sl 1 c4),(.int .i64 (0:Int))]).bind fun r65=>((oNil r65.2).bind fun _=>((oSl 1 r65.1).bind fun c66=>(q0c.at3 n L0 n (q0c.st3 ((x0.take ((Int.toNat ((((x0).length / 2):Nat):Int))*2)).drop (1*2)) c4 c8 ((((c66).length / 1):Nat):Int) (0:Int) x1 x2 x3 c64 c66 []))))))))))) else none))) else none)))) else none)))) else none))))))) else none)))))) else none)))))) else none) else some ((.tup [(.agg [(.sl 1 x2),(.sl 1 x3)]),(.int .i64 (0:Int))]),[])):=by kernel_rfl
theorem q0c.round3 (n:Nat) (L0:St→R) (L3:St→R) (x0 x1 x2:List T) (x3 x4:Int) (x5 x6 x7 x8 x9 x10:List T):q0c.rd3 n L0 L3 (q0c.st3 x0 x1 x2 x3 x4 x5 x6 x7 x8 x9 x10)=(bif (decide (x4 < x3)) then (bif inB x4 ((x9).length / 1) then ((x9[((Int.toNat x4)*1)]?).bind fun e67=>((oInt .i64 e67).bind fun n68=>((LIM F.q3e [(.agg [(.sl 2 x5)]),(.sl 1 x1),(.int .i64 n68)]).bind fun r69=>((oNil r69.2).bind fun _=>((oSl 1 r69.1).bind fun c70=>(bif inB x4 ((x8).length / 1) then ((x8[((Int.toNat x4)*1)]?).bind fun e71=>((oInt .i64 e71).bind fun n72=>((LIM F.q3e [(.agg [(.sl 2 x5)]),(.sl 1 x2),(.int .i64 n72)]).bind fun r73=>((oNil r73.2).bind fun _=>((oSl 1 r73.1).bind fun c74=>(bif Nat.ble (((x10).length+2)*48) (140737488355328*2) then (L3 (q0c.st3 x0 x1 x2 x3 (IntKind.wrap .i64 (x4+(1:Int))) x5 x6 x7 x8 x9 (x10++[(.sl 1 c70),(.sl 1 c74)]:List T))) else none)))))) else none)))))) else none) else (bif Nat.ble (((x10).length+(x0).length)*48) (140737488355328*2) then (L0 (q0c.st0 (x10++x0:List T) x5 x6 x7)) else none)):=by kernel_rfl
theorem q0c.round5 (n:Nat) (L0:St→R) (L5:St→R) (x0 x1 x2:List T) (x3 x4:Int) (x5 x6 x7 x8 x9:List T):q0c.rd5 n L0 L5 (q0c.st5 x0 x1 x2 x3 x4 x5 x6 x7 x8 x9)=(bif (decide (x4 < x3)) then (bif inB x4 ((x7).length / 1) then ((x7[((Int.toNat x4)*1)]?).bind fun e21=>((oSl 1 e21).bind fun c22=>((LIM F.q0e [(.agg [(.sl 1 x8),(.sl 1 x9)]),(.sl 1 c22)]).bind fun r23=>((oNil r23.2).bind fun _=>((oSl 1 r23.1).bind fun c24=>(bif inB x4 ((x7).length / 1) then (bif decide (((Int.toNat x4)*1) < (x7).length) then (bif inB x4 (((List.set (List.set x7 ((Int.toNat x4)*1) (.sl 1 c22)) ((Int.toNat x4)*1) (.sl 1 c24))).length / 1) then (((List.set (List.set x7 ((Int.toNat x4)*1) (.sl 1 c22)) ((Int.toNat x4)*1) (.sl 1 c24))[((Int.toNat x4)*1)]?).bind fun e25=>((oSl 1 e25).bind fun c26=>(bif (decide (((((c26).length / 1):Nat):Int) > (24:Int))) then some ((.tup [(.agg [(.sl 1 []),(.sl 1 [])]),(.int .i64 (2:Int))]),[]) else (L5 (q0c.st5 x0 x1 x2 x3 (IntKind.wrap .i64 (x4+(1:Int))) x5 x6 (List.set (List.set (List.set x7 ((Int.toNat x4)*1) (.sl 1 c22)) ((Int.toNat x4)*1) (.sl 1 c24)) ((Int.toNat x4)*1) (.sl 1 c26)) x8 x9))))) else none) else none) else none)))))) else none) else (bif inB (0:Int) ((x1).length / 1) then ((x1[0]?).bind fun e27=>((oInt .i64 e27).bind fun n28=>((LIM F.q0o [(.rref [(.sl 1 x6),(.sl 1 x7)] 0),(.int .i64 (IntKind.wrap .i64 ((-1:Int) - n28))),(.sl 1 x2)]).bind fun r29=>((oCons r29.2).bind fun p30=>((oNil p30.2).bind fun _=>((oAgg p30.1).bind fun c31=>((oCons c31).bind fun p32=>((oSl 1 p32.1).bind fun c33=>((oCons p32.2).bind fun p34=>((oSl 1 p34.1).bind fun c35=>((oNil p34.2).bind fun _=>((oTup r29.1).bind fun c36=>((oNil c36).bind fun _=>(L0 (q0c.st0 x0 x5 c33 c35))))))))))))))) else none)):=by kernel_rfl
theorem q0c.ev (n:Nat) (a0_0 a1 a2:List T):callK prog A H LIM n F.q0c [(.agg [(.sl 2 a0_0)]),(.sl 1 a1),(.sl 1 a2)]=(q0c.at0 n n (q0c.st0 [(.sl 1 a1),(.sl 1 a2)] a0_0 [] [])):=by kernel_rfl
def q0m.st2 (x0:List T) (x1 x2:Int) (x3:List T) (x4 x5:Int) (x6:List T):St:=⟨[(3,(.one (.obj 512))),(9,ol 1 x0),(10,oi x1),(11,oi x2),(15,ol 1 x3),(16,oi x4),(17,oi x5)],[(512,(.arr true true 1 x6))]⟩
def q0m.st0 (x0:List T) (x1 x2:Int) (x3:List T):St:=⟨[(3,(.one (.obj 512))),(9,ol 1 x0),(10,oi x1),(11,oi x2)],[(512,(.arr true true 1 x3))]⟩
noncomputable def q0m.K0 (n:Nat):Ex→St→R:=kx F.q0m n [.block 0,.seq 0 (cx F.q0m [1,1,1])] (endOf prog A F.q0m)
noncomputable def q0m.at0 (n:Nat) (m:Nat) (s:St):R:=lx F.q0m n 0 [1,1,0,1,0,0] (q0m.K0 n) m s
noncomputable def q0m.rd0 (n:Nat) (L0:St→R) (s:St):R:=rx F.q0m n 0 [1,1,0,1,0,0] (q0m.K0 n) L0 s
theorem q0m.next0 (n:Nat) (m:Nat) (s:St):q0m.at0 n (m+1) s=q0m.rd0 n (q0m.at0 n m) s:=nx _ _ _ _ _ _ _
noncomputable def q0m.K2 (n:Nat) (L0:St→R):Ex→St→R:=kx F.q0m n [.block 2,.block 1,.seq 0 (cx F.q0m [1,1,0,1,0,0,1,1,1])] (bx F.q0m 0 (q0m.K0 n) L0)
noncomputable def q0m.at2 (n:Nat) (L0:St→R) (m:Nat) (s:St):R:=lx F.q0m n 2 [1,1,0,1,0,0,1,1,0,0,1,1,0,0] (q0m.K2 n L0) m s
noncomputable def q0m.rd2 (n:Nat) (L0:St→R) (L2:St→R) (s:St):R:=rx F.q0m n 2 [1,1,0,1,0,0,1,1,0,0,1,1,0,0] (q0m.K2 n L0) L2 s
theorem q0m.next2 (n:Nat) (L0:St→R) (m:Nat) (s:St):q0m.at2 n L0 (m+1) s=q0m.rd2 n L0 (q0m.at2 n L0 m) s:=nx _ _ _ _ _ _ _
theorem q0m.round0 (n:Nat) (L0:St→R) (x0:List T) (x1 x2:Int) (x3:List T):q0m.rd0 n L0 (q0m.st0 x0 x1 x2 x3)=(bif (decide (x2 < x1)) then (bif inB x2 ((x0).length / 1) then ((x0[((Int.toNat x2)*1)]?).bind fun e1=>((oSl 1 e1).bind fun c2=>(q0m.at2 n L0 n (q0m.st2 x0 x1 x2 c2 ((((c2).length / 1):Nat):Int) (0:Int) x3)))) else none) else ((LIM F.q64 [(.sl 1 x3)]).bind fun r5=>((oCons r5.2).bind fun p6=>((oNil p6.2).bind fun _=>((oSl 1 p6.1).bind fun c7=>((oTup r5.1).bind fun c8=>((oNil c8).bind fun _=>((LIM F.q5g [(.sl 1 c7)]).bind fun r9=>((oNil r9.2).bind fun _=>((oSl 1 r9.1).bind fun c10=>some ((.sl 1 c10),[]))))))))))):=by kernel_rfl
theorem q0m.round2 (n:Nat) (L0:St→R) (L2:St→R) (x0:List T) (x1 x2:Int) (x3:List T) (x4 x5:Int) (x6:List T):q0m.rd2 n L0 L2 (q0m.st2 x0 x1 x2 x3 x4 x5 x6)=(bif (decide (x5 < x4)) then (bif inB x5 ((x3).length / 1) then ((x3[((Int.toNat x5)*1)]?).bind fun e3=>((oInt .i64 e3).bind fun n4=>(bif (decide (n4 < (0:Int))) then (bif Nat.ble (((x6).length+1)*8) (140737488355328*1) then (L2 (q0m.st2 x0 x1 x2 x3 x4 (IntKind.wrap .i64 (x5+(1:Int))) (x6++[(.int .i64 (IntKind.wrap .i64 ((-1:Int) - n4)))]:List T))) else none) else (L2 (q0m.st2 x0 x1 x2 x3 x4 (IntKind.wrap .i64 (x5+(1:Int))) x6))))) else none) else (L0 (q0m.st0 x0 x1 (IntKind.wrap .i64 (x2+(1:Int))) x6))):=by kernel_rfl
theorem q0m.ev (n:Nat) (a0:List T):callK prog A H LIM n F.q0m [(.sl 1 a0)]=(q0m.at0 n n (q0m.st0 a0 ((((a0).length / 1):Nat):Int) (0:Int) [])):=by kernel_rfl
theorem q2g.ev (n:Nat) (a0 a1 a2:Int):callK prog A H LIM n F.q2g [(.int .i64 a0),(.int .i64 a1),(.int .i64 a2)]=(bif (decide (a0 ≥ a1)) then some ((.bool (decide (a0≤a2))),[]) else some ((.bool false),[])):=by kernel_rfl
theorem q45.ev (n:Nat) (a0:List T):callK prog A H LIM n F.q45 [(.sl 1 a0)]=((LIM F.q61 [(.sl 1 a0)]).bind fun r1=>((oNil r1.2).bind fun _=>((oBool r1.1).bind fun b2=>(bif b2 then some ((.bool true),[]) else ((LIM F.q3f [(.sl 1 a0)]).bind fun r3=>((oNil r3.2).bind fun _=>((oTup r3.1).bind fun c4=>((oCons c4).bind fun p5=>((oAgg p5.1).bind fun c6=>((oCons c6).bind fun p7=>((oSl 2 p7.1).bind fun c8=>((oNil p7.2).bind fun _=>((oCons p5.2).bind fun p9=>((oSl 2 p9.1).bind fun c10=>((oCons p9.2).bind fun p11=>((oSl 7 p11.1).bind fun c12=>((oCons p11.2).bind fun p13=>((oInt .i64 p13.1).bind fun n14=>((oCons p13.2).bind fun p15=>((oInt .i64 p15.1).bind fun n16=>((oCons p15.2).bind fun p17=>((oInt .i64 p17.1).bind fun n18=>((oCons p17.2).bind fun p19=>((oInt .i64 p19.1).bind fun n20=>((oCons p19.2).bind fun p21=>((oInt .i64 p21.1).bind fun n22=>((oNil p21.2).bind fun _=>((LIM F.q3z [(.agg [(.sl 2 c8)]),(.sl 2 c10),(.sl 7 c12),(.int .i64 n14),(.int .i64 n16),(.int .i64 n18),(.int .i64 n20),(.int .i64 n22)]).bind fun r23=>((oNil r23.2).bind fun _=>((oAgg r23.1).bind fun c24=>((oCons c24).bind fun p25=>((oInt .i64 p25.1).bind fun n26=>((oCons p25.2).bind fun p27=>((oInt .i64 p27.1).bind fun n28=>((oCons p27.2).bind fun p29=>((oInt .i64 p29.1).bind fun n30=>((oCons p29.2).bind fun p31=>((oInt .i64 p31.1).bind fun n32=>((oCons p31.2).bind fun p33=>((oInt .i64 p33.1).bind fun n34=>((oCons p33.2).bind fun p35=>((oInt .i64 p35.1).bind fun n36=>((oCons p35.2).bind fun p37=>((oSl 1 p37.1).bind fun c38=>((oCons p37.2).bind fun p39=>((oSl 1 p39.1).bind fun c40=>((oNil p39.2).bind fun _=>((LIM F.q3y [(.agg [(.sl 2 c8)]),(.sl 2 c10),(.sl 7 c12),(.int .i64 n14),(.int .i64 n16),(.int .i64 n18),(.int .i64 n20),(.int .i64 n22)]).bind fun r41=>((oNil r41.2).bind fun _=>((oAgg r41.1).bind fun c42=>((oCons c42).bind fun p43=>((oInt .i64 p43.1).bind fun n44=>((oCons p43.2).bind fun p45=>((oInt .i64 p45.1).bind fun n46=>((oCons p45.2).bind fun p47=>((oInt .i64 p47.1).bind fun n48=>((oCons p47.2).bind fun p49=>((oInt .i64 p49.1).bind fun n50=>((oCons p49.2).bind fun p51=>((oInt .i64 p51.1).bind fun n52=>((oCons p51.2).bind fun p53=>((oInt .i64 p53.1).bind fun n54=>((oCons p53.2).bind fun p55=>((oSl 1 p55.1).bind fun c56=>((oCons p55.2).bind fun p57=>((oSl 1 p57.1).bind fun c58=>((oNil p57.2).bind fun _=>(bif ((n26 != n44)) then some ((.bool false),[]) else (bif ((n26 != (0:Int))) then ((LIM F.q0l [(.agg [(.sl 2 c8)]),(.sl 2 c10),(.sl 7 c12)]).bind fun r59=>((oNil r59.2).bind fun _=>((oInt .i64 r59.1).bind fun n60=>((LIM F.q33 [(.agg [(.sl 2 c8)]),(.sl 2 c10),(.sl 7 c12)]).bind fun r61=>((oNil r61.2).bind fun _=>((oInt .i64 r61.1).bind fun n62=>some ((.bool ((n60 == n62))),[]))))))) else ((LIM F.q33 [(.agg [(.sl 2 c8)]),(.sl 2 c10),(.sl 7 c12)]).bind fun r63=>((oNil r63.2).bind fun _=>((oInt .i64 r63.1).bind fun n64=>(bif ((n64 != (0:Int))) then ((LIM F.q0l [(.agg [(.sl 2 c8)]),(.sl 2 c10),(.sl 7 c12)]).bind fun r65=>((oNil r65.2).bind fun _=>((oInt .i64 r65.1).bind fun n66=>((LIM F.q33 [(.agg [(.sl 2 c8)]),(.sl 2 c10),(.sl 7 c12)]).bind fun r67=>((oNil r67.2).bind fun _=>((oInt .i64 r67.1).bind fun n68=>some ((.bool ((n66 == n68))),[]))))))) else (bif Nat.ble ((0+(c12).length)*88) (140737488355328*7) then (bif Nat.ble (((c12).length+7)*88) (140737488355328*7) then (bif ((n28 == n14)) then (bif ((n30 == n16)) then (bif ((n32 == n18)) then (bif ((n34 == n20)) then (bif ((n36 == n22)) then ((LIM F.q0l [(.agg [(.sl 2 c8)]),(.sl 2 c10),(.sl 7 (c12++[(.int .i64 n28),(.int .i64 n30),(.int .i64 n32),(.int .i64 n34),(.int .i64 n36),(.sl 1 c38),(.sl 1 c40)]:List T))]).bind fun r69=>((oNil r69.2).bind fun _=>((oInt .i64 r69.1).bind fun n70=>(bif ((n70 == (0:Int))) then ((LIM F.q2v [(.agg [(.sl 2 c8)]),(.agg [(.sl 1 c38),(.sl 1 c40)])]).bind fun r71=>((oNil r71.2).bind fun _=>((oInt .i64 r71.1).bind fun n72=>(bif ((n72 == (0:Int))) then (bif decide (0≤((((c12).length / 7):Nat):Int))&&decide (((((c12).length / 7):Nat):Int)≤(((((c12++[(.int .i64 n28),(.int .i64 n30),(.int .i64 n32),(.int .i64 n34),(.int .i64 n36),(.sl 1 c38),(.sl 1 c40)]:List T)).length / 7):Nat):Int)) then ((LIM F.q4p [(.sl 7 ((c12++[(.int .i64 n28),(.int .i64 n30),(.int .i64 n32),(.int .i64 n34),(.int .i64 n36),(.sl 1 c38),(.sl 1 c40)]:List T).take ((Int.toNat ((((c12).length / 7):Nat):Int))*7))),(.sl 7 c12)]).bind fun r73=>((oNil r73.2).bind fun _=>((oBool r73.1).bind fun b74=>some ((.bool b74),[])))) else none) else some ((.bool false),[]))))) else some ((.bool false),[]))))) else some ((.bool false),[])) else some ((.bool false),[])) else some ((.bool false),[])) else some ((.bool false),[])) else some ((.bool false),[])) else none) else none)))))))))))))))))))))))))))))))))))))))))))))))))))))))))))))))))))))))))):=by kernel_rfl
theorem q61.ev (n:Nat) (a0:List T):callK prog A H LIM n F.q61 [(.sl 1 a0)]=some ((.bool (decide (((((a0).length / 1):Nat):Int) > (1048576:Int)))),[]):=by kernel_rfl
theorem q55.ev (n:Nat) (a0:List T):callK prog A H LIM n F.q4o [(.sl 2 a0),(.clo F.q2s [])]=((LIM F.q2h [(.sl 2 a0),(.clo F.q2s [])]).bind fun r1=>((oNil r1.2).bind fun _=>((oInt .i64 r1.1).bind fun n2=>some ((.bool (decide (n2 ≥ (0:Int)))),[])))):=by kernel_rfl
theorem q2k.ev (n:Nat) (a0:List T):callK prog A H LIM n F.q53 [(.sl 2 a0),(.clo F.q26 [])]=((LIM F.q17 [(.sl 2 a0),(.clo F.q26 [])]).bind fun r1=>((oNil r1.2).bind fun _=>((oInt .i64 r1.1).bind fun n2=>some ((.bool (decide (n2 ≥ (0:Int)))),[])))):=by kernel_rfl
theorem q2n.ev (n:Nat) (a0:List T):callK prog A H LIM n F.q2a [(.sl 1 a0),(.clo F.q2c [])]=((LIM F.q0s [(.sl 1 a0),(.clo F.q2c [])]).bind fun r1=>((oNil r1.2).bind fun _=>((oInt .i64 r1.1).bind fun n2=>some ((.bool (decide (n2 ≥ (0:Int)))),[])))):=by kernel_rfl
theorem q2w.ev (n:Nat) (a0 a1_0_0:List T):callK prog A H LIM n F.q2a [(.sl 1 a0),(.clo F.q2z [(.rref [(.sl 2 a1_0_0)] 0)])]=((LIM F.q0s [(.sl 1 a0),(.clo F.q2z [(.rref [(.sl 2 a1_0_0)] 0)])]).bind fun r1=>((oNil r1.2).bind fun _=>((oInt .i64 r1.1).bind fun n2=>some ((.bool (decide (n2 ≥ (0:Int)))),[])))):=by kernel_rfl
theorem q35.ev (n:Nat) (a0 a1_0_0:List T):callK prog A H LIM n F.q2a [(.sl 1 a0),(.clo F.q40 [(.rref [(.sl 1 a1_0_0)] 0)])]=((LIM F.q0s [(.sl 1 a0),(.clo F.q40 [(.rref [(.sl 1 a1_0_0)] 0)])]).bind fun r1=>((oNil r1.2).bind fun _=>((oInt .i64 r1.1).bind fun n2=>some ((.bool (decide (n2 ≥ (0:Int)))),[])))):=by kernel_rfl
theorem q1e.ev (n:Nat) (a0:List T) (a1:Int):callK prog A H LIM n F.q1e [(.sl 1 a0),(.int .i64 a1)]=((LIM F.q0b [(.sl 1 a0),(.int .i64 a1)]).bind fun r1=>((oNil r1.2).bind fun _=>((oInt .i64 r1.1).bind fun n2=>some ((.bool (decide (n2 ≥ (0:Int)))),[])))):=by kernel_rfl
def q06.st0 (x0 x1:List T) (x2 x3:Int):St:=⟨[(1,ol 7 x0),(2,(.one (.t (.clo F.q3t [])))),(15,ol 7 x1),(16,oi x2),(17,oi x3)],[]⟩
noncomputable def q06.K0 (n:Nat):Ex→St→R:=kx F.q2t n [.block 0,.seq 0 (cx F.q2t [1,1,1])] (endOf prog A F.q2t)
noncomputable def q06.at0 (n:Nat) (m:Nat) (s:St):R:=lx F.q2t n 0 [1,1,0,1,0,0] (q06.K0 n) m s
noncomputable def q06.rd0 (n:Nat) (L0:St→R) (s:St):R:=rx F.q2t n 0 [1,1,0,1,0,0] (q06.K0 n) L0 s
theorem q06.next0 (n:Nat) (m:Nat) (s:St):q06.at0 n (m+1) s=q06.rd0 n (q06.at0 n m) s:=nx _ _ _ _ _ _ _
theorem q06.round0 (n:Nat) (L0:St→R) (x0 x1:List T) (x2 x3:Int):q06.rd0 n L0 (q06.st0 x0 x1 x2 x3)=(bif (decide (x3 < x2)) then (bif inB x3 ((x1).length / 7) then ((x1[((Int.toNat x3)*7)]?).bind fun e1=>((oInt .i64 e1).bind fun n2=>((x1[(((Int.toNat x3)*7)+1)]?).bind fun e3=>((oInt .i64 e3).bind fun n4=>((x1[((((Int.toNat x3)*7)+1)+1)]?).bind fun e5=>((oInt .i64 e5).bind fun n6=>((x1[(((((Int.toNat x3)*7)+1)+1)+1)]?).bind fun e7=>((oInt .i64 e7).bind fun n8=>((x1[((((((Int.toNat x3)*7)+1)+1)+1)+1)]?).bind fun e9=>((oInt .i64 e9).bind fun n10=>((x1[(((((((Int.toNat x3)*7)+1)+1)+1)+1)+1)]?).bind fun e11=>((oSl 1 e11).bind fun c12=>((x1[((((((((Int.toNat x3)*7)+1)+1)+1)+1)+1)+1)]?).bind fun e13=>((oSl 1 e13).bind fun c14=>(bif inB x3 ((x0).length / 7) then ((x0[((Int.toNat x3)*7)]?).bind fun e15=>((oInt .i64 e15).bind fun n16=>((x0[(((Int.toNat x3)*7)+1)]?).bind fun e17=>((oInt .i64 e17).bind fun n18=>((x0[((((Int.toNat x3)*7)+1)+1)]?).bind fun e19=>((oInt .i64 e19).bind fun n20=>((x0[(((((Int.toNat x3)*7)+1)+1)+1)]?).bind fun e21=>((oInt .i64 e21).bind fun n22=>((x0[((((((Int.toNat x3)*7)+1)+1)+1)+1)]?).bind fun e23=>((oInt .i64 e23).bind fun n24=>((x0[(((((((Int.toNat x3)*7)+1)+1)+1)+1)+1)]?).bind fun e25=>((oSl 1 e25).bind fun c26=>((x0[((((((((Int.toNat x3)*7)+1)+1)+1)+1)+1)+1)]?).bind fun e27=>((oSl 1 e27).bind fun c28=>((LIM F.q3t [(.agg [(.int .i64 n2),(.int .i64 n4),(.int .i64 n6),(.int .i64 n8),(.int .i64 n10),(.sl 1 c12),(.sl 1 c14)]),(.agg [(.int .i64 n16),(.int .i64 n18),(.int .i64 n20),(.int .i64 n22),(.int .i64 n24),(.sl 1 c26),(.sl 1 c28)])]).bind fun r29=>((oNil r29.2).bind fun _=>((oBool r29.1).bind fun b30=>(bif (!b30) then some ((.bool false),[]) else (L0 (q06.st0 x0 x1 x2 (IntKind.wrap .i64 (x3+(1:Int))))))))))))))))))))))) else none))))))))))))))) else none) else some ((.bool true),[])):=by kernel_rfl
theorem q06.ev (n:Nat) (a0 a1:List T):callK prog A H LIM n F.q2t [(.sl 7 a0),(.sl 7 a1),(.clo F.q3t [])]=(bif ((((((a0).length / 7):Nat):Int) != ((((a1).length / 7):Nat):Int))) then some ((.bool false),[]) else (q06.at0 n n (q06.st0 a1 a0 ((((a0).length / 7):Nat):Int) (0:Int)))):=by kernel_rfl
def q0h.st0 (x0 x1:List T) (x2 x3:Int):St:=⟨[(0,ol 1 x0),(1,ol 1 x1),(12,oi x2),(13,oi x3)],[]⟩
noncomputable def q0h.K0 (n:Nat):Ex→St→R:=kx F.q0h n [.block 0,.seq 0 (cx F.q0h [1,1,1])] (endOf prog A F.q0h)
noncomputable def q0h.at0 (n:Nat) (m:Nat) (s:St):R:=lx F.q0h n 0 [1,1,0,1,0,0] (q0h.K0 n) m s
noncomputable def q0h.rd0 (n:Nat) (L0:St→R) (s:St):R:=rx F.q0h n 0 [1,1,0,1,0,0] (q0h.K0 n) L0 s
theorem q0h.next0 (n:Nat) (m:Nat) (s:St):q0h.at0 n (m+1) s=q0h.rd0 n (q0h.at0 n m) s:=nx _ _ _ _ _ _ _
theorem q0h.round0 (n:Nat) (L0:St→R) (x0 x1:List T) (x2 x3:Int):q0h.rd0 n L0 (q0h.st0 x0 x1 x2 x3)=(bif (decide (x3 < x2)) then (bif inB x3 ((x0).length / 1) then ((x0[((Int.toNat x3)*1)]?).bind fun e1=>((oInt .i64 e1).bind fun n2=>(bif inB x3 ((x1).length / 1) then ((x1[((Int.toNat x3)*1)]?).bind fun e3=>((oInt .i64 e3).bind fun n4=>(bif ((n2 != n4)) then some ((.bool false),[]) else (L0 (q0h.st0 x0 x1 x2 (IntKind.wrap .i64 (x3+(1:Int)))))))) else none))) else none) else some ((.bool true),[])):=by kernel_rfl
theorem q0h.ev (n:Nat) (a0 a1:List T):callK prog A H LIM n F.q0h [(.sl 1 a0),(.sl 1 a1)]=(bif ((((((a0).length / 1):Nat):Int) != ((((a1).length / 1):Nat):Int))) then some ((.bool false),[]) else (q0h.at0 n n (q0h.st0 a0 a1 ((((a0).length / 1):Nat):Int) (0:Int)))):=by kernel_rfl
def q03.st0 (x0:List T) (x1 x2:Int):St:=⟨[(0,ol 2 x0),(1,(.one (.t (.clo F.q2s [])))),(7,oi x1),(8,oi x2)],[]⟩
noncomputable def q03.K0 (n:Nat):Ex→St→R:=kx F.q2h n [.block 0,.seq 0 (cx F.q2h [1,1])] (endOf prog A F.q2h)
noncomputable def q03.at0 (n:Nat) (m:Nat) (s:St):R:=lx F.q2h n 0 [1,0,1,0,0] (q03.K0 n) m s
noncomputable def q03.rd0 (n:Nat) (L0:St→R) (s:St):R:=rx F.q2h n 0 [1,0,1,0,0] (q03.K0 n) L0 s
theorem q03.next0 (n:Nat) (m:Nat) (s:St):q03.at0 n (m+1) s=q03.rd0 n (q03.at0 n m) s:=nx _ _ _ _ _ _ _
theorem q03.round0 (n:Nat) (L0:St→R) (x0:List T) (x1 x2:Int):q03.rd0 n L0 (q03.st0 x0 x1 x2)=(bif (decide (x2 < x1)) then (bif inB x2 ((x0).length / 2) then ((x0[((Int.toNat x2)*2)]?).bind fun e1=>((oSl 1 e1).bind fun c2=>((x0[(((Int.toNat x2)*2)+1)]?).bind fun e3=>((oSl 1 e3).bind fun c4=>((LIM F.q2s [(.agg [(.sl 1 c2),(.sl 1 c4)])]).bind fun r5=>((oNil r5.2).bind fun _=>((oBool r5.1).bind fun b6=>(bif b6 then some ((.int .i64 x2),[]) else (L0 (q03.st0 x0 x1 (IntKind.wrap .i64 (x2+(1:Int))))))))))))) else none) else some ((.int .i64 (-1:Int)),[])):=by kernel_rfl
theorem q03.ev (n:Nat) (a0:List T):callK prog A H LIM n F.q2h [(.sl 2 a0),(.clo F.q2s [])]=(q03.at0 n n (q03.st0 a0 ((((a0).length / 2):Nat):Int) (0:Int))):=by kernel_rfl
def q01.st0 (x0:List T) (x1 x2:Int):St:=⟨[(0,ol 2 x0),(1,(.one (.t (.clo F.q26 [])))),(7,oi x1),(8,oi x2)],[]⟩
noncomputable def q01.K0 (n:Nat):Ex→St→R:=kx F.q17 n [.block 0,.seq 0 (cx F.q17 [1,1])] (endOf prog A F.q17)
noncomputable def q01.at0 (n:Nat) (m:Nat) (s:St):R:=lx F.q17 n 0 [1,0,1,0,0] (q01.K0 n) m s
noncomputable def q01.rd0 (n:Nat) (L0:St→R) (s:St):R:=rx F.q17 n 0 [1,0,1,0,0] (q01.K0 n) L0 s
theorem q01.next0 (n:Nat) (m:Nat) (s:St):q01.at0 n (m+1) s=q01.rd0 n (q01.at0 n m) s:=nx _ _ _ _ _ _ _
theorem q01.round0 (n:Nat) (L0:St→R) (x0:List T) (x1 x2:Int):q01.rd0 n L0 (q01.st0 x0 x1 x2)=(bif (decide (x2 < x1)) then (bif inB x2 ((x0).length / 2) then ((x0[((Int.toNat x2)*2)]?).bind fun e1=>((oStr e1).bind fun s2=>((x0[(((Int.toNat x2)*2)+1)]?).bind fun e3=>((oInt .i64 e3).bind fun n4=>((LIM F.q26 [(.agg [(.str s2),(.int .i64 n4)])]).bind fun r5=>((oNil r5.2).bind fun _=>((oBool r5.1).bind fun b6=>(bif b6 then some ((.int .i64 x2),[]) else (L0 (q01.st0 x0 x1 (IntKind.wrap .i64 (x2+(1:Int))))))))))))) else none) else some ((.int .i64 (-1:Int)),[])):=by kernel_rfl
theorem q01.ev (n:Nat) (a0:List T):callK prog A H LIM n F.q17 [(.sl 2 a0),(.clo F.q26 [])]=(q01.at0 n n (q01.st0 a0 ((((a0).length / 2):Nat):Int) (0:Int))):=by kernel_rfl
def q02.st0 (x0:List T) (x1:ByteArray) (x2 x3:Int):St:=⟨[(0,ol 2 x0),(1,(.one (.t (.clo F.q3g [(.rref [(.str x1)] 0)])))),(7,oi x2),(8,oi x3)],[]⟩
noncomputable def q02.K0 (n:Nat):Ex→St→R:=kx F.q17 n [.block 0,.seq 0 (cx F.q17 [1,1])] (endOf prog A F.q17)
noncomputable def q02.at0 (n:Nat) (m:Nat) (s:St):R:=lx F.q17 n 0 [1,0,1,0,0] (q02.K0 n) m s
noncomputable def q02.rd0 (n:Nat) (L0:St→R) (s:St):R:=rx F.q17 n 0 [1,0,1,0,0] (q02.K0 n) L0 s
theorem q02.next0 (n:Nat) (m:Nat) (s:St):q02.at0 n (m+1) s=q02.rd0 n (q02.at0 n m) s:=nx _ _ _ _ _ _ _
theorem q02.round0 (n:Nat) (L0:St→R) (x0:List T) (x1:ByteArray) (x2 x3:Int):q02.rd0 n L0 (q02.st0 x0 x1 x2 x3)=(bif (decide (x3 < x2)) then (bif inB x3 ((x0).length / 2) then ((x0[((Int.toNat x3)*2)]?).bind fun e1=>((oStr e1).bind fun s2=>((x0[(((Int.toNat x3)*2)+1)]?).bind fun e3=>((oInt .i64 e3).bind fun n4=>((LIM F.q3g [(.agg [(.str s2),(.int .i64 n4)]),(.rref [(.str x1)] 0)]).bind fun r5=>((oNil r5.2).bind fun _=>((oBool r5.1).bind fun b6=>(bif b6 then some ((.int .i64 x3),[]) else (L0 (q02.st0 x0 x1 x2 (IntKind.wrap .i64 (x3+(1:Int))))))))))))) else none) else some ((.int .i64 (-1:Int)),[])):=by kernel_rfl
theorem q02.ev (n:Nat) (a0:List T) (a1_0_0:ByteArray):callK prog A H LIM n F.q17 [(.sl 2 a0),(.clo F.q3g [(.rref [(.str a1_0_0)] 0)])]=(q02.at0 n n (q02.st0 a0 a1_0_0 ((((a0).length / 2):Nat):Int) (0:Int))):=by kernel_rfl
def q04.st0 (x0:List T) (x1 x2:Int):St:=⟨[(0,ol 1 x0),(1,(.one (.t (.clo F.q2c [])))),(7,oi x1),(8,oi x2)],[]⟩
noncomputable def q04.K0 (n:Nat):Ex→St→R:=kx F.q0s n [.block 0,.seq 0 (cx F.q0s [1,1])] (endOf prog A F.q0s)
noncomputable def q04.at0 (n:Nat) (m:Nat) (s:St):R:=lx F.q0s n 0 [1,0,1,0,0] (q04.K0 n) m s
noncomputable def q04.rd0 (n:Nat) (L0:St→R) (s:St):R:=rx F.q0s n 0 [1,0,1,0,0] (q04.K0 n) L0 s
theorem q04.next0 (n:Nat) (m:Nat) (s:St):q04.at0 n (m+1) s=q04.rd0 n (q04.at0 n m) s:=nx _ _ _ _ _ _ _
theorem q04.round0 (n:Nat) (L0:St→R) (x0:List T) (x1 x2:Int):q04.rd0 n L0 (q04.st0 x0 x1 x2)=(bif (decide (x2 < x1)) then (bif inB x2 ((x0).length / 1) then ((x0[((Int.toNat x2)*1)]?).bind fun e1=>((oInt .i64 e1).bind fun n2=>((LIM F.q2c [(.int .i64 n2)]).bind fun r3=>((oNil r3.2).bind fun _=>((oBool r3.1).bind fun b4=>(bif b4 then some ((.int .i64 x2),[]) else (L0 (q04.st0 x0 x1 (IntKind.wrap .i64 (x2+(1:Int))))))))))) else none) else some ((.int .i64 (-1:Int)),[])):=by kernel_rfl
theorem q04.ev (n:Nat) (a0:List T):callK prog A H LIM n F.q0s [(.sl 1 a0),(.clo F.q2c [])]=(q04.at0 n n (q04.st0 a0 ((((a0).length / 1):Nat):Int) (0:Int))):=by kernel_rfl
def q07.st0 (x0 x1:List T) (x2 x3:Int):St:=⟨[(0,ol 1 x0),(1,(.one (.t (.clo F.q2z [(.rref [(.sl 2 x1)] 0)])))),(7,oi x2),(8,oi x3)],[]⟩
noncomputable def q07.K0 (n:Nat):Ex→St→R:=kx F.q0s n [.block 0,.seq 0 (cx F.q0s [1,1])] (endOf prog A F.q0s)
noncomputable def q07.at0 (n:Nat) (m:Nat) (s:St):R:=lx F.q0s n 0 [1,0,1,0,0] (q07.K0 n) m s
noncomputable def q07.rd0 (n:Nat) (L0:St→R) (s:St):R:=rx F.q0s n 0 [1,0,1,0,0] (q07.K0 n) L0 s
theorem q07.next0 (n:Nat) (m:Nat) (s:St):q07.at0 n (m+1) s=q07.rd0 n (q07.at0 n m) s:=nx _ _ _ _ _ _ _
theorem q07.round0 (n:Nat) (L0:St→R) (x0 x1:List T) (x2 x3:Int):q07.rd0 n L0 (q07.st0 x0 x1 x2 x3)=(bif (decide (x3 < x2)) then (bif inB x3 ((x0).length / 1) then ((x0[((Int.toNat x3)*1)]?).bind fun e1=>((oInt .i64 e1).bind fun n2=>((LIM F.q2z [(.int .i64 n2),(.rref [(.sl 2 x1)] 0)]).bind fun r3=>((oNil r3.2).bind fun _=>((oBool r3.1).bind fun b4=>(bif b4 then some ((.int .i64 x3),[]) else (L0 (q07.st0 x0 x1 x2 (IntKind.wrap .i64 (x3+(1:Int))))))))))) else none) else some ((.int .i64 (-1:Int)),[])):=by kernel_rfl
theorem q07.ev (n:Nat) (a0 a1_0_0:List T):callK prog A H LIM n F.q0s [(.sl 1 a0),(.clo F.q2z [(.rref [(.sl 2 a1_0_0)] 0)])]=(q07.at0 n n (q07.st0 a0 a1_0_0 ((((a0).length / 1):Nat):Int) (0:Int))):=by kernel_rfl
def q09.st0 (x0 x1:List T) (x2 x3:Int):St:=⟨[(0,ol 1 x0),(1,(.one (.t (.clo F.q40 [(.rref [(.sl 1 x1)] 0)])))),(7,oi x2),(8,oi x3)],[]⟩
noncomputable def q09.K0 (n:Nat):Ex→St→R:=kx F.q0s n [.block 0,.seq 0 (cx F.q0s [1,1])] (endOf prog A F.q0s)
noncomputable def q09.at0 (n:Nat) (m:Nat) (s:St):R:=lx F.q0s n 0 [1,0,1,0,0] (q09.K0 n) m s
noncomputable def q09.rd0 (n:Nat) (L0:St→R) (s:St):R:=rx F.q0s n 0 [1,0,1,0,0] (q09.K0 n) L0 s
theorem q09.next0 (n:Nat) (m:Nat) (s:St):q09.at0 n (m+1) s=q09.rd0 n (q09.at0 n m) s:=nx _ _ _ _ _ _ _
theorem q09.round0 (n:Nat) (L0:St→R) (x0 x1:List T) (x2 x3:Int):q09.rd0 n L0 (q09.st0 x0 x1 x2 x3)=(bif (decide (x3 < x2)) then (bif inB x3 ((x0).length / 1) then ((x0[((Int.toNat x3)*1)]?).bind fun e1=>((oInt .i64 e1).bind fun n2=>((LIM F.q40 [(.int .i64 n2),(.rref [(.sl 1 x1)] 0)]).bind fun r3=>((oNil r3.2).bind fun _=>((oBool r3.1).bind fun b4=>(bif b4 then some ((.int .i64 x3),[]) else (L0 (q09.st0 x0 x1 x2 (IntKind.wrap .i64 (x3+(1:Int))))))))))) else none) else some ((.int .i64 (-1:Int)),[])):=by kernel_rfl
theorem q09.ev (n:Nat) (a0 a1_0_0:List T):callK prog A H LIM n F.q0s [(.sl 1 a0),(.clo F.q40 [(.rref [(.sl 1 a1_0_0)] 0)])]=(q09.at0 n n (q09.st0 a0 a1_0_0 ((((a0).length / 1):Nat):Int) (0:Int))):=by kernel_rfl
def q0b.st0 (x0:List T) (x1 x2 x3:Int):St:=⟨[(0,ol 1 x0),(1,oi x1),(7,oi x2),(8,oi x3)],[]⟩
noncomputable def q0b.K0 (n:Nat):Ex→St→R:=kx F.q0b n [.block 0,.seq 0 (cx F.q0b [1,1])] (endOf prog A F.q0b)
noncomputable def q0b.at0 (n:Nat) (m:Nat) (s:St):R:=lx F.q0b n 0 [1,0,1,0,0] (q0b.K0 n) m s
noncomputable def q0b.rd0 (n:Nat) (L0:St→R) (s:St):R:=rx F.q0b n 0 [1,0,1,0,0] (q0b.K0 n) L0 s
theorem q0b.next0 (n:Nat) (m:Nat) (s:St):q0b.at0 n (m+1) s=q0b.rd0 n (q0b.at0 n m) s:=nx _ _ _ _ _ _ _
theorem q0b.round0 (n:Nat) (L0:St→R) (x0:List T) (x1 x2 x3:Int):q0b.rd0 n L0 (q0b.st0 x0 x1 x2 x3)=(bif (decide (x3 < x2)) then (bif inB x3 ((x0).length / 1) then ((x0[((Int.toNat x3)*1)]?).bind fun e1=>((oInt .i64 e1).bind fun n2=>(bif ((x1 == n2)) then some ((.int .i64 x3),[]) else (L0 (q0b.st0 x0 x1 x2 (IntKind.wrap .i64 (x3+(1:Int)))))))) else none) else some ((.int .i64 (-1:Int)),[])):=by kernel_rfl
theorem q0b.ev (n:Nat) (a0:List T) (a1:Int):callK prog A H LIM n F.q0b [(.sl 1 a0),(.int .i64 a1)]=(q0b.at0 n n (q0b.st0 a0 a1 ((((a0).length / 1):Nat):Int) (0:Int))):=by kernel_rfl
theorem q33.ev (n:Nat) (a0_0 a1 a2:List T):callK prog A H LIM n F.q33 [(.agg [(.sl 2 a0_0)]),(.sl 2 a1),(.sl 7 a2)]=((LIM F.q3b [(.agg [(.sl 2 a0_0)]),(.sl 2 a1)]).bind fun r1=>((oNil r1.2).bind fun _=>((oInt .i64 r1.1).bind fun n2=>(bif ((n2 != (0:Int))) then some ((.int .i64 n2),[]) else ((LIM F.q1h [(.rref [(.sl 2 a0_0)] 0),(.sl 2 a1),(.sl 7 a2)]).bind fun r3=>((oNil r3.2).bind fun _=>((oInt .i64 r3.1).bind fun n4=>some ((.int .i64 n4),[])))))))):=by kernel_rfl
theorem q3y.ev (n:Nat) (a0_0 a1 a2:List T) (a3 a4 a5 a6 a7:Int):callK prog A H LIM n F.q3y [(.agg [(.sl 2 a0_0)]),(.sl 2 a1),(.sl 7 a2),(.int .i64 a3),(.int .i64 a4),(.int .i64 a5),(.int .i64 a6),(.int .i64 a7)]=((LIM F.q3b [(.agg [(.sl 2 a0_0)]),(.sl 2 a1)]).bind fun r1=>((oNil r1.2).bind fun _=>((oInt .i64 r1.1).bind fun n2=>(bif ((n2 != (0:Int))) then some ((.agg [(.int .i64 n2),(.int .i64 (0:Int)),(.int .i64 (0:Int)),(.int .i64 (0:Int)),(.int .i64 (0:Int)),(.int .i64 (0:Int)),(.sl 1 []),(.sl 1 [])]),[]) else ((LIM F.q1b [(.rref [(.sl 2 a0_0)] 0),(.sl 7 a2)]).bind fun r3=>((oNil r3.2).bind fun _=>((oInt .i64 r3.1).bind fun n4=>(bif ((n4 != (0:Int))) then some ((.agg [(.int .i64 n4),(.int .i64 (0:Int)),(.int .i64 (0:Int)),(.int .i64 (0:Int)),(.int .i64 (0:Int)),(.int .i64 (0:Int)),(.sl 1 []),(.sl 1 [])]),[]) else ((LIM F.q4z [(.rref [(.sl 2 a0_0)] 0),(.sl 2 a1),(.sl 7 a2),(.agg [(.int .i64 a3),(.int .i64 a4),(.int .i64 a5),(.int .i64 a6),(.int .i64 a7),(.sl 1 []),(.sl 1 [])])]).bind fun r5=>((oNil r5.2).bind fun _=>((oTup r5.1).bind fun c6=>((oCons c6).bind fun p7=>((oAgg p7.1).bind fun c8=>((oCons c8).bind fun p9=>((oInt .i64 p9.1).bind fun n10=>((oCons p9.2).bind fun p11=>((oInt .i64 p11.1).bind fun n12=>((oCons p11.2).bind fun p13=>((oInt .i64 p13.1).bind fun n14=>((oCons p13.2).bind fun p15=>((oInt .i64 p15.1).bind fun n16=>((oCons p15.2).bind fun p17=>((oInt .i64 p17.1).bind fun n18=>((oCons p17.2).bind fun p19=>((oSl 1 p19.1).bind fun c20=>((oCons p19.2).bind fun p21=>((oSl 1 p21.1).bind fun c22=>((oNil p21.2).bind fun _=>((oCons p7.2).bind fun p23=>((oInt .i64 p23.1).bind fun n24=>((oNil p23.2).bind fun _=>some ((.agg [(.int .i64 n24),(.int .i64 n10),(.int .i64 n12),(.int .i64 n14),(.int .i64 n16),(.int .i64 n18),(.sl 1 c20),(.sl 1 c22)]),[])))))))))))))))))))))))))))))))):=by kernel_rfl
end Ev
end
