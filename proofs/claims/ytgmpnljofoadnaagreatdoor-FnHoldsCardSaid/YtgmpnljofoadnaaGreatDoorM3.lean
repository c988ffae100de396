/- Steps on the way to RowHolds: TyData, TyOf, TyLoops, X0. -/
import Derived.Test.YtgmpnljofoadnaaGreatDoorM2
set_option linter.unusedSectionVars false
set_option linter.unusedVariables false
set_option linter.unusedSimpArgs false
section
namespace Ev.Ty
open Go Ev
open Enc (enc)
open Sm (sm)
set_option linter.unusedVariables false
structure Symbol where
 name:ByteArray
 arity:Int
 deriving DecidableEq
instance:Enc Symbol:=⟨2,by decide,fun x=>[.str x.name,.int .i64 x.arity],fun _=>rfl⟩
@[simp] theorem q8x:Enc.sz Symbol=2:=rfl
theorem q28 (x:Symbol):enc x=[.str x.name,.int .i64 x.arity]:=rfl
instance:Sm Symbol:=⟨fun n x=>sm n x.name,fun h x=>q32 h x⟩
structure Signature where
 symbols:List Symbol
 deriving DecidableEq
instance:Enc Signature:=⟨1,by decide,fun x=>[slc x.symbols],fun _=>rfl⟩
@[simp] theorem sz_Signature:Enc.sz Signature=1:=rfl
instance:Sm Signature:=⟨fun n x=>sm n x.symbols,fun h x=>q32 h x⟩
structure Equation where
 left:List Int
 right:List Int
 deriving DecidableEq
instance:Enc Equation:=⟨2,by decide,fun x=>[slc x.left,slc x.right],fun _=>rfl⟩
@[simp] theorem q88:Enc.sz Equation=2:=rfl
theorem q3r (x:Equation):enc x=[slc x.left,slc x.right]:=rfl
instance:Sm Equation:=⟨fun n x=>sm n x.left∧sm n x.right,fun h x=>⟨q32 h x.1,q32 h x.2⟩⟩
structure Binding where
 vars:List Int
 terms:List (List Int)
 deriving DecidableEq
instance:Enc Binding:=⟨2,by decide,fun x=>[slc x.vars,slc x.terms],fun _=>rfl⟩
@[simp] theorem sz_Binding:Enc.sz Binding=2:=rfl
instance:Sm Binding:=⟨fun n x=>sm n x.vars∧sm n x.terms,fun h x=>⟨q32 h x.1,q32 h x.2⟩⟩
structure Algebra where
 size:Int
 tables:List (List Int)
 deriving DecidableEq
instance:Enc Algebra:=⟨2,by decide,fun x=>[.int .i64 x.size,slc x.tables],fun _=>rfl⟩
@[simp] theorem sz_Algebra:Enc.sz Algebra=2:=rfl
instance:Sm Algebra:=⟨fun n x=>sm n x.tables,fun h x=>q32 h x⟩
structure Entry where
 kind:Int
 a:Int
 b:Int
 place:Int
 side:Int
 left:List Int
 right:List Int
 deriving DecidableEq
instance:Enc Entry:=⟨7,by decide,fun x=>[.int .i64 x.kind,.int .i64 x.a,.int .i64 x.b,.int .i64 x.place,.int .i64 x.side,slc x.left,slc x.right],fun _=>rfl⟩
@[simp] theorem sz_Entry:Enc.sz Entry=7:=rfl
instance:Sm Entry:=⟨fun n x=>sm n x.left∧sm n x.right,fun h x=>⟨q32 h x.1,q32 h x.2⟩⟩
structure Completion where
 order:List Int
 equations:List Equation
 entries:List Entry
 rules:List Int
 waiting:List Int
 rounds:Int
 deriving DecidableEq
instance:Enc Completion:=⟨6,by decide,fun x=>[slc x.order,slc x.equations,slc x.entries,slc x.rules,slc x.waiting,.int .i64 x.rounds],fun _=>rfl⟩
@[simp] theorem sz_Completion:Enc.sz Completion=6:=rfl
instance:Sm Completion:=⟨fun n x=>sm n x.order∧sm n x.equations∧sm n x.entries∧sm n x.rules∧sm n x.waiting,fun h x=>⟨q32 h x.1,q32 h x.2.1,q32 h x.2.2.1,q32 h x.2.2.2.1,q32 h x.2.2.2.2⟩⟩
structure Theory where
 order:List Int
 equations:List Equation
 rules:List Equation
 deriving DecidableEq
instance:Enc Theory:=⟨3,by decide,fun x=>[slc x.order,slc x.equations,slc x.rules],fun _=>rfl⟩
@[simp] theorem sz_Theory:Enc.sz Theory=3:=rfl
instance:Sm Theory:=⟨fun n x=>sm n x.order∧sm n x.equations∧sm n x.rules,fun h x=>⟨q32 h x.1,q32 h x.2.1,q32 h x.2.2⟩⟩
structure Put where
 sector:Int
 bytes:List UInt8
 deriving DecidableEq
instance:Enc Put:=⟨2,by decide,fun x=>[.int .i64 x.sector,slc x.bytes],fun _=>rfl⟩
@[simp] theorem sz_Put:Enc.sz Put=2:=rfl
instance:Sm Put:=⟨fun n x=>sm n x.bytes,fun h x=>q32 h x⟩
structure Disk where
 sectors:List (List UInt8)
 pending:List Put
 deriving DecidableEq
instance:Enc Disk:=⟨2,by decide,fun x=>[slc x.sectors,slc x.pending],fun _=>rfl⟩
@[simp] theorem sz_Disk:Enc.sz Disk=2:=rfl
instance:Sm Disk:=⟨fun n x=>sm n x.sectors∧sm n x.pending,fun h x=>⟨q32 h x.1,q32 h x.2⟩⟩
structure Act where
 kind:Int
 put:Put
 deriving DecidableEq
instance:Enc Act:=⟨3,by decide,fun x=>[.int .i64 x.kind,.int .i64 x.put.sector,slc x.put.bytes],fun _=>rfl⟩
@[simp] theorem sz_Act:Enc.sz Act=3:=rfl
instance:Sm Act:=⟨fun n x=>sm n x.put,fun h x=>q32 h x⟩
structure IntResult where
 code:Int
 value:Int
 deriving DecidableEq
instance:Enc IntResult:=⟨2,by decide,fun x=>[.int .i64 x.code,.int .i64 x.value],fun _=>rfl⟩
@[simp] theorem sz_IntResult:Enc.sz IntResult=2:=rfl
theorem q3d (x:IntResult):enc x=[.int .i64 x.code,.int .i64 x.value]:=rfl
instance:Sm IntResult:=⟨fun n x=>True,fun _ h=>h⟩
structure IntsResult where
 code:Int
 list:List Int
 deriving DecidableEq
instance:Enc IntsResult:=⟨2,by decide,fun x=>[.int .i64 x.code,slc x.list],fun _=>rfl⟩
@[simp] theorem sz_IntsResult:Enc.sz IntsResult=2:=rfl
instance:Sm IntsResult:=⟨fun n x=>sm n x.list,fun h x=>q32 h x⟩
structure BytesResult where
 code:Int
 bytes:List UInt8
 deriving DecidableEq
instance:Enc BytesResult:=⟨2,by decide,fun x=>[.int .i64 x.code,slc x.bytes],fun _=>rfl⟩
@[simp] theorem sz_BytesResult:Enc.sz BytesResult=2:=rfl
instance:Sm BytesResult:=⟨fun n x=>sm n x.bytes,fun h x=>q32 h x⟩
structure TextResult where
 code:Int
 text:ByteArray
 deriving DecidableEq
instance:Enc TextResult:=⟨2,by decide,fun x=>[.int .i64 x.code,.str x.text],fun _=>rfl⟩
@[simp] theorem sz_TextResult:Enc.sz TextResult=2:=rfl
instance:Sm TextResult:=⟨fun n x=>sm n x.text,fun h x=>q32 h x⟩
structure SignatureResult where
 code:Int
 signature:Signature
 deriving DecidableEq
instance:Enc SignatureResult:=⟨2,by decide,fun x=>[.int .i64 x.code,slc x.signature.symbols],fun _=>rfl⟩
@[simp] theorem sz_SignatureResult:Enc.sz SignatureResult=2:=rfl
instance:Sm SignatureResult:=⟨fun n x=>sm n x.signature,fun h x=>q32 h x⟩
structure TermResult where
 code:Int
 term:List Int
 deriving DecidableEq
instance:Enc TermResult:=⟨2,by decide,fun x=>[.int .i64 x.code,slc x.term],fun _=>rfl⟩
@[simp] theorem sz_TermResult:Enc.sz TermResult=2:=rfl
theorem q6x (x:TermResult):enc x=[.int .i64 x.code,slc x.term]:=rfl
instance:Sm TermResult:=⟨fun n x=>sm n x.term,fun h x=>q32 h x⟩
structure TermsResult where
 code:Int
 terms:List (List Int)
 deriving DecidableEq
instance:Enc TermsResult:=⟨2,by decide,fun x=>[.int .i64 x.code,slc x.terms],fun _=>rfl⟩
@[simp] theorem sz_TermsResult:Enc.sz TermsResult=2:=rfl
instance:Sm TermsResult:=⟨fun n x=>sm n x.terms,fun h x=>q32 h x⟩
structure EquationResult where
 code:Int
 equation:Equation
 deriving DecidableEq
instance:Enc EquationResult:=⟨3,by decide,fun x=>[.int .i64 x.code,slc x.equation.left,slc x.equation.right],fun _=>rfl⟩
@[simp] theorem sz_EquationResult:Enc.sz EquationResult=3:=rfl
instance:Sm EquationResult:=⟨fun n x=>sm n x.equation,fun h x=>q32 h x⟩
structure EquationsResult where
 code:Int
 list:List Equation
 deriving DecidableEq
instance:Enc EquationsResult:=⟨2,by decide,fun x=>[.int .i64 x.code,slc x.list],fun _=>rfl⟩
@[simp] theorem sz_EquationsResult:Enc.sz EquationsResult=2:=rfl
instance:Sm EquationsResult:=⟨fun n x=>sm n x.list,fun h x=>q32 h x⟩
structure KeyResult where
 code:Int
 normal:List Int
 term:List Int
 deriving DecidableEq
instance:Enc KeyResult:=⟨3,by decide,fun x=>[.int .i64 x.code,slc x.normal,slc x.term],fun _=>rfl⟩
@[simp] theorem sz_KeyResult:Enc.sz KeyResult=3:=rfl
instance:Sm KeyResult:=⟨fun n x=>sm n x.normal∧sm n x.term,fun h x=>⟨q32 h x.1,q32 h x.2⟩⟩
structure BindingResult where
 code:Int
 binding:Binding
 deriving DecidableEq
instance:Enc BindingResult:=⟨3,by decide,fun x=>[.int .i64 x.code,slc x.binding.vars,slc x.binding.terms],fun _=>rfl⟩
@[simp] theorem sz_BindingResult:Enc.sz BindingResult=3:=rfl
instance:Sm BindingResult:=⟨fun n x=>sm n x.binding,fun h x=>q32 h x⟩
structure RedexResult where
 code:Int
 place:Int
 rule:Int
 deriving DecidableEq
instance:Enc RedexResult:=⟨3,by decide,fun x=>[.int .i64 x.code,.int .i64 x.place,.int .i64 x.rule],fun _=>rfl⟩
@[simp] theorem sz_RedexResult:Enc.sz RedexResult=3:=rfl
instance:Sm RedexResult:=⟨fun n x=>True,fun _ h=>h⟩
structure NormalResult where
 code:Int
 term:List Int
 steps:Int
 deriving DecidableEq
instance:Enc NormalResult:=⟨3,by decide,fun x=>[.int .i64 x.code,slc x.term,.int .i64 x.steps],fun _=>rfl⟩
@[simp] theorem sz_NormalResult:Enc.sz NormalResult=3:=rfl
theorem q2i (x:NormalResult):enc x=[.int .i64 x.code,slc x.term,.int .i64 x.steps]:=rfl
instance:Sm NormalResult:=⟨fun n x=>sm n x.term,fun h x=>q32 h x⟩
structure AlgebraResult where
 code:Int
 algebra:Algebra
 deriving DecidableEq
instance:Enc AlgebraResult:=⟨3,by decide,fun x=>[.int .i64 x.code,.int .i64 x.algebra.size,slc x.algebra.tables],fun _=>rfl⟩
@[simp] theorem sz_AlgebraResult:Enc.sz AlgebraResult=3:=rfl
theorem q5q (x:AlgebraResult):enc x=[.int .i64 x.code,.int .i64 x.algebra.size,slc x.algebra.tables]:=rfl
instance:Sm AlgebraResult:=⟨fun n x=>sm n x.algebra,fun h x=>q32 h x⟩
structure EntryResult where
 code:Int
 entry:Entry
 deriving DecidableEq
instance:Enc EntryResult:=⟨8,by decide,fun x=>[.int .i64 x.code,.int .i64 x.entry.kind,.int .i64 x.entry.a,.int .i64 x.entry.b,.int .i64 x.entry.place,.int .i64 x.entry.side,slc x.entry.left,slc x.entry.right],fun _=>rfl⟩
@[simp] theorem sz_EntryResult:Enc.sz EntryResult=8:=rfl
instance:Sm EntryResult:=⟨fun n x=>sm n x.entry,fun h x=>q32 h x⟩
structure CompletionResult where
 code:Int
 completion:Completion
 deriving DecidableEq
instance:Enc CompletionResult:=⟨7,by decide,fun x=>[.int .i64 x.code,slc x.completion.order,slc x.completion.equations,slc x.completion.entries,slc x.completion.rules,slc x.completion.waiting,.int .i64 x.completion.rounds],fun _=>rfl⟩
@[simp] theorem sz_CompletionResult:Enc.sz CompletionResult=7:=rfl
instance:Sm CompletionResult:=⟨fun n x=>sm n x.completion,fun h x=>q32 h x⟩
structure TheoryResult where
 code:Int
 theory:Theory
 deriving DecidableEq
instance:Enc TheoryResult:=⟨4,by decide,fun x=>[.int .i64 x.code,slc x.theory.order,slc x.theory.equations,slc x.theory.rules],fun _=>rfl⟩
@[simp] theorem sz_TheoryResult:Enc.sz TheoryResult=4:=rfl
instance:Sm TheoryResult:=⟨fun n x=>sm n x.theory,fun h x=>q32 h x⟩
structure DiskResult where
 code:Int
 disk:Disk
 deriving DecidableEq
instance:Enc DiskResult:=⟨3,by decide,fun x=>[.int .i64 x.code,slc x.disk.sectors,slc x.disk.pending],fun _=>rfl⟩
@[simp] theorem sz_DiskResult:Enc.sz DiskResult=3:=rfl
instance:Sm DiskResult:=⟨fun n x=>sm n x.disk,fun h x=>q32 h x⟩
theorem szs:Enc.sz Int=1∧Enc.sz UInt8=1∧Enc.sz Symbol=2∧Enc.sz Signature=1∧Enc.sz Equation=2∧Enc.sz Binding=2∧Enc.sz Algebra=2∧Enc.sz Entry=7∧Enc.sz Completion=6∧Enc.sz Theory=3∧Enc.sz Put=2∧Enc.sz Disk=2∧Enc.sz Act=3∧Enc.sz IntResult=2∧Enc.sz IntsResult=2∧Enc.sz BytesResult=2∧Enc.sz TextResult=2∧Enc.sz SignatureResult=2∧Enc.sz TermResult=2∧Enc.sz TermsResult=2∧Enc.sz EquationResult=3∧Enc.sz EquationsResult=2∧Enc.sz KeyResult=3∧Enc.sz BindingResult=3∧Enc.sz RedexResult=3∧Enc.sz NormalResult=3∧Enc.sz AlgebraResult=3∧Enc.sz EntryResult=8∧Enc.sz CompletionResult=7∧Enc.sz TheoryResult=4∧Enc.sz DiskResult=3:=⟨rfl,rfl,rfl,rfl,rfl,rfl,rfl,rfl,rfl,rfl,rfl,rfl,rfl,rfl,rfl,rfl,rfl,rfl,rfl,rfl,rfl,rfl,rfl,rfl,rfl,rfl,rfl,rfl,rfl,rfl,rfl⟩
theorem evs:(∀ {n m:Nat},((n:Int) < (m:Int))↔n < m)∧(∀ {a b:ByteArray},(a.toList=b.toList)=(a=b)) ∧
 (∀ {α:Type} [BEq α] [LawfulBEq α] [DecidableEq α] {a b:α},(a == b)=decide (a=b))∧(∀ {α:Type} [BEq α] [LawfulBEq α] [DecidableEq α] {a b:α},(a != b) = !decide (a=b)) ∧
 (∀ {β:Type} {p:Prop} [Decidable p] {x y:β},(bif decide p then x else y)=if p then x else y)∧(∀ {β:Type} {b:Bool} {x y:β},(bif !b then x else y)=bif b then y else x) ∧
 (∀ {a b:UInt8},((a.toNat:Int)=(b.toNat:Int))=(a=b))∧(∀ {α:Type} [Enc α] {l:List α} {k:Nat},Enc.sz α=k→(cells l).length / k=l.length)∧(∀ {α:Type} [Enc α],Enc.sz (List α)=1) ∧
 (∀ i n:Nat,inB (i:Int) n=decide (i < n))∧(∀ n:Nat,((n:Nat):Int).toNat=n) ∧
 (∀ {α:Type} [Enc α] {l:List α} {k i:Nat},Enc.sz α=k→(cells l)[i*k]?=(l[i]?).bind fun x=>(Enc.enc x)[0]?) ∧
 (∀ {α:Type} [Enc α] {l:List α} {k i:Nat},Enc.sz α=k→1 < k→(cells l)[i*k+1]?=(l[i]?).bind fun x=>(Enc.enc x)[1]?) ∧
 (∀ {α:Type} [Enc α] {l:List α} {k i:Nat},Enc.sz α=k→2 < k→(cells l)[i*k+1+1]?=(l[i]?).bind fun x=>(Enc.enc x)[2]?) ∧
 (∀ {α:Type} [Enc α] {l:List α} {k i:Nat},Enc.sz α=k→3 < k→(cells l)[i*k+1+1+1]?=(l[i]?).bind fun x=>(Enc.enc x)[3]?) ∧
 (∀ {α:Type} [Enc α] {l:List α} {k i:Nat},Enc.sz α=k→4 < k→(cells l)[i*k+1+1+1+1]?=(l[i]?).bind fun x=>(Enc.enc x)[4]?) ∧
 (∀ {α:Type} [Enc α] {l:List α} {k i:Nat},Enc.sz α=k→5 < k→(cells l)[i*k+1+1+1+1+1]?=(l[i]?).bind fun x=>(Enc.enc x)[5]?) ∧
 (∀ {α:Type} [Enc α] {l:List α} {k i:Nat},Enc.sz α=k→6 < k→(cells l)[i*k+1+1+1+1+1+1]?=(l[i]?).bind fun x=>(Enc.enc x)[6]?) ∧
 (∀ {α:Type} [Enc α] {l:List α} {k i:Nat},Enc.sz α=k→7 < k→(cells l)[i*k+1+1+1+1+1+1+1]?=(l[i]?).bind fun x=>(Enc.enc x)[7]?) ∧
 (∀ {α:Type} [Enc α] {l:List α} {k i:Nat},Enc.sz α=k→8 < k→(cells l)[i*k+1+1+1+1+1+1+1+1]?=(l[i]?).bind fun x=>(Enc.enc x)[8]?) ∧
 (∀ {α β:Type} {x:α} {f:α→Option β},Option.bind (some x) f=f x)∧(∀ {α:Type} {a:α} {l:List α},(a::l)[0]?=some a)∧(∀ {α:Type} {a:α} {i:Nat} {l:List α},(a::l)[i+1]?=l[i]?) ∧
 (∀ (k:IntKind) (n:Int),oInt k (.int k n)=some n)∧(∀ b:Bool,oBool (.bool b)=some b)∧(∀ b:ByteArray,oStr (.str b)=some b)∧(∀ {α:Type} [Enc α] {k:Nat} (l:List α),Enc.sz α=k→oSl k (slc l)=some (cells l)) ∧
 (∀ c:List T,oAgg (.agg c)=some c)∧(∀ c:List T,oTup (.tup c)=some c)∧(∀ (x:T) (c:List T),oCons (x::c)=some (x,c))∧oNil []=some () ∧
 (∀ {α:Type} [Enc α] {k:Nat} {l:List α},Enc.sz α=k→T.sl k (cells l)=slc l) :=
 ⟨Int.ofNat_lt,str_inj,beq_dec,bne_dec,cond_dec,cond_nt,u8_inj,q53,sz_list,q7a,Int.toNat_natCast,get0,get1,get2,get3,get4,get5,get6,get7,get8,bind_of,List.getElem?_cons_zero,List.getElem?_cons_succ,oInt_int,oBool_bool,oStr_str,oSl_slc,oAgg_agg,oTup_tup,oCons_cons,oNil_nil,sl_cells⟩
theorem tfs:(∀ {α:Type} {h:Decidable True} (a b:α),ite True a b=a)∧(∀ {α:Type} {h:Decidable False} (a b:α),ite False a b=b)∧(∀ (h:Decidable True),@decide True h=true) ∧
 (∀ (h:Decidable False),@decide False h=false)∧(∀ {α:Type} {a b:α},cond true a b=a)∧(∀ {α:Type} {a b:α},cond false a b=b) :=
 ⟨if_true,if_false,decide_true,decide_false,rfl,rfl⟩
theorem evz:type_of% tfs∧type_of% evs∧type_of% szs:=⟨tfs,evs,szs⟩
end Ev.Ty
end
section
namespace Ev.Ty
open Go Ev
open Enc (enc)
open Sm (sm)
class OfSh (s:Sh) (α:Type) [Enc α] [Sm α] where
 of:s.Val→α
 enc:∀ x,s.wf x→s.enc x=Enc.enc (of x)
 sz:s.size=Enc.sz α
 sm:∀ x,s.wf x→Sm.sm maxLen (of x)
theorem q3e {a b:Sh} {x:(Sh.pair a b).Val} {l r:List T} (h1:a.enc x.1=l) (h2:b.enc x.2=r):(Sh.pair a b).enc x=l++r:=by rw [Sh.enc,h1,h2]
instance:OfSh (.int .i64) Int:=⟨id,fun _ _=>rfl,rfl,fun _ _=>trivial⟩
instance:OfSh .bool Bool:=⟨id,fun _ _=>rfl,rfl,fun _ _=>trivial⟩
instance:OfSh .str ByteArray:=⟨id,fun _ _=>rfl,rfl,fun _ h=>h⟩
theorem u8_enc (x:Int) (h:(Lit.int .u8 x).wf=true):[T.int .u8 x]=[T.int .u8 ((UInt8.ofNat (Int.toNat x)).toNat:Int)]:=by
 simp [Lit.wf,IntKind.min,IntKind.max,IntKind.signed,IntKind.bits] at h
 rw [UInt8.toNat_ofNat']
 congr 2
 omega
instance:OfSh (.int .u8) UInt8:=⟨fun n=>UInt8.ofNat (Int.toNat n),fun x h=>u8_enc x h,rfl,fun _ _=>trivial⟩
theorem cells_of {s:Sh} {α:Type} [Enc α] [Sm α] [OfSh s α]:∀ (l:List s.Val),(∀ x,x∈l→s.wf x)→l.flatMap s.enc=cells (l.map (OfSh.of (s:=s) (α:=α)))
 | [],_=>rfl
 | x::l,h=>by
   rw [List.flatMap_cons,List.map_cons,q6p,OfSh.enc (α:=α) x (h x (by simp)),cells_of (α:=α) l fun y hy=>h y (by simp [hy])]
instance {s:Sh} {α:Type} [Enc α] [Sm α] [OfSh s α]:OfSh (.sl s) (List α):=⟨fun l=>l.map (OfSh.of (s:=s) (α:=α)),fun l h=>by
 show [T.sl s.size (List.flatMap s.enc l)]=[slc _]
 rw [cells_of (α:=α) l h.2,OfSh.sz (s:=s) (α:=α)]; rfl,rfl,fun l h=>⟨by simpa using h.1,fun x hx=>by
  obtain ⟨y,hy,rfl⟩:=List.mem_map.1 hx
  exact OfSh.sm y (h.2 y hy)⟩⟩
theorem arg_list {s:Sh} {α:Type} [Enc α] [Sm α] [OfSh s α] (l:List s.Val) (h:(Sh.sl s).wf l):argOf (.sl s) l=slc (OfSh.of (s := .sl s) (α:=List α) l):=by
 have:=OfSh.enc (s := .sl s) (α:=List α) l h
 simpa [Sh.enc,argOf] using this
@[reducible] def sh_Symbol:Sh := .pair .str (.pair (.int .i64) .unit)
instance:OfSh sh_Symbol Symbol:=⟨fun x=>⟨OfSh.of (s := .str) (α:=ByteArray) x.1,OfSh.of (s:=(.int .i64)) (α:=Int) x.2.1⟩,fun x h=>q3e (OfSh.enc (α:=ByteArray) x.1 h.1) (q3e (OfSh.enc (α:=Int) x.2.1 h.2.1) (rfl)),rfl,fun x h=>OfSh.sm (α:=ByteArray) x.1 h.1⟩
@[reducible] def sh_Signature:Sh := .pair (.sl sh_Symbol) .unit
instance:OfSh sh_Signature Signature:=⟨fun x=>⟨OfSh.of (s:=(.sl sh_Symbol)) (α:=List Symbol) x.1⟩,fun x h=>q3e (OfSh.enc (α:=List Symbol) x.1 h.1) (rfl),rfl,fun x h=>OfSh.sm (α:=List Symbol) x.1 h.1⟩
@[reducible] def q74:Sh := .pair (.sl (.int .i64)) (.pair (.sl (.int .i64)) .unit)
instance:OfSh q74 Equation:=⟨fun x=>⟨OfSh.of (s:=(.sl (.int .i64))) (α:=List Int) x.1,OfSh.of (s:=(.sl (.int .i64))) (α:=List Int) x.2.1⟩,fun x h=>q3e (OfSh.enc (α:=List Int) x.1 h.1) (q3e (OfSh.enc (α:=List Int) x.2.1 h.2.1) (rfl)),rfl,fun x h=>⟨OfSh.sm (α:=List Int) x.1 h.1,OfSh.sm (α:=List Int) x.2.1 h.2.1⟩⟩
@[reducible] def sh_Binding:Sh := .pair (.sl (.int .i64)) (.pair (.sl (.sl (.int .i64))) .unit)
instance:OfSh sh_Binding Binding:=⟨fun x=>⟨OfSh.of (s:=(.sl (.int .i64))) (α:=List Int) x.1,OfSh.of (s:=(.sl (.sl (.int .i64)))) (α:=List (List Int)) x.2.1⟩,fun x h=>q3e (OfSh.enc (α:=List Int) x.1 h.1) (q3e (OfSh.enc (α:=List (List Int)) x.2.1 h.2.1) (rfl)),rfl,fun x h=>⟨OfSh.sm (α:=List Int) x.1 h.1,OfSh.sm (α:=List (List Int)) x.2.1 h.2.1⟩⟩
@[reducible] def sh_Algebra:Sh := .pair (.int .i64) (.pair (.sl (.sl (.int .i64))) .unit)
instance:OfSh sh_Algebra Algebra:=⟨fun x=>⟨OfSh.of (s:=(.int .i64)) (α:=Int) x.1,OfSh.of (s:=(.sl (.sl (.int .i64)))) (α:=List (List Int)) x.2.1⟩,fun x h=>q3e (OfSh.enc (α:=Int) x.1 h.1) (q3e (OfSh.enc (α:=List (List Int)) x.2.1 h.2.1) (rfl)),rfl,fun x h=>OfSh.sm (α:=List (List Int)) x.2.1 h.2.1⟩
@[reducible] def sh_Entry:Sh := .pair (.int .i64) (.pair (.int .i64) (.pair (.int .i64) (.pair (.int .i64) (.pair (.int .i64) (.pair (.sl (.int .i64)) (.pair (.sl (.int .i64)) .unit))))))
instance:OfSh sh_Entry Entry:=⟨fun x=>⟨OfSh.of (s:=(.int .i64)) (α:=Int) x.1,OfSh.of (s:=(.int .i64)) (α:=Int) x.2.1,OfSh.of (s:=(.int .i64)) (α:=Int) x.2.2.1,OfSh.of (s:=(.int .i64)) (α:=Int) x.2.2.2.1,OfSh.of (s:=(.int .i64)) (α:=Int) x.2.2.2.2.1,OfSh.of (s:=(.sl (.int .i64))) (α:=List Int) x.2.2.2.2.2.1,OfSh.of (s:=(.sl (.int .i64))) (α:=List Int) x.2.2.2.2.2.2.1⟩,fun x h=>q3e (OfSh.enc (α:=Int) x.1 h.1) (q3e (OfSh.enc (α:=Int) x.2.1 h.2.1) (q3e (OfSh.enc (α:=Int) x.2.2.1 h.2.2.1) (q3e (OfSh.enc (α:=Int) x.2.2.2.1 h.2.2.2.1) (q3e (OfSh.enc (α:=Int) x.2.2.2.2.1 h.2.2.2.2.1) (q3e (OfSh.enc (α:=List Int) x.2.2.2.2.2.1 h.2.2.2.2.2.1) (q3e (OfSh.enc (α:=List Int) x.2.2.2.2.2.2.1 h.2.2.2.2.2.2.1) (rfl))))))),rfl,fun x h=>⟨OfSh.sm (α:=List Int) x.2.2.2.2.2.1 h.2.2.2.2.2.1,OfSh.sm (α:=List Int) x.2.2.2.2.2.2.1 h.2.2.2.2.2.2.1⟩⟩
@[reducible] def sh_Completion:Sh := .pair (.sl (.int .i64)) (.pair (.sl q74) (.pair (.sl sh_Entry) (.pair (.sl (.int .i64)) (.pair (.sl (.int .i64)) (.pair (.int .i64) .unit)))))
instance:OfSh sh_Completion Completion:=⟨fun x=>⟨OfSh.of (s:=(.sl (.int .i64))) (α:=List Int) x.1,OfSh.of (s:=(.sl q74)) (α:=List Equation) x.2.1,OfSh.of (s:=(.sl sh_Entry)) (α:=List Entry) x.2.2.1,OfSh.of (s:=(.sl (.int .i64))) (α:=List Int) x.2.2.2.1,OfSh.of (s:=(.sl (.int .i64))) (α:=List Int) x.2.2.2.2.1,OfSh.of (s:=(.int .i64)) (α:=Int) x.2.2.2.2.2.1⟩,fun x h=>q3e (OfSh.enc (α:=List Int) x.1 h.1) (q3e (OfSh.enc (α:=List Equation) x.2.1 h.2.1) (q3e (OfSh.enc (α:=List Entry) x.2.2.1 h.2.2.1) (q3e (OfSh.enc (α:=List Int) x.2.2.2.1 h.2.2.2.1) (q3e (OfSh.enc (α:=List Int) x.2.2.2.2.1 h.2.2.2.2.1) (q3e (OfSh.enc (α:=Int) x.2.2.2.2.2.1 h.2.2.2.2.2.1) (rfl)))))),rfl,fun x h=>⟨OfSh.sm (α:=List Int) x.1 h.1,OfSh.sm (α:=List Equation) x.2.1 h.2.1,OfSh.sm (α:=List Entry) x.2.2.1 h.2.2.1,OfSh.sm (α:=List Int) x.2.2.2.1 h.2.2.2.1,OfSh.sm (α:=List Int) x.2.2.2.2.1 h.2.2.2.2.1⟩⟩
@[reducible] def sh_Theory:Sh := .pair (.sl (.int .i64)) (.pair (.sl q74) (.pair (.sl q74) .unit))
instance:OfSh sh_Theory Theory:=⟨fun x=>⟨OfSh.of (s:=(.sl (.int .i64))) (α:=List Int) x.1,OfSh.of (s:=(.sl q74)) (α:=List Equation) x.2.1,OfSh.of (s:=(.sl q74)) (α:=List Equation) x.2.2.1⟩,fun x h=>q3e (OfSh.enc (α:=List Int) x.1 h.1) (q3e (OfSh.enc (α:=List Equation) x.2.1 h.2.1) (q3e (OfSh.enc (α:=List Equation) x.2.2.1 h.2.2.1) (rfl))),rfl,fun x h=>⟨OfSh.sm (α:=List Int) x.1 h.1,OfSh.sm (α:=List Equation) x.2.1 h.2.1,OfSh.sm (α:=List Equation) x.2.2.1 h.2.2.1⟩⟩
@[reducible] def sh_Put:Sh := .pair (.int .i64) (.pair (.sl (.int .u8)) .unit)
instance:OfSh sh_Put Put:=⟨fun x=>⟨OfSh.of (s:=(.int .i64)) (α:=Int) x.1,OfSh.of (s:=(.sl (.int .u8))) (α:=List UInt8) x.2.1⟩,fun x h=>q3e (OfSh.enc (α:=Int) x.1 h.1) (q3e (OfSh.enc (α:=List UInt8) x.2.1 h.2.1) (rfl)),rfl,fun x h=>OfSh.sm (α:=List UInt8) x.2.1 h.2.1⟩
@[reducible] def sh_Disk:Sh := .pair (.sl (.sl (.int .u8))) (.pair (.sl sh_Put) .unit)
instance:OfSh sh_Disk Disk:=⟨fun x=>⟨OfSh.of (s:=(.sl (.sl (.int .u8)))) (α:=List (List UInt8)) x.1,OfSh.of (s:=(.sl sh_Put)) (α:=List Put) x.2.1⟩,fun x h=>q3e (OfSh.enc (α:=List (List UInt8)) x.1 h.1) (q3e (OfSh.enc (α:=List Put) x.2.1 h.2.1) (rfl)),rfl,fun x h=>⟨OfSh.sm (α:=List (List UInt8)) x.1 h.1,OfSh.sm (α:=List Put) x.2.1 h.2.1⟩⟩
@[reducible] def sh_Act:Sh := .pair (.int .i64) (.pair sh_Put .unit)
instance:OfSh sh_Act Act:=⟨fun x=>⟨OfSh.of (s:=(.int .i64)) (α:=Int) x.1,OfSh.of (s:=sh_Put) (α:=Put) x.2.1⟩,fun x h=>q3e (OfSh.enc (α:=Int) x.1 h.1) (q3e (OfSh.enc (α:=Put) x.2.1 h.2.1) (rfl)),rfl,fun x h=>OfSh.sm (α:=Put) x.2.1 h.2.1⟩
end Ev.Ty
end
section
namespace Ev.Ty
open Go Ev
open Enc (enc)
open Sm (sm)
def idx {α:Type} (p:α→Bool) (l:List α):Int:=match l.findIdx? p with
 | some i=>(i:Nat)
 | none => -1
theorem any_loop {n:Nat} {bad:Nat→Bool} {S:Nat→Nat→R} {r z:R}
 (step:∀ m k,k < n→S (m+1) k=if bad k=true then r else S m (k+1)) (stop:∀ m,S (m+1) n=z) {f:Nat} (hf:n < f) :
 S f 0=if (List.range n).any bad=true then r else z:=by
 have:∀ m k,k≤n→n < m+k→S m k=if (List.range' k (n - k)).any bad=true then r else z:=by
  intro m
  induction m with
  | zero=>intros; omega
  | succ m ih =>
    intro k hk hm
    by_cases h:k < n
    · rw [step m k h,ih (k+1) (by omega) (by omega),show n - k=(n - (k+1))+1 by omega,List.range'_succ,List.any_cons]
      by_cases hb:bad k=true
      · rw [if_pos hb,hb,Bool.true_or,if_pos rfl]
      · have hb':=Bool.eq_false_iff.2 hb; rw [if_neg hb,hb',Bool.false_or]
    · obtain rfl:k=n:=by omega
      rw [stop m]; simp
 have:=this f 0 (by omega) (by omega)
 rwa [Nat.sub_zero,← List.range_eq_range'] at this
theorem q7x {α:Type} {l:List α} {g:α→Option R} {S:Nat→Nat→R} {z:R}
 (step:∀ m k (h:k < l.length),S (m+1) k=match g l[k] with | some r=>r | none=>S m (k+1)) (stop:∀ m,S (m+1) l.length=z) {f:Nat} (hf:l.length < f) :
 S f 0=match l.findSome? g with | some r=>r | none=>z:=by
 have:∀ m k,k≤l.length→l.length < m+k→S m k=match (l.drop k).findSome? g with | some r=>r | none=>z:=by
  intro m
  induction m with
  | zero=>intros; omega
  | succ m ih =>
    intro k hk hm
    by_cases h:k < l.length
    · rw [step m k h,List.drop_eq_getElem_cons h,List.findSome?_cons]
      cases g l[k] with
      | none=>exact ih (k+1) (by omega) (by omega)
      | some r=>rfl
    · obtain rfl:k=l.length:=by omega
      rw [stop m]; simp
 simpa using this f 0 (by omega) (by omega)
theorem q7j {α:Type} {l:List α} {p:α→Bool} {S:Nat→Nat→R} {r z:R}
 (step:∀ m k (h:k < l.length),S (m+1) k=if p l[k]=true then r else S m (k+1)) (stop:∀ m,S (m+1) l.length=z) {f:Nat} (hf:l.length < f) :
 S f 0=if l.any p=true then r else z:=by
 have:∀ m k,k≤l.length→l.length < m+k→S m k=if (l.drop k).any p=true then r else z:=by
  intro m
  induction m with
  | zero=>intros; omega
  | succ m ih =>
    intro k hk hm
    by_cases h:k < l.length
    · rw [step m k h,List.drop_eq_getElem_cons h,List.any_cons,ih (k+1) (by omega) (by omega)]
      by_cases hb:p l[k]=true
      · rw [if_pos hb,hb,Bool.true_or,if_pos rfl]
      · have hb':=Bool.eq_false_iff.2 hb; rw [if_neg hb,hb',Bool.false_or]
    · obtain rfl:k=l.length:=by omega
      rw [stop m]; simp
 simpa using this f 0 (by omega) (by omega)
theorem hit_loop {α:Type} {l:List α} {p:α→Bool} {S:Nat→Nat→R} {r:R}
 (step:∀ m k (h:k < l.length),S (m+1) k=if p l[k]=true then r else S m (k+1)) (ha:l.any p=true) {f:Nat} (hf:l.length < f):S f 0=r:=by
 have:∀ m k,l.length < m+k→k≤l.length→(l.drop k).any p=true→S m k=r:=by
  intro m
  induction m with
  | zero=>intros; omega
  | succ m ih =>
    intro k hm hk ha
    by_cases h:k < l.length
    · rw [List.drop_eq_getElem_cons h,List.any_cons,Bool.or_eq_true] at ha
      rw [step m k h]
      by_cases hb:p l[k]=true
      · rw [if_pos hb]
      · rw [if_neg hb]; exact ih (k+1) (by omega) (by omega) (ha.resolve_left hb)
    · rw [List.drop_of_length_le (by omega)] at ha; cases ha
 exact this f 0 (by omega) (by omega) (by simpa using ha)
theorem q6l {α:Type} {l:List α} {p:α→Bool} {S:Nat→Nat→R}
 (step:∀ m k (h:k < l.length),S (m+1) k=if p l[k]=true then some (.int .i64 (k:Nat),[]) else S m (k+1)) (stop:∀ m,S (m+1) l.length=some (.int .i64 (-1),[])) {f:Nat} (hf:l.length < f) :
 S f 0=some (.int .i64 (idx p l),[]):=by
 have:∀ m k,k≤l.length→l.length < m+k→S m k=some (.int .i64 (match (l.drop k).findIdx? p with | some i=>((i+k:Nat):Int) | none => -1),[]):=by
  intro m
  induction m with
  | zero=>intros; omega
  | succ m ih =>
    intro k hk hm
    by_cases h:k < l.length
    · rw [step m k h,List.drop_eq_getElem_cons h,List.findIdx?_cons,ih (k+1) (by omega) (by omega)]
      by_cases hb:p l[k]=true
      · simp [hb]
      · simp only [hb]
        cases (l.drop (k+1)).findIdx? p with
        | none=>simp
        | some i=>simp; omega
    · obtain rfl:k=l.length:=by omega
      rw [stop m]; simp
 simpa [idx] using this f 0 (by omega) (by omega)
theorem q7g {α:Type} (p:α→Bool) (l:List α):decide (idx p l ≥ 0)=l.any p:=by
 unfold idx
 cases h:l.findIdx? p with
 | none =>
   rw [List.findIdx?_eq_none_iff] at h
   rw [Bool.eq_iff_iff]
   simp
   intro x hx; simpa using h x hx
 | some i =>
   rw [List.findIdx?_eq_some_iff_getElem] at h
   obtain ⟨h1,h2,_⟩:=h
   rw [Bool.eq_iff_iff]
   simp
   exact ⟨l[i],List.getElem_mem h1,h2⟩
theorem q6m {α:Type} (p:α→Bool) (l:List α):(idx p l = -1∧∀ x,x∈l→p x=false)∨∃ i,∃ h:i < l.length,idx p l=(i:Nat)∧p l[i]=true∧∀ j (hj:j < i),p (l[j]'(Nat.lt_trans hj h))=false:=by
 unfold idx
 cases hx:l.findIdx? p with
 | none=>rw [List.findIdx?_eq_none_iff] at hx; exact .inl ⟨rfl,hx⟩
 | some i =>
   rw [List.findIdx?_eq_some_iff_getElem] at hx
   obtain ⟨h1,h2,h3⟩:=hx
   exact .inr ⟨i,h1,rfl,h2,fun j hj=>by simpa using h3 j hj⟩
theorem q6h {α β γ:Type} (f:α→Option β) (g:β→γ):∀ l:List α,l.findSome? (fun x=>(f x).map g)=(l.findSome? f).map g
 | []=>rfl
 | x::l=>by
   rw [List.findSome?_cons,List.findSome?_cons]
   cases f x with
   | none=>exact q6h f g l
   | some b=>rfl
theorem fold_loop {α σ:Type} {l:List α} {S:Nat→Nat→σ→R} {g:σ→α→σ} {z:σ→R} (I:Nat→σ→Prop)
 (step:∀ m k s (h:k < l.length),I k s→S (m+1) k s=S m (k+1) (g s l[k]))
 (inv:∀ k s (h:k < l.length),I k s→I (k+1) (g s l[k]))
 (stop:∀ m s,I l.length s→S (m+1) l.length s=z s) (s:σ) (h0:I 0 s) {f:Nat} (hf:l.length < f):S f 0 s=z (l.foldl g s):=by
 have:∀ m k s,k≤l.length→l.length < m+k→I k s→S m k s=z ((l.drop k).foldl g s):=by
  intro m
  induction m with
  | zero=>intros; omega
  | succ m ih =>
    intro k s hk hm hi
    by_cases h:k < l.length
    · rw [step m k s h hi,List.drop_eq_getElem_cons h,List.foldl_cons]
      exact ih (k+1) _ (by omega) (by omega) (inv k s h hi)
    · obtain rfl:k=l.length:=by omega
      rw [stop m s hi,List.drop_of_length_le (Nat.le_refl _),List.foldl_nil]
 simpa using this f 0 s (by omega) (by omega) h0
theorem fold_inv {α σ:Type} {l:List α} {g:σ→α→σ} (I:Nat→σ→Prop) (inv:∀ k s (h:k < l.length),I k s→I (k+1) (g s l[k])) (s:σ) (h0:I 0 s):I l.length (l.foldl g s):=by
 have:∀ n k s,k+n=l.length→I k s→I l.length ((l.drop k).foldl g s):=by
  intro n
  induction n with
  | zero=>intro k s hk hi; obtain rfl:k=l.length:=by omega
          rw [List.drop_of_length_le (Nat.le_refl _)]; exact hi
  | succ n ih =>
    intro k s hk hi
    have h:k < l.length:=by omega
    rw [List.drop_eq_getElem_cons h,List.foldl_cons]
    exact ih (k+1) _ (by omega) (inv k s h hi)
 simpa using this l.length 0 s (by omega) h0
theorem q80 {α:Type} [Enc α]:slc ([]:List α)=T.sl (Enc.sz α) []:=rfl
theorem q2j (l:List Int) (x:Int):cells l++[.int .i64 x]=cells (l++[x]):=by rw [q3b,← q1r,q84]
theorem q5p {α:Type} [Enc α] (l:List (List α)) (x:List α):cells l++[slc x]=cells (l++[x]):=by rw [q3b,← q5h,q84]
theorem q3s {a b:Nat} (h:a≤b):Nat.ble a b=true:=Nat.ble_eq_true_of_le h
theorem run_loop {σ:Type} {n:Nat} {S:Nat→Nat→σ→R} {st:Nat→σ} {z:R} (step:∀ m k,k < n→S (m+1) k (st k)=S m (k+1) (st (k+1))) (stop:∀ m,S (m+1) n (st n)=z) {f:Nat} (hf:n < f) :
 S f 0 (st 0)=z:=by
 have:∀ m k,k≤n→n < m+k→S m k (st k)=z:=by
  intro m
  induction m with
  | zero=>intros; omega
  | succ m ih =>
    intro k hk hm
    by_cases h:k < n
    · rw [step m k h]; exact ih (k+1) (by omega) (by omega)
    · obtain rfl:k=n:=by omega
      exact stop m
 exact this f 0 (by omega) (by omega)
theorem q3q (l:List Int):(cells l).all T.scalar=true:=by
 rw [List.all_eq_true]
 intro x hx
 obtain ⟨y,_,hy⟩:=List.mem_flatMap.1 hx
 obtain rfl:=List.mem_singleton.1 hy
 rfl
end Ev.Ty
end
section
open Go
set_option linter.unusedVariables false
set_option maxRecDepth 100000
namespace Ev
def q1s.st0 (x0:Int) (x1:List T) (x2 x3:Int):St:=⟨[(3,oi x0),(6,ol 1 x1),(7,oi x2),(8,oi x3)],[]⟩
noncomputable def q1s.K0 (n:Nat):Ex→St→R:=kx F.q1s n [.block 0,.seq 0 (cx F.q1s [1,1,1])] (endOf prog A F.q1s)
noncomputable def q1s.at0 (n:Nat) (m:Nat) (s:St):R:=lx F.q1s n 0 [1,1,0,1,0,0] (q1s.K0 n) m s
noncomputable def q1s.rd0 (n:Nat) (L0:St→R) (s:St):R:=rx F.q1s n 0 [1,1,0,1,0,0] (q1s.K0 n) L0 s
theorem q1s.next0 (n:Nat) (m:Nat) (s:St):q1s.at0 n (m+1) s=q1s.rd0 n (q1s.at0 n m) s:=nx _ _ _ _ _ _ _
theorem q1s.round0 (n:Nat) (L0:St→R) (x0:Int) (x1:List T) (x2 x3:Int):q1s.rd0 n L0 (q1s.st0 x0 x1 x2 x3)=(bif (decide (x3 < x2)) then (bif inB x3 ((x1).length / 1) then ((x1[((Int.toNat x3)*1)]?).bind fun e1=>((oInt .i64 e1).bind fun n2=>(bif ((n2 != x0)) then some ((.int .i64 n2),[]) else (L0 (q1s.st0 x0 x1 x2 (IntKind.wrap .i64 (x3+(1:Int)))))))) else none) else some ((.int .i64 x0),[])):=by kernel_rfl
theorem q1s.ev (n:Nat) (a0:List T):callK prog A H LIM n F.q1s [(.sl 1 a0)]=(q1s.at0 n n (q1s.st0 (0:Int) a0 ((((a0).length / 1):Nat):Int) (0:Int))):=by kernel_rfl
def q0x.st0 (x0:List T) (x1 x2:Int) (x3:List T) (x4:Int) (x5:List T):St:=⟨[(2,(.one (.ptr 128 0))),(3,(.one (.ptr 192 0))),(25,ol 1 x0),(26,oi x1),(27,oi x2)],[(128,(.box [(.t (.sl 2 x3))])),(192,(.box [(.t (.int .i64 x4)),(.t (.sl 1 x5))]))]⟩
noncomputable def q0x.K0 (n:Nat):Ex→St→R:=kx F.q0x n [.block 0,.seq 0 (cx F.q0x [1,1,1,1,1])] (endOf prog A F.q0x)
noncomputable def q0x.at0 (n:Nat) (m:Nat) (s:St):R:=lx F.q0x n 0 [1,1,1,1,0,1,0,0] (q0x.K0 n) m s
noncomputable def q0x.rd0 (n:Nat) (L0:St→R) (s:St):R:=rx F.q0x n 0 [1,1,1,1,0,1,0,0] (q0x.K0 n) L0 s
theorem q0x.next0 (n:Nat) (m:Nat) (s:St):q0x.at0 n (m+1) s=q0x.rd0 n (q0x.at0 n m) s:=nx _ _ _ _ _ _ _
theorem q0x.round0 (n:Nat) (L0:St→R) (x0:List T) (x1 x2:Int) (x3:List T) (x4:Int) (x5:List T):q0x.rd0 n L0 (q0x.st0 x0 x1 x2 x3 x4 x5)=(bif (decide (x2 < x1)) then (bif inB x2 ((x0).length / 1) then ((x0[((Int.toNat x2)*1)]?).bind fun e5=>((oSl 1 e5).bind fun c6=>(bif inB x2 ((x3).length / 2) then ((x3[(((Int.toNat x2)*2)+1)]?).bind fun e7=>((oInt .i64 e7).bind fun n8=>((LIM F.q2g [(.int .i64 x4),(.int .i64 n8)]).bind fun r9=>((oNil r9.2).bind fun _=>((oInt .i64 r9.1).bind fun n10=>(bif ((((((c6).length / 1):Nat):Int) != n10)) then some ((.int .i64 (2:Int)),[]) else ((LIM F.q1g [(.sl 1 c6),(.clo F.q2q [(.rref [(.int .i64 x4),(.sl 1 x5)] 0)])]).bind fun r11=>((oNil r11.2).bind fun _=>((oBool r11.1).bind fun b12=>(bif b12 then some ((.int .i64 (3:Int)),[]) else (L0 (q0x.st0 x0 x1 (IntKind.wrap .i64 (x2+(1:Int))) x3 x4 x5)))))))))))) else none))) else none) else some ((.int .i64 (0:Int)),[])):=by kernel_rfl
theorem q0x.ev (n:Nat) (a0_0:List T) (a1_0:Int) (a1_1:List T):callK prog A H LIM n F.q0x [(.agg [(.sl 2 a0_0)]),(.agg [(.int .i64 a1_0),(.sl 1 a1_1)])]=((LIM F.q04 [(.agg [(.sl 2 a0_0)])]).bind fun r1=>((oNil r1.2).bind fun _=>((oInt .i64 r1.1).bind fun n2=>(bif ((n2 != (0:Int))) then some ((.int .i64 n2),[]) else ((LIM F.q2u [(.int .i64 a1_0),(.int .i64 (1:Int)),(.int .i64 (3:Int))]).bind fun r3=>((oNil r3.2).bind fun _=>((oBool r3.1).bind fun b4=>(bif (!b4) then some ((.int .i64 (3:Int)),[]) else (bif ((((((a1_1).length / 1):Nat):Int) != ((((a0_0).length / 2):Nat):Int))) then some ((.int .i64 (2:Int)),[]) else (q0x.at0 n n (q0x.st0 a1_1 ((((a1_1).length / 1):Nat):Int) (0:Int) a0_0 a1_0 a1_1))))))))))):=by kernel_rfl
theorem q2q.ev (n:Nat) (a0 a1_0:Int) (a1_1:List T):callK prog A H LIM n F.q2q [(.int .i64 a0),(.rref [(.int .i64 a1_0),(.sl 1 a1_1)] 0)]=((LIM F.q2u [(.int .i64 a0),(.int .i64 (0:Int)),(.int .i64 (IntKind.wrap .i64 (a1_0 - (1:Int))))]).bind fun r1=>((oNil r1.2).bind fun _=>((oBool r1.1).bind fun b2=>some ((.bool (!b2)),[])))):=by kernel_rfl
def q0h.st2 (x0 x1:Int) (x2:List T) (x3 x4 x5 x6 x7 x8 x9:Int) (x10 x11:List T):St:=⟨[(1,oi x0),(2,oi x1),(6,(.one (.ptr 384 0))),(8,(.one (.ptr 512 0))),(30,ol 2 x2),(31,oi x3),(32,oi x4),(11,(.one (.obj 2304))),(40,oi x5),(41,oi x6)],[(384,(.box [(.t (.int .i64 x7)),(.t (.int .i64 x8)),.nil])),(512,(.box [(.t (.int .i64 x9)),(.obj 518193)])),(518193,(.arr true true 1 x10)),(2304,(.arr true true 1 x11))]⟩
def q0h.st0 (x0 x1:Int) (x2:List T) (x3 x4 x5 x6 x7:Int) (x8:List T):St:=⟨[(1,oi x0),(2,oi x1),(6,(.one (.ptr 384 0))),(8,(.one (.ptr 512 0))),(30,ol 2 x2),(31,oi x3),(32,oi x4)],[(384,(.box [(.t (.int .i64 x5)),(.t (.int .i64 x6)),.nil])),(512,(.box [(.t (.int .i64 x7)),(.obj 518193)])),(518193,(.arr true true 1 x8))]⟩
noncomputable def q0h.K0 (n:Nat):Ex→St→R:=kx F.q0h n [.block 0,.seq 0 (cx F.q0h [1,1,1,1,1])] (endOf prog A F.q0h)
noncomputable def q0h.at0 (n:Nat) (m:Nat) (s:St):R:=lx F.q0h n 0 [1,1,1,1,0,1,0,0] (q0h.K0 n) m s
noncomputable def q0h.rd0 (n:Nat) (L0:St→R) (s:St):R:=rx F.q0h n 0 [1,1,1,1,0,1,0,0] (q0h.K0 n) L0 s
theorem q0h.next0 (n:Nat) (m:Nat) (s:St):q0h.at0 n (m+1) s=q0h.rd0 n (q0h.at0 n m) s:=nx _ _ _ _ _ _ _
noncomputable def q0h.K2 (n:Nat) (L0:St→R):Ex→St→R:=kx F.q0h n [.block 2,.seq 1 (cx F.q0h [1,1,1,1,0,1,0,0,1,1,0,0,1,1,1]),.block 1,.seq 0 (cx F.q0h [1,1,1,1,0,1,0,0,1,1,1])] (bx F.q0h 0 (q0h.K0 n) L0)
noncomputable def q0h.at2 (n:Nat) (L0:St→R) (m:Nat) (s:St):R:=lx F.q0h n 2 [1,1,1,1,0,1,0,0,1,1,0,0,1,1,0,1,0,0] (q0h.K2 n L0) m s
noncomputable def q0h.rd2 (n:Nat) (L0:St→R) (L2:St→R) (s:St):R:=rx F.q0h n 2 [1,1,1,1,0,1,0,0,1,1,0,0,1,1,0,1,0,0] (q0h.K2 n L0) L2 s
theorem q0h.next2 (n:Nat) (L0:St→R) (m:Nat) (s:St):q0h.at2 n L0 (m+1) s=q0h.rd2 n L0 (q0h.at2 n L0 m) s:=nx _ _ _ _ _ _ _
theorem q0h.round0 (n:Nat) (L0:St→R) (x0 x1:Int) (x2:List T) (x3 x4 x5 x6 x7:Int) (x8:List T):q0h.rd0 n L0 (q0h.st0 x0 x1 x2 x3 x4 x5 x6 x7 x8)=(bif (decide (x4 < x3)) then (bif inB x4 ((x2).length / 2) then ((x2[((Int.toNat x4)*2)]?).bind fun e7=>((oStr e7).bind fun s8=>((x2[(((Int.toNat x4)*2)+1)]?).bind fun e9=>((oInt .i64 e9).bind fun n10=>((LIM F.q2g [(.int .i64 x0),(.int .i64 n10)]).bind fun r11=>((oNil r11.2).bind fun _=>((oInt .i64 r11.1).bind fun n12=>(q0h.at2 n L0 n (q0h.st2 x0 x1 x2 x3 x4 n12 (0:Int) x5 x6 x7 x8 []))))))))) else none) else some ((.agg [(.int .i64 (0:Int)),(.int .i64 x7),(.sl 1 x8)]),[])):=by kernel_rfl
theorem q0h.round2 (n:Nat) (L0:St→R) (L2:St→R) (x0 x1:Int) (x2:List T) (x3 x4 x5 x6 x7 x8 x9:Int) (x10 x11:List T):q0h.rd2 n L0 L2 (q0h.st2 x0 x1 x2 x3 x4 x5 x6 x7 x8 x9 x10 x11)=(bif (decide (x6 < x5)) then (bif decide (x0=0) then none else (bif Nat.ble (((x11).length+1)*8) (140737488355328*1) then (L2 (q0h.st2 x0 (Int.tmod (IntKind.wrap .i64 ((IntKind.wrap .i64 ((227:Int)*x1))+(1:Int))) (65521:Int)) x2 x3 x4 x5 (IntKind.wrap .i64 (x6+(1:Int))) x7 x8 x9 x10 (x11++[(.int .i64 (Int.tmod (Int.tmod (IntKind.wrap .i64 ((IntKind.wrap .i64 ((227:Int)*x1))+(1:Int))) (65521:Int)) x0))]:List T))) else none)) else (bif Nat.ble (((x10).length+1)*24) (140737488355328*1) then (L0 (q0h.st0 x0 x1 x2 x3 (IntKind.wrap .i64 (x4+(1:Int))) x7 x8 x9 (x10++[(.sl 1 x11)]:List T))) else none)):=by kernel_rfl
theorem q0h.ev (n:Nat) (a0_0:List T) (a1 a2:Int):callK prog A H LIM n F.q0h [(.agg [(.sl 2 a0_0)]),(.int .i64 a1),(.int .i64 a2)]=((LIM F.q04 [(.agg [(.sl 2 a0_0)])]).bind fun r1=>((oNil r1.2).bind fun _=>((oInt .i64 r1.1).bind fun n2=>(bif ((n2 != (0:Int))) then some ((.agg [(.int .i64 n2),(.int .i64 (0:Int)),(.sl 1 [])]),[]) else ((LIM F.q2u [(.int .i64 a1),(.int .i64 (1:Int)),(.int .i64 (3:Int))]).bind fun r3=>((oNil r3.2).bind fun _=>((oBool r3.1).bind fun b4=>(bif (!b4) then some ((.agg [(.int .i64 (3:Int)),(.int .i64 (0:Int)),(.sl 1 [])]),[]) else ((LIM F.q2u [(.int .i64 a2),(.int .i64 (0:Int)),(.int .i64 (65520:Int))]).bind fun r5=>((oNil r5.2).bind fun _=>((oBool r5.1).bind fun b6=>(bif (!b6) then some ((.agg [(.int .i64 (3:Int)),(.int .i64 (0:Int)),(.sl 1 [])]),[]) else (q0h.at0 n n (q0h.st0 a1 a2 a0_0 ((((a0_0).length / 2):Nat):Int) (0:Int) (0:Int) (0:Int) a1 [])))))))))))))):=by kernel_rfl
theorem q5r.ev (n:Nat) (a0_0:Int) (a0_1 a1_0 a2 a3:List T):callK prog A H LIM n F.q5r [(.agg [(.int .i64 a0_0),(.sl 1 a0_1)]),(.agg [(.sl 2 a1_0)]),(.sl 1 a2),(.sl 1 a3)]=((LIM F.q0i [(.agg [(.int .i64 a0_0),(.sl 1 a0_1)]),(.agg [(.sl 2 a1_0)]),(.sl 1 a2),(.sl 1 a3),(.int .i64 (0:Int))]).bind fun r1=>((oNil r1.2).bind fun _=>((oTup r1.1).bind fun c2=>((oCons c2).bind fun p3=>((oInt .i64 p3.1).bind fun n4=>((oCons p3.2).bind fun p5=>((oInt .i64 p5.1).bind fun n6=>((oNil p5.2).bind fun _=>some ((.int .i64 n4),[]))))))))):=by kernel_rfl
def q0i.st0 (x0 x1:List T) (x2 x3 x4 x5 x6 x7:Int) (x8 x9:List T):St:=⟨[(2,ol 1 x0),(3,ol 1 x1),(4,oi x2),(5,(.one (.ptr 320 0))),(6,(.one (.ptr 384 0))),(12,oi x3),(13,oi x4),(35,oi x5),(36,oi x6)],[(320,(.box [(.t (.int .i64 x7)),(.t (.sl 1 x8))])),(384,(.box [(.t (.sl 2 x9))]))]⟩
noncomputable def q0i.K0 (n:Nat):Ex→St→R:=kx F.q0i n [.block 0,.seq 0 (cx F.q0i [1,1,1,1,1,1])] (endOf prog A F.q0i)
noncomputable def q0i.at0 (n:Nat) (m:Nat) (s:St):R:=lx F.q0i n 0 [1,1,1,1,1,0,1,0,0] (q0i.K0 n) m s
noncomputable def q0i.rd0 (n:Nat) (L0:St→R) (s:St):R:=rx F.q0i n 0 [1,1,1,1,1,0,1,0,0] (q0i.K0 n) L0 s
theorem q0i.next0 (n:Nat) (m:Nat) (s:St):q0i.at0 n (m+1) s=q0i.rd0 n (q0i.at0 n m) s:=nx _ _ _ _ _ _ _
theorem q0i.round0 (n:Nat) (L0:St→R) (x0 x1:List T) (x2 x3 x4 x5 x6 x7:Int) (x8 x9:List T):q0i.rd0 n L0 (q0i.st0 x0 x1 x2 x3 x4 x5 x6 x7 x8 x9)=(bif (decide (x6 < x5)) then ((LIM F.q0i [(.agg [(.int .i64 x7),(.sl 1 x8)]),(.agg [(.sl 2 x9)]),(.sl 1 x0),(.sl 1 x1),(.int .i64 x2)]).bind fun r7=>((oNil r7.2).bind fun _=>((oTup r7.1).bind fun c8=>((oCons c8).bind fun p9=>((oInt .i64 p9.1).bind fun n10=>((oCons p9.2).bind fun p11=>((oInt .i64 p11.1).bind fun n12=>((oNil p11.2).bind fun _=>(L0 (q0i.st0 x0 x1 n12 x3 (IntKind.wrap .i64 ((IntKind.wrap .i64 (x4*x7))+n10)) x5 (IntKind.wrap .i64 (x6+(1:Int))) x7 x8 x9)))))))))) else (bif inB x3 ((x8).length / 1) then ((x8[((Int.toNat x3)*1)]?).bind fun e13=>((oSl 1 e13).bind fun c14=>(bif inB x4 ((c14).length / 1) then ((c14[((Int.toNat x4)*1)]?).bind fun e15=>((oInt .i64 e15).bind fun n16=>some ((.tup [(.int .i64 n16),(.int .i64 x2)]),[]))) else none))) else none)):=by kernel_rfl
theorem q0i.ev (n:Nat) (a0_0:Int) (a0_1 a1_0 a2 a3:List T) (a4:Int):callK prog A H LIM n F.q0i [(.agg [(.int .i64 a0_0),(.sl 1 a0_1)]),(.agg [(.sl 2 a1_0)]),(.sl 1 a2),(.sl 1 a3),(.int .i64 a4)]=(bif inB a4 ((a3).length / 1) then ((a3[((Int.toNat a4)*1)]?).bind fun e1=>((oInt .i64 e1).bind fun n2=>(bif (decide (n2 < (0:Int))) then (bif inB (IntKind.wrap .i64 ((-1:Int) - n2)) ((a2).length / 1) then ((a2[((Int.toNat (IntKind.wrap .i64 ((-1:Int) - n2)))*1)]?).bind fun e3=>((oInt .i64 e3).bind fun n4=>some ((.tup [(.int .i64 n4),(.int .i64 (IntKind.wrap .i64 (a4+(1:Int))))]),[]))) else none) else (bif inB n2 ((a1_0).length / 2) then ((a1_0[(((Int.toNat n2)*2)+1)]?).bind fun e5=>((oInt .i64 e5).bind fun n6=>(q0i.at0 n n (q0i.st0 a2 a3 (IntKind.wrap .i64 (a4+(1:Int))) n2 (0:Int) n6 (0:Int) a0_0 a0_1 a1_0)))) else none)))) else none):=by kernel_rfl
theorem q4d.ev (n:Nat) (a0_0 a1 a2 a3:List T) (a4:Int):callK prog A H LIM n F.q4d [(.agg [(.sl 2 a0_0)]),(.sl 2 a1),(.sl 1 a2),(.sl 1 a3),(.int .i64 a4)]=((LIM F.q2v [(.agg [(.sl 2 a0_0)]),(.sl 2 a1),(.sl 1 a2),(.int .i64 a4)]).bind fun r1=>((oNil r1.2).bind fun _=>((oAgg r1.1).bind fun c2=>((oCons c2).bind fun p3=>((oInt .i64 p3.1).bind fun n4=>((oCons p3.2).bind fun p5=>((oSl 1 p5.1).bind fun c6=>((oCons p5.2).bind fun p7=>((oInt .i64 p7.1).bind fun n8=>((oNil p7.2).bind fun _=>(bif ((n4 != (0:Int))) then some ((.agg [(.int .i64 n4),(.int .i64 (0:Int))]),[]) else ((LIM F.q2v [(.agg [(.sl 2 a0_0)]),(.sl 2 a1),(.sl 1 a3),(.int .i64 a4)]).bind fun r9=>((oNil r9.2).bind fun _=>((oAgg r9.1).bind fun c10=>((oCons c10).bind fun p11=>((oInt .i64 p11.1).bind fun n12=>((oCons p11.2).bind fun p13=>((oSl 1 p13.1).bind fun c14=>((oCons p13.2).bind fun p15=>((oInt .i64 p15.1).bind fun n16=>((oNil p15.2).bind fun _=>(bif ((n12 != (0:Int))) then some ((.agg [(.int .i64 n12),(.int .i64 (0:Int))]),[]) else ((LIM F.q0p [(.sl 1 c6),(.sl 1 c14)]).bind fun r17=>((oNil r17.2).bind fun _=>((oBool r17.1).bind fun b18=>(bif b18 then some ((.agg [(.int .i64 (0:Int)),(.int .i64 (1:Int))]),[]) else some ((.agg [(.int .i64 (0:Int)),(.int .i64 (0:Int))]),[]))))))))))))))))))))))))))):=by kernel_rfl
def q0n.st0 (x0:List T) (x1 x2:Int) (x3 x4 x5:List T):St:=⟨[(2,(.one (.ptr 128 0))),(5,(.one (.obj 640))),(11,ol 1 x0),(12,oi x1),(13,oi x2)],[(128,(.box [(.t (.sl 1 x3)),(.t (.sl 1 x4))])),(640,(.arr true true 1 x5))]⟩
noncomputable def q0n.K0 (n:Nat):Ex→St→R:=kx F.q0n n [.block 0,.seq 0 (cx F.q0n [1,1,1])] (endOf prog A F.q0n)
noncomputable def q0n.at0 (n:Nat) (m:Nat) (s:St):R:=lx F.q0n n 0 [1,1,0,1,0,0] (q0n.K0 n) m s
noncomputable def q0n.rd0 (n:Nat) (L0:St→R) (s:St):R:=rx F.q0n n 0 [1,1,0,1,0,0] (q0n.K0 n) L0 s
theorem q0n.next0 (n:Nat) (m:Nat) (s:St):q0n.at0 n (m+1) s=q0n.rd0 n (q0n.at0 n m) s:=nx _ _ _ _ _ _ _
theorem q0n.round0 (n:Nat) (L0:St→R) (x0:List T) (x1 x2:Int) (x3 x4 x5:List T):q0n.rd0 n L0 (q0n.st0 x0 x1 x2 x3 x4 x5)=(bif (decide (x2 < x1)) then (bif inB x2 ((x0).length / 1) then ((x0[((Int.toNat x2)*1)]?).bind fun e1=>((oInt .i64 e1).bind fun n2=>((LIM F.q41 [(.agg [(.sl 1 x3),(.sl 1 x4)]),(.int .i64 (IntKind.wrap .i64 ((-1:Int) - n2)))]).bind fun r3=>((oNil r3.2).bind fun _=>((oTup r3.1).bind fun c4=>((oCons c4).bind fun p5=>((oSl 1 p5.1).bind fun c6=>(bif (c6).all T.scalar then ((oCons p5.2).bind fun p7=>((oBool p7.1).bind fun b8=>((oNil p7.2).bind fun _=>(bif b8 then (bif (c6).all T.scalar then (bif Nat.ble (((x5).length+(c6).length)*8) (140737488355328*1) then (L0 (q0n.st0 x0 x1 (IntKind.wrap .i64 (x2+(1:Int))) x3 x4 (x5++c6:List T))) else none) else none) else (bif Nat.ble (((x5).length+1)*8) (140737488355328*1) then (L0 (q0n.st0 x0 x1 (IntKind.wrap .i64 (x2+(1:Int))) x3 x4 (x5++[(.int .i64 n2)]:List T))) else none))))) else none)))))))) else none) else some ((.sl 1 x5),[])):=by kernel_rfl
theorem q0n.ev (n:Nat) (a0_0 a0_1 a1:List T):callK prog A H LIM n F.q0n [(.agg [(.sl 1 a0_0),(.sl 1 a0_1)]),(.sl 1 a1)]=(q0n.at0 n n (q0n.st0 a1 ((((a1).length / 1):Nat):Int) (0:Int) a0_0 a0_1 [])):=by kernel_rfl
def q0y.st0 (x0:Int) (x1:List T) (x2:Int) (x3 x4:List T):St:=⟨[(0,(.one (.ptr 1000000 0))),(1,oi x0),(2,ol 1 x1),(6,oi x2)],[(1000000,(.box [(.obj 1000001),(.obj 1000002)])),(1000001,(.arr true true 1 x3)),(1000002,(.arr true true 1 x4))]⟩
noncomputable def q0y.K0 (n:Nat):Ex→St→R:=kx F.q0y n [.block 0,.seq 0 (cx F.q0y [1,1])] (endOf prog A F.q0y)
noncomputable def q0y.at0 (n:Nat) (m:Nat) (s:St):R:=lx F.q0y n 0 [1,0,0,0] (q0y.K0 n) m s
noncomputable def q0y.rd0 (n:Nat) (L0:St→R) (s:St):R:=rx F.q0y n 0 [1,0,0,0] (q0y.K0 n) L0 s
theorem q0y.next0 (n:Nat) (m:Nat) (s:St):q0y.at0 n (m+1) s=q0y.rd0 n (q0y.at0 n m) s:=nx _ _ _ _ _ _ _
theorem q0y.round0 (n:Nat) (L0:St→R) (x0:Int) (x1:List T) (x2:Int) (x3 x4:List T):q0y.rd0 n L0 (q0y.st0 x0 x1 x2 x3 x4)=(bif (decide (x2 < ((((x3).length / 1):Nat):Int))) then (bif inB x2 ((x3).length / 1) then ((x3[((Int.toNat x2)*1)]?).bind fun e1=>((oInt .i64 e1).bind fun n2=>(bif (decide (n2 < x0)) then (L0 (q0y.st0 x0 x1 (IntKind.wrap .i64 (x2+(1:Int))) x3 x4)) else ((LIM F.q4o [(.sl 1 x3),(.int .i64 x2),(.sl 1 [(.int .i64 x0)])]).bind fun r3=>((oNil r3.2).bind fun _=>((oSl 1 r3.1).bind fun c4=>((LIM F.q35 [(.sl 1 x1)]).bind fun r5=>((oNil r5.2).bind fun _=>((oSl 1 r5.1).bind fun c6=>((LIM F.q4f [(.sl 1 x4),(.int .i64 x2),(.sl 1 [(.sl 1 c6)])]).bind fun r7=>((oNil r7.2).bind fun _=>((oSl 1 r7.1).bind fun c8=>some ((.tup []),[(.agg [(.sl 1 c4),(.sl 1 c8)])]))))))))))))) else none) else ((LIM F.q4o [(.sl 1 x3),(.int .i64 x2),(.sl 1 [(.int .i64 x0)])]).bind fun r9=>((oNil r9.2).bind fun _=>((oSl 1 r9.1).bind fun c10=>((LIM F.q35 [(.sl 1 x1)]).bind fun r11=>((oNil r11.2).bind fun _=>((oSl 1 r11.1).bind fun c12=>((LIM F.q4f [(.sl 1 x4),(.int .i64 x2),(.sl 1 [(.sl 1 c12)])]).bind fun r13=>((oNil r13.2).bind fun _=>((oSl 1 r13.1).bind fun c14=>some ((.tup []),[(.agg [(.sl 1 c10),(.sl 1 c14)])]))))))))))):=by kernel_rfl
theorem q0y.ev (n:Nat) (a0_0 a0_1:List T) (a1:Int) (a2:List T):callK prog A H LIM n F.q0y [(.rref [(.sl 1 a0_0),(.sl 1 a0_1)] 0),(.int .i64 a1),(.sl 1 a2)]=(q0y.at0 n n (q0y.st0 a1 a2 (0:Int) a0_0 a0_1)):=by kernel_rfl
theorem q41.ev (n:Nat) (a0_0 a0_1:List T) (a1:Int):callK prog A H LIM n F.q41 [(.agg [(.sl 1 a0_0),(.sl 1 a0_1)]),(.int .i64 a1)]=((LIM F.q0j [(.sl 1 a0_0),(.int .i64 a1)]).bind fun r1=>((oNil r1.2).bind fun _=>((oInt .i64 r1.1).bind fun n2=>(bif (decide (n2 < (0:Int))) then some ((.tup [(.sl 1 []),(.bool false)]),[]) else (bif inB n2 ((a0_1).length / 1) then ((a0_1[((Int.toNat n2)*1)]?).bind fun e3=>((oSl 1 e3).bind fun c4=>some ((.tup [(.sl 1 c4),(.bool true)]),[]))) else none))))):=by kernel_rfl
theorem q3z.ev (n:Nat) (a0_0 a1_0 a1_1:List T):callK prog A H LIM n F.q3z [(.agg [(.sl 2 a0_0)]),(.agg [(.sl 1 a1_0),(.sl 1 a1_1)])]=((LIM F.q3h [(.agg [(.sl 2 a0_0)]),(.sl 1 a1_0)]).bind fun r1=>((oNil r1.2).bind fun _=>((oInt .i64 r1.1).bind fun n2=>((LIM F.q3h [(.agg [(.sl 2 a0_0)]),(.sl 1 a1_1)]).bind fun r3=>((oNil r3.2).bind fun _=>((oInt .i64 r3.1).bind fun n4=>((LIM F.q4v [(.sl 1 [(.int .i64 n2),(.int .i64 n4)])]).bind fun r5=>((oNil r5.2).bind fun _=>((oInt .i64 r5.1).bind fun n6=>(bif ((n6 != (0:Int))) then some ((.int .i64 n6),[]) else ((LIM F.q0r [(.sl 1 [(.sl 1 a1_0),(.sl 1 a1_1)])]).bind fun r7=>((oNil r7.2).bind fun _=>((oSl 1 r7.1).bind fun c8=>((LIM F.q1g [(.sl 1 c8),(.clo F.q2k [])]).bind fun r9=>((oNil r9.2).bind fun _=>((oBool r9.1).bind fun b10=>(bif b10 then some ((.int .i64 (3:Int)),[]) else some ((.int .i64 (0:Int)),[])))))))))))))))))):=by kernel_rfl
theorem q2k.ev (n:Nat) (a0:Int):callK prog A H LIM n F.q2k [(.int .i64 a0)]=some ((.bool (decide (a0 ≥ (6:Int)))),[]):=by kernel_rfl
def q0t.st0 (x0:List T) (x1 x2:Int) (x3:List T):St:=⟨[(2,(.one (.ptr 128 0))),(17,ol 2 x0),(18,oi x1),(19,oi x2)],[(128,(.box [(.t (.sl 2 x3))]))]⟩
noncomputable def q0t.K0 (n:Nat):Ex→St→R:=kx F.q0t n [.block 0,.seq 0 (cx F.q0t [1,1,1,1])] (endOf prog A F.q0t)
noncomputable def q0t.at0 (n:Nat) (m:Nat) (s:St):R:=lx F.q0t n 0 [1,1,1,0,1,0,0] (q0t.K0 n) m s
noncomputable def q0t.rd0 (n:Nat) (L0:St→R) (s:St):R:=rx F.q0t n 0 [1,1,1,0,1,0,0] (q0t.K0 n) L0 s
theorem q0t.next0 (n:Nat) (m:Nat) (s:St):q0t.at0 n (m+1) s=q0t.rd0 n (q0t.at0 n m) s:=nx _ _ _ _ _ _ _
theorem q0t.round0 (n:Nat) (L0:St→R) (x0:List T) (x1 x2:Int) (x3:List T):q0t.rd0 n L0 (q0t.st0 x0 x1 x2 x3)=(bif (decide (x2 < x1)) then (bif inB x2 ((x0).length / 2) then ((x0[((Int.toNat x2)*2)]?).bind fun e3=>((oSl 1 e3).bind fun c4=>((x0[(((Int.toNat x2)*2)+1)]?).bind fun e5=>((oSl 1 e5).bind fun c6=>((LIM F.q3z [(.agg [(.sl 2 x3)]),(.agg [(.sl 1 c4),(.sl 1 c6)])]).bind fun r7=>((oNil r7.2).bind fun _=>((oInt .i64 r7.1).bind fun n8=>(bif ((n8 != (0:Int))) then some ((.int .i64 n8),[]) else (L0 (q0t.st0 x0 x1 (IntKind.wrap .i64 (x2+(1:Int))) x3)))))))))) else none) else some ((.int .i64 (0:Int)),[])):=by kernel_rfl
theorem q0t.ev (n:Nat) (a0_0 a1:List T):callK prog A H LIM n F.q0t [(.agg [(.sl 2 a0_0)]),(.sl 2 a1)]=((LIM F.q04 [(.agg [(.sl 2 a0_0)])]).bind fun r1=>((oNil r1.2).bind fun _=>((oInt .i64 r1.1).bind fun n2=>(bif ((n2 != (0:Int))) then some ((.int .i64 n2),[]) else (bif (decide (((((a1).length / 2):Nat):Int) > (12:Int))) then some ((.int .i64 (2:Int)),[]) else (q0t.at0 n n (q0t.st0 a1 ((((a1).length / 2):Nat):Int) (0:Int) a0_0))))))):=by kernel_rfl
theorem q4r.ev (n:Nat) (a0_0:List T) (a1_0:Int) (a1_1 a2 a3:List T):callK prog A H LIM n F.q4r [(.agg [(.sl 2 a0_0)]),(.agg [(.int .i64 a1_0),(.sl 1 a1_1)]),(.sl 1 a2),(.sl 1 a3)]=((LIM F.q0x [(.agg [(.sl 2 a0_0)]),(.agg [(.int .i64 a1_0),(.sl 1 a1_1)])]).bind fun r1=>((oNil r1.2).bind fun _=>((oInt .i64 r1.1).bind fun n2=>((LIM F.q3h [(.agg [(.sl 2 a0_0)]),(.sl 1 a3)]).bind fun r3=>((oNil r3.2).bind fun _=>((oInt .i64 r3.1).bind fun n4=>((LIM F.q4v [(.sl 1 [(.int .i64 n2),(.int .i64 n4)])]).bind fun r5=>((oNil r5.2).bind fun _=>((oInt .i64 r5.1).bind fun n6=>(bif ((n6 != (0:Int))) then some ((.agg [(.int .i64 n6),(.int .i64 (0:Int))]),[]) else (bif ((((((a2).length / 1):Nat):Int) != (6:Int))) then some ((.agg [(.int .i64 (2:Int)),(.int .i64 (0:Int))]),[]) else ((LIM F.q1g [(.sl 1 a2),(.clo F.q3f [(.rref [(.int .i64 a1_0),(.sl 1 a1_1)] 0)])]).bind fun r7=>((oNil r7.2).bind fun _=>((oBool r7.1).bind fun b8=>(bif b8 then some ((.agg [(.int .i64 (3:Int)),(.int .i64 (0:Int))]),[]) else ((LIM F.q12 [(.sl 1 a3)]).bind fun r9=>((oNil r9.2).bind fun _=>((oInt .i64 r9.1).bind fun n10=>(bif (decide (n10 < (-6:Int))) then some ((.agg [(.int .i64 (3:Int)),(.int .i64 (0:Int))]),[]) else ((LIM F.q5r [(.agg [(.int .i64 a1_0),(.sl 1 a1_1)]),(.agg [(.sl 2 a0_0)]),(.sl 1 a2),(.sl 1 a3)]).bind fun r11=>((oNil r11.2).bind fun _=>((oInt .i64 r11.1).bind fun n12=>some ((.agg [(.int .i64 (0:Int)),(.int .i64 n12)]),[]))))))))))))))))))))))):=by kernel_rfl
theorem q3f.ev (n:Nat) (a0 a1_0:Int) (a1_1:List T):callK prog A H LIM n F.q3f [(.int .i64 a0),(.rref [(.int .i64 a1_0),(.sl 1 a1_1)] 0)]=((LIM F.q2u [(.int .i64 a0),(.int .i64 (0:Int)),(.int .i64 (IntKind.wrap .i64 (a1_0 - (1:Int))))]).bind fun r1=>((oNil r1.2).bind fun _=>((oBool r1.1).bind fun b2=>some ((.bool (!b2)),[])))):=by kernel_rfl
theorem q2v.ev (n:Nat) (a0_0 a1 a2:List T) (a3:Int):callK prog A H LIM n F.q2v [(.agg [(.sl 2 a0_0)]),(.sl 2 a1),(.sl 1 a2),(.int .i64 a3)]=((LIM F.q49 [(.agg [(.sl 2 a0_0)]),(.sl 2 a1),(.sl 1 a2)]).bind fun r1=>((oNil r1.2).bind fun _=>((oInt .i64 r1.1).bind fun n2=>(bif ((n2 != (0:Int))) then some ((.agg [(.int .i64 n2),(.sl 1 []),(.int .i64 (0:Int))]),[]) else ((LIM F.q2u [(.int .i64 a3),(.int .i64 (0:Int)),(.int .i64 (200:Int))]).bind fun r3=>((oNil r3.2).bind fun _=>((oBool r3.1).bind fun b4=>(bif (!b4) then some ((.agg [(.int .i64 (3:Int)),(.sl 1 []),(.int .i64 (0:Int))]),[]) else ((LIM F.q14 [(.agg [(.sl 2 a0_0)]),(.sl 2 a1),(.sl 1 a2),(.int .i64 a3)]).bind fun r5=>((oNil r5.2).bind fun _=>((oAgg r5.1).bind fun c6=>((oCons c6).bind fun p7=>((oInt .i64 p7.1).bind fun n8=>((oCons p7.2).bind fun p9=>((oSl 1 p9.1).bind fun c10=>((oCons p9.2).bind fun p11=>((oInt .i64 p11.1).bind fun n12=>((oNil p11.2).bind fun _=>some ((.agg [(.int .i64 n8),(.sl 1 c10),(.int .i64 n12)]),[]))))))))))))))))))):=by kernel_rfl
theorem q56.ev (n:Nat) (a0_0 a1:List T):callK prog A H LIM n F.q56 [(.agg [(.sl 2 a0_0)]),(.sl 2 a1)]=((LIM F.q0t [(.agg [(.sl 2 a0_0)]),(.sl 2 a1)]).bind fun r1=>((oNil r1.2).bind fun _=>((oInt .i64 r1.1).bind fun n2=>(bif ((n2 != (0:Int))) then some ((.int .i64 n2),[]) else ((LIM F.q4k [(.sl 2 a1),(.clo F.q33 [])]).bind fun r3=>((oNil r3.2).bind fun _=>((oBool r3.1).bind fun b4=>(bif b4 then some ((.int .i64 (1:Int)),[]) else some ((.int .i64 (0:Int)),[]))))))))):=by kernel_rfl
theorem q33.ev (n:Nat) (a0_0 a0_1:List T):callK prog A H LIM n F.q33 [(.agg [(.sl 1 a0_0),(.sl 1 a0_1)])]=((LIM F.q71 [(.agg [(.sl 1 a0_0),(.sl 1 a0_1)])]).bind fun r1=>((oNil r1.2).bind fun _=>((oBool r1.1).bind fun b2=>some ((.bool (!b2)),[])))):=by kernel_rfl
def q04.st2 (x0:List T) (x1 x2:Int) (x3:List T):St:=⟨[(1,(.one (.ptr 64 0))),(34,ol 2 x0),(35,oi x1),(36,oi x2)],[(64,(.box [(.t (.sl 2 x3))]))]⟩
def q04.st0 (x0:List T) (x1 x2:Int) (x3:List T):St:=⟨[(1,(.one (.ptr 64 0))),(18,ol 2 x0),(19,oi x1),(20,oi x2)],[(64,(.box [(.t (.sl 2 x3))]))]⟩
noncomputable def q04.K0 (n:Nat):Ex→St→R:=kx F.q04 n [.block 0,.seq 0 (cx F.q04 [1,1,1])] (endOf prog A F.q04)
noncomputable def q04.at0 (n:Nat) (m:Nat) (s:St):R:=lx F.q04 n 0 [1,1,0,1,0,0] (q04.K0 n) m s
noncomputable def q04.rd0 (n:Nat) (L0:St→R) (s:St):R:=rx F.q04 n 0 [1,1,0,1,0,0] (q04.K0 n) L0 s
theorem q04.next0 (n:Nat) (m:Nat) (s:St):q04.at0 n (m+1) s=q04.rd0 n (q04.at0 n m) s:=nx _ _ _ _ _ _ _
noncomputable def q04.K2 (n:Nat):Ex→St→R:=kx F.q04 n [.block 2,.seq 0 (cx F.q04 [1,1,1,1])] (endOf prog A F.q04)
noncomputable def q04.at2 (n:Nat) (m:Nat) (s:St):R:=lx F.q04 n 2 [1,1,1,0,1,0,0] (q04.K2 n) m s
noncomputable def q04.rd2 (n:Nat) (L2:St→R) (s:St):R:=rx F.q04 n 2 [1,1,1,0,1,0,0] (q04.K2 n) L2 s
theorem q04.next2 (n:Nat) (m:Nat) (s:St):q04.at2 n (m+1) s=q04.rd2 n (q04.at2 n m) s:=nx _ _ _ _ _ _ _
theorem q04.round0 (n:Nat) (L0:St→R) (x0:List T) (x1 x2:Int) (x3:List T):q04.rd0 n L0 (q04.st0 x0 x1 x2 x3)=(bif (decide (x2 < x1)) then (bif inB x2 ((x0).length / 2) then ((x0[((Int.toNat x2)*2)]?).bind fun e1=>((oStr e1).bind fun s2=>((x0[(((Int.toNat x2)*2)+1)]?).bind fun e3=>((oInt .i64 e3).bind fun n4=>((LIM F.q70 [(.str s2)]).bind fun r5=>((oNil r5.2).bind fun _=>((oBool r5.1).bind fun b6=>(bif (!b6) then some ((.int .i64 (5:Int)),[]) else ((LIM F.q2u [(.int .i64 n4),(.int .i64 (0:Int)),(.int .i64 (2:Int))]).bind fun r7=>((oNil r7.2).bind fun _=>((oBool r7.1).bind fun b8=>(bif (!b8) then some ((.int .i64 (3:Int)),[]) else (L0 (q04.st0 x0 x1 (IntKind.wrap .i64 (x2+(1:Int))) x3)))))))))))))) else none) else (q04.at2 n n (q04.st2 x3 ((((x3).length / 2):Nat):Int) (0:Int) x3))):=by kernel_rfl
theorem q04.round2 (n:Nat) (L2:St→R) (x0:List T) (x1 x2:Int) (x3:List T):q04.rd2 n L2 (q04.st2 x0 x1 x2 x3)=(bif (decide (x2 < x1)) then (bif inB x2 ((x0).length / 2) then ((x0[((Int.toNat x2)*2)]?).bind fun e9=>((oStr e9).bind fun s10=>((x0[(((Int.toNat x2)*2)+1)]?).bind fun e11=>((oInt .i64 e11).bind fun n12=>((LIM F.q4l [(.agg [(.sl 2 x3)]),(.str s10)]).bind fun r13=>((oNil r13.2).bind fun _=>((oInt .i64 r13.1).bind fun n14=>(bif ((n14 != x2)) then some ((.int .i64 (6:Int)),[]) else (L2 (q04.st2 x0 x1 (IntKind.wrap .i64 (x2+(1:Int))) x3)))))))))) else none) else ((LIM F.q52 [(.sl 2 x3),(.clo F.q2h [])]).bind fun r15=>((oNil r15.2).bind fun _=>((oBool r15.1).bind fun b16=>(bif (!b16) then some ((.int .i64 (4:Int)),[]) else some ((.int .i64 (0:Int)),[])))))):=by kernel_rfl
theorem q04.ev (n:Nat) (a0_0:List T):callK prog A H LIM n F.q04 [(.agg [(.sl 2 a0_0)])]=(bif (decide (((((a0_0).length / 2):Nat):Int) < (1:Int))) then some ((.int .i64 (2:Int)),[]) else (bif (decide (((((a0_0).length / 2):Nat):Int) > (6:Int))) then some ((.int .i64 (2:Int)),[]) else (q04.at0 n n (q04.st0 a0_0 ((((a0_0).length / 2):Nat):Int) (0:Int) a0_0)))):=by kernel_rfl
theorem q2h.ev (n:Nat) (a0_0:ByteArray) (a0_1:Int):callK prog A H LIM n F.q2h [(.agg [(.str a0_0),(.int .i64 a0_1)])]=some ((.bool ((a0_1 == (0:Int)))),[]):=by kernel_rfl
theorem q3h.ev (n:Nat) (a0_0 a1:List T):callK prog A H LIM n F.q3h [(.agg [(.sl 2 a0_0)]),(.sl 1 a1)]=((LIM F.q04 [(.agg [(.sl 2 a0_0)])]).bind fun r1=>((oNil r1.2).bind fun _=>((oInt .i64 r1.1).bind fun n2=>(bif ((n2 != (0:Int))) then some ((.int .i64 n2),[]) else (bif (decide (((((a1).length / 1):Nat):Int) < (1:Int))) then some ((.int .i64 (2:Int)),[]) else (bif (decide (((((a1).length / 1):Nat):Int) > (24:Int))) then some ((.int .i64 (2:Int)),[]) else ((LIM F.q1g [(.sl 1 a1),(.clo F.q37 [(.rref [(.sl 2 a0_0)] 0)])]).bind fun r3=>((oNil r3.2).bind fun _=>((oBool r3.1).bind fun b4=>(bif b4 then some ((.int .i64 (3:Int)),[]) else ((LIM F.q2a [(.agg [(.sl 2 a0_0)]),(.sl 1 a1),(.int .i64 (0:Int))]).bind fun r5=>((oNil r5.2).bind fun _=>((oInt .i64 r5.1).bind fun n6=>(bif ((n6 != ((((a1).length / 1):Nat):Int))) then some ((.int .i64 (1:Int)),[]) else some ((.int .i64 (0:Int)),[]))))))))))))))):=by kernel_rfl
theorem q37.ev (n:Nat) (a0:Int) (a1_0:List T):callK prog A H LIM n F.q37 [(.int .i64 a0),(.rref [(.sl 2 a1_0)] 0)]=((LIM F.q75 [(.agg [(.sl 2 a1_0)]),(.int .i64 a0)]).bind fun r1=>((oNil r1.2).bind fun _=>((oBool r1.1).bind fun b2=>some ((.bool (!b2)),[])))):=by kernel_rfl
theorem q6j.ev (n:Nat) (a0_0:List T) (a1:Int):callK prog A H LIM n F.q6j [(.agg [(.sl 2 a0_0)]),(.int .i64 a1)]=(bif (decide (a1 < (0:Int))) then some ((.int .i64 (0:Int)),[]) else (bif inB a1 ((a0_0).length / 2) then ((a0_0[(((Int.toNat a1)*2)+1)]?).bind fun e1=>((oInt .i64 e1).bind fun n2=>some ((.int .i64 n2),[]))) else none)):=by kernel_rfl
def q2a.st0 (x0:List T) (x1 x2:Int) (x3:List T):St:=⟨[(1,ol 1 x0),(2,oi x1),(3,(.one (.ptr 192 0))),(7,oi x2)],[(192,(.box [(.t (.sl 2 x3))]))]⟩
noncomputable def q2a.K0 (n:Nat):Ex→St→R:=kx F.q2a n [.block 0,.seq 0 (cx F.q2a [1,1])] (endOf prog A F.q2a)
noncomputable def q2a.at0 (n:Nat) (m:Nat) (s:St):R:=lx F.q2a n 0 [1,0,1,0,0] (q2a.K0 n) m s
noncomputable def q2a.rd0 (n:Nat) (L0:St→R) (s:St):R:=rx F.q2a n 0 [1,0,1,0,0] (q2a.K0 n) L0 s
theorem q2a.next0 (n:Nat) (m:Nat) (s:St):q2a.at0 n (m+1) s=q2a.rd0 n (q2a.at0 n m) s:=nx _ _ _ _ _ _ _
theorem q2a.round0 (n:Nat) (L0:St→R) (x0:List T) (x1 x2:Int) (x3:List T):q2a.rd0 n L0 (q2a.st0 x0 x1 x2 x3)=(bif (decide (x2 > (0:Int))) then (bif (decide (x1 ≥ ((((x0).length / 1):Nat):Int))) then some ((.int .i64 (IntKind.wrap .i64 (((((x0).length / 1):Nat):Int)+(1:Int)))),[]) else (bif inB x1 ((x0).length / 1) then ((x0[((Int.toNat x1)*1)]?).bind fun e1=>((oInt .i64 e1).bind fun n2=>((LIM F.q6j [(.agg [(.sl 2 x3)]),(.int .i64 n2)]).bind fun r3=>((oNil r3.2).bind fun _=>((oInt .i64 r3.1).bind fun n4=>(L0 (q2a.st0 x0 (IntKind.wrap .i64 (x1+(1:Int))) (IntKind.wrap .i64 (x2+(IntKind.wrap .i64 (n4 - (1:Int))))) x3))))))) else none)) else some ((.int .i64 x1),[])):=by kernel_rfl
theorem q2a.ev (n:Nat) (a0_0 a1:List T) (a2:Int):callK prog A H LIM n F.q2a [(.agg [(.sl 2 a0_0)]),(.sl 1 a1),(.int .i64 a2)]=(q2a.at0 n n (q2a.st0 a1 a2 (1:Int) a0_0)):=by kernel_rfl
def q0v.st0 (x0 x1:List T) (x2 x3 x4:Int) (x5:List T):St:=⟨[(1,ol 2 x0),(2,ol 1 x1),(3,(.one (.ptr 192 0))),(9,oi x2),(10,oi x3),(11,oi x4)],[(192,(.box [(.t (.sl 2 x5))]))]⟩
noncomputable def q0v.K0 (n:Nat):Ex→St→R:=kx F.q0v n [.block 0,.seq 0 (cx F.q0v [1,1,1])] (endOf prog A F.q0v)
noncomputable def q0v.at0 (n:Nat) (m:Nat) (s:St):R:=lx F.q0v n 0 [1,1,0,1,0,0] (q0v.K0 n) m s
noncomputable def q0v.rd0 (n:Nat) (L0:St→R) (s:St):R:=rx F.q0v n 0 [1,1,0,1,0,0] (q0v.K0 n) L0 s
theorem q0v.next0 (n:Nat) (m:Nat) (s:St):q0v.at0 n (m+1) s=q0v.rd0 n (q0v.at0 n m) s:=nx _ _ _ _ _ _ _
theorem q0v.round0 (n:Nat) (L0:St→R) (x0 x1:List T) (x2 x3 x4:Int) (x5:List T):q0v.rd0 n L0 (q0v.st0 x0 x1 x2 x3 x4 x5)=(bif (decide (x4 ≥ (0:Int))) then (bif (decide (x2 ≥ (0:Int))) then ((LIM F.q2a [(.agg [(.sl 2 x5)]),(.sl 1 x1),(.int .i64 x4)]).bind fun r1=>((oNil r1.2).bind fun _=>((oInt .i64 r1.1).bind fun n2=>((LIM F.q2a [(.agg [(.sl 2 x5)]),(.sl 1 x1),(.int .i64 x2)]).bind fun r3=>((oNil r3.2).bind fun _=>((oInt .i64 r3.1).bind fun n4=>(bif (decide (n2 ≥ n4)) then (L0 (q0v.st0 x0 x1 x2 x3 (IntKind.wrap .i64 (x4 - (1:Int))) x5)) else ((LIM F.q6c [(.agg [(.sl 2 x5)]),(.sl 2 x0),(.sl 1 x1),(.int .i64 x4)]).bind fun r5=>((oNil r5.2).bind fun _=>((oInt .i64 r5.1).bind fun n6=>(bif (decide (n6 ≥ (0:Int))) then (L0 (q0v.st0 x0 x1 x4 n6 (IntKind.wrap .i64 (x4 - (1:Int))) x5)) else (L0 (q0v.st0 x0 x1 x2 x3 (IntKind.wrap .i64 (x4 - (1:Int))) x5))))))))))))) else ((LIM F.q6c [(.agg [(.sl 2 x5)]),(.sl 2 x0),(.sl 1 x1),(.int .i64 x4)]).bind fun r7=>((oNil r7.2).bind fun _=>((oInt .i64 r7.1).bind fun n8=>(bif (decide (n8 ≥ (0:Int))) then (L0 (q0v.st0 x0 x1 x4 n8 (IntKind.wrap .i64 (x4 - (1:Int))) x5)) else (L0 (q0v.st0 x0 x1 x2 x3 (IntKind.wrap .i64 (x4 - (1:Int))) x5))))))) else some ((.tup [(.int .i64 x2),(.int .i64 x3),(.bool (decide (x2 ≥ (0:Int))))]),[])):=by kernel_rfl
theorem q0v.ev (n:Nat) (a0_0 a1 a2:List T):callK prog A H LIM n F.q0v [(.agg [(.sl 2 a0_0)]),(.sl 2 a1),(.sl 1 a2)]=(q0v.at0 n n (q0v.st0 a1 a2 (-1:Int) (-1:Int) (IntKind.wrap .i64 (((((a2).length / 1):Nat):Int) - (1:Int))) a0_0)):=by kernel_rfl
theorem q4v.ev (n:Nat) (a0:List T):callK prog A H LIM n F.q4v [(.sl 1 a0)]=((LIM F.q1s [(.sl 1 a0)]).bind fun r1=>((oNil r1.2).bind fun _=>((oInt .i64 r1.1).bind fun n2=>some ((.int .i64 n2),[])))):=by kernel_rfl
theorem q6g.ev (n:Nat) (a0:List T):callK prog A H LIM n F.q6g [(.sl 1 a0)]=(bif (decide (((((a0).length / 1):Nat):Int) > (24:Int))) then some ((.agg [(.int .i64 (2:Int)),(.sl 1 [])]),[]) else some ((.agg [(.int .i64 (0:Int)),(.sl 1 a0)]),[])):=by kernel_rfl
theorem q70.ev (n:Nat) (a0:ByteArray):callK prog A H LIM n F.q70 [(.str a0)]=(bif (decide ((a0.size:Int) ≥ (1:Int))) then (bif (decide ((a0.size:Int)≤(3:Int))) then ((LIM F.q8h [(.str a0),(.str (ByteArray.mk #[97,98,99,100,101,102,103,104,105,106,107,108,109,110,111,112,113,114,115,116,117,118,119,120,121,122]))]).bind fun r1=>((oNil r1.2).bind fun _=>((oStr r1.1).bind fun s2=>some ((.bool (s2.toList == (ByteArray.mk #[]).toList)),[])))) else some ((.bool false),[])) else some ((.bool false),[])):=by kernel_rfl
theorem q75.ev (n:Nat) (a0_0:List T) (a1:Int):callK prog A H LIM n F.q75 [(.agg [(.sl 2 a0_0)]),(.int .i64 a1)]=((LIM F.q5f [(.agg [(.sl 2 a0_0)]),(.int .i64 a1)]).bind fun r1=>((oNil r1.2).bind fun _=>((oBool r1.1).bind fun b2=>(bif b2 then some ((.bool true),[]) else ((LIM F.q2u [(.int .i64 a1),(.int .i64 (-12:Int)),(.int .i64 (-1:Int))]).bind fun r3=>((oNil r3.2).bind fun _=>((oBool r3.1).bind fun b4=>some ((.bool b4),[])))))))):=by kernel_rfl
theorem q71.ev (n:Nat) (a0_0 a0_1:List T):callK prog A H LIM n F.q71 [(.agg [(.sl 1 a0_0),(.sl 1 a0_1)])]=(bif inB (0:Int) ((a0_0).length / 1) then ((a0_0[0]?).bind fun e1=>((oInt .i64 e1).bind fun n2=>(bif (decide (n2 < (0:Int))) then some ((.bool false),[]) else ((LIM F.q0r [(.sl 1 [(.sl 1 a0_0)])]).bind fun r3=>((oNil r3.2).bind fun _=>((oSl 1 r3.1).bind fun c4=>((LIM F.q0r [(.sl 1 [(.sl 1 a0_1)])]).bind fun r5=>((oNil r5.2).bind fun _=>((oSl 1 r5.1).bind fun c6=>((LIM F.q1g [(.sl 1 c6),(.clo F.q3u [(.rref [(.sl 1 c4)] 0)])]).bind fun r7=>((oNil r7.2).bind fun _=>((oBool r7.1).bind fun b8=>some ((.bool (!b8)),[]))))))))))))) else none):=by kernel_rfl
theorem q3u.ev (n:Nat) (a0:Int) (a1_0:List T):callK prog A H LIM n F.q3u [(.int .i64 a0),(.rref [(.sl 1 a1_0)] 0)]=((LIM F.q3j [(.sl 1 a1_0),(.int .i64 a0)]).bind fun r1=>((oNil r1.2).bind fun _=>((oBool r1.1).bind fun b2=>some ((.bool (!b2)),[])))):=by kernel_rfl
theorem q5f.ev (n:Nat) (a0_0:List T) (a1:Int):callK prog A H LIM n F.q5f [(.agg [(.sl 2 a0_0)]),(.int .i64 a1)]=((LIM F.q2u [(.int .i64 a1),(.int .i64 (0:Int)),(.int .i64 (IntKind.wrap .i64 (((((a0_0).length / 2):Nat):Int) - (1:Int))))]).bind fun r1=>((oNil r1.2).bind fun _=>((oBool r1.1).bind fun b2=>some ((.bool b2),[])))):=by kernel_rfl
def q1n.st0 (x0:List T) (x1:Int) (x2:List T) (x3 x4:Int) (x5 x6 x7:List T):St:=⟨[(2,ol 1 x0),(3,(.one (.ptr 192 0))),(6,(.one (.ptr 384 0))),(8,(.one (.ptr 512 0))),(9,oi x1),(16,ol 1 x2),(17,oi x3),(18,oi x4)],[(192,(.box [(.t (.sl 2 x5))])),(384,(.box [.nil,.nil])),(512,(.box [(.obj 518192),(.obj 518193)])),(518192,(.arr true true 1 x6)),(518193,(.arr true true 1 x7))]⟩
noncomputable def q1n.K0 (n:Nat):Ex→St→R:=kx F.q1n n [.block 0,.seq 0 (cx F.q1n [1,1,1,1])] (endOf prog A F.q1n)
noncomputable def q1n.at0 (n:Nat) (m:Nat) (s:St):R:=lx F.q1n n 0 [1,1,1,0,1,0,0] (q1n.K0 n) m s
noncomputable def q1n.rd0 (n:Nat) (L0:St→R) (s:St):R:=rx F.q1n n 0 [1,1,1,0,1,0,0] (q1n.K0 n) L0 s
theorem q1n.next0 (n:Nat) (m:Nat) (s:St):q1n.at0 n (m+1) s=q1n.rd0 n (q1n.at0 n m) s:=nx _ _ _ _ _ _ _
theorem q1n.round0 (n:Nat) (L0:St→R) (x0:List T) (x1:Int) (x2:List T) (x3 x4:Int) (x5 x6 x7:List T):q1n.rd0 n L0 (q1n.st0 x0 x1 x2 x3 x4 x5 x6 x7)=(bif (decide (x4 < x3)) then (bif inB x4 ((x2).length / 1) then ((x2[((Int.toNat x4)*1)]?).bind fun e1=>((oInt .i64 e1).bind fun n2=>(bif (decide (x1 ≥ ((((x0).length / 1):Nat):Int))) then some ((.tup [(.agg [(.sl 1 []),(.sl 1 [])]),(.bool false)]),[]) else (bif (decide (n2 ≥ (0:Int))) then (bif inB x1 ((x0).length / 1) then ((x0[((Int.toNat x1)*1)]?).bind fun e3=>((oInt .i64 e3).bind fun n4=>(bif ((n4 != n2)) then some ((.tup [(.agg [(.sl 1 []),(.sl 1 [])]),(.bool false)]),[]) else (L0 (q1n.st0 x0 (IntKind.wrap .i64 (x1+(1:Int))) x2 x3 (IntKind.wrap .i64 (x4+(1:Int))) x5 x6 x7))))) else none) else ((LIM F.q43 [(.agg [(.sl 2 x5)]),(.sl 1 x0),(.int .i64 x1)]).bind fun r5=>((oNil r5.2).bind fun _=>((oSl 1 r5.1).bind fun c6=>((LIM F.q41 [(.agg [(.sl 1 x6),(.sl 1 x7)]),(.int .i64 (IntKind.wrap .i64 ((-1:Int) - n2)))]).bind fun r7=>((oNil r7.2).bind fun _=>((oTup r7.1).bind fun c8=>((oCons c8).bind fun p9=>((oSl 1 p9.1).bind fun c10=>(bif (c10).all T.scalar then ((oCons p9.2).bind fun p11=>((oBool p11.1).bind fun b12=>((oNil p11.2).bind fun _=>(bif (!b12) then ((LIM F.q0y [(.rref [(.sl 1 x6),(.sl 1 x7)] 0),(.int .i64 (IntKind.wrap .i64 ((-1:Int) - n2))),(.sl 1 c6)]).bind fun r13=>((oCons r13.2).bind fun p14=>((oNil p14.2).bind fun _=>((oAgg p14.1).bind fun c15=>((oCons c15).bind fun p16=>((oSl 1 p16.1).bind fun c17=>((oCons p16.2).bind fun p18=>((oSl 1 p18.1).bind fun c19=>((oNil p18.2).bind fun _=>((oTup r13.1).bind fun c20=>((oNil c20).bind fun _=>(L0 (q1n.st0 x0 (IntKind.wrap .i64 (x1+((((c6).length / 1):Nat):Int))) x2 x3 (IntKind.wrap .i64 (x4+(1:Int))) x5 c17 c19))))))))))))) else ((LIM F.q0p [(.sl 1 c10),(.sl 1 c6)]).bind fun r21=>((oNil r21.2).bind fun _=>((oBool r21.1).bind fun b22=>(bif (!b22) then some ((.tup [(.agg [(.sl 1 []),(.sl 1 [])]),(.bool false)]),[]) else (L0 (q1n.st0 x0 (IntKind.wrap .i64 (x1+((((c6).length / 1):Nat):Int))) x2 x3 (IntKind.wrap .i64 (x4+(1:Int))) x5 x6 x7)))))))))) else none))))))))))))) else none) else some ((.tup [(.agg [(.sl 1 x6),(.sl 1 x7)]),(.bool ((x1 == ((((x0).length / 1):Nat):Int))))]),[])):=by kernel_rfl
theorem q1n.ev (n:Nat) (a0_0 a1 a2:List T):callK prog A H LIM n F.q1n [(.agg [(.sl 2 a0_0)]),(.sl 1 a1),(.sl 1 a2)]=(q1n.at0 n n (q1n.st0 a2 (0:Int) a1 ((((a1).length / 1):Nat):Int) (0:Int) a0_0 [] [])):=by kernel_rfl
def q14.st0 (x0:List T) (x1 x2:Int) (x3:List T) (x4 x5:Int) (x6:List T):St:=⟨[(1,ol 2 x0),(3,oi x1),(4,(.one (.ptr 256 0))),(8,(.one (.ptr 512 0))),(9,(.one (.obj 1024))),(10,oi x2)],[(256,(.box [(.t (.sl 2 x3))])),(512,(.box [(.t (.int .i64 x4)),.nil,(.t (.int .i64 x5))])),(1024,(.arr true true 1 x6))]⟩
noncomputable def q14.K0 (n:Nat):Ex→St→R:=kx F.q14 n [.block 0] (endOf prog A F.q14)
noncomputable def q14.at0 (n:Nat) (m:Nat) (s:St):R:=lx F.q14 n 0 [1,1,1,0,0] (q14.K0 n) m s
noncomputable def q14.rd0 (n:Nat) (L0:St→R) (s:St):R:=rx F.q14 n 0 [1,1,1,0,0] (q14.K0 n) L0 s
theorem q14.next0 (n:Nat) (m:Nat) (s:St):q14.at0 n (m+1) s=q14.rd0 n (q14.at0 n m) s:=nx _ _ _ _ _ _ _
theorem q14.round0 (n:Nat) (L0:St→R) (x0:List T) (x1 x2:Int) (x3:List T) (x4 x5:Int) (x6:List T):q14.rd0 n L0 (q14.st0 x0 x1 x2 x3 x4 x5 x6)=((LIM F.q0v [(.agg [(.sl 2 x3)]),(.sl 2 x0),(.sl 1 x6)]).bind fun r3=>((oNil r3.2).bind fun _=>((oTup r3.1).bind fun c4=>((oCons c4).bind fun p5=>((oInt .i64 p5.1).bind fun n6=>((oCons p5.2).bind fun p7=>((oInt .i64 p7.1).bind fun n8=>((oCons p7.2).bind fun p9=>((oBool p9.1).bind fun b10=>((oNil p9.2).bind fun _=>(bif (!b10) then some ((.agg [(.int .i64 (0:Int)),(.sl 1 x6),(.int .i64 x2)]),[]) else (bif ((x2 == x1)) then some ((.agg [(.int .i64 (9:Int)),(.sl 1 []),(.int .i64 (0:Int))]),[]) else (bif inB n8 ((x0).length / 2) then ((x0[((Int.toNat n8)*2)]?).bind fun e11=>((oSl 1 e11).bind fun c12=>((x0[(((Int.toNat n8)*2)+1)]?).bind fun e13=>((oSl 1 e13).bind fun c14=>((LIM F.q5l [(.agg [(.sl 2 x3)]),(.agg [(.sl 1 c12),(.sl 1 c14)]),(.sl 1 x6),(.int .i64 n6)]).bind fun r15=>((oNil r15.2).bind fun _=>((oAgg r15.1).bind fun c16=>((oCons c16).bind fun p17=>((oInt .i64 p17.1).bind fun n18=>((oCons p17.2).bind fun p19=>((oSl 1 p19.1).bind fun c20=>((oNil p19.2).bind fun _=>(bif ((n18 != (0:Int))) then some ((.agg [(.int .i64 n18),(.sl 1 []),(.int .i64 (0:Int))]),[]) else (L0 (q14.st0 x0 x1 (IntKind.wrap .i64 (x2+(1:Int))) x3 x4 x5 c20))))))))))))))) else none))))))))))))):=by kernel_rfl
theorem q14.ev (n:Nat) (a0_0 a1 a2:List T) (a3:Int):callK prog A H LIM n F.q14 [(.agg [(.sl 2 a0_0)]),(.sl 2 a1),(.sl 1 a2),(.int .i64 a3)]=((LIM F.q35 [(.sl 1 a2)]).bind fun r1=>((oNil r1.2).bind fun _=>((oSl 1 r1.1).bind fun c2=>(q14.at0 n n (q14.st0 a1 a3 (0:Int) a0_0 (0:Int) (0:Int) c2))))):=by kernel_rfl
def q2g.st0 (x0 x1 x2 x3:Int):St:=⟨[(0,oi x0),(5,oi x1),(6,oi x2),(7,oi x3)],[]⟩
noncomputable def q2g.K0 (n:Nat):Ex→St→R:=kx F.q2g n [.block 0,.seq 0 (cx F.q2g [1,1,1])] (endOf prog A F.q2g)
noncomputable def q2g.at0 (n:Nat) (m:Nat) (s:St):R:=lx F.q2g n 0 [1,1,0,1,0,0] (q2g.K0 n) m s
noncomputable def q2g.rd0 (n:Nat) (L0:St→R) (s:St):R:=rx F.q2g n 0 [1,1,0,1,0,0] (q2g.K0 n) L0 s
theorem q2g.next0 (n:Nat) (m:Nat) (s:St):q2g.at0 n (m+1) s=q2g.rd0 n (q2g.at0 n m) s:=nx _ _ _ _ _ _ _
theorem q2g.round0 (n:Nat) (L0:St→R) (x0 x1 x2 x3:Int):q2g.rd0 n L0 (q2g.st0 x0 x1 x2 x3)=(bif (decide (x3 < x2)) then (L0 (q2g.st0 x0 (IntKind.wrap .i64 (x1*x0)) x2 (IntKind.wrap .i64 (x3+(1:Int))))) else some ((.int .i64 x1),[])):=by kernel_rfl
theorem q2g.ev (n:Nat) (a0 a1:Int):callK prog A H LIM n F.q2g [(.int .i64 a0),(.int .i64 a1)]=(q2g.at0 n n (q2g.st0 a0 (1:Int) a1 (0:Int))):=by kernel_rfl
theorem q5v.ev (n:Nat) (a0_0 a1:List T) (a2:Int) (a3:List T):callK prog A H LIM n F.q5v [(.agg [(.sl 2 a0_0)]),(.sl 1 a1),(.int .i64 a2),(.sl 1 a3)]=(bif decide (0≤(0:Int))&&decide ((0:Int)≤a2)&&decide (a2≤((((a1).length / 1):Nat):Int)) then ((LIM F.q35 [(.sl 1 ((a1.take ((Int.toNat a2)*1)).drop (0*1)))]).bind fun r1=>((oNil r1.2).bind fun _=>((oSl 1 r1.1).bind fun c2=>(bif (a3).all T.scalar then (bif Nat.ble (((c2).length+(a3).length)*8) (140737488355328*1) then ((LIM F.q2a [(.agg [(.sl 2 a0_0)]),(.sl 1 a1),(.int .i64 a2)]).bind fun r3=>((oNil r3.2).bind fun _=>((oInt .i64 r3.1).bind fun n4=>(bif decide (0≤n4)&&decide (n4≤((((a1).length / 1):Nat):Int))&&decide (((((a1).length / 1):Nat):Int)≤((((a1).length / 1):Nat):Int)) then (bif (((a1.take ((Int.toNat ((((a1).length / 1):Nat):Int))*1)).drop ((Int.toNat n4)*1))).all T.scalar then (bif Nat.ble ((((c2++a3:List T)).length+(((a1.take ((Int.toNat ((((a1).length / 1):Nat):Int))*1)).drop ((Int.toNat n4)*1))).length)*8) (140737488355328*1) then some ((.sl 1 ((c2++a3:List T)++((a1.take ((Int.toNat ((((a1).length / 1):Nat):Int))*1)).drop ((Int.toNat n4)*1)):List T)),[]) else none) else none) else none)))) else none) else none)))) else none):=by kernel_rfl
theorem q49.ev (n:Nat) (a0_0 a1 a2:List T):callK prog A H LIM n F.q49 [(.agg [(.sl 2 a0_0)]),(.sl 2 a1),(.sl 1 a2)]=((LIM F.q56 [(.agg [(.sl 2 a0_0)]),(.sl 2 a1)]).bind fun r1=>((oNil r1.2).bind fun _=>((oInt .i64 r1.1).bind fun n2=>((LIM F.q3h [(.agg [(.sl 2 a0_0)]),(.sl 1 a2)]).bind fun r3=>((oNil r3.2).bind fun _=>((oInt .i64 r3.1).bind fun n4=>((LIM F.q4v [(.sl 1 [(.int .i64 n2),(.int .i64 n4)])]).bind fun r5=>((oNil r5.2).bind fun _=>((oInt .i64 r5.1).bind fun n6=>some ((.int .i64 n6),[])))))))))):=by kernel_rfl
theorem q5l.ev (n:Nat) (a0_0 a1_0 a1_1 a2:List T) (a3:Int):callK prog A H LIM n F.q5l [(.agg [(.sl 2 a0_0)]),(.agg [(.sl 1 a1_0),(.sl 1 a1_1)]),(.sl 1 a2),(.int .i64 a3)]=((LIM F.q43 [(.agg [(.sl 2 a0_0)]),(.sl 1 a2),(.int .i64 a3)]).bind fun r1=>((oNil r1.2).bind fun _=>((oSl 1 r1.1).bind fun c2=>((LIM F.q1n [(.agg [(.sl 2 a0_0)]),(.sl 1 a1_0),(.sl 1 c2)]).bind fun r3=>((oNil r3.2).bind fun _=>((oTup r3.1).bind fun c4=>((oCons c4).bind fun p5=>((oAgg p5.1).bind fun c6=>((oCons c6).bind fun p7=>((oSl 1 p7.1).bind fun c8=>((oCons p7.2).bind fun p9=>((oSl 1 p9.1).bind fun c10=>((oNil p9.2).bind fun _=>((oCons p5.2).bind fun p11=>((oBool p11.1).bind fun b12=>((oNil p11.2).bind fun _=>(bif (!b12) then some ((.agg [(.int .i64 (4:Int)),(.sl 1 [])]),[]) else ((LIM F.q0n [(.agg [(.sl 1 c8),(.sl 1 c10)]),(.sl 1 a1_1)]).bind fun r13=>((oNil r13.2).bind fun _=>((oSl 1 r13.1).bind fun c14=>((LIM F.q5v [(.agg [(.sl 2 a0_0)]),(.sl 1 a2),(.int .i64 a3),(.sl 1 c14)]).bind fun r15=>((oNil r15.2).bind fun _=>((oSl 1 r15.1).bind fun c16=>((LIM F.q6g [(.sl 1 c16)]).bind fun r17=>((oNil r17.2).bind fun _=>((oAgg r17.1).bind fun c18=>((oCons c18).bind fun p19=>((oInt .i64 p19.1).bind fun n20=>((oCons p19.2).bind fun p21=>((oSl 1 p21.1).bind fun c22=>((oNil p21.2).bind fun _=>some ((.agg [(.int .i64 n20),(.sl 1 c22)]),[])))))))))))))))))))))))))))))))):=by kernel_rfl
theorem q6c.ev (n:Nat) (a0_0 a1 a2:List T) (a3:Int):callK prog A H LIM n F.q6c [(.agg [(.sl 2 a0_0)]),(.sl 2 a1),(.sl 1 a2),(.int .i64 a3)]=((LIM F.q43 [(.agg [(.sl 2 a0_0)]),(.sl 1 a2),(.int .i64 a3)]).bind fun r1=>((oNil r1.2).bind fun _=>((oSl 1 r1.1).bind fun c2=>((LIM F.q1a [(.sl 2 a1),(.clo F.q4q [(.rref [(.sl 2 a0_0)] 0),(.rref [(.sl 1 c2)] 0)])]).bind fun r3=>((oNil r3.2).bind fun _=>((oInt .i64 r3.1).bind fun n4=>some ((.int .i64 n4),[]))))))):=by kernel_rfl
theorem q4q.ev (n:Nat) (a0_0 a0_1 a1_0 a2_0:List T):callK prog A H LIM n F.q4q [(.agg [(.sl 1 a0_0),(.sl 1 a0_1)]),(.rref [(.sl 2 a1_0)] 0),(.rref [(.sl 1 a2_0)] 0)]=((LIM F.q1n [(.agg [(.sl 2 a1_0)]),(.sl 1 a0_0),(.sl 1 a2_0)]).bind fun r1=>((oNil r1.2).bind fun _=>((oTup r1.1).bind fun c2=>((oCons c2).bind fun p3=>((oAgg p3.1).bind fun c4=>((oCons c4).bind fun p5=>((oSl 1 p5.1).bind fun c6=>((oCons p5.2).bind fun p7=>((oSl 1 p7.1).bind fun c8=>((oNil p7.2).bind fun _=>((oCons p3.2).bind fun p9=>((oBool p9.1).bind fun b10=>((oNil p9.2).bind fun _=>some ((.bool b10),[])))))))))))))):=by kernel_rfl
theorem q43.ev (n:Nat) (a0_0 a1:List T) (a2:Int):callK prog A H LIM n F.q43 [(.agg [(.sl 2 a0_0)]),(.sl 1 a1),(.int .i64 a2)]=((LIM F.q2a [(.agg [(.sl 2 a0_0)]),(.sl 1 a1),(.int .i64 a2)]).bind fun r1=>((oNil r1.2).bind fun _=>((oInt .i64 r1.1).bind fun n2=>(bif decide (0≤a2)&&decide (a2≤n2)&&decide (n2≤((((a1).length / 1):Nat):Int)) then some ((.sl 1 ((a1.take ((Int.toNat n2)*1)).drop ((Int.toNat a2)*1))),[]) else none)))):=by kernel_rfl
theorem q4l.ev (n:Nat) (a0_0:List T) (a1:ByteArray):callK prog A H LIM n F.q4l [(.agg [(.sl 2 a0_0)]),(.str a1)]=((LIM F.q1h [(.sl 2 a0_0),(.clo F.q3k [(.rref [(.str a1)] 0)])]).bind fun r1=>((oNil r1.2).bind fun _=>((oInt .i64 r1.1).bind fun n2=>some ((.int .i64 n2),[])))):=by kernel_rfl
theorem q3k.ev (n:Nat) (a0_0:ByteArray) (a0_1:Int) (a1_0:ByteArray):callK prog A H LIM n F.q3k [(.agg [(.str a0_0),(.int .i64 a0_1)]),(.rref [(.str a1_0)] 0)]=some ((.bool (a0_0.toList == a1_0.toList)),[]):=by kernel_rfl
def q0r.st2 (x0:List T) (x1 x2:Int) (x3:List T) (x4 x5:Int) (x6:List T):St:=⟨[(3,(.one (.obj 512))),(9,ol 1 x0),(10,oi x1),(11,oi x2),(15,ol 1 x3),(16,oi x4),(17,oi x5)],[(512,(.arr true true 1 x6))]⟩
def q0r.st0 (x0:List T) (x1 x2:Int) (x3:List T):St:=⟨[(3,(.one (.obj 512))),(9,ol 1 x0),(10,oi x1),(11,oi x2)],[(512,(.arr true true 1 x3))]⟩
noncomputable def q0r.K0 (n:Nat):Ex→St→R:=kx F.q0r n [.block 0,.seq 0 (cx F.q0r [1,1,1])] (endOf prog A F.q0r)
noncomputable def q0r.at0 (n:Nat) (m:Nat) (s:St):R:=lx F.q0r n 0 [1,1,0,1,0,0] (q0r.K0 n) m s
noncomputable def q0r.rd0 (n:Nat) (L0:St→R) (s:St):R:=rx F.q0r n 0 [1,1,0,1,0,0] (q0r.K0 n) L0 s
theorem q0r.next0 (n:Nat) (m:Nat) (s:St):q0r.at0 n (m+1) s=q0r.rd0 n (q0r.at0 n m) s:=nx _ _ _ _ _ _ _
noncomputable def q0r.K2 (n:Nat) (L0:St→R):Ex→St→R:=kx F.q0r n [.block 2,.block 1,.seq 0 (cx F.q0r [1,1,0,1,0,0,1,1,1])] (bx F.q0r 0 (q0r.K0 n) L0)
noncomputable def q0r.at2 (n:Nat) (L0:St→R) (m:Nat) (s:St):R:=lx F.q0r n 2 [1,1,0,1,0,0,1,1,0,0,1,1,0,0] (q0r.K2 n L0) m s
noncomputable def q0r.rd2 (n:Nat) (L0:St→R) (L2:St→R) (s:St):R:=rx F.q0r n 2 [1,1,0,1,0,0,1,1,0,0,1,1,0,0] (q0r.K2 n L0) L2 s
theorem q0r.next2 (n:Nat) (L0:St→R) (m:Nat) (s:St):q0r.at2 n L0 (m+1) s=q0r.rd2 n L0 (q0r.at2 n L0 m) s:=nx _ _ _ _ _ _ _
theorem q0r.round0 (n:Nat) (L0:St→R) (x0:List T) (x1 x2:Int) (x3:List T):q0r.rd0 n L0 (q0r.st0 x0 x1 x2 x3)=(bif (decide (x2 < x1)) then (bif inB x2 ((x0).length / 1) then ((x0[((Int.toNat x2)*1)]?).bind fun e1=>((oSl 1 e1).bind fun c2=>(q0r.at2 n L0 n (q0r.st2 x0 x1 x2 c2 ((((c2).length / 1):Nat):Int) (0:Int) x3)))) else none) else ((LIM F.q63 [(.sl 1 x3)]).bind fun r5=>((oCons r5.2).bind fun p6=>((oNil p6.2).bind fun _=>((oSl 1 p6.1).bind fun c7=>((oTup r5.1).bind fun c8=>((oNil c8).bind fun _=>((LIM F.q5g [(.sl 1 c7)]).bind fun r9=>((oNil r9.2).bind fun _=>((oSl 1 r9.1).bind fun c10=>some ((.sl 1 c10),[]))))))))))):=by kernel_rfl
theorem q0r.round2 (n:Nat) (L0:St→R) (L2:St→R) (x0:List T) (x1 x2:Int) (x3:List T) (x4 x5:Int) (x6:List T):q0r.rd2 n L0 L2 (q0r.st2 x0 x1 x2 x3 x4 x5 x6)=(bif (decide (x5 < x4)) then (bif inB x5 ((x3).length / 1) then ((x3[((Int.toNat x5)*1)]?).bind fun e3=>((oInt .i64 e3).bind fun n4=>(bif (decide (n4 < (0:Int))) then (bif Nat.ble (((x6).length+1)*8) (140737488355328*1) then (L2 (q0r.st2 x0 x1 x2 x3 x4 (IntKind.wrap .i64 (x5+(1:Int))) (x6++[(.int .i64 (IntKind.wrap .i64 ((-1:Int) - n4)))]:List T))) else none) else (L2 (q0r.st2 x0 x1 x2 x3 x4 (IntKind.wrap .i64 (x5+(1:Int))) x6))))) else none) else (L0 (q0r.st0 x0 x1 (IntKind.wrap .i64 (x2+(1:Int))) x6))):=by kernel_rfl
theorem q0r.ev (n:Nat) (a0:List T):callK prog A H LIM n F.q0r [(.sl 1 a0)]=(q0r.at0 n n (q0r.st0 a0 ((((a0).length / 1):Nat):Int) (0:Int) [])):=by kernel_rfl
theorem q2u.ev (n:Nat) (a0 a1 a2:Int):callK prog A H LIM n F.q2u [(.int .i64 a0),(.int .i64 a1),(.int .i64 a2)]=(bif (decide (a0 ≥ a1)) then some ((.bool (decide (a0≤a2))),[]) else some ((.bool false),[])):=by kernel_rfl
def q0l.st2 (x0:List T) (x1 x2 x3:Int) (x4 x5 x6 x7:List T) (x8 x9:Int) (x10:List T) (x11 x12:Int) (x13:List T):St:=⟨[(0,ol 1 x0),(3,(.one (.ptr 192 0))),(4,(.one (.obj 1153))),(5,(.one (.obj 1154))),(6,oi x1),(7,(.one (.ptr 448 0))),(8,oi x2),(9,(.one (.ptr 576 0))),(10,(.one (.obj 4160))),(11,oi x3)],[(1152,(.arr false true 2 x4)),(1153,(.arr true true 2 x5)),(1154,(.arr true true 1 x6)),(192,(.box [(.obj 1152)])),(1729,(.arr false true 1 x7)),(448,(.box [(.t (.int .i64 x8)),(.obj 1729),(.t (.int .i64 x9))])),(3458,(.arr false true 1 x10)),(576,(.box [(.t (.int .i64 x11)),(.t (.int .i64 x12)),(.obj 3458)])),(4160,(.arr true true 1 x13))]⟩
def q0l.st0 (x0:List T) (x1 x2:Int) (x3 x4 x5 x6:List T) (x7 x8:Int):St:=⟨[(0,ol 1 x0),(3,(.one (.ptr 192 0))),(4,(.one (.obj 1153))),(5,(.one (.obj 1154))),(6,oi x1),(7,(.one (.ptr 448 0))),(8,oi x2)],[(1152,(.arr false true 2 x3)),(1153,(.arr true true 2 x4)),(1154,(.arr true true 1 x5)),(192,(.box [(.obj 1152)])),(1729,(.arr false true 1 x6)),(448,(.box [(.t (.int .i64 x7)),(.obj 1729),(.t (.int .i64 x8))]))]⟩
noncomputable def q0l.K0 (n:Nat):Ex→St→R:=kx F.q0l n [.block 0,.seq 0 (cx F.q0l [1,1,1,1,1,1,1])] (endOf prog A F.q0l)
noncomputable def q0l.at0 (n:Nat) (m:Nat) (s:St):R:=lx F.q0l n 0 [1,1,1,1,1,1,0,1,0,0] (q0l.K0 n) m s
noncomputable def q0l.rd0 (n:Nat) (L0:St→R) (s:St):R:=rx F.q0l n 0 [1,1,1,1,1,1,0,1,0,0] (q0l.K0 n) L0 s
theorem q0l.next0 (n:Nat) (m:Nat) (s:St):q0l.at0 n (m+1) s=q0l.rd0 n (q0l.at0 n m) s:=nx _ _ _ _ _ _ _
noncomputable def q0l.K2 (n:Nat) (L0:St→R):Ex→St→R:=kx F.q0l n [.block 2,.seq 1 (cx F.q0l [1,1,1,1,1,1,0,1,0,0,1,0,0,1,1,1,1]),.block 1,.seq 0 (cx F.q0l [1,1,1,1,1,1,0,1,0,0,1,1])] (bx F.q0l 0 (q0l.K0 n) L0)
noncomputable def q0l.at2 (n:Nat) (L0:St→R) (m:Nat) (s:St):R:=lx F.q0l n 2 [1,1,1,1,1,1,0,1,0,0,1,0,0,1,1,1,0,1,0,0] (q0l.K2 n L0) m s
noncomputable def q0l.rd2 (n:Nat) (L0:St→R) (L2:St→R) (s:St):R:=rx F.q0l n 2 [1,1,1,1,1,1,0,1,0,0,1,0,0,1,1,1,0,1,0,0] (q0l.K2 n L0) L2 s
theorem q0l.next2 (n:Nat) (L0:St→R) (m:Nat) (s:St):q0l.at2 n L0 (m+1) s=q0l.rd2 n L0 (q0l.at2 n L0 m) s:=nx _ _ _ _ _ _ _
theorem q0l.round0 (n:Nat) (L0:St→R) (x0:List T) (x1 x2:Int) (x3 x4 x5 x6:List T) (x7 x8:Int):q0l.rd0 n L0 (q0l.st0 x0 x1 x2 x3 x4 x5 x6 x7 x8)=(bif (decide (x2 < (6:Int))) then ((LIM F.q5z [(.sl 1 x0),(.int .i64 x2),(.int .i64 (40:Int))]).bind fun r31=>((oNil r31.2).bind fun _=>((oInt .i64 r31.1).bind fun n32=>((LIM F.q0h [(.agg [(.sl 2 x3)]),(.int .i64 (IntKind.wrap .i64 ((1:Int)+(Int.tmod x2 (3:Int))))),(.int .i64 (IntKind.wrap .i64 ((IntKind.wrap .i64 ((50:Int)*x2))+n32)))]).bind fun r33=>((oNil r33.2).bind fun _=>((oAgg r33.1).bind fun c34=>((oCons c34).bind fun p35=>((oInt .i64 p35.1).bind fun n36=>((oCons p35.2).bind fun p37=>((oInt .i64 p37.1).bind fun n38=>((oCons p37.2).bind fun p39=>((oSl 1 p39.1).bind fun c40=>((oNil p39.2).bind fun _=>(bif ((n36 != (0:Int))) then some ((.bool false),[]) else ((LIM F.q0x [(.agg [(.sl 2 x3)]),(.agg [(.int .i64 n38),(.sl 1 c40)])]).bind fun r41=>((oNil r41.2).bind fun _=>((oInt .i64 r41.1).bind fun n42=>(bif ((n42 != (0:Int))) then some ((.bool false),[]) else (q0l.at2 n L0 n (q0l.st2 x0 x1 x2 (0:Int) x3 x4 x5 x6 x7 x8 c40 n36 n38 [])))))))))))))))))))) else ((LIM F.q4d [(.agg [(.sl 2 x3)]),(.sl 2 x4),(.sl 1 x5),(.sl 1 x6),(.int .i64 x1)]).bind fun r63=>((oNil r63.2).bind fun _=>((oAgg r63.1).bind fun c64=>((oCons c64).bind fun p65=>((oInt .i64 p65.1).bind fun n66=>((oCons p65.2).bind fun p67=>((oInt .i64 p67.1).bind fun n68=>((oNil p67.2).bind fun _=>some ((.bool ((n68 == (1:Int)))),[])))))))))):=by kernel_rfl
theorem q0l.round2 (n:Nat) (L0:St→R) (L2:St→R) (x0:List T) (x1 x2 x3:Int) (x4 x5 x6 x7:List T) (x8 x9:Int) (x10:List T) (x11 x12:Int) (x13:List T):q0l.rd2 n L0 L2 (q0l.st2 x0 x1 x2 x3 x4 x5 x6 x7 x8 x9 x10 x11 x12 x13)=(bif (decide (x3 < (6:Int))) then ((LIM F.q5z [(.sl 1 x0),(.int .i64 x3),(.int .i64 x12)]).bind fun r43=>((oNil r43.2).bind fun _=>((oInt .i64 r43.1).bind fun n44=>(bif Nat.ble (((x13).length+1)*8) (140737488355328*1) then (L2 (q0l.st2 x0 x1 x2 (IntKind.wrap .i64 (x3+(1:Int))) x4 x5 x6 x7 x8 x9 x10 x11 x12 (x13++[(.int .i64 n44)]:List T))) else none)))) else ((LIM F.q4r [(.agg [(.sl 2 x4)]),(.agg [(.int .i64 x12),(.sl 1 x10)]),(.sl 1 x13),(.sl 1 x6)]).bind fun r45=>((oNil r45.2).bind fun _=>((oAgg r45.1).bind fun c46=>((oCons c46).bind fun p47=>((oInt .i64 p47.1).bind fun n48=>((oCons p47.2).bind fun p49=>((oInt .i64 p49.1).bind fun n50=>((oNil p49.2).bind fun _=>((LIM F.q4r [(.agg [(.sl 2 x4)]),(.agg [(.int .i64 x12),(.sl 1 x10)]),(.sl 1 x13),(.sl 1 x7)]).bind fun r51=>((oNil r51.2).bind fun _=>((oAgg r51.1).bind fun c52=>((oCons c52).bind fun p53=>((oInt .i64 p53.1).bind fun n54=>((oCons p53.2).bind fun p55=>((oInt .i64 p55.1).bind fun n56=>((oNil p55.2).bind fun _=>(bif ((n48 == (0:Int))) then ((LIM F.q6d [(.agg [(.sl 2 x4)]),(.agg [(.int .i64 x12),(.sl 1 x10)]),(.sl 2 x5)]).bind fun r57=>((oNil r57.2).bind fun _=>((oAgg r57.1).bind fun c58=>((oCons c58).bind fun p59=>((oInt .i64 p59.1).bind fun n60=>((oCons p59.2).bind fun p61=>((oInt .i64 p61.1).bind fun n62=>((oNil p61.2).bind fun _=>(bif ((n62 == (1:Int))) then (bif (!((n48 == n54)&&(n50 == n56))) then some ((.bool false),[]) else (L0 (q0l.st0 x0 x1 (IntKind.wrap .i64 (x2+(1:Int))) x4 x5 x6 x7 x8 x9))) else (L0 (q0l.st0 x0 x1 (IntKind.wrap .i64 (x2+(1:Int))) x4 x5 x6 x7 x8 x9))))))))))) else (L0 (q0l.st0 x0 x1 (IntKind.wrap .i64 (x2+(1:Int))) x4 x5 x6 x7 x8 x9)))))))))))))))))))):=by kernel_rfl
theorem q0l.ev (n:Nat) (a0:List T):callK prog A H LIM n F.q0l [(.sl 1 a0)]=((LIM F.q6o [(.sl 1 a0)]).bind fun r1=>((oNil r1.2).bind fun _=>((oBool r1.1).bind fun b2=>(bif b2 then some ((.bool true),[]) else ((LIM F.q3v [(.sl 1 a0)]).bind fun r3=>((oNil r3.2).bind fun _=>((oTup r3.1).bind fun c4=>((oCons c4).bind fun p5=>((oAgg p5.1).bind fun c6=>((oCons c6).bind fun p7=>((oSl 2 p7.1).bind fun c8=>((oNil p7.2).bind fun _=>((oCons p5.2).bind fun p9=>((oSl 2 p9.1).bind fun c10=>((oCons p9.2).bind fun p11=>((oSl 1 p11.1).bind fun c12=>((oCons p11.2).bind fun p13=>((oInt .i64 p13.1).bind fun n14=>((oNil p13.2).bind fun _=>((LIM F.q2v [(.agg [(.sl 2 c8)]),(.sl 2 c10),(.sl 1 c12),(.int .i64 n14)]).bind fun r15=>((oNil r15.2).bind fun _=>((oAgg r15.1).bind fun c16=>((oCons c16).bind fun p17=>((oInt .i64 p17.1).bind fun n18=>((oCons p17.2).bind fun p19=>((oSl 1 p19.1).bind fun c20=>((oCons p19.2).bind fun p21=>((oInt .i64 p21.1).bind fun n22=>((oNil p21.2).bind fun _=>((LIM F.q40 [(.agg [(.sl 2 c8)]),(.sl 2 c10),(.sl 1 c12),(.int .i64 n14)]).bind fun r23=>((oNil r23.2).bind fun _=>((oAgg r23.1).bind fun c24=>((oCons c24).bind fun p25=>((oInt .i64 p25.1).bind fun n26=>((oCons p25.2).bind fun p27=>((oSl 1 p27.1).bind fun c28=>((oCons p27.2).bind fun p29=>((oInt .i64 p29.1).bind fun n30=>((oNil p29.2).bind fun _=>(bif ((n18 != n26)) then some ((.bool false),[]) else (bif ((n18 != (0:Int))) then some ((.bool true),[]) else (q0l.at0 n n (q0l.st0 a0 n14 (0:Int) c8 c10 c12 c20 n18 n22))))))))))))))))))))))))))))))))))))))))))):=by kernel_rfl
theorem q5z.ev (n:Nat) (a0:List T) (a1 a2:Int):callK prog A H LIM n F.q5z [(.sl 1 a0),(.int .i64 a1),(.int .i64 a2)]=(bif (decide (a2≤(1:Int))) then some ((.int .i64 (0:Int)),[]) else (bif ((((((a0).length / 1):Nat):Int) == (0:Int))) then (bif decide (a2=0) then none else some ((.int .i64 (Int.tmod (IntKind.wrap .i64 (a1*(7:Int))) a2)),[])) else (bif decide (((((a0).length / 1):Nat):Int)=0) then none else (bif inB (Int.tmod a1 ((((a0).length / 1):Nat):Int)) ((a0).length / 1) then ((a0[((Int.toNat (Int.tmod a1 ((((a0).length / 1):Nat):Int)))*1)]?).bind fun e1=>((oInt .u8 e1).bind fun n2=>(bif decide (((((a0).length / 1):Nat):Int)=0) then none else (bif (decide (a2 > (200:Int))) then (bif decide (((((a0).length / 1):Nat):Int)=0) then none else (bif inB (Int.tmod (IntKind.wrap .i64 (a1+(1:Int))) ((((a0).length / 1):Nat):Int)) ((a0).length / 1) then ((a0[((Int.toNat (Int.tmod (IntKind.wrap .i64 (a1+(1:Int))) ((((a0).length / 1):Nat):Int)))*1)]?).bind fun e3=>((oInt .u8 e3).bind fun n4=>(bif decide (a2=0) then none else some ((.int .i64 (Int.tmod (IntKind.wrap .i64 ((IntKind.wrap .i64 ((IntKind.wrap .i64 ((IntKind.wrap .i64 n2)+(IntKind.wrap .i64 ((IntKind.wrap .i64 (Int.tdiv a1 ((((a0).length / 1):Nat):Int)))*(3:Int)))))*(251:Int)))+(IntKind.wrap .i64 n4))) a2)),[])))) else none)) else (bif decide (a2=0) then none else some ((.int .i64 (Int.tmod (IntKind.wrap .i64 ((IntKind.wrap .i64 n2)+(IntKind.wrap .i64 ((IntKind.wrap .i64 (Int.tdiv a1 ((((a0).length / 1):Nat):Int)))*(3:Int))))) a2)),[])))))) else none)))):=by kernel_rfl
theorem q6o.ev (n:Nat) (a0:List T):callK prog A H LIM n F.q6o [(.sl 1 a0)]=some ((.bool (decide (((((a0).length / 1):Nat):Int) > (1048576:Int)))),[]):=by kernel_rfl
theorem q51.ev (n:Nat) (a0:List T):callK prog A H LIM n F.q4k [(.sl 2 a0),(.clo F.q33 [])]=((LIM F.q1a [(.sl 2 a0),(.clo F.q33 [])]).bind fun r1=>((oNil r1.2).bind fun _=>((oInt .i64 r1.1).bind fun n2=>some ((.bool (decide (n2 ≥ (0:Int)))),[])))):=by kernel_rfl
theorem q2r.ev (n:Nat) (a0:List T):callK prog A H LIM n F.q52 [(.sl 2 a0),(.clo F.q2h [])]=((LIM F.q1h [(.sl 2 a0),(.clo F.q2h [])]).bind fun r1=>((oNil r1.2).bind fun _=>((oInt .i64 r1.1).bind fun n2=>some ((.bool (decide (n2 ≥ (0:Int)))),[])))):=by kernel_rfl
theorem q2x.ev (n:Nat) (a0:List T):callK prog A H LIM n F.q1g [(.sl 1 a0),(.clo F.q2k [])]=((LIM F.q0d [(.sl 1 a0),(.clo F.q2k [])]).bind fun r1=>((oNil r1.2).bind fun _=>((oInt .i64 r1.1).bind fun n2=>some ((.bool (decide (n2 ≥ (0:Int)))),[])))):=by kernel_rfl
theorem q34.ev (n:Nat) (a0 a1_0_0:List T):callK prog A H LIM n F.q1g [(.sl 1 a0),(.clo F.q37 [(.rref [(.sl 2 a1_0_0)] 0)])]=((LIM F.q0d [(.sl 1 a0),(.clo F.q37 [(.rref [(.sl 2 a1_0_0)] 0)])]).bind fun r1=>((oNil r1.2).bind fun _=>((oInt .i64 r1.1).bind fun n2=>some ((.bool (decide (n2 ≥ (0:Int)))),[])))):=by kernel_rfl
theorem q39.ev (n:Nat) (a0 a1_0_0:List T):callK prog A H LIM n F.q1g [(.sl 1 a0),(.clo F.q3u [(.rref [(.sl 1 a1_0_0)] 0)])]=((LIM F.q0d [(.sl 1 a0),(.clo F.q3u [(.rref [(.sl 1 a1_0_0)] 0)])]).bind fun r1=>((oNil r1.2).bind fun _=>((oInt .i64 r1.1).bind fun n2=>some ((.bool (decide (n2 ≥ (0:Int)))),[])))):=by kernel_rfl
theorem q30.ev (n:Nat) (a0:List T) (a1_0_0:Int) (a1_0_1:List T):callK prog A H LIM n F.q1g [(.sl 1 a0),(.clo F.q2q [(.rref [(.int .i64 a1_0_0),(.sl 1 a1_0_1)] 0)])]=((LIM F.q0d [(.sl 1 a0),(.clo F.q2q [(.rref [(.int .i64 a1_0_0),(.sl 1 a1_0_1)] 0)])]).bind fun r1=>((oNil r1.2).bind fun _=>((oInt .i64 r1.1).bind fun n2=>some ((.bool (decide (n2 ≥ (0:Int)))),[])))):=by kernel_rfl
theorem q36.ev (n:Nat) (a0:List T) (a1_0_0:Int) (a1_0_1:List T):callK prog A H LIM n F.q1g [(.sl 1 a0),(.clo F.q3f [(.rref [(.int .i64 a1_0_0),(.sl 1 a1_0_1)] 0)])]=((LIM F.q0d [(.sl 1 a0),(.clo F.q3f [(.rref [(.int .i64 a1_0_0),(.sl 1 a1_0_1)] 0)])]).bind fun r1=>((oNil r1.2).bind fun _=>((oInt .i64 r1.1).bind fun n2=>some ((.bool (decide (n2 ≥ (0:Int)))),[])))):=by kernel_rfl
theorem q3j.ev (n:Nat) (a0:List T) (a1:Int):callK prog A H LIM n F.q3j [(.sl 1 a0),(.int .i64 a1)]=((LIM F.q0j [(.sl 1 a0),(.int .i64 a1)]).bind fun r1=>((oNil r1.2).bind fun _=>((oInt .i64 r1.1).bind fun n2=>some ((.bool (decide (n2 ≥ (0:Int)))),[])))):=by kernel_rfl
def q0p.st0 (x0 x1:List T) (x2 x3:Int):St:=⟨[(0,ol 1 x0),(1,ol 1 x1),(12,oi x2),(13,oi x3)],[]⟩
noncomputable def q0p.K0 (n:Nat):Ex→St→R:=kx F.q0p n [.block 0,.seq 0 (cx F.q0p [1,1,1])] (endOf prog A F.q0p)
noncomputable def q0p.at0 (n:Nat) (m:Nat) (s:St):R:=lx F.q0p n 0 [1,1,0,1,0,0] (q0p.K0 n) m s
noncomputable def q0p.rd0 (n:Nat) (L0:St→R) (s:St):R:=rx F.q0p n 0 [1,1,0,1,0,0] (q0p.K0 n) L0 s
theorem q0p.next0 (n:Nat) (m:Nat) (s:St):q0p.at0 n (m+1) s=q0p.rd0 n (q0p.at0 n m) s:=nx _ _ _ _ _ _ _
theorem q0p.round0 (n:Nat) (L0:St→R) (x0 x1:List T) (x2 x3:Int):q0p.rd0 n L0 (q0p.st0 x0 x1 x2 x3)=(bif (decide (x3 < x2)) then (bif inB x3 ((x0).length / 1) then ((x0[((Int.toNat x3)*1)]?).bind fun e1=>((oInt .i64 e1).bind fun n2=>(bif inB x3 ((x1).length / 1) then ((x1[((Int.toNat x3)*1)]?).bind fun e3=>((oInt .i64 e3).bind fun n4=>(bif ((n2 != n4)) then some ((.bool false),[]) else (L0 (q0p.st0 x0 x1 x2 (IntKind.wrap .i64 (x3+(1:Int)))))))) else none))) else none) else some ((.bool true),[])):=by kernel_rfl
theorem q0p.ev (n:Nat) (a0 a1:List T):callK prog A H LIM n F.q0p [(.sl 1 a0),(.sl 1 a1)]=(bif ((((((a0).length / 1):Nat):Int) != ((((a1).length / 1):Nat):Int))) then some ((.bool false),[]) else (q0p.at0 n n (q0p.st0 a0 a1 ((((a0).length / 1):Nat):Int) (0:Int)))):=by kernel_rfl
def q05.st0 (x0:List T) (x1 x2:Int):St:=⟨[(0,ol 2 x0),(1,(.one (.t (.clo F.q33 [])))),(7,oi x1),(8,oi x2)],[]⟩
noncomputable def q05.K0 (n:Nat):Ex→St→R:=kx F.q1a n [.block 0,.seq 0 (cx F.q1a [1,1])] (endOf prog A F.q1a)
noncomputable def q05.at0 (n:Nat) (m:Nat) (s:St):R:=lx F.q1a n 0 [1,0,1,0,0] (q05.K0 n) m s
noncomputable def q05.rd0 (n:Nat) (L0:St→R) (s:St):R:=rx F.q1a n 0 [1,0,1,0,0] (q05.K0 n) L0 s
theorem q05.next0 (n:Nat) (m:Nat) (s:St):q05.at0 n (m+1) s=q05.rd0 n (q05.at0 n m) s:=nx _ _ _ _ _ _ _
theorem q05.round0 (n:Nat) (L0:St→R) (x0:List T) (x1 x2:Int):q05.rd0 n L0 (q05.st0 x0 x1 x2)=(bif (decide (x2 < x1)) then (bif inB x2 ((x0).length / 2) then ((x0[((Int.toNat x2)*2)]?).bind fun e1=>((oSl 1 e1).bind fun c2=>((x0[(((Int.toNat x2)*2)+1)]?).bind fun e3=>((oSl 1 e3).bind fun c4=>((LIM F.q33 [(.agg [(.sl 1 c2),(.sl 1 c4)])]).bind fun r5=>((oNil r5.2).bind fun _=>((oBool r5.1).bind fun b6=>(bif b6 then some ((.int .i64 x2),[]) else (L0 (q05.st0 x0 x1 (IntKind.wrap .i64 (x2+(1:Int))))))))))))) else none) else some ((.int .i64 (-1:Int)),[])):=by kernel_rfl
theorem q05.ev (n:Nat) (a0:List T):callK prog A H LIM n F.q1a [(.sl 2 a0),(.clo F.q33 [])]=(q05.at0 n n (q05.st0 a0 ((((a0).length / 2):Nat):Int) (0:Int))):=by kernel_rfl
def q08.st0 (x0 x1 x2:List T) (x3 x4:Int):St:=⟨[(0,ol 2 x0),(1,(.one (.t (.clo F.q4q [(.rref [(.sl 2 x1)] 0),(.rref [(.sl 1 x2)] 0)])))),(7,oi x3),(8,oi x4)],[]⟩
noncomputable def q08.K0 (n:Nat):Ex→St→R:=kx F.q1a n [.block 0,.seq 0 (cx F.q1a [1,1])] (endOf prog A F.q1a)
noncomputable def q08.at0 (n:Nat) (m:Nat) (s:St):R:=lx F.q1a n 0 [1,0,1,0,0] (q08.K0 n) m s
noncomputable def q08.rd0 (n:Nat) (L0:St→R) (s:St):R:=rx F.q1a n 0 [1,0,1,0,0] (q08.K0 n) L0 s
theorem q08.next0 (n:Nat) (m:Nat) (s:St):q08.at0 n (m+1) s=q08.rd0 n (q08.at0 n m) s:=nx _ _ _ _ _ _ _
theorem q08.round0 (n:Nat) (L0:St→R) (x0 x1 x2:List T) (x3 x4:Int):q08.rd0 n L0 (q08.st0 x0 x1 x2 x3 x4)=(bif (decide (x4 < x3)) then (bif inB x4 ((x0).length / 2) then ((x0[((Int.toNat x4)*2)]?).bind fun e1=>((oSl 1 e1).bind fun c2=>((x0[(((Int.toNat x4)*2)+1)]?).bind fun e3=>((oSl 1 e3).bind fun c4=>((LIM F.q4q [(.agg [(.sl 1 c2),(.sl 1 c4)]),(.rref [(.sl 2 x1)] 0),(.rref [(.sl 1 x2)] 0)]).bind fun r5=>((oNil r5.2).bind fun _=>((oBool r5.1).bind fun b6=>(bif b6 then some ((.int .i64 x4),[]) else (L0 (q08.st0 x0 x1 x2 x3 (IntKind.wrap .i64 (x4+(1:Int))))))))))))) else none) else some ((.int .i64 (-1:Int)),[])):=by kernel_rfl
theorem q08.ev (n:Nat) (a0 a1_0_0 a1_1_0:List T):callK prog A H LIM n F.q1a [(.sl 2 a0),(.clo F.q4q [(.rref [(.sl 2 a1_0_0)] 0),(.rref [(.sl 1 a1_1_0)] 0)])]=(q08.at0 n n (q08.st0 a0 a1_0_0 a1_1_0 ((((a0).length / 2):Nat):Int) (0:Int))):=by kernel_rfl
def q01.st0 (x0:List T) (x1 x2:Int):St:=⟨[(0,ol 2 x0),(1,(.one (.t (.clo F.q2h [])))),(7,oi x1),(8,oi x2)],[]⟩
noncomputable def q01.K0 (n:Nat):Ex→St→R:=kx F.q1h n [.block 0,.seq 0 (cx F.q1h [1,1])] (endOf prog A F.q1h)
noncomputable def q01.at0 (n:Nat) (m:Nat) (s:St):R:=lx F.q1h n 0 [1,0,1,0,0] (q01.K0 n) m s
noncomputable def q01.rd0 (n:Nat) (L0:St→R) (s:St):R:=rx F.q1h n 0 [1,0,1,0,0] (q01.K0 n) L0 s
theorem q01.next0 (n:Nat) (m:Nat) (s:St):q01.at0 n (m+1) s=q01.rd0 n (q01.at0 n m) s:=nx _ _ _ _ _ _ _
theorem q01.round0 (n:Nat) (L0:St→R) (x0:List T) (x1 x2:Int):q01.rd0 n L0 (q01.st0 x0 x1 x2)=(bif (decide (x2 < x1)) then (bif inB x2 ((x0).length / 2) then ((x0[((Int.toNat x2)*2)]?).bind fun e1=>((oStr e1).bind fun s2=>((x0[(((Int.toNat x2)*2)+1)]?).bind fun e3=>((oInt .i64 e3).bind fun n4=>((LIM F.q2h [(.agg [(.str s2),(.int .i64 n4)])]).bind fun r5=>((oNil r5.2).bind fun _=>((oBool r5.1).bind fun b6=>(bif b6 then some ((.int .i64 x2),[]) else (L0 (q01.st0 x0 x1 (IntKind.wrap .i64 (x2+(1:Int))))))))))))) else none) else some ((.int .i64 (-1:Int)),[])):=by kernel_rfl
theorem q01.ev (n:Nat) (a0:List T):callK prog A H LIM n F.q1h [(.sl 2 a0),(.clo F.q2h [])]=(q01.at0 n n (q01.st0 a0 ((((a0).length / 2):Nat):Int) (0:Int))):=by kernel_rfl
def q02.st0 (x0:List T) (x1:ByteArray) (x2 x3:Int):St:=⟨[(0,ol 2 x0),(1,(.one (.t (.clo F.q3k [(.rref [(.str x1)] 0)])))),(7,oi x2),(8,oi x3)],[]⟩
noncomputable def q02.K0 (n:Nat):Ex→St→R:=kx F.q1h n [.block 0,.seq 0 (cx F.q1h [1,1])] (endOf prog A F.q1h)
noncomputable def q02.at0 (n:Nat) (m:Nat) (s:St):R:=lx F.q1h n 0 [1,0,1,0,0] (q02.K0 n) m s
noncomputable def q02.rd0 (n:Nat) (L0:St→R) (s:St):R:=rx F.q1h n 0 [1,0,1,0,0] (q02.K0 n) L0 s
theorem q02.next0 (n:Nat) (m:Nat) (s:St):q02.at0 n (m+1) s=q02.rd0 n (q02.at0 n m) s:=nx _ _ _ _ _ _ _
theorem q02.round0 (n:Nat) (L0:St→R) (x0:List T) (x1:ByteArray) (x2 x3:Int):q02.rd0 n L0 (q02.st0 x0 x1 x2 x3)=(bif (decide (x3 < x2)) then (bif inB x3 ((x0).length / 2) then ((x0[((Int.toNat x3)*2)]?).bind fun e1=>((oStr e1).bind fun s2=>((x0[(((Int.toNat x3)*2)+1)]?).bind fun e3=>((oInt .i64 e3).bind fun n4=>((LIM F.q3k [(.agg [(.str s2),(.int .i64 n4)]),(.rref [(.str x1)] 0)]).bind fun r5=>((oNil r5.2).bind fun _=>((oBool r5.1).bind fun b6=>(bif b6 then some ((.int .i64 x3),[]) else (L0 (q02.st0 x0 x1 x2 (IntKind.wrap .i64 (x3+(1:Int))))))))))))) else none) else some ((.int .i64 (-1:Int)),[])):=by kernel_rfl
theorem q02.ev (n:Nat) (a0:List T) (a1_0_0:ByteArray):callK prog A H LIM n F.q1h [(.sl 2 a0),(.clo F.q3k [(.rref [(.str a1_0_0)] 0)])]=(q02.at0 n n (q02.st0 a0 a1_0_0 ((((a0).length / 2):Nat):Int) (0:Int))):=by kernel_rfl
def q06.st0 (x0:List T) (x1 x2:Int):St:=⟨[(0,ol 1 x0),(1,(.one (.t (.clo F.q2k [])))),(7,oi x1),(8,oi x2)],[]⟩
noncomputable def q06.K0 (n:Nat):Ex→St→R:=kx F.q0d n [.block 0,.seq 0 (cx F.q0d [1,1])] (endOf prog A F.q0d)
noncomputable def q06.at0 (n:Nat) (m:Nat) (s:St):R:=lx F.q0d n 0 [1,0,1,0,0] (q06.K0 n) m s
noncomputable def q06.rd0 (n:Nat) (L0:St→R) (s:St):R:=rx F.q0d n 0 [1,0,1,0,0] (q06.K0 n) L0 s
theorem q06.next0 (n:Nat) (m:Nat) (s:St):q06.at0 n (m+1) s=q06.rd0 n (q06.at0 n m) s:=nx _ _ _ _ _ _ _
theorem q06.round0 (n:Nat) (L0:St→R) (x0:List T) (x1 x2:Int):q06.rd0 n L0 (q06.st0 x0 x1 x2)=(bif (decide (x2 < x1)) then (bif inB x2 ((x0).length / 1) then ((x0[((Int.toNat x2)*1)]?).bind fun e1=>((oInt .i64 e1).bind fun n2=>((LIM F.q2k [(.int .i64 n2)]).bind fun r3=>((oNil r3.2).bind fun _=>((oBool r3.1).bind fun b4=>(bif b4 then some ((.int .i64 x2),[]) else (L0 (q06.st0 x0 x1 (IntKind.wrap .i64 (x2+(1:Int))))))))))) else none) else some ((.int .i64 (-1:Int)),[])):=by kernel_rfl
theorem q06.ev (n:Nat) (a0:List T):callK prog A H LIM n F.q0d [(.sl 1 a0),(.clo F.q2k [])]=(q06.at0 n n (q06.st0 a0 ((((a0).length / 1):Nat):Int) (0:Int))):=by kernel_rfl
def q07.st0 (x0 x1:List T) (x2 x3:Int):St:=⟨[(0,ol 1 x0),(1,(.one (.t (.clo F.q37 [(.rref [(.sl 2 x1)] 0)])))),(7,oi x2),(8,oi x3)],[]⟩
noncomputable def q07.K0 (n:Nat):Ex→St→R:=kx F.q0d n [.block 0,.seq 0 (cx F.q0d [1,1])] (endOf prog A F.q0d)
noncomputable def q07.at0 (n:Nat) (m:Nat) (s:St):R:=lx F.q0d n 0 [1,0,1,0,0] (q07.K0 n) m s
noncomputable def q07.rd0 (n:Nat) (L0:St→R) (s:St):R:=rx F.q0d n 0 [1,0,1,0,0] (q07.K0 n) L0 s
theorem q07.next0 (n:Nat) (m:Nat) (s:St):q07.at0 n (m+1) s=q07.rd0 n (q07.at0 n m) s:=nx _ _ _ _ _ _ _
theorem q07.round0 (n:Nat) (L0:St→R) (x0 x1:List T) (x2 x3:Int):q07.rd0 n L0 (q07.st0 x0 x1 x2 x3)=(bif (decide (x3 < x2)) then (bif inB x3 ((x0).length / 1) then ((x0[((Int.toNat x3)*1)]?).bind fun e1=>((oInt .i64 e1).bind fun n2=>((LIM F.q37 [(.int .i64 n2),(.rref [(.sl 2 x1)] 0)]).bind fun r3=>((oNil r3.2).bind fun _=>((oBool r3.1).bind fun b4=>(bif b4 then some ((.int .i64 x3),[]) else (L0 (q07.st0 x0 x1 x2 (IntKind.wrap .i64 (x3+(1:Int))))))))))) else none) else some ((.int .i64 (-1:Int)),[])):=by kernel_rfl
theorem q07.ev (n:Nat) (a0 a1_0_0:List T):callK prog A H LIM n F.q0d [(.sl 1 a0),(.clo F.q37 [(.rref [(.sl 2 a1_0_0)] 0)])]=(q07.at0 n n (q07.st0 a0 a1_0_0 ((((a0).length / 1):Nat):Int) (0:Int))):=by kernel_rfl
def q0b.st0 (x0 x1:List T) (x2 x3:Int):St:=⟨[(0,ol 1 x0),(1,(.one (.t (.clo F.q3u [(.rref [(.sl 1 x1)] 0)])))),(7,oi x2),(8,oi x3)],[]⟩
noncomputable def q0b.K0 (n:Nat):Ex→St→R:=kx F.q0d n [.block 0,.seq 0 (cx F.q0d [1,1])] (endOf prog A F.q0d)
noncomputable def q0b.at0 (n:Nat) (m:Nat) (s:St):R:=lx F.q0d n 0 [1,0,1,0,0] (q0b.K0 n) m s
noncomputable def q0b.rd0 (n:Nat) (L0:St→R) (s:St):R:=rx F.q0d n 0 [1,0,1,0,0] (q0b.K0 n) L0 s
theorem q0b.next0 (n:Nat) (m:Nat) (s:St):q0b.at0 n (m+1) s=q0b.rd0 n (q0b.at0 n m) s:=nx _ _ _ _ _ _ _
theorem q0b.round0 (n:Nat) (L0:St→R) (x0 x1:List T) (x2 x3:Int):q0b.rd0 n L0 (q0b.st0 x0 x1 x2 x3)=(bif (decide (x3 < x2)) then (bif inB x3 ((x0).length / 1) then ((x0[((Int.toNat x3)*1)]?).bind fun e1=>((oInt .i64 e1).bind fun n2=>((LIM F.q3u [(.int .i64 n2),(.rref [(.sl 1 x1)] 0)]).bind fun r3=>((oNil r3.2).bind fun _=>((oBool r3.1).bind fun b4=>(bif b4 then some ((.int .i64 x3),[]) else (L0 (q0b.st0 x0 x1 x2 (IntKind.wrap .i64 (x3+(1:Int))))))))))) else none) else some ((.int .i64 (-1:Int)),[])):=by kernel_rfl
theorem q0b.ev (n:Nat) (a0 a1_0_0:List T):callK prog A H LIM n F.q0d [(.sl 1 a0),(.clo F.q3u [(.rref [(.sl 1 a1_0_0)] 0)])]=(q0b.at0 n n (q0b.st0 a0 a1_0_0 ((((a0).length / 1):Nat):Int) (0:Int))):=by kernel_rfl
def q03.st0 (x0:List T) (x1:Int) (x2:List T) (x3 x4:Int):St:=⟨[(0,ol 1 x0),(1,(.one (.t (.clo F.q2q [(.rref [(.int .i64 x1),(.sl 1 x2)] 0)])))),(7,oi x3),(8,oi x4)],[]⟩
noncomputable def q03.K0 (n:Nat):Ex→St→R:=kx F.q0d n [.block 0,.seq 0 (cx F.q0d [1,1])] (endOf prog A F.q0d)
noncomputable def q03.at0 (n:Nat) (m:Nat) (s:St):R:=lx F.q0d n 0 [1,0,1,0,0] (q03.K0 n) m s
noncomputable def q03.rd0 (n:Nat) (L0:St→R) (s:St):R:=rx F.q0d n 0 [1,0,1,0,0] (q03.K0 n) L0 s
theorem q03.next0 (n:Nat) (m:Nat) (s:St):q03.at0 n (m+1) s=q03.rd0 n (q03.at0 n m) s:=nx _ _ _ _ _ _ _
theorem q03.round0 (n:Nat) (L0:St→R) (x0:List T) (x1:Int) (x2:List T) (x3 x4:Int):q03.rd0 n L0 (q03.st0 x0 x1 x2 x3 x4)=(bif (decide (x4 < x3)) then (bif inB x4 ((x0).length / 1) then ((x0[((Int.toNat x4)*1)]?).bind fun e1=>((oInt .i64 e1).bind fun n2=>((LIM F.q2q [(.int .i64 n2),(.rref [(.int .i64 x1),(.sl 1 x2)] 0)]).bind fun r3=>((oNil r3.2).bind fun _=>((oBool r3.1).bind fun b4=>(bif b4 then some ((.int .i64 x4),[]) else (L0 (q03.st0 x0 x1 x2 x3 (IntKind.wrap .i64 (x4+(1:Int))))))))))) else none) else some ((.int .i64 (-1:Int)),[])):=by kernel_rfl
theorem q03.ev (n:Nat) (a0:List T) (a1_0_0:Int) (a1_0_1:List T):callK prog A H LIM n F.q0d [(.sl 1 a0),(.clo F.q2q [(.rref [(.int .i64 a1_0_0),(.sl 1 a1_0_1)] 0)])]=(q03.at0 n n (q03.st0 a0 a1_0_0 a1_0_1 ((((a0).length / 1):Nat):Int) (0:Int))):=by kernel_rfl
def q0a.st0 (x0:List T) (x1:Int) (x2:List T) (x3 x4:Int):St:=⟨[(0,ol 1 x0),(1,(.one (.t (.clo F.q3f [(.rref [(.int .i64 x1),(.sl 1 x2)] 0)])))),(7,oi x3),(8,oi x4)],[]⟩
noncomputable def q0a.K0 (n:Nat):Ex→St→R:=kx F.q0d n [.block 0,.seq 0 (cx F.q0d [1,1])] (endOf prog A F.q0d)
noncomputable def q0a.at0 (n:Nat) (m:Nat) (s:St):R:=lx F.q0d n 0 [1,0,1,0,0] (q0a.K0 n) m s
noncomputable def q0a.rd0 (n:Nat) (L0:St→R) (s:St):R:=rx F.q0d n 0 [1,0,1,0,0] (q0a.K0 n) L0 s
theorem q0a.next0 (n:Nat) (m:Nat) (s:St):q0a.at0 n (m+1) s=q0a.rd0 n (q0a.at0 n m) s:=nx _ _ _ _ _ _ _
theorem q0a.round0 (n:Nat) (L0:St→R) (x0:List T) (x1:Int) (x2:List T) (x3 x4:Int):q0a.rd0 n L0 (q0a.st0 x0 x1 x2 x3 x4)=(bif (decide (x4 < x3)) then (bif inB x4 ((x0).length / 1) then ((x0[((Int.toNat x4)*1)]?).bind fun e1=>((oInt .i64 e1).bind fun n2=>((LIM F.q3f [(.int .i64 n2),(.rref [(.int .i64 x1),(.sl 1 x2)] 0)]).bind fun r3=>((oNil r3.2).bind fun _=>((oBool r3.1).bind fun b4=>(bif b4 then some ((.int .i64 x4),[]) else (L0 (q0a.st0 x0 x1 x2 x3 (IntKind.wrap .i64 (x4+(1:Int))))))))))) else none) else some ((.int .i64 (-1:Int)),[])):=by kernel_rfl
theorem q0a.ev (n:Nat) (a0:List T) (a1_0_0:Int) (a1_0_1:List T):callK prog A H LIM n F.q0d [(.sl 1 a0),(.clo F.q3f [(.rref [(.int .i64 a1_0_0),(.sl 1 a1_0_1)] 0)])]=(q0a.at0 n n (q0a.st0 a0 a1_0_0 a1_0_1 ((((a0).length / 1):Nat):Int) (0:Int))):=by kernel_rfl
def q0j.st0 (x0:List T) (x1 x2 x3:Int):St:=⟨[(0,ol 1 x0),(1,oi x1),(7,oi x2),(8,oi x3)],[]⟩
noncomputable def q0j.K0 (n:Nat):Ex→St→R:=kx F.q0j n [.block 0,.seq 0 (cx F.q0j [1,1])] (endOf prog A F.q0j)
noncomputable def q0j.at0 (n:Nat) (m:Nat) (s:St):R:=lx F.q0j n 0 [1,0,1,0,0] (q0j.K0 n) m s
noncomputable def q0j.rd0 (n:Nat) (L0:St→R) (s:St):R:=rx F.q0j n 0 [1,0,1,0,0] (q0j.K0 n) L0 s
theorem q0j.next0 (n:Nat) (m:Nat) (s:St):q0j.at0 n (m+1) s=q0j.rd0 n (q0j.at0 n m) s:=nx _ _ _ _ _ _ _
theorem q0j.round0 (n:Nat) (L0:St→R) (x0:List T) (x1 x2 x3:Int):q0j.rd0 n L0 (q0j.st0 x0 x1 x2 x3)=(bif (decide (x3 < x2)) then (bif inB x3 ((x0).length / 1) then ((x0[((Int.toNat x3)*1)]?).bind fun e1=>((oInt .i64 e1).bind fun n2=>(bif ((x1 == n2)) then some ((.int .i64 x3),[]) else (L0 (q0j.st0 x0 x1 x2 (IntKind.wrap .i64 (x3+(1:Int)))))))) else none) else some ((.int .i64 (-1:Int)),[])):=by kernel_rfl
theorem q0j.ev (n:Nat) (a0:List T) (a1:Int):callK prog A H LIM n F.q0j [(.sl 1 a0),(.int .i64 a1)]=(q0j.at0 n n (q0j.st0 a0 a1 ((((a0).length / 1):Nat):Int) (0:Int))):=by kernel_rfl
def q12.st0 (x0:List T) (x1 x2:Int):St:=⟨[(0,ol 1 x0),(3,oi x1),(4,oi x2)],[]⟩
noncomputable def q12.K0 (n:Nat):Ex→St→R:=kx F.q12 n [.block 0,.seq 0 (cx F.q12 [1,1,1,1])] (endOf prog A F.q12)
noncomputable def q12.at0 (n:Nat) (m:Nat) (s:St):R:=lx F.q12 n 0 [1,1,1,0,1,0,0] (q12.K0 n) m s
noncomputable def q12.rd0 (n:Nat) (L0:St→R) (s:St):R:=rx F.q12 n 0 [1,1,1,0,1,0,0] (q12.K0 n) L0 s
theorem q12.next0 (n:Nat) (m:Nat) (s:St):q12.at0 n (m+1) s=q12.rd0 n (q12.at0 n m) s:=nx _ _ _ _ _ _ _
theorem q12.round0 (n:Nat) (L0:St→R) (x0:List T) (x1 x2:Int):q12.rd0 n L0 (q12.st0 x0 x1 x2)=(bif (decide (x2 < ((((x0).length / 1):Nat):Int))) then (bif inB x2 ((x0).length / 1) then ((x0[((Int.toNat x2)*1)]?).bind fun e3=>((oInt .i64 e3).bind fun n4=>(L0 (q12.st0 x0 (min x1 n4) (IntKind.wrap .i64 (x2+(1:Int))))))) else none) else some ((.int .i64 x1),[])):=by kernel_rfl
theorem q12.ev (n:Nat) (a0:List T):callK prog A H LIM n F.q12 [(.sl 1 a0)]=(bif (decide (((((a0).length / 1):Nat):Int) < (1:Int))) then none else (bif inB (0:Int) ((a0).length / 1) then ((a0[0]?).bind fun e1=>((oInt .i64 e1).bind fun n2=>(q12.at0 n n (q12.st0 a0 n2 (1:Int))))) else none)):=by kernel_rfl
def q09.st2 (x0 x1:Int) (x2:List T) (x3:Int) (x4:List T):St:=⟨[(2,(.one (.ptr 128 0))),(3,(.one (.ptr 192 0))),(6,oi x0),(7,oi x1)],[(128,(.box [(.t (.sl 2 x2))])),(192,(.box [(.t (.int .i64 x3)),(.t (.sl 1 x4))]))]⟩
def q09.st0 (x0:Int) (x1:List T) (x2:Int) (x3:List T):St:=⟨[(2,(.one (.ptr 128 0))),(3,(.one (.ptr 192 0))),(6,oi x0)],[(128,(.box [(.t (.sl 2 x1))])),(192,(.box [(.t (.int .i64 x2)),(.t (.sl 1 x3))]))]⟩
noncomputable def q09.K0 (n:Nat):Ex→St→R:=kx F.q09 n [.block 0,.seq 0 (cx F.q09 [1,1,1,1,1])] (endOf prog A F.q09)
noncomputable def q09.at0 (n:Nat) (m:Nat) (s:St):R:=lx F.q09 n 0 [1,1,1,1,0,1,0,0] (q09.K0 n) m s
noncomputable def q09.rd0 (n:Nat) (L0:St→R) (s:St):R:=rx F.q09 n 0 [1,1,1,1,0,1,0,0] (q09.K0 n) L0 s
theorem q09.next0 (n:Nat) (m:Nat) (s:St):q09.at0 n (m+1) s=q09.rd0 n (q09.at0 n m) s:=nx _ _ _ _ _ _ _
noncomputable def q09.K2 (n:Nat) (L0:St→R):Ex→St→R:=kx F.q09 n [.block 2,.block 1,.seq 0 (cx F.q09 [1,1,1,1,0,1,0,0,1,1])] (bx F.q09 0 (q09.K0 n) L0)
noncomputable def q09.at2 (n:Nat) (L0:St→R) (m:Nat) (s:St):R:=lx F.q09 n 2 [1,1,1,1,0,1,0,0,1,0,0,1,1,0,0] (q09.K2 n L0) m s
noncomputable def q09.rd2 (n:Nat) (L0:St→R) (L2:St→R) (s:St):R:=rx F.q09 n 2 [1,1,1,1,0,1,0,0,1,0,0,1,1,0,0] (q09.K2 n L0) L2 s
theorem q09.next2 (n:Nat) (L0:St→R) (m:Nat) (s:St):q09.at2 n L0 (m+1) s=q09.rd2 n L0 (q09.at2 n L0 m) s:=nx _ _ _ _ _ _ _
theorem q09.round0 (n:Nat) (L0:St→R) (x0:Int) (x1:List T) (x2:Int) (x3:List T):q09.rd0 n L0 (q09.st0 x0 x1 x2 x3)=(bif (decide (x0 < ((((x3).length / 1):Nat):Int))) then (bif inB x0 ((x3).length / 1) then ((x3[((Int.toNat x0)*1)]?).bind fun e5=>((oSl 1 e5).bind fun c6=>(bif inB x0 ((x1).length / 2) then ((x1[(((Int.toNat x0)*2)+1)]?).bind fun e7=>((oInt .i64 e7).bind fun n8=>((LIM F.q48 [(.int .i64 x2),(.int .i64 n8)]).bind fun r9=>((oNil r9.2).bind fun _=>((oInt .i64 r9.1).bind fun n10=>(bif ((((((c6).length / 1):Nat):Int) != n10)) then some ((.int .i64 (2:Int)),[]) else (q09.at2 n L0 n (q09.st2 x0 (0:Int) x1 x2 x3)))))))) else none))) else none) else some ((.int .i64 (0:Int)),[])):=by kernel_rfl
theorem q09.round2 (n:Nat) (L0:St→R) (L2:St→R) (x0 x1:Int) (x2:List T) (x3:Int) (x4:List T):q09.rd2 n L0 L2 (q09.st2 x0 x1 x2 x3 x4)=(bif inB x0 ((x4).length / 1) then ((x4[((Int.toNat x0)*1)]?).bind fun e11=>((oSl 1 e11).bind fun c12=>(bif (decide (x1 < ((((c12).length / 1):Nat):Int))) then (bif inB x0 ((x4).length / 1) then ((x4[((Int.toNat x0)*1)]?).bind fun e13=>((oSl 1 e13).bind fun c14=>(bif inB x1 ((c14).length / 1) then ((c14[((Int.toNat x1)*1)]?).bind fun e15=>((oInt .i64 e15).bind fun n16=>((LIM F.q3y [(.int .i64 n16),(.int .i64 (0:Int)),(.int .i64 (IntKind.wrap .i64 (x3 - (1:Int))))]).bind fun r17=>((oNil r17.2).bind fun _=>((oBool r17.1).bind fun b18=>(bif (!b18) then some ((.int .i64 (3:Int)),[]) else (L2 (q09.st2 x0 (IntKind.wrap .i64 (x1+(1:Int))) x2 x3 x4)))))))) else none))) else none) else (L0 (q09.st0 (IntKind.wrap .i64 (x0+(1:Int))) x2 x3 x4))))) else none):=by kernel_rfl
theorem q09.ev (n:Nat) (a0_0:List T) (a1_0:Int) (a1_1:List T):callK prog A H LIM n F.q09 [(.agg [(.sl 2 a0_0)]),(.agg [(.int .i64 a1_0),(.sl 1 a1_1)])]=((LIM F.q00 [(.agg [(.sl 2 a0_0)])]).bind fun r1=>((oNil r1.2).bind fun _=>((oInt .i64 r1.1).bind fun n2=>(bif ((n2 != (0:Int))) then some ((.int .i64 n2),[]) else ((LIM F.q3y [(.int .i64 a1_0),(.int .i64 (1:Int)),(.int .i64 (3:Int))]).bind fun r3=>((oNil r3.2).bind fun _=>((oBool r3.1).bind fun b4=>(bif (!b4) then some ((.int .i64 (3:Int)),[]) else (bif ((((((a1_1).length / 1):Nat):Int) != ((((a0_0).length / 2):Nat):Int))) then some ((.int .i64 (2:Int)),[]) else (q09.at0 n n (q09.st0 (0:Int) a0_0 a1_0 a1_1))))))))))):=by kernel_rfl
theorem q6d.ev (n:Nat) (a0_0:List T) (a1_0:Int) (a1_1 a2:List T):callK prog A H LIM n F.q6d [(.agg [(.sl 2 a0_0)]),(.agg [(.int .i64 a1_0),(.sl 1 a1_1)]),(.sl 2 a2)]=((LIM F.q09 [(.agg [(.sl 2 a0_0)]),(.agg [(.int .i64 a1_0),(.sl 1 a1_1)])]).bind fun r1=>((oNil r1.2).bind fun _=>((oInt .i64 r1.1).bind fun n2=>(bif ((n2 != (0:Int))) then some ((.agg [(.int .i64 n2),(.int .i64 (0:Int))]),[]) else ((LIM F.q1k [(.rref [(.sl 2 a0_0)] 0),(.sl 2 a2)]).bind fun r3=>((oNil r3.2).bind fun _=>((oInt .i64 r3.1).bind fun n4=>(bif ((n4 != (0:Int))) then some ((.agg [(.int .i64 n4),(.int .i64 (0:Int))]),[]) else ((LIM F.q2d [(.rref [(.sl 2 a0_0)] 0),(.rref [(.int .i64 a1_0),(.sl 1 a1_1)] 0),(.sl 2 a2)]).bind fun r5=>((oNil r5.2).bind fun _=>((oBool r5.1).bind fun b6=>((LIM F.q77 [(.bool b6)]).bind fun r7=>((oNil r7.2).bind fun _=>((oAgg r7.1).bind fun c8=>((oCons c8).bind fun p9=>((oInt .i64 p9.1).bind fun n10=>((oCons p9.2).bind fun p11=>((oInt .i64 p11.1).bind fun n12=>((oNil p11.2).bind fun _=>some ((.agg [(.int .i64 n10),(.int .i64 n12)]),[])))))))))))))))))))):=by kernel_rfl
end Ev
end
