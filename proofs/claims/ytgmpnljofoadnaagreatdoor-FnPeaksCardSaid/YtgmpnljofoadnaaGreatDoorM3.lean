/- Steps on the way to RowPeaks: TyData, TyOf, TyLoops, X0. -/
import Derived.Test.YtgmpnljofoadnaaGreatDoorM2
set_option linter.unusedSectionVars false
set_option linter.unusedVariables false
set_option linter.unusedSimpArgs false
section
namespace Ev.Ty
open Go Ev
open Enc (enc)
open Sm (sm)
structure Symbol where
 name:ByteArray
 arity:Int
 deriving DecidableEq
instance:Enc Symbol:=⟨2,by decide,fun x=>[.str x.name,.int .i64 x.arity],fun _=>rfl⟩
@[simp] theorem qa5:Enc.sz Symbol=2:=rfl
theorem q2a (x:Symbol):enc x=[.str x.name,.int .i64 x.arity]:=rfl
instance:Sm Symbol:=⟨fun n x=>sm n x.name,fun h x=>q38 h x⟩
structure Signature where
 symbols:List Symbol
 deriving DecidableEq
instance:Enc Signature:=⟨1,by decide,fun x=>[slc x.symbols],fun _=>rfl⟩
@[simp] theorem qv5:Enc.sz Signature=1:=rfl
instance:Sm Signature:=⟨fun n x=>sm n x.symbols,fun h x=>q38 h x⟩
structure Equation where
 left:List Int
 right:List Int
 deriving DecidableEq
instance:Enc Equation:=⟨2,by decide,fun x=>[slc x.left,slc x.right],fun _=>rfl⟩
@[simp] theorem q3y:Enc.sz Equation=2:=rfl
theorem q52 (x:Equation):enc x=[slc x.left,slc x.right]:=rfl
instance:Sm Equation:=⟨fun n x=>sm n x.left∧sm n x.right,fun h x=>⟨q38 h x.1,q38 h x.2⟩⟩
structure Binding where
 vars:List Int
 terms:List (List Int)
 deriving DecidableEq
instance:Enc Binding:=⟨2,by decide,fun x=>[slc x.vars,slc x.terms],fun _=>rfl⟩
@[simp] theorem qww:Enc.sz Binding=2:=rfl
instance:Sm Binding:=⟨fun n x=>sm n x.vars∧sm n x.terms,fun h x=>⟨q38 h x.1,q38 h x.2⟩⟩
structure Algebra where
 size:Int
 tables:List (List Int)
 deriving DecidableEq
instance:Enc Algebra:=⟨2,by decide,fun x=>[.int .i64 x.size,slc x.tables],fun _=>rfl⟩
@[simp] theorem qwv:Enc.sz Algebra=2:=rfl
instance:Sm Algebra:=⟨fun n x=>sm n x.tables,fun h x=>q38 h x⟩
structure Entry where
 kind:Int
 a:Int
 b:Int
 place:Int
 side:Int
 left:List Int
 right:List Int
 deriving DecidableEq
instance:Enc Entry:=⟨7,by decide,fun x=>[.int .i64 x.kind,.int .i64 x.a,.int .i64 x.b,.int .i64 x.place,.int .i64 x.side,slc x.left,slc x.right],fun _=>rfl⟩
@[simp] theorem qxn:Enc.sz Entry=7:=rfl
instance:Sm Entry:=⟨fun n x=>sm n x.left∧sm n x.right,fun h x=>⟨q38 h x.1,q38 h x.2⟩⟩
structure Completion where
 order:List Int
 equations:List Equation
 entries:List Entry
 rules:List Int
 waiting:List Int
 rounds:Int
 deriving DecidableEq
instance:Enc Completion:=⟨6,by decide,fun x=>[slc x.order,slc x.equations,slc x.entries,slc x.rules,slc x.waiting,.int .i64 x.rounds],fun _=>rfl⟩
@[simp] theorem qul:Enc.sz Completion=6:=rfl
instance:Sm Completion:=⟨fun n x=>sm n x.order∧sm n x.equations∧sm n x.entries∧sm n x.rules∧sm n x.waiting,fun h x=>⟨q38 h x.1,q38 h x.2.1,q38 h x.2.2.1,q38 h x.2.2.2.1,q38 h x.2.2.2.2⟩⟩
structure Theory where
 order:List Int
 equations:List Equation
 rules:List Equation
 deriving DecidableEq
instance:Enc Theory:=⟨3,by decide,fun x=>[slc x.order,slc x.equations,slc x.rules],fun _=>rfl⟩
@[simp] theorem qx5:Enc.sz Theory=3:=rfl
instance:Sm Theory:=⟨fun n x=>sm n x.order∧sm n x.equations∧sm n x.rules,fun h x=>⟨q38 h x.1,q38 h x.2.1,q38 h x.2.2⟩⟩
structure Put where
 sector:Int
 bytes:List UInt8
 deriving DecidableEq
instance:Enc Put:=⟨2,by decide,fun x=>[.int .i64 x.sector,slc x.bytes],fun _=>rfl⟩
@[simp] theorem qy2:Enc.sz Put=2:=rfl
instance:Sm Put:=⟨fun n x=>sm n x.bytes,fun h x=>q38 h x⟩
structure Disk where
 sectors:List (List UInt8)
 pending:List Put
 deriving DecidableEq
instance:Enc Disk:=⟨2,by decide,fun x=>[slc x.sectors,slc x.pending],fun _=>rfl⟩
@[simp] theorem qxr:Enc.sz Disk=2:=rfl
instance:Sm Disk:=⟨fun n x=>sm n x.sectors∧sm n x.pending,fun h x=>⟨q38 h x.1,q38 h x.2⟩⟩
structure Act where
 kind:Int
 put:Put
 deriving DecidableEq
instance:Enc Act:=⟨3,by decide,fun x=>[.int .i64 x.kind,.int .i64 x.put.sector,slc x.put.bytes],fun _=>rfl⟩
@[simp] theorem qy1:Enc.sz Act=3:=rfl
instance:Sm Act:=⟨fun n x=>sm n x.put,fun h x=>q38 h x⟩
structure IntResult where
 code:Int
 value:Int
 deriving DecidableEq
instance:Enc IntResult:=⟨2,by decide,fun x=>[.int .i64 x.code,.int .i64 x.value],fun _=>rfl⟩
@[simp] theorem qv9:Enc.sz IntResult=2:=rfl
theorem q6i (x:IntResult):enc x=[.int .i64 x.code,.int .i64 x.value]:=rfl
instance:Sm IntResult:=⟨fun n x=>True,fun _ h=>h⟩
structure IntsResult where
 code:Int
 list:List Int
 deriving DecidableEq
instance:Enc IntsResult:=⟨2,by decide,fun x=>[.int .i64 x.code,slc x.list],fun _=>rfl⟩
@[simp] theorem qtd:Enc.sz IntsResult=2:=rfl
instance:Sm IntsResult:=⟨fun n x=>sm n x.list,fun h x=>q38 h x⟩
structure BytesResult where
 code:Int
 bytes:List UInt8
 deriving DecidableEq
instance:Enc BytesResult:=⟨2,by decide,fun x=>[.int .i64 x.code,slc x.bytes],fun _=>rfl⟩
@[simp] theorem qsq:Enc.sz BytesResult=2:=rfl
instance:Sm BytesResult:=⟨fun n x=>sm n x.bytes,fun h x=>q38 h x⟩
structure TextResult where
 code:Int
 text:ByteArray
 deriving DecidableEq
instance:Enc TextResult:=⟨2,by decide,fun x=>[.int .i64 x.code,.str x.text],fun _=>rfl⟩
@[simp] theorem qt8:Enc.sz TextResult=2:=rfl
instance:Sm TextResult:=⟨fun n x=>sm n x.text,fun h x=>q38 h x⟩
structure SignatureResult where
 code:Int
 signature:Signature
 deriving DecidableEq
instance:Enc SignatureResult:=⟨2,by decide,fun x=>[.int .i64 x.code,slc x.signature.symbols],fun _=>rfl⟩
@[simp] theorem qo9:Enc.sz SignatureResult=2:=rfl
instance:Sm SignatureResult:=⟨fun n x=>sm n x.signature,fun h x=>q38 h x⟩
structure TermResult where
 code:Int
 term:List Int
 deriving DecidableEq
instance:Enc TermResult:=⟨2,by decide,fun x=>[.int .i64 x.code,slc x.term],fun _=>rfl⟩
@[simp] theorem qtc:Enc.sz TermResult=2:=rfl
instance:Sm TermResult:=⟨fun n x=>sm n x.term,fun h x=>q38 h x⟩
structure TermsResult where
 code:Int
 terms:List (List Int)
 deriving DecidableEq
instance:Enc TermsResult:=⟨2,by decide,fun x=>[.int .i64 x.code,slc x.terms],fun _=>rfl⟩
@[simp] theorem qt2:Enc.sz TermsResult=2:=rfl
instance:Sm TermsResult:=⟨fun n x=>sm n x.terms,fun h x=>q38 h x⟩
structure EquationResult where
 code:Int
 equation:Equation
 deriving DecidableEq
instance:Enc EquationResult:=⟨3,by decide,fun x=>[.int .i64 x.code,slc x.equation.left,slc x.equation.right],fun _=>rfl⟩
@[simp] theorem qpp:Enc.sz EquationResult=3:=rfl
theorem q21 (x:EquationResult):enc x=[.int .i64 x.code,slc x.equation.left,slc x.equation.right]:=rfl
instance:Sm EquationResult:=⟨fun n x=>sm n x.equation,fun h x=>q38 h x⟩
structure EquationsResult where
 code:Int
 list:List Equation
 deriving DecidableEq
instance:Enc EquationsResult:=⟨2,by decide,fun x=>[.int .i64 x.code,slc x.list],fun _=>rfl⟩
@[simp] theorem qog:Enc.sz EquationsResult=2:=rfl
theorem q49 (x:EquationsResult):enc x=[.int .i64 x.code,slc x.list]:=rfl
instance:Sm EquationsResult:=⟨fun n x=>sm n x.list,fun h x=>q38 h x⟩
structure KeyResult where
 code:Int
 normal:List Int
 term:List Int
 deriving DecidableEq
instance:Enc KeyResult:=⟨3,by decide,fun x=>[.int .i64 x.code,slc x.normal,slc x.term],fun _=>rfl⟩
@[simp] theorem qv0:Enc.sz KeyResult=3:=rfl
instance:Sm KeyResult:=⟨fun n x=>sm n x.normal∧sm n x.term,fun h x=>⟨q38 h x.1,q38 h x.2⟩⟩
structure BindingResult where
 code:Int
 binding:Binding
 deriving DecidableEq
instance:Enc BindingResult:=⟨3,by decide,fun x=>[.int .i64 x.code,slc x.binding.vars,slc x.binding.terms],fun _=>rfl⟩
@[simp] theorem qq5:Enc.sz BindingResult=3:=rfl
instance:Sm BindingResult:=⟨fun n x=>sm n x.binding,fun h x=>q38 h x⟩
structure RedexResult where
 code:Int
 place:Int
 rule:Int
 deriving DecidableEq
instance:Enc RedexResult:=⟨3,by decide,fun x=>[.int .i64 x.code,.int .i64 x.place,.int .i64 x.rule],fun _=>rfl⟩
@[simp] theorem qsl:Enc.sz RedexResult=3:=rfl
instance:Sm RedexResult:=⟨fun n x=>True,fun _ h=>h⟩
structure NormalResult where
 code:Int
 term:List Int
 steps:Int
 deriving DecidableEq
instance:Enc NormalResult:=⟨3,by decide,fun x=>[.int .i64 x.code,slc x.term,.int .i64 x.steps],fun _=>rfl⟩
@[simp] theorem qrp:Enc.sz NormalResult=3:=rfl
instance:Sm NormalResult:=⟨fun n x=>sm n x.term,fun h x=>q38 h x⟩
structure AlgebraResult where
 code:Int
 algebra:Algebra
 deriving DecidableEq
instance:Enc AlgebraResult:=⟨3,by decide,fun x=>[.int .i64 x.code,.int .i64 x.algebra.size,slc x.algebra.tables],fun _=>rfl⟩
@[simp] theorem qq7:Enc.sz AlgebraResult=3:=rfl
theorem q67 (x:AlgebraResult):enc x=[.int .i64 x.code,.int .i64 x.algebra.size,slc x.algebra.tables]:=rfl
instance:Sm AlgebraResult:=⟨fun n x=>sm n x.algebra,fun h x=>q38 h x⟩
structure EntryResult where
 code:Int
 entry:Entry
 deriving DecidableEq
instance:Enc EntryResult:=⟨8,by decide,fun x=>[.int .i64 x.code,.int .i64 x.entry.kind,.int .i64 x.entry.a,.int .i64 x.entry.b,.int .i64 x.entry.place,.int .i64 x.entry.side,slc x.entry.left,slc x.entry.right],fun _=>rfl⟩
@[simp] theorem qsw:Enc.sz EntryResult=8:=rfl
instance:Sm EntryResult:=⟨fun n x=>sm n x.entry,fun h x=>q38 h x⟩
structure CompletionResult where
 code:Int
 completion:Completion
 deriving DecidableEq
instance:Enc CompletionResult:=⟨7,by decide,fun x=>[.int .i64 x.code,slc x.completion.order,slc x.completion.equations,slc x.completion.entries,slc x.completion.rules,slc x.completion.waiting,.int .i64 x.completion.rounds],fun _=>rfl⟩
@[simp] theorem qmj:Enc.sz CompletionResult=7:=rfl
instance:Sm CompletionResult:=⟨fun n x=>sm n x.completion,fun h x=>q38 h x⟩
structure TheoryResult where
 code:Int
 theory:Theory
 deriving DecidableEq
instance:Enc TheoryResult:=⟨4,by decide,fun x=>[.int .i64 x.code,slc x.theory.order,slc x.theory.equations,slc x.theory.rules],fun _=>rfl⟩
@[simp] theorem qr6:Enc.sz TheoryResult=4:=rfl
instance:Sm TheoryResult:=⟨fun n x=>sm n x.theory,fun h x=>q38 h x⟩
structure DiskResult where
 code:Int
 disk:Disk
 deriving DecidableEq
instance:Enc DiskResult:=⟨3,by decide,fun x=>[.int .i64 x.code,slc x.disk.sectors,slc x.disk.pending],fun _=>rfl⟩
@[simp] theorem qtp:Enc.sz DiskResult=3:=rfl
instance:Sm DiskResult:=⟨fun n x=>sm n x.disk,fun h x=>q38 h x⟩
theorem szs:Enc.sz Int=1∧Enc.sz UInt8=1∧Enc.sz Symbol=2∧Enc.sz Signature=1∧Enc.sz Equation=2∧Enc.sz Binding=2∧Enc.sz Algebra=2∧Enc.sz Entry=7∧Enc.sz Completion=6∧Enc.sz Theory=3∧Enc.sz Put=2∧Enc.sz Disk=2∧Enc.sz Act=3∧Enc.sz IntResult=2∧Enc.sz IntsResult=2∧Enc.sz BytesResult=2∧Enc.sz TextResult=2∧Enc.sz SignatureResult=2∧Enc.sz TermResult=2∧Enc.sz TermsResult=2∧Enc.sz EquationResult=3∧Enc.sz EquationsResult=2∧Enc.sz KeyResult=3∧Enc.sz BindingResult=3∧Enc.sz RedexResult=3∧Enc.sz NormalResult=3∧Enc.sz AlgebraResult=3∧Enc.sz EntryResult=8∧Enc.sz CompletionResult=7∧Enc.sz TheoryResult=4∧Enc.sz DiskResult=3:=⟨rfl,rfl,rfl,rfl,rfl,rfl,rfl,rfl,rfl,rfl,rfl,rfl,rfl,rfl,rfl,rfl,rfl,rfl,rfl,rfl,rfl,rfl,rfl,rfl,rfl,rfl,rfl,rfl,rfl,rfl,rfl⟩
theorem evs:(∀ {n m:Nat},((n:Int) < (m:Int))↔n < m)∧(∀ {a b:ByteArray},(a.toList=b.toList)=(a=b)) ∧
 (∀ {α:Type} [BEq α] [LawfulBEq α] [DecidableEq α] {a b:α},(a == b)=decide (a=b))∧(∀ {α:Type} [BEq α] [LawfulBEq α] [DecidableEq α] {a b:α},(a != b) = !decide (a=b)) ∧
 (∀ {β:Type} {p:Prop} [Decidable p] {x y:β},(bif decide p then x else y)=if p then x else y)∧(∀ {β:Type} {b:Bool} {x y:β},(bif !b then x else y)=bif b then y else x) ∧
 (∀ {a b:UInt8},((a.toNat:Int)=(b.toNat:Int))=(a=b))∧(∀ {α:Type} [Enc α] {l:List α} {k:Nat},Enc.sz α=k→(cells l).length / k=l.length)∧(∀ {α:Type} [Enc α],Enc.sz (List α)=1) ∧
 (∀ i n:Nat,inB (i:Int) n=decide (i < n))∧(∀ n:Nat,((n:Nat):Int).toNat=n) ∧
 (∀ {α:Type} [Enc α] {l:List α} {k i:Nat},Enc.sz α=k→(cells l)[i*k]?=(l[i]?).bind fun x=>(Enc.enc x)[0]?) ∧
 (∀ {α:Type} [Enc α] {l:List α} {k i:Nat},Enc.sz α=k→1 < k→(cells l)[i*k+1]?=(l[i]?).bind fun x=>(Enc.enc x)[1]?) ∧
 (∀ {α:Type} [Enc α] {l:List α} {k i:Nat},Enc.sz α=k→2 < k→(cells l)[i*k+1+1]?=(l[i]?).bind fun x=>(Enc.enc x)[2]?) ∧
 (∀ {α:Type} [Enc α] {l:List α} {k i:Nat},Enc.sz α=k→3 < k→(cells l)[i*k+1+1+1]?=(l[i]?).bind fun x=>(Enc.enc x)[3]?) ∧
 (∀ {α:Type} [Enc α] {l:List α} {k i:Nat},Enc.sz α=k→4 < k→(cells l)[i*k+1+1+1+1]?=(l[i]?).bind fun x=>(Enc.enc x)[4]?) ∧
 (∀ {α:Type} [Enc α] {l:List α} {k i:Nat},Enc.sz α=k→5 < k→(cells l)[i*k+1+1+1+1+1]?=(l[i]?).bind fun x=>(Enc.enc x)[5]?) ∧
 (∀ {α:Type} [Enc α] {l:List α} {k i:Nat},Enc.sz α=k→6 < k→(cells l)[i*k+1+1+1+1+1+1]?=(l[i]?).bind fun x=>(Enc.enc x)[6]?) ∧
 (∀ {α:Type} [Enc α] {l:List α} {k i:Nat},Enc.sz α=k→7 < k→(cells l)[i*k+1+1+1+1+1+1+1]?=(l[i]?).bind fun x=>(Enc.enc x)[7]?) ∧
 (∀ {α:Type} [Enc α] {l:List α} {k i:Nat},Enc.sz α=k→8 < k→(cells l)[i*k+1+1+1+1+1+1+1+1]?=(l[i]?).bind fun x=>(Enc.enc x)[8]?) ∧
 (∀ {α β:Type} {x:α} {f:α→Option β},Option.bind (some x) f=f x)∧(∀ {α:Type} {a:α} {l:List α},(a::l)[0]?=some a)∧(∀ {α:Type} {a:α} {i:Nat} {l:List α},(a::l)[i+1]?=l[i]?) ∧
 (∀ (k:IntKind) (n:Int),oInt k (.int k n)=some n)∧(∀ b:Bool,q3h (.bool b)=some b)∧(∀ b:ByteArray,oStr (.str b)=some b)∧(∀ {α:Type} [Enc α] {k:Nat} (l:List α),Enc.sz α=k→oSl k (slc l)=some (cells l)) ∧
 (∀ c:List T,oAgg (.agg c)=some c)∧(∀ c:List T,oTup (.tup c)=some c)∧(∀ (x:T) (c:List T),q0i (x::c)=some (x,c))∧oNil []=some () ∧
 (∀ {α:Type} [Enc α] {k:Nat} {l:List α},Enc.sz α=k→T.sl k (cells l)=slc l) :=
 ⟨Int.ofNat_lt,qw3,qvv,qw2,qf1,qw4,qxf,q4r,qqw,q5f,Int.toNat_natCast,get0,get1,get2,get3,get4,get5,get6,get7,get8,qwa,List.getElem?_cons_zero,List.getElem?_cons_succ,quh,qoy,qtx,qve,qt7,qu5,qpr,qtt,qdd⟩
theorem tfs:(∀ {α:Type} {h:Decidable True} (a b:α),ite True a b=a)∧(∀ {α:Type} {h:Decidable False} (a b:α),ite False a b=b)∧(∀ (h:Decidable True),@decide True h=true) ∧
 (∀ (h:Decidable False),@decide False h=false)∧(∀ {α:Type} {a b:α},cond true a b=a)∧(∀ {α:Type} {a b:α},cond false a b=b) :=
 ⟨if_true,if_false,decide_true,decide_false,rfl,rfl⟩
theorem evz:type_of% tfs∧type_of% evs∧type_of% szs:=⟨tfs,evs,szs⟩
class OfSh (s:Sh) (α:Type) [Enc α] [Sm α] where
 of:s.Val→α
 enc:∀ x,s.wf x→s.enc x=Enc.enc (of x)
 sz:s.size=Enc.sz α
 sm:∀ x,s.wf x→Sm.sm maxLen (of x)
theorem q3r {a b:Sh} {x:(Sh.pair a b).Val} {l r:List T} (h1:a.enc x.1=l) (h2:b.enc x.2=r):(Sh.pair a b).enc x=l++r:=by rw [Sh.enc,h1,h2]
instance:OfSh (.int .i64) Int:=⟨id,fun _ _=>rfl,rfl,fun _ _=>trivial⟩
instance:OfSh .bool Bool:=⟨id,fun _ _=>rfl,rfl,fun _ _=>trivial⟩
instance:OfSh .str ByteArray:=⟨id,fun _ _=>rfl,rfl,fun _ h=>h⟩
theorem qxe (x:Int) (h:(Lit.int .u8 x).wf=true):[T.int .u8 x]=[T.int .u8 ((UInt8.ofNat (Int.toNat x)).toNat:Int)]:=by
 simp [Lit.wf,IntKind.min,IntKind.max,IntKind.signed,IntKind.bits] at h
 rw [UInt8.toNat_ofNat']
 congr 2
 omega
instance:OfSh (.int .u8) UInt8:=⟨fun n=>UInt8.ofNat (Int.toNat n),fun x h=>qxe x h,rfl,fun _ _=>trivial⟩
theorem qoi {s:Sh} {α:Type} [Enc α] [Sm α] [OfSh s α]:∀ (l:List s.Val),(∀ x,x∈l→s.wf x)→l.flatMap s.enc=cells (l.map (OfSh.of (s:=s) (α:=α)))
 | [],_=>rfl
 | x::l,h=>by
   rw [List.flatMap_cons,List.map_cons,q7a,OfSh.enc (α:=α) x (h x (by simp)),qoi (α:=α) l fun y hy=>h y (by simp [hy])]
instance {s:Sh} {α:Type} [Enc α] [Sm α] [OfSh s α]:OfSh (.sl s) (List α):=⟨fun l=>l.map (OfSh.of (s:=s) (α:=α)),fun l h=>by
 show [T.sl s.size (List.flatMap s.enc l)]=[slc _]
 rw [qoi (α:=α) l h.2,OfSh.sz (s:=s) (α:=α)]; rfl,rfl,fun l h=>⟨by simpa using h.1,fun x hx=>by
  obtain ⟨y,hy,rfl⟩:=List.mem_map.1 hx
  exact OfSh.sm y (h.2 y hy)⟩⟩
theorem arg_list {s:Sh} {α:Type} [Enc α] [Sm α] [OfSh s α] (l:List s.Val) (h:(Sh.sl s).wf l):argOf (.sl s) l=slc (OfSh.of (s := .sl s) (α:=List α) l):=by
 have:=OfSh.enc (s := .sl s) (α:=List α) l h
 simpa [Sh.enc,argOf] using this
@[reducible] def qfq:Sh := .pair .str (.pair (.int .i64) .unit)
instance:OfSh qfq Symbol:=⟨fun x=>⟨OfSh.of (s := .str) (α:=ByteArray) x.1,OfSh.of (s:=(.int .i64)) (α:=Int) x.2.1⟩,fun x h=>q3r (OfSh.enc (α:=ByteArray) x.1 h.1) (q3r (OfSh.enc (α:=Int) x.2.1 h.2.1) (rfl)),rfl,fun x h=>OfSh.sm (α:=ByteArray) x.1 h.1⟩
@[reducible] def qkq:Sh := .pair (.sl qfq) .unit
instance:OfSh qkq Signature:=⟨fun x=>⟨OfSh.of (s:=(.sl qfq)) (α:=List Symbol) x.1⟩,fun x h=>q3r (OfSh.enc (α:=List Symbol) x.1 h.1) (rfl),rfl,fun x h=>OfSh.sm (α:=List Symbol) x.1 h.1⟩
@[reducible] def q7r:Sh := .pair (.sl (.int .i64)) (.pair (.sl (.int .i64)) .unit)
instance:OfSh q7r Equation:=⟨fun x=>⟨OfSh.of (s:=(.sl (.int .i64))) (α:=List Int) x.1,OfSh.of (s:=(.sl (.int .i64))) (α:=List Int) x.2.1⟩,fun x h=>q3r (OfSh.enc (α:=List Int) x.1 h.1) (q3r (OfSh.enc (α:=List Int) x.2.1 h.2.1) (rfl)),rfl,fun x h=>⟨OfSh.sm (α:=List Int) x.1 h.1,OfSh.sm (α:=List Int) x.2.1 h.2.1⟩⟩
@[reducible] def qp4:Sh := .pair (.sl (.int .i64)) (.pair (.sl (.sl (.int .i64))) .unit)
instance:OfSh qp4 Binding:=⟨fun x=>⟨OfSh.of (s:=(.sl (.int .i64))) (α:=List Int) x.1,OfSh.of (s:=(.sl (.sl (.int .i64)))) (α:=List (List Int)) x.2.1⟩,fun x h=>q3r (OfSh.enc (α:=List Int) x.1 h.1) (q3r (OfSh.enc (α:=List (List Int)) x.2.1 h.2.1) (rfl)),rfl,fun x h=>⟨OfSh.sm (α:=List Int) x.1 h.1,OfSh.sm (α:=List (List Int)) x.2.1 h.2.1⟩⟩
@[reducible] def qq2:Sh := .pair (.int .i64) (.pair (.sl (.sl (.int .i64))) .unit)
instance:OfSh qq2 Algebra:=⟨fun x=>⟨OfSh.of (s:=(.int .i64)) (α:=Int) x.1,OfSh.of (s:=(.sl (.sl (.int .i64)))) (α:=List (List Int)) x.2.1⟩,fun x h=>q3r (OfSh.enc (α:=Int) x.1 h.1) (q3r (OfSh.enc (α:=List (List Int)) x.2.1 h.2.1) (rfl)),rfl,fun x h=>OfSh.sm (α:=List (List Int)) x.2.1 h.2.1⟩
@[reducible] def qiq:Sh := .pair (.int .i64) (.pair (.int .i64) (.pair (.int .i64) (.pair (.int .i64) (.pair (.int .i64) (.pair (.sl (.int .i64)) (.pair (.sl (.int .i64)) .unit))))))
instance:OfSh qiq Entry:=⟨fun x=>⟨OfSh.of (s:=(.int .i64)) (α:=Int) x.1,OfSh.of (s:=(.int .i64)) (α:=Int) x.2.1,OfSh.of (s:=(.int .i64)) (α:=Int) x.2.2.1,OfSh.of (s:=(.int .i64)) (α:=Int) x.2.2.2.1,OfSh.of (s:=(.int .i64)) (α:=Int) x.2.2.2.2.1,OfSh.of (s:=(.sl (.int .i64))) (α:=List Int) x.2.2.2.2.2.1,OfSh.of (s:=(.sl (.int .i64))) (α:=List Int) x.2.2.2.2.2.2.1⟩,fun x h=>q3r (OfSh.enc (α:=Int) x.1 h.1) (q3r (OfSh.enc (α:=Int) x.2.1 h.2.1) (q3r (OfSh.enc (α:=Int) x.2.2.1 h.2.2.1) (q3r (OfSh.enc (α:=Int) x.2.2.2.1 h.2.2.2.1) (q3r (OfSh.enc (α:=Int) x.2.2.2.2.1 h.2.2.2.2.1) (q3r (OfSh.enc (α:=List Int) x.2.2.2.2.2.1 h.2.2.2.2.2.1) (q3r (OfSh.enc (α:=List Int) x.2.2.2.2.2.2.1 h.2.2.2.2.2.2.1) (rfl))))))),rfl,fun x h=>⟨OfSh.sm (α:=List Int) x.2.2.2.2.2.1 h.2.2.2.2.2.1,OfSh.sm (α:=List Int) x.2.2.2.2.2.2.1 h.2.2.2.2.2.2.1⟩⟩
@[reducible] def qil:Sh := .pair (.sl (.int .i64)) (.pair (.sl q7r) (.pair (.sl qiq) (.pair (.sl (.int .i64)) (.pair (.sl (.int .i64)) (.pair (.int .i64) .unit)))))
instance:OfSh qil Completion:=⟨fun x=>⟨OfSh.of (s:=(.sl (.int .i64))) (α:=List Int) x.1,OfSh.of (s:=(.sl q7r)) (α:=List Equation) x.2.1,OfSh.of (s:=(.sl qiq)) (α:=List Entry) x.2.2.1,OfSh.of (s:=(.sl (.int .i64))) (α:=List Int) x.2.2.2.1,OfSh.of (s:=(.sl (.int .i64))) (α:=List Int) x.2.2.2.2.1,OfSh.of (s:=(.int .i64)) (α:=Int) x.2.2.2.2.2.1⟩,fun x h=>q3r (OfSh.enc (α:=List Int) x.1 h.1) (q3r (OfSh.enc (α:=List Equation) x.2.1 h.2.1) (q3r (OfSh.enc (α:=List Entry) x.2.2.1 h.2.2.1) (q3r (OfSh.enc (α:=List Int) x.2.2.2.1 h.2.2.2.1) (q3r (OfSh.enc (α:=List Int) x.2.2.2.2.1 h.2.2.2.2.1) (q3r (OfSh.enc (α:=Int) x.2.2.2.2.2.1 h.2.2.2.2.2.1) (rfl)))))),rfl,fun x h=>⟨OfSh.sm (α:=List Int) x.1 h.1,OfSh.sm (α:=List Equation) x.2.1 h.2.1,OfSh.sm (α:=List Entry) x.2.2.1 h.2.2.1,OfSh.sm (α:=List Int) x.2.2.2.1 h.2.2.2.1,OfSh.sm (α:=List Int) x.2.2.2.2.1 h.2.2.2.2.1⟩⟩
@[reducible] def qql:Sh := .pair (.sl (.int .i64)) (.pair (.sl q7r) (.pair (.sl q7r) .unit))
instance:OfSh qql Theory:=⟨fun x=>⟨OfSh.of (s:=(.sl (.int .i64))) (α:=List Int) x.1,OfSh.of (s:=(.sl q7r)) (α:=List Equation) x.2.1,OfSh.of (s:=(.sl q7r)) (α:=List Equation) x.2.2.1⟩,fun x h=>q3r (OfSh.enc (α:=List Int) x.1 h.1) (q3r (OfSh.enc (α:=List Equation) x.2.1 h.2.1) (q3r (OfSh.enc (α:=List Equation) x.2.2.1 h.2.2.1) (rfl))),rfl,fun x h=>⟨OfSh.sm (α:=List Int) x.1 h.1,OfSh.sm (α:=List Equation) x.2.1 h.2.1,OfSh.sm (α:=List Equation) x.2.2.1 h.2.2.1⟩⟩
@[reducible] def qjr:Sh := .pair (.int .i64) (.pair (.sl (.int .u8)) .unit)
instance:OfSh qjr Put:=⟨fun x=>⟨OfSh.of (s:=(.int .i64)) (α:=Int) x.1,OfSh.of (s:=(.sl (.int .u8))) (α:=List UInt8) x.2.1⟩,fun x h=>q3r (OfSh.enc (α:=Int) x.1 h.1) (q3r (OfSh.enc (α:=List UInt8) x.2.1 h.2.1) (rfl)),rfl,fun x h=>OfSh.sm (α:=List UInt8) x.2.1 h.2.1⟩
@[reducible] def qvk:Sh := .pair (.sl (.sl (.int .u8))) (.pair (.sl qjr) .unit)
instance:OfSh qvk Disk:=⟨fun x=>⟨OfSh.of (s:=(.sl (.sl (.int .u8)))) (α:=List (List UInt8)) x.1,OfSh.of (s:=(.sl qjr)) (α:=List Put) x.2.1⟩,fun x h=>q3r (OfSh.enc (α:=List (List UInt8)) x.1 h.1) (q3r (OfSh.enc (α:=List Put) x.2.1 h.2.1) (rfl)),rfl,fun x h=>⟨OfSh.sm (α:=List (List UInt8)) x.1 h.1,OfSh.sm (α:=List Put) x.2.1 h.2.1⟩⟩
@[reducible] def qx9:Sh := .pair (.int .i64) (.pair qjr .unit)
instance:OfSh qx9 Act:=⟨fun x=>⟨OfSh.of (s:=(.int .i64)) (α:=Int) x.1,OfSh.of (s:=qjr) (α:=Put) x.2.1⟩,fun x h=>q3r (OfSh.enc (α:=Int) x.1 h.1) (q3r (OfSh.enc (α:=Put) x.2.1 h.2.1) (rfl)),rfl,fun x h=>OfSh.sm (α:=Put) x.2.1 h.2.1⟩
def idx {α:Type} (p:α→Bool) (l:List α):Int:=match l.findIdx? p with
 | some i=>(i:Nat)
 | none => -1
theorem qai {n:Nat} {bad:Nat→Bool} {S:Nat→Nat→R} {r z:R}
 (step:∀ m k,k < n→S (m+1) k=if bad k=true then r else S m (k+1)) (stop:∀ m,S (m+1) n=z) {f:Nat} (hf:n < f) :
 S f 0=if (List.range n).any bad=true then r else z:=by
 have:∀ m k,k≤n→n < m+k→S m k=if (List.range' k (n - k)).any bad=true then r else z:=by
  intro m
  induction m with
  | zero=>intros; omega
  | succ m ih =>
    intro k hk hm
    by_cases h:k < n
    · rw [step m k h,ih (k+1) (by omega) (by omega),show n - k=(n - (k+1))+1 by omega,List.range'_succ,List.any_cons]
      by_cases hb:bad k=true
      · rw [if_pos hb,hb,Bool.true_or,if_pos rfl]
      · have hb':=Bool.eq_false_iff.2 hb; rw [if_neg hb,hb',Bool.false_or]
    · obtain rfl:k=n:=by omega
      rw [stop m]; simp
 have:=this f 0 (by omega) (by omega)
 rwa [Nat.sub_zero,← List.range_eq_range'] at this
theorem q8m {α:Type} {l:List α} {g:α→Option R} {S:Nat→Nat→R} {z:R}
 (step:∀ m k (h:k < l.length),S (m+1) k=match g l[k] with | some r=>r | none=>S m (k+1)) (stop:∀ m,S (m+1) l.length=z) {f:Nat} (hf:l.length < f) :
 S f 0=match l.findSome? g with | some r=>r | none=>z:=by
 have:∀ m k,k≤l.length→l.length < m+k→S m k=match (l.drop k).findSome? g with | some r=>r | none=>z:=by
  intro m
  induction m with
  | zero=>intros; omega
  | succ m ih =>
    intro k hk hm
    by_cases h:k < l.length
    · rw [step m k h,List.drop_eq_getElem_cons h,List.findSome?_cons]
      cases g l[k] with
      | none=>exact ih (k+1) (by omega) (by omega)
      | some r=>rfl
    · obtain rfl:k=l.length:=by omega
      rw [stop m]; simp
 simpa using this f 0 (by omega) (by omega)
theorem q83 {α:Type} {l:List α} {p:α→Bool} {S:Nat→Nat→R} {r z:R}
 (step:∀ m k (h:k < l.length),S (m+1) k=if p l[k]=true then r else S m (k+1)) (stop:∀ m,S (m+1) l.length=z) {f:Nat} (hf:l.length < f) :
 S f 0=if l.any p=true then r else z:=by
 have:∀ m k,k≤l.length→l.length < m+k→S m k=if (l.drop k).any p=true then r else z:=by
  intro m
  induction m with
  | zero=>intros; omega
  | succ m ih =>
    intro k hk hm
    by_cases h:k < l.length
    · rw [step m k h,List.drop_eq_getElem_cons h,List.any_cons,ih (k+1) (by omega) (by omega)]
      by_cases hb:p l[k]=true
      · rw [if_pos hb,hb,Bool.true_or,if_pos rfl]
      · have hb':=Bool.eq_false_iff.2 hb; rw [if_neg hb,hb',Bool.false_or]
    · obtain rfl:k=l.length:=by omega
      rw [stop m]; simp
 simpa using this f 0 (by omega) (by omega)
theorem qtf {α:Type} {l:List α} {p:α→Bool} {S:Nat→Nat→R} {r:R}
 (step:∀ m k (h:k < l.length),S (m+1) k=if p l[k]=true then r else S m (k+1)) (ha:l.any p=true) {f:Nat} (hf:l.length < f):S f 0=r:=by
 have:∀ m k,l.length < m+k→k≤l.length→(l.drop k).any p=true→S m k=r:=by
  intro m
  induction m with
  | zero=>intros; omega
  | succ m ih =>
    intro k hm hk ha
    by_cases h:k < l.length
    · rw [List.drop_eq_getElem_cons h,List.any_cons,Bool.or_eq_true] at ha
      rw [step m k h]
      by_cases hb:p l[k]=true
      · rw [if_pos hb]
      · rw [if_neg hb]; exact ih (k+1) (by omega) (by omega) (ha.resolve_left hb)
    · rw [List.drop_of_length_le (by omega)] at ha; cases ha
 exact this f 0 (by omega) (by omega) (by simpa using ha)
theorem q8h {α:Type} {l:List α} {p:α→Bool} {S:Nat→Nat→R}
 (step:∀ m k (h:k < l.length),S (m+1) k=if p l[k]=true then some (.int .i64 (k:Nat),[]) else S m (k+1)) (stop:∀ m,S (m+1) l.length=some (.int .i64 (-1),[])) {f:Nat} (hf:l.length < f) :
 S f 0=some (.int .i64 (idx p l),[]):=by
 have:∀ m k,k≤l.length→l.length < m+k→S m k=some (.int .i64 (match (l.drop k).findIdx? p with | some i=>((i+k:Nat):Int) | none => -1),[]):=by
  intro m
  induction m with
  | zero=>intros; omega
  | succ m ih =>
    intro k hk hm
    by_cases h:k < l.length
    · rw [step m k h,List.drop_eq_getElem_cons h,List.findIdx?_cons,ih (k+1) (by omega) (by omega)]
      by_cases hb:p l[k]=true
      · simp [hb]
      · simp only [hb]
        cases (l.drop (k+1)).findIdx? p with
        | none=>simp
        | some i=>simp; omega
    · obtain rfl:k=l.length:=by omega
      rw [stop m]; simp
 simpa [idx] using this f 0 (by omega) (by omega)
theorem q8a {α:Type} (p:α→Bool) (l:List α):decide (idx p l ≥ 0)=l.any p:=by
 unfold idx
 cases h:l.findIdx? p with
 | none =>
   rw [List.findIdx?_eq_none_iff] at h
   rw [Bool.eq_iff_iff]
   simp
   intro x hx; simpa using h x hx
 | some i =>
   rw [List.findIdx?_eq_some_iff_getElem] at h
   obtain ⟨h1,h2,_⟩:=h
   rw [Bool.eq_iff_iff]
   simp
   exact ⟨l[i],List.getElem_mem h1,h2⟩
theorem q7m {α:Type} (p:α→Bool) (l:List α):(idx p l = -1∧∀ x,x∈l→p x=false)∨∃ i,∃ h:i < l.length,idx p l=(i:Nat)∧p l[i]=true∧∀ j (hj:j < i),p (l[j]'(Nat.lt_trans hj h))=false:=by
 unfold idx
 cases hx:l.findIdx? p with
 | none=>rw [List.findIdx?_eq_none_iff] at hx; exact .inl ⟨rfl,hx⟩
 | some i =>
   rw [List.findIdx?_eq_some_iff_getElem] at hx
   obtain ⟨h1,h2,h3⟩:=hx
   exact .inr ⟨i,h1,rfl,h2,fun j hj=>by simpa using h3 j hj⟩
theorem q76 {α β γ:Type} (f:α→Option β) (g:β→γ):∀ l:List α,l.findSome? (fun x=>(f x).map g)=(l.findSome? f).map g
 | []=>rfl
 | x::l=>by
   rw [List.findSome?_cons,List.findSome?_cons]
   cases f x with
   | none=>exact q76 f g l
   | some b=>rfl
theorem qgn {α σ:Type} {l:List α} {S:Nat→Nat→σ→R} {g:σ→α→σ} {z:σ→R} (I:Nat→σ→Prop)
 (step:∀ m k s (h:k < l.length),I k s→S (m+1) k s=S m (k+1) (g s l[k]))
 (inv:∀ k s (h:k < l.length),I k s→I (k+1) (g s l[k]))
 (stop:∀ m s,I l.length s→S (m+1) l.length s=z s) (s:σ) (h0:I 0 s) {f:Nat} (hf:l.length < f):S f 0 s=z (l.foldl g s):=by
 have:∀ m k s,k≤l.length→l.length < m+k→I k s→S m k s=z ((l.drop k).foldl g s):=by
  intro m
  induction m with
  | zero=>intros; omega
  | succ m ih =>
    intro k s hk hm hi
    by_cases h:k < l.length
    · rw [step m k s h hi,List.drop_eq_getElem_cons h,List.foldl_cons]
      exact ih (k+1) _ (by omega) (by omega) (inv k s h hi)
    · obtain rfl:k=l.length:=by omega
      rw [stop m s hi,List.drop_of_length_le (Nat.le_refl _),List.foldl_nil]
 simpa using this f 0 s (by omega) (by omega) h0
theorem qo1 {α σ:Type} {l:List α} {g:σ→α→σ} (I:Nat→σ→Prop) (inv:∀ k s (h:k < l.length),I k s→I (k+1) (g s l[k])) (s:σ) (h0:I 0 s):I l.length (l.foldl g s):=by
 have:∀ n k s,k+n=l.length→I k s→I l.length ((l.drop k).foldl g s):=by
  intro n
  induction n with
  | zero=>intro k s hk hi; obtain rfl:k=l.length:=by omega
          rw [List.drop_of_length_le (Nat.le_refl _)]; exact hi
  | succ n ih =>
    intro k s hk hi
    have h:k < l.length:=by omega
    rw [List.drop_eq_getElem_cons h,List.foldl_cons]
    exact ih (k+1) _ (by omega) (inv k s h hi)
 simpa using this l.length 0 s (by omega) h0
theorem q4q {α:Type} [Enc α]:slc ([]:List α)=T.sl (Enc.sz α) []:=rfl
theorem q2j (l:List Int) (x:Int):cells l++[.int .i64 x]=cells (l++[x]):=by rw [q2t,← q1j,q8x]
theorem q74 {α:Type} [Enc α] (l:List (List α)) (x:List α):cells l++[slc x]=cells (l++[x]):=by rw [q2t,← q5m,q8x]
theorem q3t {a b:Nat} (h:a≤b):Nat.ble a b=true:=Nat.ble_eq_true_of_le h
theorem q9n {σ:Type} {n:Nat} {S:Nat→Nat→σ→R} {st:Nat→σ} {z:R} (step:∀ m k,k < n→S (m+1) k (st k)=S m (k+1) (st (k+1))) (stop:∀ m,S (m+1) n (st n)=z) {f:Nat} (hf:n < f) :
 S f 0 (st 0)=z:=by
 have:∀ m k,k≤n→n < m+k→S m k (st k)=z:=by
  intro m
  induction m with
  | zero=>intros; omega
  | succ m ih =>
    intro k hk hm
    by_cases h:k < n
    · rw [step m k h]; exact ih (k+1) (by omega) (by omega)
    · obtain rfl:k=n:=by omega
      exact stop m
 exact this f 0 (by omega) (by omega)
theorem q60 (l:List Int):(cells l).all T.scalar=true:=by
 rw [List.all_eq_true]
 intro x hx
 obtain ⟨y,_,hy⟩:=List.mem_flatMap.1 hx
 obtain rfl:=List.mem_singleton.1 hy
 rfl
end Ev.Ty
end
section
open Go
set_option maxRecDepth 100000
namespace Ev
def q20.st0 (x0:Int) (x1:List T) (x2 x3:Int):St:=⟨[(3,oi x0),(6,ol 1 x1),(7,oi x2),(8,oi x3)],[]⟩
noncomputable def q20.K0 (n:Nat):Ex→St→R:=kx F.q20 n [.block 0,.seq 0 (cx F.q20 [1,1,1])] (q3u prog A F.q20)
noncomputable def q20.at0 (n:Nat) (m:Nat) (s:St):R:=lx F.q20 n 0 [1,1,0,1,0,0] (q20.K0 n) m s
noncomputable def q20.rd0 (n:Nat) (L0:St→R) (s:St):R:=rx F.q20 n 0 [1,1,0,1,0,0] (q20.K0 n) L0 s
theorem q20.next0 (n:Nat) (m:Nat) (s:St):q20.at0 n (m+1) s=q20.rd0 n (q20.at0 n m) s:=nx _ _ _ _ _ _ _
theorem q20.round0 (n:Nat) (L0:St→R) (x0:Int) (x1:List T) (x2 x3:Int):q20.rd0 n L0 (q20.st0 x0 x1 x2 x3)=(bif (decide (x3 < x2)) then (bif inB x3 ((x1).length / 1) then ((x1[((Int.toNat x3)*1)]?).bind fun e1=>((oInt .i64 e1).bind fun n2=>(bif ((n2 != x0)) then some ((.int .i64 n2),[]) else (L0 (q20.st0 x0 x1 x2 (IntKind.wrap .i64 (x3+(1:Int)))))))) else none) else some ((.int .i64 x0),[])):=by kernel_rfl
theorem q20.ev (n:Nat) (a0:List T):q1m prog A H LIM n F.q20 [(.sl 1 a0)]=(q20.at0 n n (q20.st0 (0:Int) a0 ((((a0).length / 1):Nat):Int) (0:Int))):=by kernel_rfl
def q14.st0 (x0:List T) (x1 x2:Int) (x3:List T) (x4:Int) (x5:List T):St:=⟨[(2,(.one (.ptr 128 0))),(3,(.one (.ptr 192 0))),(25,ol 1 x0),(26,oi x1),(27,oi x2)],[(128,(.box [(.t (.sl 2 x3))])),(192,(.box [(.t (.int .i64 x4)),(.t (.sl 1 x5))]))]⟩
noncomputable def q14.K0 (n:Nat):Ex→St→R:=kx F.q14 n [.block 0,.seq 0 (cx F.q14 [1,1,1,1,1])] (q3u prog A F.q14)
noncomputable def q14.at0 (n:Nat) (m:Nat) (s:St):R:=lx F.q14 n 0 [1,1,1,1,0,1,0,0] (q14.K0 n) m s
noncomputable def q14.rd0 (n:Nat) (L0:St→R) (s:St):R:=rx F.q14 n 0 [1,1,1,1,0,1,0,0] (q14.K0 n) L0 s
theorem q14.next0 (n:Nat) (m:Nat) (s:St):q14.at0 n (m+1) s=q14.rd0 n (q14.at0 n m) s:=nx _ _ _ _ _ _ _
theorem q14.round0 (n:Nat) (L0:St→R) (x0:List T) (x1 x2:Int) (x3:List T) (x4:Int) (x5:List T):q14.rd0 n L0 (q14.st0 x0 x1 x2 x3 x4 x5)=(bif (decide (x2 < x1)) then (bif inB x2 ((x0).length / 1) then ((x0[((Int.toNat x2)*1)]?).bind fun e5=>((oSl 1 e5).bind fun c6=>(bif inB x2 ((x3).length / 2) then ((x3[(((Int.toNat x2)*2)+1)]?).bind fun e7=>((oInt .i64 e7).bind fun n8=>((LIM F.q2p [(.int .i64 x4),(.int .i64 n8)]).bind fun r9=>((oNil r9.2).bind fun _=>((oInt .i64 r9.1).bind fun n10=>(bif ((((((c6).length / 1):Nat):Int) != n10)) then some ((.int .i64 (2:Int)),[]) else ((LIM F.q28 [(.sl 1 c6),(.clo F.q2w [(.rref [(.int .i64 x4),(.sl 1 x5)] 0)])]).bind fun r11=>((oNil r11.2).bind fun _=>((q3h r11.1).bind fun b12=>(bif b12 then some ((.int .i64 (3:Int)),[]) else (L0 (q14.st0 x0 x1 (IntKind.wrap .i64 (x2+(1:Int))) x3 x4 x5)))))))))))) else none))) else none) else some ((.int .i64 (0:Int)),[])):=by kernel_rfl
theorem q14.ev (n:Nat) (a0_0:List T) (a1_0:Int) (a1_1:List T):q1m prog A H LIM n F.q14 [(.agg [(.sl 2 a0_0)]),(.agg [(.int .i64 a1_0),(.sl 1 a1_1)])]=((LIM F.q06 [(.agg [(.sl 2 a0_0)])]).bind fun r1=>((oNil r1.2).bind fun _=>((oInt .i64 r1.1).bind fun n2=>(bif ((n2 != (0:Int))) then some ((.int .i64 n2),[]) else ((LIM F.q3x [(.int .i64 a1_0),(.int .i64 (1:Int)),(.int .i64 (3:Int))]).bind fun r3=>((oNil r3.2).bind fun _=>((q3h r3.1).bind fun b4=>(bif (!b4) then some ((.int .i64 (3:Int)),[]) else (bif ((((((a1_1).length / 1):Nat):Int) != ((((a0_0).length / 2):Nat):Int))) then some ((.int .i64 (2:Int)),[]) else (q14.at0 n n (q14.st0 a1_1 ((((a1_1).length / 1):Nat):Int) (0:Int) a0_0 a1_0 a1_1))))))))))):=by kernel_rfl
theorem q2w.ev (n:Nat) (a0 a1_0:Int) (a1_1:List T):q1m prog A H LIM n F.q2w [(.int .i64 a0),(.rref [(.int .i64 a1_0),(.sl 1 a1_1)] 0)]=((LIM F.q3x [(.int .i64 a0),(.int .i64 (0:Int)),(.int .i64 (IntKind.wrap .i64 (a1_0 - (1:Int))))]).bind fun r1=>((oNil r1.2).bind fun _=>((q3h r1.1).bind fun b2=>some ((.bool (!b2)),[])))):=by kernel_rfl
theorem q53.ev (n:Nat) (a0_0:Int) (a0_1 a1_0 a2 a3:List T):q1m prog A H LIM n F.q53 [(.agg [(.int .i64 a0_0),(.sl 1 a0_1)]),(.agg [(.sl 2 a1_0)]),(.sl 1 a2),(.sl 1 a3)]=((LIM F.q0m [(.agg [(.int .i64 a0_0),(.sl 1 a0_1)]),(.agg [(.sl 2 a1_0)]),(.sl 1 a2),(.sl 1 a3),(.int .i64 (0:Int))]).bind fun r1=>((oNil r1.2).bind fun _=>((oTup r1.1).bind fun c2=>((q0i c2).bind fun p3=>((oInt .i64 p3.1).bind fun n4=>((q0i p3.2).bind fun p5=>((oInt .i64 p5.1).bind fun n6=>((oNil p5.2).bind fun _=>some ((.int .i64 n4),[]))))))))):=by kernel_rfl
def q0m.st0 (x0 x1:List T) (x2 x3 x4 x5 x6 x7:Int) (x8 x9:List T):St:=⟨[(2,ol 1 x0),(3,ol 1 x1),(4,oi x2),(5,(.one (.ptr 320 0))),(6,(.one (.ptr 384 0))),(12,oi x3),(13,oi x4),(35,oi x5),(36,oi x6)],[(320,(.box [(.t (.int .i64 x7)),(.t (.sl 1 x8))])),(384,(.box [(.t (.sl 2 x9))]))]⟩
noncomputable def q0m.K0 (n:Nat):Ex→St→R:=kx F.q0m n [.block 0,.seq 0 (cx F.q0m [1,1,1,1,1,1])] (q3u prog A F.q0m)
noncomputable def q0m.at0 (n:Nat) (m:Nat) (s:St):R:=lx F.q0m n 0 [1,1,1,1,1,0,1,0,0] (q0m.K0 n) m s
noncomputable def q0m.rd0 (n:Nat) (L0:St→R) (s:St):R:=rx F.q0m n 0 [1,1,1,1,1,0,1,0,0] (q0m.K0 n) L0 s
theorem q0m.next0 (n:Nat) (m:Nat) (s:St):q0m.at0 n (m+1) s=q0m.rd0 n (q0m.at0 n m) s:=nx _ _ _ _ _ _ _
theorem q0m.round0 (n:Nat) (L0:St→R) (x0 x1:List T) (x2 x3 x4 x5 x6 x7:Int) (x8 x9:List T):q0m.rd0 n L0 (q0m.st0 x0 x1 x2 x3 x4 x5 x6 x7 x8 x9)=(bif (decide (x6 < x5)) then ((LIM F.q0m [(.agg [(.int .i64 x7),(.sl 1 x8)]),(.agg [(.sl 2 x9)]),(.sl 1 x0),(.sl 1 x1),(.int .i64 x2)]).bind fun r7=>((oNil r7.2).bind fun _=>((oTup r7.1).bind fun c8=>((q0i c8).bind fun p9=>((oInt .i64 p9.1).bind fun n10=>((q0i p9.2).bind fun p11=>((oInt .i64 p11.1).bind fun n12=>((oNil p11.2).bind fun _=>(L0 (q0m.st0 x0 x1 n12 x3 (IntKind.wrap .i64 ((IntKind.wrap .i64 (x4*x7))+n10)) x5 (IntKind.wrap .i64 (x6+(1:Int))) x7 x8 x9)))))))))) else (bif inB x3 ((x8).length / 1) then ((x8[((Int.toNat x3)*1)]?).bind fun e13=>((oSl 1 e13).bind fun c14=>(bif inB x4 ((c14).length / 1) then ((c14[((Int.toNat x4)*1)]?).bind fun e15=>((oInt .i64 e15).bind fun n16=>some ((.tup [(.int .i64 n16),(.int .i64 x2)]),[]))) else none))) else none)):=by kernel_rfl
theorem q0m.ev (n:Nat) (a0_0:Int) (a0_1 a1_0 a2 a3:List T) (a4:Int):q1m prog A H LIM n F.q0m [(.agg [(.int .i64 a0_0),(.sl 1 a0_1)]),(.agg [(.sl 2 a1_0)]),(.sl 1 a2),(.sl 1 a3),(.int .i64 a4)]=(bif inB a4 ((a3).length / 1) then ((a3[((Int.toNat a4)*1)]?).bind fun e1=>((oInt .i64 e1).bind fun n2=>(bif (decide (n2 < (0:Int))) then (bif inB (IntKind.wrap .i64 ((-1:Int) - n2)) ((a2).length / 1) then ((a2[((Int.toNat (IntKind.wrap .i64 ((-1:Int) - n2)))*1)]?).bind fun e3=>((oInt .i64 e3).bind fun n4=>some ((.tup [(.int .i64 n4),(.int .i64 (IntKind.wrap .i64 (a4+(1:Int))))]),[]))) else none) else (bif inB n2 ((a1_0).length / 2) then ((a1_0[(((Int.toNat n2)*2)+1)]?).bind fun e5=>((oInt .i64 e5).bind fun n6=>(q0m.at0 n n (q0m.st0 a2 a3 (IntKind.wrap .i64 (a4+(1:Int))) n2 (0:Int) n6 (0:Int) a0_0 a0_1 a1_0)))) else none)))) else none):=by kernel_rfl
def q09.st2 (x0 x1 x2 x3 x4:Int) (x5 x6 x7 x8 x9:List T):St:=⟨[(3,(.one (.ptr 192 0))),(4,(.one (.ptr 256 0))),(5,(.one (.ptr 320 0))),(7,(.one (.obj 576))),(12,oi x0),(13,oi x1),(29,oi x2),(30,oi x3)],[(192,(.box [(.t (.int .i64 x4)),(.t (.sl 1 x5))])),(256,(.box [(.t (.sl 2 x6))])),(320,(.box [(.t (.sl 1 x7)),(.t (.sl 1 x8))])),(576,(.arr true true 1 x9))]⟩
def q09.st0 (x0 x1 x2:Int) (x3 x4 x5 x6 x7:List T):St:=⟨[(3,(.one (.ptr 192 0))),(4,(.one (.ptr 256 0))),(5,(.one (.ptr 320 0))),(7,(.one (.obj 576))),(12,oi x0),(13,oi x1)],[(192,(.box [(.t (.int .i64 x2)),(.t (.sl 1 x3))])),(256,(.box [(.t (.sl 2 x4))])),(320,(.box [(.t (.sl 1 x5)),(.t (.sl 1 x6))])),(576,(.arr true true 1 x7))]⟩
noncomputable def q09.K0 (n:Nat):Ex→St→R:=kx F.q09 n [.block 0,.seq 0 (cx F.q09 [1,1,1])] (q3u prog A F.q09)
noncomputable def q09.at0 (n:Nat) (m:Nat) (s:St):R:=lx F.q09 n 0 [1,1,0,1,0,0] (q09.K0 n) m s
noncomputable def q09.rd0 (n:Nat) (L0:St→R) (s:St):R:=rx F.q09 n 0 [1,1,0,1,0,0] (q09.K0 n) L0 s
theorem q09.next0 (n:Nat) (m:Nat) (s:St):q09.at0 n (m+1) s=q09.rd0 n (q09.at0 n m) s:=nx _ _ _ _ _ _ _
noncomputable def q09.K2 (n:Nat) (L0:St→R):Ex→St→R:=kx F.q09 n [.block 2,.block 1,.seq 0 (cx F.q09 [1,1,0,1,0,0,1,1,1])] (bx F.q09 0 (q09.K0 n) L0)
noncomputable def q09.at2 (n:Nat) (L0:St→R) (m:Nat) (s:St):R:=lx F.q09 n 2 [1,1,0,1,0,0,1,1,0,0,1,1,0,0] (q09.K2 n L0) m s
noncomputable def q09.rd2 (n:Nat) (L0:St→R) (L2:St→R) (s:St):R:=rx F.q09 n 2 [1,1,0,1,0,0,1,1,0,0,1,1,0,0] (q09.K2 n L0) L2 s
theorem q09.next2 (n:Nat) (L0:St→R) (m:Nat) (s:St):q09.at2 n L0 (m+1) s=q09.rd2 n L0 (q09.at2 n L0 m) s:=nx _ _ _ _ _ _ _
theorem q09.round0 (n:Nat) (L0:St→R) (x0 x1 x2:Int) (x3 x4 x5 x6 x7:List T):q09.rd0 n L0 (q09.st0 x0 x1 x2 x3 x4 x5 x6 x7)=(bif (decide (x1 < x0)) then ((LIM F.q53 [(.agg [(.int .i64 x2),(.sl 1 x3)]),(.agg [(.sl 2 x4)]),(.sl 1 x7),(.sl 1 x5)]).bind fun r3=>((oNil r3.2).bind fun _=>((oInt .i64 r3.1).bind fun n4=>((LIM F.q53 [(.agg [(.int .i64 x2),(.sl 1 x3)]),(.agg [(.sl 2 x4)]),(.sl 1 x7),(.sl 1 x6)]).bind fun r5=>((oNil r5.2).bind fun _=>((oInt .i64 r5.1).bind fun n6=>(bif ((n4 != n6)) then some ((.bool false),[]) else (q09.at2 n L0 n (q09.st2 x0 x1 ((((x7).length / 1):Nat):Int) (0:Int) x2 x3 x4 x5 x6 x7))))))))) else some ((.bool true),[])):=by kernel_rfl
theorem q09.round2 (n:Nat) (L0:St→R) (L2:St→R) (x0 x1 x2 x3 x4:Int) (x5 x6 x7 x8 x9:List T):q09.rd2 n L0 L2 (q09.st2 x0 x1 x2 x3 x4 x5 x6 x7 x8 x9)=(bif (decide (x3 < x2)) then (bif inB x3 ((x9).length / 1) then ((x9[((Int.toNat x3)*1)]?).bind fun e7=>((oInt .i64 e7).bind fun n8=>(bif inB x3 ((x9).length / 1) then (bif decide (((Int.toNat x3)*1)+1≤(x9).length) then (bif inB x3 (((setCells x9 ((Int.toNat x3)*1) [(.int .i64 (IntKind.wrap .i64 (n8+(1:Int))))])).length / 1) then (((setCells x9 ((Int.toNat x3)*1) [(.int .i64 (IntKind.wrap .i64 (n8+(1:Int))))])[((Int.toNat x3)*1)]?).bind fun e9=>((oInt .i64 e9).bind fun n10=>(bif (decide (n10 < x4)) then (L0 (q09.st0 x0 (IntKind.wrap .i64 (x1+(1:Int))) x4 x5 x6 x7 x8 (setCells x9 ((Int.toNat x3)*1) [(.int .i64 (IntKind.wrap .i64 (n8+(1:Int))))]))) else (bif inB x3 (((setCells x9 ((Int.toNat x3)*1) [(.int .i64 (IntKind.wrap .i64 (n8+(1:Int))))])).length / 1) then (bif decide (((Int.toNat x3)*1)+1≤((setCells x9 ((Int.toNat x3)*1) [(.int .i64 (IntKind.wrap .i64 (n8+(1:Int))))])).length) then (L2 (q09.st2 x0 x1 x2 (IntKind.wrap .i64 (x3+(1:Int))) x4 x5 x6 x7 x8 (setCells (setCells x9 ((Int.toNat x3)*1) [(.int .i64 (IntKind.wrap .i64 (n8+(1:Int))))]) ((Int.toNat x3)*1) [(.int .i64 (0:Int))]))) else none) else none)))) else none) else none) else none))) else none) else (L0 (q09.st0 x0 (IntKind.wrap .i64 (x1+(1:Int))) x4 x5 x6 x7 x8 x9))):=by kernel_rfl
theorem q09.ev (n:Nat) (a0_0:Int) (a0_1 a1_0 a2_0 a2_1:List T):q1m prog A H LIM n F.q09 [(.agg [(.int .i64 a0_0),(.sl 1 a0_1)]),(.agg [(.sl 2 a1_0)]),(.agg [(.sl 1 a2_0),(.sl 1 a2_1)])]=((LIM F.q2p [(.int .i64 a0_0),(.int .i64 (6:Int))]).bind fun r1=>((oNil r1.2).bind fun _=>((oInt .i64 r1.1).bind fun n2=>(q09.at0 n n (q09.st0 n2 (0:Int) a0_0 a0_1 a1_0 a2_0 a2_1 [(.int .i64 (0:Int)),(.int .i64 (0:Int)),(.int .i64 (0:Int)),(.int .i64 (0:Int)),(.int .i64 (0:Int)),(.int .i64 (0:Int))]))))):=by kernel_rfl
def q0k.st0 (x0:List T) (x1 x2:Int) (x3 x4 x5:List T):St:=⟨[(2,(.one (.ptr 128 0))),(5,(.one (.obj 640))),(11,ol 1 x0),(12,oi x1),(13,oi x2)],[(128,(.box [(.t (.sl 1 x3)),(.t (.sl 1 x4))])),(640,(.arr true true 1 x5))]⟩
noncomputable def q0k.K0 (n:Nat):Ex→St→R:=kx F.q0k n [.block 0,.seq 0 (cx F.q0k [1,1,1])] (q3u prog A F.q0k)
noncomputable def q0k.at0 (n:Nat) (m:Nat) (s:St):R:=lx F.q0k n 0 [1,1,0,1,0,0] (q0k.K0 n) m s
noncomputable def q0k.rd0 (n:Nat) (L0:St→R) (s:St):R:=rx F.q0k n 0 [1,1,0,1,0,0] (q0k.K0 n) L0 s
theorem q0k.next0 (n:Nat) (m:Nat) (s:St):q0k.at0 n (m+1) s=q0k.rd0 n (q0k.at0 n m) s:=nx _ _ _ _ _ _ _
theorem q0k.round0 (n:Nat) (L0:St→R) (x0:List T) (x1 x2:Int) (x3 x4 x5:List T):q0k.rd0 n L0 (q0k.st0 x0 x1 x2 x3 x4 x5)=(bif (decide (x2 < x1)) then (bif inB x2 ((x0).length / 1) then ((x0[((Int.toNat x2)*1)]?).bind fun e1=>((oInt .i64 e1).bind fun n2=>((LIM F.q55 [(.agg [(.sl 1 x3),(.sl 1 x4)]),(.int .i64 (IntKind.wrap .i64 ((-1:Int) - n2)))]).bind fun r3=>((oNil r3.2).bind fun _=>((oTup r3.1).bind fun c4=>((q0i c4).bind fun p5=>((oSl 1 p5.1).bind fun c6=>(bif (c6).all T.scalar then ((q0i p5.2).bind fun p7=>((q3h p7.1).bind fun b8=>((oNil p7.2).bind fun _=>(bif b8 then (bif (c6).all T.scalar then (bif Nat.ble (((x5).length+(c6).length)*8) (140737488355328*1) then (L0 (q0k.st0 x0 x1 (IntKind.wrap .i64 (x2+(1:Int))) x3 x4 (x5++c6:List T))) else none) else none) else (bif Nat.ble (((x5).length+1)*8) (140737488355328*1) then (L0 (q0k.st0 x0 x1 (IntKind.wrap .i64 (x2+(1:Int))) x3 x4 (x5++[(.int .i64 n2)]:List T))) else none))))) else none)))))))) else none) else some ((.sl 1 x5),[])):=by kernel_rfl
theorem q0k.ev (n:Nat) (a0_0 a0_1 a1:List T):q1m prog A H LIM n F.q0k [(.agg [(.sl 1 a0_0),(.sl 1 a0_1)]),(.sl 1 a1)]=(q0k.at0 n n (q0k.st0 a1 ((((a1).length / 1):Nat):Int) (0:Int) a0_0 a0_1 [])):=by kernel_rfl
def q11.st0 (x0:Int) (x1:List T) (x2:Int) (x3 x4:List T):St:=⟨[(0,(.one (.ptr 1000000 0))),(1,oi x0),(2,ol 1 x1),(6,oi x2)],[(1000000,(.box [(.obj 1000001),(.obj 1000002)])),(1000001,(.arr true true 1 x3)),(1000002,(.arr true true 1 x4))]⟩
noncomputable def q11.K0 (n:Nat):Ex→St→R:=kx F.q11 n [.block 0,.seq 0 (cx F.q11 [1,1])] (q3u prog A F.q11)
noncomputable def q11.at0 (n:Nat) (m:Nat) (s:St):R:=lx F.q11 n 0 [1,0,0,0] (q11.K0 n) m s
noncomputable def q11.rd0 (n:Nat) (L0:St→R) (s:St):R:=rx F.q11 n 0 [1,0,0,0] (q11.K0 n) L0 s
theorem q11.next0 (n:Nat) (m:Nat) (s:St):q11.at0 n (m+1) s=q11.rd0 n (q11.at0 n m) s:=nx _ _ _ _ _ _ _
theorem q11.round0 (n:Nat) (L0:St→R) (x0:Int) (x1:List T) (x2:Int) (x3 x4:List T):q11.rd0 n L0 (q11.st0 x0 x1 x2 x3 x4)=(bif (decide (x2 < ((((x3).length / 1):Nat):Int))) then (bif inB x2 ((x3).length / 1) then ((x3[((Int.toNat x2)*1)]?).bind fun e1=>((oInt .i64 e1).bind fun n2=>(bif (decide (n2 < x0)) then (L0 (q11.st0 x0 x1 (IntKind.wrap .i64 (x2+(1:Int))) x3 x4)) else ((LIM F.q4y [(.sl 1 x3),(.int .i64 x2),(.sl 1 [(.int .i64 x0)])]).bind fun r3=>((oNil r3.2).bind fun _=>((oSl 1 r3.1).bind fun c4=>((LIM F.q2q [(.sl 1 x1)]).bind fun r5=>((oNil r5.2).bind fun _=>((oSl 1 r5.1).bind fun c6=>((LIM F.q4o [(.sl 1 x4),(.int .i64 x2),(.sl 1 [(.sl 1 c6)])]).bind fun r7=>((oNil r7.2).bind fun _=>((oSl 1 r7.1).bind fun c8=>some ((.tup []),[(.agg [(.sl 1 c4),(.sl 1 c8)])]))))))))))))) else none) else ((LIM F.q4y [(.sl 1 x3),(.int .i64 x2),(.sl 1 [(.int .i64 x0)])]).bind fun r9=>((oNil r9.2).bind fun _=>((oSl 1 r9.1).bind fun c10=>((LIM F.q2q [(.sl 1 x1)]).bind fun r11=>((oNil r11.2).bind fun _=>((oSl 1 r11.1).bind fun c12=>((LIM F.q4o [(.sl 1 x4),(.int .i64 x2),(.sl 1 [(.sl 1 c12)])]).bind fun r13=>((oNil r13.2).bind fun _=>((oSl 1 r13.1).bind fun c14=>some ((.tup []),[(.agg [(.sl 1 c10),(.sl 1 c14)])]))))))))))):=by kernel_rfl
theorem q11.ev (n:Nat) (a0_0 a0_1:List T) (a1:Int) (a2:List T):q1m prog A H LIM n F.q11 [(.rref [(.sl 1 a0_0),(.sl 1 a0_1)] 0),(.int .i64 a1),(.sl 1 a2)]=(q11.at0 n n (q11.st0 a1 a2 (0:Int) a0_0 a0_1)):=by kernel_rfl
theorem q55.ev (n:Nat) (a0_0 a0_1:List T) (a1:Int):q1m prog A H LIM n F.q55 [(.agg [(.sl 1 a0_0),(.sl 1 a0_1)]),(.int .i64 a1)]=((LIM F.q0e [(.sl 1 a0_0),(.int .i64 a1)]).bind fun r1=>((oNil r1.2).bind fun _=>((oInt .i64 r1.1).bind fun n2=>(bif (decide (n2 < (0:Int))) then some ((.tup [(.sl 1 []),(.bool false)]),[]) else (bif inB n2 ((a0_1).length / 1) then ((a0_1[((Int.toNat n2)*1)]?).bind fun e3=>((oSl 1 e3).bind fun c4=>some ((.tup [(.sl 1 c4),(.bool true)]),[]))) else none))))):=by kernel_rfl
theorem q3d.ev (n:Nat) (a0_0 a1_0 a1_1:List T):q1m prog A H LIM n F.q3d [(.agg [(.sl 2 a0_0)]),(.agg [(.sl 1 a1_0),(.sl 1 a1_1)])]=((LIM F.q4j [(.agg [(.sl 2 a0_0)]),(.sl 1 a1_0)]).bind fun r1=>((oNil r1.2).bind fun _=>((oInt .i64 r1.1).bind fun n2=>((LIM F.q4j [(.agg [(.sl 2 a0_0)]),(.sl 1 a1_1)]).bind fun r3=>((oNil r3.2).bind fun _=>((oInt .i64 r3.1).bind fun n4=>((LIM F.q6n [(.sl 1 [(.int .i64 n2),(.int .i64 n4)])]).bind fun r5=>((oNil r5.2).bind fun _=>((oInt .i64 r5.1).bind fun n6=>(bif ((n6 != (0:Int))) then some ((.int .i64 n6),[]) else ((LIM F.q0x [(.sl 1 [(.sl 1 a1_0),(.sl 1 a1_1)])]).bind fun r7=>((oNil r7.2).bind fun _=>((oSl 1 r7.1).bind fun c8=>((LIM F.q28 [(.sl 1 c8),(.clo F.q2u [])]).bind fun r9=>((oNil r9.2).bind fun _=>((q3h r9.1).bind fun b10=>(bif b10 then some ((.int .i64 (3:Int)),[]) else some ((.int .i64 (0:Int)),[])))))))))))))))))):=by kernel_rfl
theorem q2u.ev (n:Nat) (a0:Int):q1m prog A H LIM n F.q2u [(.int .i64 a0)]=some ((.bool (decide (a0 ≥ (6:Int)))),[]):=by kernel_rfl
def q0y.st0 (x0:List T) (x1 x2:Int) (x3:List T):St:=⟨[(2,(.one (.ptr 128 0))),(17,ol 2 x0),(18,oi x1),(19,oi x2)],[(128,(.box [(.t (.sl 2 x3))]))]⟩
noncomputable def q0y.K0 (n:Nat):Ex→St→R:=kx F.q0y n [.block 0,.seq 0 (cx F.q0y [1,1,1,1])] (q3u prog A F.q0y)
noncomputable def q0y.at0 (n:Nat) (m:Nat) (s:St):R:=lx F.q0y n 0 [1,1,1,0,1,0,0] (q0y.K0 n) m s
noncomputable def q0y.rd0 (n:Nat) (L0:St→R) (s:St):R:=rx F.q0y n 0 [1,1,1,0,1,0,0] (q0y.K0 n) L0 s
theorem q0y.next0 (n:Nat) (m:Nat) (s:St):q0y.at0 n (m+1) s=q0y.rd0 n (q0y.at0 n m) s:=nx _ _ _ _ _ _ _
theorem q0y.round0 (n:Nat) (L0:St→R) (x0:List T) (x1 x2:Int) (x3:List T):q0y.rd0 n L0 (q0y.st0 x0 x1 x2 x3)=(bif (decide (x2 < x1)) then (bif inB x2 ((x0).length / 2) then ((x0[((Int.toNat x2)*2)]?).bind fun e3=>((oSl 1 e3).bind fun c4=>((x0[(((Int.toNat x2)*2)+1)]?).bind fun e5=>((oSl 1 e5).bind fun c6=>((LIM F.q3d [(.agg [(.sl 2 x3)]),(.agg [(.sl 1 c4),(.sl 1 c6)])]).bind fun r7=>((oNil r7.2).bind fun _=>((oInt .i64 r7.1).bind fun n8=>(bif ((n8 != (0:Int))) then some ((.int .i64 n8),[]) else (L0 (q0y.st0 x0 x1 (IntKind.wrap .i64 (x2+(1:Int))) x3)))))))))) else none) else some ((.int .i64 (0:Int)),[])):=by kernel_rfl
theorem q0y.ev (n:Nat) (a0_0 a1:List T):q1m prog A H LIM n F.q0y [(.agg [(.sl 2 a0_0)]),(.sl 2 a1)]=((LIM F.q06 [(.agg [(.sl 2 a0_0)])]).bind fun r1=>((oNil r1.2).bind fun _=>((oInt .i64 r1.1).bind fun n2=>(bif ((n2 != (0:Int))) then some ((.int .i64 n2),[]) else (bif (decide (((((a1).length / 2):Nat):Int) > (12:Int))) then some ((.int .i64 (2:Int)),[]) else (q0y.at0 n n (q0y.st0 a1 ((((a1).length / 2):Nat):Int) (0:Int) a0_0))))))):=by kernel_rfl
theorem q8d.ev (n:Nat) (a0_0:List T) (a1_0:Int) (a1_1 a2_0 a2_1:List T):q1m prog A H LIM n F.q8d [(.agg [(.sl 2 a0_0)]),(.agg [(.int .i64 a1_0),(.sl 1 a1_1)]),(.agg [(.sl 1 a2_0),(.sl 1 a2_1)])]=((LIM F.q14 [(.agg [(.sl 2 a0_0)]),(.agg [(.int .i64 a1_0),(.sl 1 a1_1)])]).bind fun r1=>((oNil r1.2).bind fun _=>((oInt .i64 r1.1).bind fun n2=>((LIM F.q3d [(.agg [(.sl 2 a0_0)]),(.agg [(.sl 1 a2_0),(.sl 1 a2_1)])]).bind fun r3=>((oNil r3.2).bind fun _=>((oInt .i64 r3.1).bind fun n4=>((LIM F.q6n [(.sl 1 [(.int .i64 n2),(.int .i64 n4)])]).bind fun r5=>((oNil r5.2).bind fun _=>((oInt .i64 r5.1).bind fun n6=>(bif ((n6 != (0:Int))) then some ((.agg [(.int .i64 n6),(.int .i64 (0:Int))]),[]) else ((LIM F.q09 [(.agg [(.int .i64 a1_0),(.sl 1 a1_1)]),(.agg [(.sl 2 a0_0)]),(.agg [(.sl 1 a2_0),(.sl 1 a2_1)])]).bind fun r7=>((oNil r7.2).bind fun _=>((q3h r7.1).bind fun b8=>((LIM F.q8f [(.bool b8)]).bind fun r9=>((oNil r9.2).bind fun _=>((oAgg r9.1).bind fun c10=>((q0i c10).bind fun p11=>((oInt .i64 p11.1).bind fun n12=>((q0i p11.2).bind fun p13=>((oInt .i64 p13.1).bind fun n14=>((oNil p13.2).bind fun _=>some ((.agg [(.int .i64 n12),(.int .i64 n14)]),[])))))))))))))))))))))):=by kernel_rfl
theorem q6c.ev (n:Nat) (a0_0 a1_0 a1_1 a2_0 a2_1:List T) (a3:Int):q1m prog A H LIM n F.q6c [(.agg [(.sl 2 a0_0)]),(.agg [(.sl 1 a1_0),(.sl 1 a1_1)]),(.agg [(.sl 1 a2_0),(.sl 1 a2_1)]),(.int .i64 a3)]=((LIM F.q41 [(.agg [(.sl 2 a0_0)]),(.sl 2 [(.sl 1 a1_0),(.sl 1 a1_1),(.sl 1 a2_0),(.sl 1 a2_1)])]).bind fun r1=>((oNil r1.2).bind fun _=>((oInt .i64 r1.1).bind fun n2=>(bif ((n2 != (0:Int))) then some ((.agg [(.int .i64 n2),(.sl 1 []),(.sl 1 [])]),[]) else ((LIM F.q3x [(.int .i64 a3),(.int .i64 (0:Int)),(.int .i64 (IntKind.wrap .i64 (((((a1_0).length / 1):Nat):Int) - (1:Int))))]).bind fun r3=>((oNil r3.2).bind fun _=>((q3h r3.1).bind fun b4=>(bif (!b4) then some ((.agg [(.int .i64 (3:Int)),(.sl 1 []),(.sl 1 [])]),[]) else (bif inB a3 ((a1_0).length / 1) then ((a1_0[((Int.toNat a3)*1)]?).bind fun e5=>((oInt .i64 e5).bind fun n6=>(bif (decide (n6 < (0:Int))) then some ((.agg [(.int .i64 (1:Int)),(.sl 1 []),(.sl 1 [])]),[]) else ((LIM F.q5z [(.agg [(.sl 2 a0_0)]),(.agg [(.sl 1 a1_0),(.sl 1 a1_1)]),(.agg [(.sl 1 a2_0),(.sl 1 a2_1)]),(.int .i64 a3)]).bind fun r7=>((oNil r7.2).bind fun _=>((oAgg r7.1).bind fun c8=>((q0i c8).bind fun p9=>((oInt .i64 p9.1).bind fun n10=>((q0i p9.2).bind fun p11=>((oSl 1 p11.1).bind fun c12=>((q0i p11.2).bind fun p13=>((oSl 1 p13.1).bind fun c14=>((oNil p13.2).bind fun _=>some ((.agg [(.int .i64 n10),(.sl 1 c12),(.sl 1 c14)]),[])))))))))))))) else none))))))))):=by kernel_rfl
theorem q5k.ev (n:Nat) (a0_0 a1_0 a1_1 a2_0 a2_1:List T) (a3:Bool):q1m prog A H LIM n F.q5k [(.agg [(.sl 2 a0_0)]),(.agg [(.sl 1 a1_0),(.sl 1 a1_1)]),(.agg [(.sl 1 a2_0),(.sl 1 a2_1)]),(.bool a3)]=((LIM F.q41 [(.agg [(.sl 2 a0_0)]),(.sl 2 [(.sl 1 a1_0),(.sl 1 a1_1),(.sl 1 a2_0),(.sl 1 a2_1)])]).bind fun r1=>((oNil r1.2).bind fun _=>((oInt .i64 r1.1).bind fun n2=>(bif ((n2 != (0:Int))) then some ((.agg [(.int .i64 n2),(.sl 2 [])]),[]) else ((LIM F.q1b [(.agg [(.sl 2 a0_0)]),(.agg [(.sl 1 a1_0),(.sl 1 a1_1)]),(.agg [(.sl 1 a2_0),(.sl 1 a2_1)]),(.bool a3)]).bind fun r3=>((oNil r3.2).bind fun _=>((oTup r3.1).bind fun c4=>((q0i c4).bind fun p5=>((oSl 2 p5.1).bind fun c6=>((q0i p5.2).bind fun p7=>((oInt .i64 p7.1).bind fun n8=>((oNil p7.2).bind fun _=>some ((.agg [(.int .i64 n8),(.sl 2 c6)]),[]))))))))))))):=by kernel_rfl
theorem q41.ev (n:Nat) (a0_0 a1:List T):q1m prog A H LIM n F.q41 [(.agg [(.sl 2 a0_0)]),(.sl 2 a1)]=((LIM F.q0y [(.agg [(.sl 2 a0_0)]),(.sl 2 a1)]).bind fun r1=>((oNil r1.2).bind fun _=>((oInt .i64 r1.1).bind fun n2=>(bif ((n2 != (0:Int))) then some ((.int .i64 n2),[]) else ((LIM F.q4w [(.sl 2 a1),(.clo F.q3a [])]).bind fun r3=>((oNil r3.2).bind fun _=>((q3h r3.1).bind fun b4=>(bif b4 then some ((.int .i64 (1:Int)),[]) else some ((.int .i64 (0:Int)),[]))))))))):=by kernel_rfl
theorem q3a.ev (n:Nat) (a0_0 a0_1:List T):q1m prog A H LIM n F.q3a [(.agg [(.sl 1 a0_0),(.sl 1 a0_1)])]=((LIM F.q7v [(.agg [(.sl 1 a0_0),(.sl 1 a0_1)])]).bind fun r1=>((oNil r1.2).bind fun _=>((q3h r1.1).bind fun b2=>some ((.bool (!b2)),[])))):=by kernel_rfl
theorem q44.ev (n:Nat) (a0 a1:List T):q1m prog A H LIM n F.q44 [(.sl 2 a0),(.sl 2 a1)]=((LIM F.q2y [(.sl 2 a0),(.sl 2 a1),(.clo F.q3m [])]).bind fun r1=>((oNil r1.2).bind fun _=>((q3h r1.1).bind fun b2=>some ((.bool b2),[])))):=by kernel_rfl
def q06.st2 (x0:List T) (x1 x2:Int) (x3:List T):St:=⟨[(1,(.one (.ptr 64 0))),(34,ol 2 x0),(35,oi x1),(36,oi x2)],[(64,(.box [(.t (.sl 2 x3))]))]⟩
def q06.st0 (x0:List T) (x1 x2:Int) (x3:List T):St:=⟨[(1,(.one (.ptr 64 0))),(18,ol 2 x0),(19,oi x1),(20,oi x2)],[(64,(.box [(.t (.sl 2 x3))]))]⟩
noncomputable def q06.K0 (n:Nat):Ex→St→R:=kx F.q06 n [.block 0,.seq 0 (cx F.q06 [1,1,1])] (q3u prog A F.q06)
noncomputable def q06.at0 (n:Nat) (m:Nat) (s:St):R:=lx F.q06 n 0 [1,1,0,1,0,0] (q06.K0 n) m s
noncomputable def q06.rd0 (n:Nat) (L0:St→R) (s:St):R:=rx F.q06 n 0 [1,1,0,1,0,0] (q06.K0 n) L0 s
theorem q06.next0 (n:Nat) (m:Nat) (s:St):q06.at0 n (m+1) s=q06.rd0 n (q06.at0 n m) s:=nx _ _ _ _ _ _ _
noncomputable def q06.K2 (n:Nat):Ex→St→R:=kx F.q06 n [.block 2,.seq 0 (cx F.q06 [1,1,1,1])] (q3u prog A F.q06)
noncomputable def q06.at2 (n:Nat) (m:Nat) (s:St):R:=lx F.q06 n 2 [1,1,1,0,1,0,0] (q06.K2 n) m s
noncomputable def q06.rd2 (n:Nat) (L2:St→R) (s:St):R:=rx F.q06 n 2 [1,1,1,0,1,0,0] (q06.K2 n) L2 s
theorem q06.next2 (n:Nat) (m:Nat) (s:St):q06.at2 n (m+1) s=q06.rd2 n (q06.at2 n m) s:=nx _ _ _ _ _ _ _
theorem q06.round0 (n:Nat) (L0:St→R) (x0:List T) (x1 x2:Int) (x3:List T):q06.rd0 n L0 (q06.st0 x0 x1 x2 x3)=(bif (decide (x2 < x1)) then (bif inB x2 ((x0).length / 2) then ((x0[((Int.toNat x2)*2)]?).bind fun e1=>((oStr e1).bind fun s2=>((x0[(((Int.toNat x2)*2)+1)]?).bind fun e3=>((oInt .i64 e3).bind fun n4=>((LIM F.q7s [(.str s2)]).bind fun r5=>((oNil r5.2).bind fun _=>((q3h r5.1).bind fun b6=>(bif (!b6) then some ((.int .i64 (5:Int)),[]) else ((LIM F.q3x [(.int .i64 n4),(.int .i64 (0:Int)),(.int .i64 (2:Int))]).bind fun r7=>((oNil r7.2).bind fun _=>((q3h r7.1).bind fun b8=>(bif (!b8) then some ((.int .i64 (3:Int)),[]) else (L0 (q06.st0 x0 x1 (IntKind.wrap .i64 (x2+(1:Int))) x3)))))))))))))) else none) else (q06.at2 n n (q06.st2 x3 ((((x3).length / 2):Nat):Int) (0:Int) x3))):=by kernel_rfl
theorem q06.round2 (n:Nat) (L2:St→R) (x0:List T) (x1 x2:Int) (x3:List T):q06.rd2 n L2 (q06.st2 x0 x1 x2 x3)=(bif (decide (x2 < x1)) then (bif inB x2 ((x0).length / 2) then ((x0[((Int.toNat x2)*2)]?).bind fun e9=>((oStr e9).bind fun s10=>((x0[(((Int.toNat x2)*2)+1)]?).bind fun e11=>((oInt .i64 e11).bind fun n12=>((LIM F.q4v [(.agg [(.sl 2 x3)]),(.str s10)]).bind fun r13=>((oNil r13.2).bind fun _=>((oInt .i64 r13.1).bind fun n14=>(bif ((n14 != x2)) then some ((.int .i64 (6:Int)),[]) else (L2 (q06.st2 x0 x1 (IntKind.wrap .i64 (x2+(1:Int))) x3)))))))))) else none) else ((LIM F.q57 [(.sl 2 x3),(.clo F.q2r [])]).bind fun r15=>((oNil r15.2).bind fun _=>((q3h r15.1).bind fun b16=>(bif (!b16) then some ((.int .i64 (4:Int)),[]) else some ((.int .i64 (0:Int)),[])))))):=by kernel_rfl
theorem q06.ev (n:Nat) (a0_0:List T):q1m prog A H LIM n F.q06 [(.agg [(.sl 2 a0_0)])]=(bif (decide (((((a0_0).length / 2):Nat):Int) < (1:Int))) then some ((.int .i64 (2:Int)),[]) else (bif (decide (((((a0_0).length / 2):Nat):Int) > (6:Int))) then some ((.int .i64 (2:Int)),[]) else (q06.at0 n n (q06.st0 a0_0 ((((a0_0).length / 2):Nat):Int) (0:Int) a0_0)))):=by kernel_rfl
theorem q2r.ev (n:Nat) (a0_0:ByteArray) (a0_1:Int):q1m prog A H LIM n F.q2r [(.agg [(.str a0_0),(.int .i64 a0_1)])]=some ((.bool ((a0_1 == (0:Int)))),[]):=by kernel_rfl
theorem q4j.ev (n:Nat) (a0_0 a1:List T):q1m prog A H LIM n F.q4j [(.agg [(.sl 2 a0_0)]),(.sl 1 a1)]=((LIM F.q06 [(.agg [(.sl 2 a0_0)])]).bind fun r1=>((oNil r1.2).bind fun _=>((oInt .i64 r1.1).bind fun n2=>(bif ((n2 != (0:Int))) then some ((.int .i64 n2),[]) else (bif (decide (((((a1).length / 1):Nat):Int) < (1:Int))) then some ((.int .i64 (2:Int)),[]) else (bif (decide (((((a1).length / 1):Nat):Int) > (24:Int))) then some ((.int .i64 (2:Int)),[]) else ((LIM F.q28 [(.sl 1 a1),(.clo F.q3j [(.rref [(.sl 2 a0_0)] 0)])]).bind fun r3=>((oNil r3.2).bind fun _=>((q3h r3.1).bind fun b4=>(bif b4 then some ((.int .i64 (3:Int)),[]) else ((LIM F.q2k [(.agg [(.sl 2 a0_0)]),(.sl 1 a1),(.int .i64 (0:Int))]).bind fun r5=>((oNil r5.2).bind fun _=>((oInt .i64 r5.1).bind fun n6=>(bif ((n6 != ((((a1).length / 1):Nat):Int))) then some ((.int .i64 (1:Int)),[]) else some ((.int .i64 (0:Int)),[]))))))))))))))):=by kernel_rfl
theorem q3j.ev (n:Nat) (a0:Int) (a1_0:List T):q1m prog A H LIM n F.q3j [(.int .i64 a0),(.rref [(.sl 2 a1_0)] 0)]=((LIM F.q7q [(.agg [(.sl 2 a1_0)]),(.int .i64 a0)]).bind fun r1=>((oNil r1.2).bind fun _=>((q3h r1.1).bind fun b2=>some ((.bool (!b2)),[])))):=by kernel_rfl
def q0z.st0 (x0:List T) (x1 x2 x3:Int) (x4 x5:List T):St:=⟨[(1,ol 1 x0),(3,(.one (.ptr 192 0))),(7,(.one (.obj 576))),(8,oi x1),(17,oi x2),(18,oi x3)],[(192,(.box [(.t (.sl 2 x4))])),(576,(.arr true true 1 x5))]⟩
noncomputable def q0z.K0 (n:Nat):Ex→St→R:=kx F.q0z n [.block 0,.seq 0 (cx F.q0z [1,1,1,1])] (q3u prog A F.q0z)
noncomputable def q0z.at0 (n:Nat) (m:Nat) (s:St):R:=lx F.q0z n 0 [1,1,1,0,1,0,0] (q0z.K0 n) m s
noncomputable def q0z.rd0 (n:Nat) (L0:St→R) (s:St):R:=rx F.q0z n 0 [1,1,1,0,1,0,0] (q0z.K0 n) L0 s
theorem q0z.next0 (n:Nat) (m:Nat) (s:St):q0z.at0 n (m+1) s=q0z.rd0 n (q0z.at0 n m) s:=nx _ _ _ _ _ _ _
theorem q0z.round0 (n:Nat) (L0:St→R) (x0:List T) (x1 x2 x3:Int) (x4 x5:List T):q0z.rd0 n L0 (q0z.st0 x0 x1 x2 x3 x4 x5)=(bif (decide (x3 < x2)) then (bif Nat.ble (((x5).length+1)*8) (140737488355328*1) then ((LIM F.q2k [(.agg [(.sl 2 x4)]),(.sl 1 x0),(.int .i64 x1)]).bind fun r5=>((oNil r5.2).bind fun _=>((oInt .i64 r5.1).bind fun n6=>(L0 (q0z.st0 x0 n6 x2 (IntKind.wrap .i64 (x3+(1:Int))) x4 (x5++[(.int .i64 x1)]:List T)))))) else none) else some ((.sl 1 x5),[])):=by kernel_rfl
theorem q0z.ev (n:Nat) (a0_0 a1:List T) (a2:Int):q1m prog A H LIM n F.q0z [(.agg [(.sl 2 a0_0)]),(.sl 1 a1),(.int .i64 a2)]=(bif inB a2 ((a1).length / 1) then ((a1[((Int.toNat a2)*1)]?).bind fun e1=>((oInt .i64 e1).bind fun n2=>((LIM F.q5s [(.agg [(.sl 2 a0_0)]),(.int .i64 n2)]).bind fun r3=>((oNil r3.2).bind fun _=>((oInt .i64 r3.1).bind fun n4=>(q0z.at0 n n (q0z.st0 a1 (IntKind.wrap .i64 (a2+(1:Int))) n4 (0:Int) a0_0 []))))))) else none):=by kernel_rfl
theorem q5s.ev (n:Nat) (a0_0:List T) (a1:Int):q1m prog A H LIM n F.q5s [(.agg [(.sl 2 a0_0)]),(.int .i64 a1)]=(bif (decide (a1 < (0:Int))) then some ((.int .i64 (0:Int)),[]) else (bif inB a1 ((a0_0).length / 2) then ((a0_0[(((Int.toNat a1)*2)+1)]?).bind fun e1=>((oInt .i64 e1).bind fun n2=>some ((.int .i64 n2),[]))) else none)):=by kernel_rfl
def q2k.st0 (x0:List T) (x1 x2:Int) (x3:List T):St:=⟨[(1,ol 1 x0),(2,oi x1),(3,(.one (.ptr 192 0))),(7,oi x2)],[(192,(.box [(.t (.sl 2 x3))]))]⟩
noncomputable def q2k.K0 (n:Nat):Ex→St→R:=kx F.q2k n [.block 0,.seq 0 (cx F.q2k [1,1])] (q3u prog A F.q2k)
noncomputable def q2k.at0 (n:Nat) (m:Nat) (s:St):R:=lx F.q2k n 0 [1,0,1,0,0] (q2k.K0 n) m s
noncomputable def q2k.rd0 (n:Nat) (L0:St→R) (s:St):R:=rx F.q2k n 0 [1,0,1,0,0] (q2k.K0 n) L0 s
theorem q2k.next0 (n:Nat) (m:Nat) (s:St):q2k.at0 n (m+1) s=q2k.rd0 n (q2k.at0 n m) s:=nx _ _ _ _ _ _ _
theorem q2k.round0 (n:Nat) (L0:St→R) (x0:List T) (x1 x2:Int) (x3:List T):q2k.rd0 n L0 (q2k.st0 x0 x1 x2 x3)=(bif (decide (x2 > (0:Int))) then (bif (decide (x1 ≥ ((((x0).length / 1):Nat):Int))) then some ((.int .i64 (IntKind.wrap .i64 (((((x0).length / 1):Nat):Int)+(1:Int)))),[]) else (bif inB x1 ((x0).length / 1) then ((x0[((Int.toNat x1)*1)]?).bind fun e1=>((oInt .i64 e1).bind fun n2=>((LIM F.q5s [(.agg [(.sl 2 x3)]),(.int .i64 n2)]).bind fun r3=>((oNil r3.2).bind fun _=>((oInt .i64 r3.1).bind fun n4=>(L0 (q2k.st0 x0 (IntKind.wrap .i64 (x1+(1:Int))) (IntKind.wrap .i64 (x2+(IntKind.wrap .i64 (n4 - (1:Int))))) x3))))))) else none)) else some ((.int .i64 x1),[])):=by kernel_rfl
theorem q2k.ev (n:Nat) (a0_0 a1:List T) (a2:Int):q1m prog A H LIM n F.q2k [(.agg [(.sl 2 a0_0)]),(.sl 1 a1),(.int .i64 a2)]=(q2k.at0 n n (q2k.st0 a1 a2 (1:Int) a0_0)):=by kernel_rfl
theorem q6n.ev (n:Nat) (a0:List T):q1m prog A H LIM n F.q6n [(.sl 1 a0)]=((LIM F.q20 [(.sl 1 a0)]).bind fun r1=>((oNil r1.2).bind fun _=>((oInt .i64 r1.1).bind fun n2=>some ((.int .i64 n2),[])))):=by kernel_rfl
theorem q7s.ev (n:Nat) (a0:ByteArray):q1m prog A H LIM n F.q7s [(.str a0)]=(bif (decide ((a0.size:Int) ≥ (1:Int))) then (bif (decide ((a0.size:Int)≤(3:Int))) then ((LIM F.q9i [(.str a0),(.str (ByteArray.mk #[97,98,99,100,101,102,103,104,105,106,107,108,109,110,111,112,113,114,115,116,117,118,119,120,121,122]))]).bind fun r1=>((oNil r1.2).bind fun _=>((oStr r1.1).bind fun s2=>some ((.bool (s2.toList == (ByteArray.mk #[]).toList)),[])))) else some ((.bool false),[])) else some ((.bool false),[])):=by kernel_rfl
theorem q7q.ev (n:Nat) (a0_0:List T) (a1:Int):q1m prog A H LIM n F.q7q [(.agg [(.sl 2 a0_0)]),(.int .i64 a1)]=((LIM F.q5j [(.agg [(.sl 2 a0_0)]),(.int .i64 a1)]).bind fun r1=>((oNil r1.2).bind fun _=>((q3h r1.1).bind fun b2=>(bif b2 then some ((.bool true),[]) else ((LIM F.q3x [(.int .i64 a1),(.int .i64 (-12:Int)),(.int .i64 (-1:Int))]).bind fun r3=>((oNil r3.2).bind fun _=>((q3h r3.1).bind fun b4=>some ((.bool b4),[])))))))):=by kernel_rfl
theorem q7v.ev (n:Nat) (a0_0 a0_1:List T):q1m prog A H LIM n F.q7v [(.agg [(.sl 1 a0_0),(.sl 1 a0_1)])]=(bif inB (0:Int) ((a0_0).length / 1) then ((a0_0[0]?).bind fun e1=>((oInt .i64 e1).bind fun n2=>(bif (decide (n2 < (0:Int))) then some ((.bool false),[]) else ((LIM F.q0x [(.sl 1 [(.sl 1 a0_0)])]).bind fun r3=>((oNil r3.2).bind fun _=>((oSl 1 r3.1).bind fun c4=>((LIM F.q0x [(.sl 1 [(.sl 1 a0_1)])]).bind fun r5=>((oNil r5.2).bind fun _=>((oSl 1 r5.1).bind fun c6=>((LIM F.q28 [(.sl 1 c6),(.clo F.q48 [(.rref [(.sl 1 c4)] 0)])]).bind fun r7=>((oNil r7.2).bind fun _=>((q3h r7.1).bind fun b8=>some ((.bool (!b8)),[]))))))))))))) else none):=by kernel_rfl
theorem q48.ev (n:Nat) (a0:Int) (a1_0:List T):q1m prog A H LIM n F.q48 [(.int .i64 a0),(.rref [(.sl 1 a1_0)] 0)]=((LIM F.q1u [(.sl 1 a1_0),(.int .i64 a0)]).bind fun r1=>((oNil r1.2).bind fun _=>((q3h r1.1).bind fun b2=>some ((.bool (!b2)),[])))):=by kernel_rfl
theorem q5j.ev (n:Nat) (a0_0:List T) (a1:Int):q1m prog A H LIM n F.q5j [(.agg [(.sl 2 a0_0)]),(.int .i64 a1)]=((LIM F.q3x [(.int .i64 a1),(.int .i64 (0:Int)),(.int .i64 (IntKind.wrap .i64 (((((a0_0).length / 2):Nat):Int) - (1:Int))))]).bind fun r1=>((oNil r1.2).bind fun _=>((q3h r1.1).bind fun b2=>some ((.bool b2),[])))):=by kernel_rfl
theorem q6k.ev (n:Nat) (a0_0 a0_1:List T):q1m prog A H LIM n F.q6k [(.agg [(.sl 1 a0_0),(.sl 1 a0_1)])]=((LIM F.q2q [(.sl 1 a0_0)]).bind fun r1=>((oNil r1.2).bind fun _=>((oSl 1 r1.1).bind fun c2=>((LIM F.q2q [(.sl 1 a0_1)]).bind fun r3=>((oNil r3.2).bind fun _=>((oSl 1 r3.1).bind fun c4=>some ((.agg [(.sl 1 c2),(.sl 1 c4)]),[]))))))):=by kernel_rfl
theorem q5z.ev (n:Nat) (a0_0 a1_0 a1_1 a2_0 a2_1:List T) (a3:Int):q1m prog A H LIM n F.q5z [(.agg [(.sl 2 a0_0)]),(.agg [(.sl 1 a1_0),(.sl 1 a1_1)]),(.agg [(.sl 1 a2_0),(.sl 1 a2_1)]),(.int .i64 a3)]=((LIM F.q1t [(.sl 1 a2_0),(.int .i64 (6:Int))]).bind fun r1=>((oNil r1.2).bind fun _=>((oSl 1 r1.1).bind fun c2=>((LIM F.q1t [(.sl 1 a2_1),(.int .i64 (6:Int))]).bind fun r3=>((oNil r3.2).bind fun _=>((oSl 1 r3.1).bind fun c4=>((LIM F.q4n [(.agg [(.sl 2 a0_0)]),(.sl 1 a1_0),(.int .i64 a3)]).bind fun r5=>((oNil r5.2).bind fun _=>((oSl 1 r5.1).bind fun c6=>((LIM F.q0g [(.agg [(.sl 2 a0_0)]),(.sl 1 c6),(.sl 1 c2)]).bind fun r7=>((oNil r7.2).bind fun _=>((oTup r7.1).bind fun c8=>((q0i c8).bind fun p9=>((oAgg p9.1).bind fun c10=>((q0i c10).bind fun p11=>((oSl 1 p11.1).bind fun c12=>((q0i p11.2).bind fun p13=>((oSl 1 p13.1).bind fun c14=>((oNil p13.2).bind fun _=>((q0i p9.2).bind fun p15=>((oInt .i64 p15.1).bind fun n16=>((oNil p15.2).bind fun _=>(bif ((n16 != (0:Int))) then some ((.agg [(.int .i64 n16),(.sl 1 []),(.sl 1 [])]),[]) else ((LIM F.q6b [(.agg [(.sl 2 a0_0)]),(.sl 1 a1_0),(.int .i64 a3),(.sl 1 c4)]).bind fun r17=>((oNil r17.2).bind fun _=>((oSl 1 r17.1).bind fun c18=>(bif (decide (((((c18).length / 1):Nat):Int) > (24:Int))) then some ((.agg [(.int .i64 (2:Int)),(.sl 1 []),(.sl 1 [])]),[]) else ((LIM F.q0k [(.agg [(.sl 1 c12),(.sl 1 c14)]),(.sl 1 a1_1)]).bind fun r19=>((oNil r19.2).bind fun _=>((oSl 1 r19.1).bind fun c20=>((LIM F.q0k [(.agg [(.sl 1 c12),(.sl 1 c14)]),(.sl 1 c18)]).bind fun r21=>((oNil r21.2).bind fun _=>((oSl 1 r21.1).bind fun c22=>(bif (decide (((((c20).length / 1):Nat):Int) > (24:Int))) then some ((.agg [(.int .i64 (2:Int)),(.sl 1 []),(.sl 1 [])]),[]) else (bif (decide (((((c22).length / 1):Nat):Int) > (24:Int))) then some ((.agg [(.int .i64 (2:Int)),(.sl 1 []),(.sl 1 [])]),[]) else ((LIM F.q0c [(.agg [(.sl 1 c20),(.sl 1 c22)])]).bind fun r23=>((oNil r23.2).bind fun _=>((oTup r23.1).bind fun c24=>((q0i c24).bind fun p25=>((oAgg p25.1).bind fun c26=>((q0i c26).bind fun p27=>((oSl 1 p27.1).bind fun c28=>((q0i p27.2).bind fun p29=>((oSl 1 p29.1).bind fun c30=>((oNil p29.2).bind fun _=>((q0i p25.2).bind fun p31=>((q3h p31.1).bind fun b32=>((oNil p31.2).bind fun _=>(bif (!b32) then some ((.agg [(.int .i64 (2:Int)),(.sl 1 []),(.sl 1 [])]),[]) else some ((.agg [(.int .i64 (0:Int)),(.sl 1 c28),(.sl 1 c30)]),[])))))))))))))))))))))))))))))))))))))))))))))))))):=by kernel_rfl
def q1b.st0 (x0:Bool) (x1:List T) (x2 x3:Int) (x4 x5 x6 x7 x8 x9:List T):St:=⟨[(3,(.one (.t (.bool x0)))),(4,(.one (.ptr 256 0))),(5,(.one (.ptr 320 0))),(6,(.one (.ptr 384 0))),(10,(.one (.obj 896))),(16,ol 1 x1),(17,oi x2),(18,oi x3)],[(256,(.box [(.t (.sl 2 x4))])),(320,(.box [(.t (.sl 1 x5)),(.t (.sl 1 x6))])),(384,(.box [(.t (.sl 1 x7)),(.t (.sl 1 x8))])),(896,(.arr true true 2 x9))]⟩
noncomputable def q1b.K0 (n:Nat):Ex→St→R:=kx F.q1b n [.block 0,.seq 0 (cx F.q1b [1,1,1])] (q3u prog A F.q1b)
noncomputable def q1b.at0 (n:Nat) (m:Nat) (s:St):R:=lx F.q1b n 0 [1,1,0,1,0,0] (q1b.K0 n) m s
noncomputable def q1b.rd0 (n:Nat) (L0:St→R) (s:St):R:=rx F.q1b n 0 [1,1,0,1,0,0] (q1b.K0 n) L0 s
theorem q1b.next0 (n:Nat) (m:Nat) (s:St):q1b.at0 n (m+1) s=q1b.rd0 n (q1b.at0 n m) s:=nx _ _ _ _ _ _ _
theorem q1b.round0 (n:Nat) (L0:St→R) (x0:Bool) (x1:List T) (x2 x3:Int) (x4 x5 x6 x7 x8 x9:List T):q1b.rd0 n L0 (q1b.st0 x0 x1 x2 x3 x4 x5 x6 x7 x8 x9)=(bif (decide (x3 < x2)) then (bif inB x3 ((x1).length / 1) then ((x1[((Int.toNat x3)*1)]?).bind fun e1=>((oInt .i64 e1).bind fun n2=>(bif (decide (n2 < (0:Int))) then (L0 (q1b.st0 x0 x1 x2 (IntKind.wrap .i64 (x3+(1:Int))) x4 x5 x6 x7 x8 x9)) else (bif ((x3 == (0:Int))) then (bif x0 then (L0 (q1b.st0 x0 x1 x2 (IntKind.wrap .i64 (x3+(1:Int))) x4 x5 x6 x7 x8 x9)) else ((LIM F.q5z [(.agg [(.sl 2 x4)]),(.agg [(.sl 1 x5),(.sl 1 x6)]),(.agg [(.sl 1 x7),(.sl 1 x8)]),(.int .i64 x3)]).bind fun r3=>((oNil r3.2).bind fun _=>((oAgg r3.1).bind fun c4=>((q0i c4).bind fun p5=>((oInt .i64 p5.1).bind fun n6=>((q0i p5.2).bind fun p7=>((oSl 1 p7.1).bind fun c8=>((q0i p7.2).bind fun p9=>((oSl 1 p9.1).bind fun c10=>((oNil p9.2).bind fun _=>(bif ((n6 == (0:Int))) then (bif Nat.ble (((x9).length+2)*48) (140737488355328*2) then (L0 (q1b.st0 x0 x1 x2 (IntKind.wrap .i64 (x3+(1:Int))) x4 x5 x6 x7 x8 (x9++[(.sl 1 c8),(.sl 1 c10)]:List T))) else none) else (bif ((n6 == (4:Int))) then (L0 (q1b.st0 x0 x1 x2 (IntKind.wrap .i64 (x3+(1:Int))) x4 x5 x6 x7 x8 x9)) else some ((.tup [(.sl 2 []),(.int .i64 n6)]),[])))))))))))))) else ((LIM F.q5z [(.agg [(.sl 2 x4)]),(.agg [(.sl 1 x5),(.sl 1 x6)]),(.agg [(.sl 1 x7),(.sl 1 x8)]),(.int .i64 x3)]).bind fun r11=>((oNil r11.2).bind fun _=>((oAgg r11.1).bind fun c12=>((q0i c12).bind fun p13=>((oInt .i64 p13.1).bind fun n14=>((q0i p13.2).bind fun p15=>((oSl 1 p15.1).bind fun c16=>((q0i p15.2).bind fun p17=>((oSl 1 p17.1).bind fun c18=>((oNil p17.2).bind fun _=>(bif ((n14 == (0:Int))) then (bif Nat.ble (((x9).length+2)*48) (140737488355328*2) then (L0 (q1b.st0 x0 x1 x2 (IntKind.wrap .i64 (x3+(1:Int))) x4 x5 x6 x7 x8 (x9++[(.sl 1 c16),(.sl 1 c18)]:List T))) else none) else (bif ((n14 == (4:Int))) then (L0 (q1b.st0 x0 x1 x2 (IntKind.wrap .i64 (x3+(1:Int))) x4 x5 x6 x7 x8 x9)) else some ((.tup [(.sl 2 []),(.int .i64 n14)]),[]))))))))))))))))) else none) else some ((.tup [(.sl 2 x9),(.int .i64 (0:Int))]),[])):=by kernel_rfl
theorem q1b.ev (n:Nat) (a0_0 a1_0 a1_1 a2_0 a2_1:List T) (a3:Bool):q1m prog A H LIM n F.q1b [(.agg [(.sl 2 a0_0)]),(.agg [(.sl 1 a1_0),(.sl 1 a1_1)]),(.agg [(.sl 1 a2_0),(.sl 1 a2_1)]),(.bool a3)]=(q1b.at0 n n (q1b.st0 a3 a1_0 ((((a1_0).length / 1):Nat):Int) (0:Int) a0_0 a1_0 a1_1 a2_0 a2_1 [])):=by kernel_rfl
def q0c.st2 (x0 x1 x2 x3:Int) (x4 x5 x6:List T):St:=⟨[(2,(.one (.ptr 128 0))),(4,(.one (.obj 640))),(5,(.one (.ptr 320 0))),(17,(.one (.obj 1088))),(18,oi x0),(19,oi x1),(7,(.one (.obj 768))),(23,(.one (.obj 768))),(24,oi x2),(25,oi x3)],[(128,(.box [.nil,.nil])),(640,(.arr true true 1 x4)),(768,(.arr true true 1 x5)),(769,(.arr true true 1 x6)),(320,(.box [(.obj 768),(.obj 769)])),(1088,(.opn 1 [(.bool false),(.bool false)] [(0,(.obj 768)),(1,(.obj 769))]))]⟩
def q0c.st1002 (x0 x1 x2 x3:Int) (x4 x5 x6:List T):St:=⟨[(2,(.one (.ptr 128 0))),(4,(.one (.obj 640))),(5,(.one (.ptr 320 0))),(17,(.one (.obj 1088))),(18,oi x0),(19,oi x1),(7,(.one (.obj 769))),(23,(.one (.obj 769))),(24,oi x2),(25,oi x3)],[(128,(.box [.nil,.nil])),(640,(.arr true true 1 x4)),(768,(.arr true true 1 x5)),(769,(.arr true true 1 x6)),(320,(.box [(.obj 768),(.obj 769)])),(1088,(.opn 1 [(.bool false),(.bool false)] [(0,(.obj 768)),(1,(.obj 769))]))]⟩
def q0c.st2002 (x0 x1 x2 x3:Int) (x4 x5 x6 x7:List T) (x8:Nat):St:=⟨[(2,(.one (.ptr 128 0))),(4,(.one (.obj 640))),(5,(.one (.ptr 320 0))),(17,(.one (.obj 1088))),(18,oi x0),(19,oi x1),(7,(.one .undef)),(23,(.one .undef)),(24,oi x2),(25,oi x3)],[(128,(.box [.nil,.nil])),(640,(.arr true true 1 x4)),(768,(.arr true true 1 x5)),(769,(.arr true true 1 x6)),(320,(.box [(.obj 768),(.obj 769)])),(1088,(.opn 1 x7 [(x8,.undef),(0,(.obj 768)),(1,(.obj 769))]))]⟩
def q0c.st0 (x0 x1:Int) (x2 x3 x4:List T):St:=⟨[(2,(.one (.ptr 128 0))),(4,(.one (.obj 640))),(5,(.one (.ptr 320 0))),(17,(.one (.obj 1088))),(18,oi x0),(19,oi x1)],[(128,(.box [.nil,.nil])),(640,(.arr true true 1 x2)),(768,(.arr true true 1 x3)),(769,(.arr true true 1 x4)),(320,(.box [(.obj 768),(.obj 769)])),(1088,(.opn 1 [(.bool false),(.bool false)] [(0,(.obj 768)),(1,(.obj 769))]))]⟩
noncomputable def q0c.K0 (n:Nat):Ex→St→R:=kx F.q0c n [.block 0,.seq 0 (cx F.q0c [1,1,1,1])] (q3u prog A F.q0c)
noncomputable def q0c.at0 (n:Nat) (m:Nat) (s:St):R:=lx F.q0c n 0 [1,1,1,0,1,0,0] (q0c.K0 n) m s
noncomputable def q0c.rd0 (n:Nat) (L0:St→R) (s:St):R:=rx F.q0c n 0 [1,1,1,0,1,0,0] (q0c.K0 n) L0 s
theorem q0c.next0 (n:Nat) (m:Nat) (s:St):q0c.at0 n (m+1) s=q0c.rd0 n (q0c.at0 n m) s:=nx _ _ _ _ _ _ _
noncomputable def q0c.K2002 (n:Nat) (L0:St→R):Ex→St→R:=kx F.q0c n [.block 2,.block 1,.seq 0 (cx F.q0c [1,1,1,0,1,0,0,1,1,1])] (bx F.q0c 0 (q0c.K0 n) L0)
noncomputable def q0c.at2002 (n:Nat) (L0:St→R) (m:Nat) (s:St):R:=lx F.q0c n 2 [1,1,1,0,1,0,0,1,1,0,0,1,1,0,0] (q0c.K2002 n L0) m s
noncomputable def q0c.K1002 (n:Nat) (L0:St→R):Ex→St→R:=kx F.q0c n [.block 2,.block 1,.seq 0 (cx F.q0c [1,1,1,0,1,0,0,1,1,1])] (bx F.q0c 0 (q0c.K0 n) L0)
noncomputable def q0c.at1002 (n:Nat) (L0:St→R) (m:Nat) (s:St):R:=lx F.q0c n 2 [1,1,1,0,1,0,0,1,1,0,0,1,1,0,0] (q0c.K1002 n L0) m s
noncomputable def q0c.rd1002 (n:Nat) (L0:St→R) (L1002:St→R) (s:St):R:=rx F.q0c n 2 [1,1,1,0,1,0,0,1,1,0,0,1,1,0,0] (q0c.K1002 n L0) L1002 s
theorem q0c.next1002 (n:Nat) (L0:St→R) (m:Nat) (s:St):q0c.at1002 n L0 (m+1) s=q0c.rd1002 n L0 (q0c.at1002 n L0 m) s:=nx _ _ _ _ _ _ _
noncomputable def q0c.K2 (n:Nat) (L0:St→R):Ex→St→R:=kx F.q0c n [.block 2,.block 1,.seq 0 (cx F.q0c [1,1,1,0,1,0,0,1,1,1])] (bx F.q0c 0 (q0c.K0 n) L0)
noncomputable def q0c.at2 (n:Nat) (L0:St→R) (m:Nat) (s:St):R:=lx F.q0c n 2 [1,1,1,0,1,0,0,1,1,0,0,1,1,0,0] (q0c.K2 n L0) m s
noncomputable def q0c.rd2 (n:Nat) (L0:St→R) (L2:St→R) (s:St):R:=rx F.q0c n 2 [1,1,1,0,1,0,0,1,1,0,0,1,1,0,0] (q0c.K2 n L0) L2 s
theorem q0c.next2 (n:Nat) (L0:St→R) (m:Nat) (s:St):q0c.at2 n L0 (m+1) s=q0c.rd2 n L0 (q0c.at2 n L0 m) s:=nx _ _ _ _ _ _ _
theorem q0c.round0 (n:Nat) (L0:St→R) (x0 x1:Int) (x2 x3 x4:List T):q0c.rd0 n L0 (q0c.st0 x0 x1 x2 x3 x4)=(bif (decide (x1 < x0)) then (bif inB x1 2 then (bif Nat.beq 0 ((Int.toNat x1)*1) then (q0c.at2 n L0 n (q0c.st2 x0 x1 ((((x3).length / 1):Nat):Int) (0:Int) x2 x3 x4)) else (bif Nat.beq 1 ((Int.toNat x1)*1) then (q0c.at1002 n L0 n (q0c.st1002 x0 x1 ((((x4).length / 1):Nat):Int) (0:Int) x2 x3 x4)) else ((([(.bool false),(.bool false)]:List T)[((Int.toNat x1)*1)]?).bind fun e23=>((oSl 1 e23).bind fun c24=>(q0c.at2002 n L0 n (q0c.st2002 x0 x1 ((((c24).length / 1):Nat):Int) (0:Int) x2 x3 x4 [(.bool false),(.bool false)] ((Int.toNat x1)*1))))))) else none) else some ((.tup [(.agg [(.sl 1 x3),(.sl 1 x4)]),(.bool (decide (((((x2).length / 1):Nat):Int)≤(6:Int))))]),[])):=by kernel_rfl
theorem q0c.round1002 (n:Nat) (L0:St→R) (L1002:St→R) (x0 x1 x2 x3:Int) (x4 x5 x6:List T):q0c.rd1002 n L0 L1002 (q0c.st1002 x0 x1 x2 x3 x4 x5 x6)=(bif (decide (x3 < x2)) then (bif inB x3 ((x6).length / 1) then ((x6[((Int.toNat x3)*1)]?).bind fun e15=>((oInt .i64 e15).bind fun n16=>(bif (decide (n16 ≥ (0:Int))) then (L1002 (q0c.st1002 x0 x1 x2 (IntKind.wrap .i64 (x3+(1:Int))) x4 x5 x6)) else ((LIM F.q1u [(.sl 1 x4),(.int .i64 n16)]).bind fun r17=>((oNil r17.2).bind fun _=>((q3h r17.1).bind fun b18=>(bif (!b18) then (bif Nat.ble (((x4).length+1)*8) (140737488355328*1) then ((LIM F.q0e [(.sl 1 (x4++[(.int .i64 n16)]:List T)),(.int .i64 n16)]).bind fun r19=>((oNil r19.2).bind fun _=>((oInt .i64 r19.1).bind fun n20=>(bif inB x3 ((x6).length / 1) then (bif decide (((Int.toNat x3)*1)+1≤(x6).length) then (L1002 (q0c.st1002 x0 x1 x2 (IntKind.wrap .i64 (x3+(1:Int))) (x4++[(.int .i64 n16)]:List T) x5 (setCells x6 ((Int.toNat x3)*1) [(.int .i64 (IntKind.wrap .i64 ((-1:Int) - n20)))]))) else none) else none)))) else none) else ((LIM F.q0e [(.sl 1 x4),(.int .i64 n16)]).bind fun r21=>((oNil r21.2).bind fun _=>((oInt .i64 r21.1).bind fun n22=>(bif inB x3 ((x6).length / 1) then (bif decide (((Int.toNat x3)*1)+1≤(x6).length) then (L1002 (q0c.st1002 x0 x1 x2 (IntKind.wrap .i64 (x3+(1:Int))) x4 x5 (setCells x6 ((Int.toNat x3)*1) [(.int .i64 (IntKind.wrap .i64 ((-1:Int) - n22)))]))) else none) else none))))))))))) else none) else (L0 (q0c.st0 x0 (IntKind.wrap .i64 (x1+(1:Int))) x4 x5 x6))):=by kernel_rfl
theorem q0c.round2 (n:Nat) (L0:St→R) (L2:St→R) (x0 x1 x2 x3:Int) (x4 x5 x6:List T):q0c.rd2 n L0 L2 (q0c.st2 x0 x1 x2 x3 x4 x5 x6)=(bif (decide (x3 < x2)) then (bif inB x3 ((x5).length / 1) then ((x5[((Int.toNat x3)*1)]?).bind fun e7=>((oInt .i64 e7).bind fun n8=>(bif (decide (n8 ≥ (0:Int))) then (L2 (q0c.st2 x0 x1 x2 (IntKind.wrap .i64 (x3+(1:Int))) x4 x5 x6)) else ((LIM F.q1u [(.sl 1 x4),(.int .i64 n8)]).bind fun r9=>((oNil r9.2).bind fun _=>((q3h r9.1).bind fun b10=>(bif (!b10) then (bif Nat.ble (((x4).length+1)*8) (140737488355328*1) then ((LIM F.q0e [(.sl 1 (x4++[(.int .i64 n8)]:List T)),(.int .i64 n8)]).bind fun r11=>((oNil r11.2).bind fun _=>((oInt .i64 r11.1).bind fun n12=>(bif inB x3 ((x5).length / 1) then (bif decide (((Int.toNat x3)*1)+1≤(x5).length) then (L2 (q0c.st2 x0 x1 x2 (IntKind.wrap .i64 (x3+(1:Int))) (x4++[(.int .i64 n8)]:List T) (setCells x5 ((Int.toNat x3)*1) [(.int .i64 (IntKind.wrap .i64 ((-1:Int) - n12)))]) x6)) else none) else none)))) else none) else ((LIM F.q0e [(.sl 1 x4),(.int .i64 n8)]).bind fun r13=>((oNil r13.2).bind fun _=>((oInt .i64 r13.1).bind fun n14=>(bif inB x3 ((x5).length / 1) then (bif decide (((Int.toNat x3)*1)+1≤(x5).length) then (L2 (q0c.st2 x0 x1 x2 (IntKind.wrap .i64 (x3+(1:Int))) x4 (setCells x5 ((Int.toNat x3)*1) [(.int .i64 (IntKind.wrap .i64 ((-1:Int) - n14)))]) x6)) else none) else none))))))))))) else none) else (L0 (q0c.st0 x0 (IntKind.wrap .i64 (x1+(1:Int))) x4 x5 x6))):=by kernel_rfl
theorem q0c.ev (n:Nat) (a0_0 a0_1:List T):q1m prog A H LIM n F.q0c [(.agg [(.sl 1 a0_0),(.sl 1 a0_1)])]=((LIM F.q6k [(.agg [(.sl 1 a0_0),(.sl 1 a0_1)])]).bind fun r1=>((oNil r1.2).bind fun _=>((oAgg r1.1).bind fun c2=>((q0i c2).bind fun p3=>((oSl 1 p3.1).bind fun c4=>((q0i p3.2).bind fun p5=>((oSl 1 p5.1).bind fun c6=>((oNil p5.2).bind fun _=>(q0c.at0 n n (q0c.st0 (2:Int) (0:Int) [] c4 c6)))))))))):=by kernel_rfl
def q2p.st0 (x0 x1 x2 x3:Int):St:=⟨[(0,oi x0),(5,oi x1),(6,oi x2),(7,oi x3)],[]⟩
noncomputable def q2p.K0 (n:Nat):Ex→St→R:=kx F.q2p n [.block 0,.seq 0 (cx F.q2p [1,1,1])] (q3u prog A F.q2p)
noncomputable def q2p.at0 (n:Nat) (m:Nat) (s:St):R:=lx F.q2p n 0 [1,1,0,1,0,0] (q2p.K0 n) m s
noncomputable def q2p.rd0 (n:Nat) (L0:St→R) (s:St):R:=rx F.q2p n 0 [1,1,0,1,0,0] (q2p.K0 n) L0 s
theorem q2p.next0 (n:Nat) (m:Nat) (s:St):q2p.at0 n (m+1) s=q2p.rd0 n (q2p.at0 n m) s:=nx _ _ _ _ _ _ _
theorem q2p.round0 (n:Nat) (L0:St→R) (x0 x1 x2 x3:Int):q2p.rd0 n L0 (q2p.st0 x0 x1 x2 x3)=(bif (decide (x3 < x2)) then (L0 (q2p.st0 x0 (IntKind.wrap .i64 (x1*x0)) x2 (IntKind.wrap .i64 (x3+(1:Int))))) else some ((.int .i64 x1),[])):=by kernel_rfl
theorem q2p.ev (n:Nat) (a0 a1:Int):q1m prog A H LIM n F.q2p [(.int .i64 a0),(.int .i64 a1)]=(q2p.at0 n n (q2p.st0 a0 (1:Int) a1 (0:Int))):=by kernel_rfl
theorem q6b.ev (n:Nat) (a0_0 a1:List T) (a2:Int) (a3:List T):q1m prog A H LIM n F.q6b [(.agg [(.sl 2 a0_0)]),(.sl 1 a1),(.int .i64 a2),(.sl 1 a3)]=(bif decide (0≤(0:Int))&&decide ((0:Int)≤a2)&&decide (a2≤((((a1).length / 1):Nat):Int)) then ((LIM F.q2q [(.sl 1 ((a1.take ((Int.toNat a2)*1)).drop (0*1)))]).bind fun r1=>((oNil r1.2).bind fun _=>((oSl 1 r1.1).bind fun c2=>(bif (a3).all T.scalar then (bif Nat.ble (((c2).length+(a3).length)*8) (140737488355328*1) then ((LIM F.q2k [(.agg [(.sl 2 a0_0)]),(.sl 1 a1),(.int .i64 a2)]).bind fun r3=>((oNil r3.2).bind fun _=>((oInt .i64 r3.1).bind fun n4=>(bif decide (0≤n4)&&decide (n4≤((((a1).length / 1):Nat):Int))&&decide (((((a1).length / 1):Nat):Int)≤((((a1).length / 1):Nat):Int)) then (bif (((a1.take ((Int.toNat ((((a1).length / 1):Nat):Int))*1)).drop ((Int.toNat n4)*1))).all T.scalar then (bif Nat.ble ((((c2++a3:List T)).length+(((a1.take ((Int.toNat ((((a1).length / 1):Nat):Int))*1)).drop ((Int.toNat n4)*1))).length)*8) (140737488355328*1) then some ((.sl 1 ((c2++a3:List T)++((a1.take ((Int.toNat ((((a1).length / 1):Nat):Int))*1)).drop ((Int.toNat n4)*1)):List T)),[]) else none) else none) else none)))) else none) else none)))) else none):=by kernel_rfl
theorem q3m.ev (n:Nat) (a0_0 a0_1 a1_0 a1_1:List T):q1m prog A H LIM n F.q3m [(.agg [(.sl 1 a0_0),(.sl 1 a0_1)]),(.agg [(.sl 1 a1_0),(.sl 1 a1_1)])]=((LIM F.q0r [(.sl 1 a0_0),(.sl 1 a1_0)]).bind fun r1=>((oNil r1.2).bind fun _=>((q3h r1.1).bind fun b2=>(bif b2 then ((LIM F.q0r [(.sl 1 a0_1),(.sl 1 a1_1)]).bind fun r3=>((oNil r3.2).bind fun _=>((q3h r3.1).bind fun b4=>some ((.bool b4),[])))) else some ((.bool false),[]))))):=by kernel_rfl
def q1t.st0 (x0 x1 x2:Int) (x3:List T):St:=⟨[(1,oi x0),(5,(.one (.obj 576))),(10,(.one (.obj 576))),(11,oi x1),(12,oi x2)],[(576,(.arr true true 1 x3))]⟩
noncomputable def q1t.K0 (n:Nat):Ex→St→R:=kx F.q1t n [.block 0,.seq 0 (cx F.q1t [1,1,1])] (q3u prog A F.q1t)
noncomputable def q1t.at0 (n:Nat) (m:Nat) (s:St):R:=lx F.q1t n 0 [1,1,0,1,0,0] (q1t.K0 n) m s
noncomputable def q1t.rd0 (n:Nat) (L0:St→R) (s:St):R:=rx F.q1t n 0 [1,1,0,1,0,0] (q1t.K0 n) L0 s
theorem q1t.next0 (n:Nat) (m:Nat) (s:St):q1t.at0 n (m+1) s=q1t.rd0 n (q1t.at0 n m) s:=nx _ _ _ _ _ _ _
theorem q1t.round0 (n:Nat) (L0:St→R) (x0 x1 x2:Int) (x3:List T):q1t.rd0 n L0 (q1t.st0 x0 x1 x2 x3)=(bif (decide (x2 < x1)) then (bif inB x2 ((x3).length / 1) then ((x3[((Int.toNat x2)*1)]?).bind fun e3=>((oInt .i64 e3).bind fun n4=>(bif (decide (n4 < (0:Int))) then (bif inB x2 ((x3).length / 1) then (bif decide (((Int.toNat x2)*1)+1≤(x3).length) then (L0 (q1t.st0 x0 x1 (IntKind.wrap .i64 (x2+(1:Int))) (setCells x3 ((Int.toNat x2)*1) [(.int .i64 (IntKind.wrap .i64 (n4 - x0)))]))) else none) else none) else (L0 (q1t.st0 x0 x1 (IntKind.wrap .i64 (x2+(1:Int))) x3))))) else none) else some ((.sl 1 x3),[])):=by kernel_rfl
theorem q1t.ev (n:Nat) (a0:List T) (a1:Int):q1m prog A H LIM n F.q1t [(.sl 1 a0),(.int .i64 a1)]=((LIM F.q2q [(.sl 1 a0)]).bind fun r1=>((oNil r1.2).bind fun _=>((oSl 1 r1.1).bind fun c2=>(q1t.at0 n n (q1t.st0 a1 ((((c2).length / 1):Nat):Int) (0:Int) c2))))):=by kernel_rfl
theorem q4n.ev (n:Nat) (a0_0 a1:List T) (a2:Int):q1m prog A H LIM n F.q4n [(.agg [(.sl 2 a0_0)]),(.sl 1 a1),(.int .i64 a2)]=((LIM F.q2k [(.agg [(.sl 2 a0_0)]),(.sl 1 a1),(.int .i64 a2)]).bind fun r1=>((oNil r1.2).bind fun _=>((oInt .i64 r1.1).bind fun n2=>(bif decide (0≤a2)&&decide (a2≤n2)&&decide (n2≤((((a1).length / 1):Nat):Int)) then some ((.sl 1 ((a1.take ((Int.toNat n2)*1)).drop ((Int.toNat a2)*1))),[]) else none)))):=by kernel_rfl
theorem q4v.ev (n:Nat) (a0_0:List T) (a1:ByteArray):q1m prog A H LIM n F.q4v [(.agg [(.sl 2 a0_0)]),(.str a1)]=((LIM F.q1l [(.sl 2 a0_0),(.clo F.q3z [(.rref [(.str a1)] 0)])]).bind fun r1=>((oNil r1.2).bind fun _=>((oInt .i64 r1.1).bind fun n2=>some ((.int .i64 n2),[])))):=by kernel_rfl
theorem q3z.ev (n:Nat) (a0_0:ByteArray) (a0_1:Int) (a1_0:ByteArray):q1m prog A H LIM n F.q3z [(.agg [(.str a0_0),(.int .i64 a0_1)]),(.rref [(.str a1_0)] 0)]=some ((.bool (a0_0.toList == a1_0.toList)),[]):=by kernel_rfl
theorem q8f.ev (n:Nat) (a0:Bool):q1m prog A H LIM n F.q8f [(.bool a0)]=(bif a0 then some ((.agg [(.int .i64 (0:Int)),(.int .i64 (1:Int))]),[]) else some ((.agg [(.int .i64 (0:Int)),(.int .i64 (0:Int))]),[])):=by kernel_rfl
def q0g.st5 (x0 x1 x2:List T) (x3 x4:Int) (x5 x6 x7 x8 x9:List T):St:=⟨[(3,(.one (.ptr 192 0))),(6,(.one (.ptr 384 0))),(8,(.one (.ptr 512 0))),(9,ol 2 x0),(10,ol 1 x1),(11,ol 1 x2),(12,(.one (.ptr 768 0))),(118,(.one (.obj 518193))),(119,oi x3),(120,oi x4)],[(192,(.box [(.t (.sl 2 x5))])),(384,(.box [.nil,.nil])),(512,(.box [(.obj 518192),(.obj 518193)])),(518192,(.arr true true 1 x6)),(518193,(.arr true true 1 x7)),(7232,(.arr true true 1 x8)),(7360,(.arr true false 1 x9)),(768,(.box [(.obj 7232),(.obj 7360)]))]⟩
def q0g.st3 (x0 x1 x2:List T) (x3 x4:Int) (x5 x6 x7 x8 x9 x10:List T):St:=⟨[(3,(.one (.ptr 192 0))),(6,(.one (.ptr 384 0))),(8,(.one (.ptr 512 0))),(9,ol 2 x0),(10,ol 1 x1),(11,ol 1 x2),(15,(.one (.obj 3200))),(16,(.one (.obj 3392))),(56,(.one (.obj 3584))),(57,oi x3),(58,oi x4)],[(192,(.box [(.t (.sl 2 x5))])),(384,(.box [.nil,.nil])),(512,(.box [(.obj 518192),(.obj 518193)])),(518192,(.arr true true 1 x6)),(518193,(.arr true true 1 x7)),(3392,(.arr true true 1 x8)),(3584,(.arr true true 1 x9)),(3200,(.arr true false 2 x10))]⟩
def q0g.st0 (x0 x1 x2 x3:List T):St:=⟨[(3,(.one (.ptr 192 0))),(6,(.one (.ptr 384 0))),(8,(.one (.ptr 512 0))),(9,ol 2 x0)],[(192,(.box [(.t (.sl 2 x1))])),(384,(.box [.nil,.nil])),(512,(.box [(.obj 518192),(.obj 518193)])),(518192,(.arr true true 1 x2)),(518193,(.arr true true 1 x3))]⟩
noncomputable def q0g.K0 (n:Nat):Ex→St→R:=kx F.q0g n [.block 0,.seq 0 (cx F.q0g [1,1,1,1])] (q3u prog A F.q0g)
noncomputable def q0g.at0 (n:Nat) (m:Nat) (s:St):R:=lx F.q0g n 0 [1,1,1,0,0,0] (q0g.K0 n) m s
noncomputable def q0g.rd0 (n:Nat) (L0:St→R) (s:St):R:=rx F.q0g n 0 [1,1,1,0,0,0] (q0g.K0 n) L0 s
theorem q0g.next0 (n:Nat) (m:Nat) (s:St):q0g.at0 n (m+1) s=q0g.rd0 n (q0g.at0 n m) s:=nx _ _ _ _ _ _ _
noncomputable def q0g.K3 (n:Nat) (L0:St→R):Ex→St→R:=kx F.q0g n [.block 3,.seq 2 (cx F.q0g [1,1,1,0,0,0,1,0,1,1,1,0,1,1,1,1,1,1,1,1,1]),.block 2,.block 1] (bx F.q0g 0 (q0g.K0 n) L0)
noncomputable def q0g.at3 (n:Nat) (L0:St→R) (m:Nat) (s:St):R:=lx F.q0g n 3 [1,1,1,0,0,0,1,0,1,1,1,0,1,1,1,1,1,1,1,1,0,1,0,0] (q0g.K3 n L0) m s
noncomputable def q0g.rd3 (n:Nat) (L0:St→R) (L3:St→R) (s:St):R:=rx F.q0g n 3 [1,1,1,0,0,0,1,0,1,1,1,0,1,1,1,1,1,1,1,1,0,1,0,0] (q0g.K3 n L0) L3 s
theorem q0g.next3 (n:Nat) (L0:St→R) (m:Nat) (s:St):q0g.at3 n L0 (m+1) s=q0g.rd3 n L0 (q0g.at3 n L0 m) s:=nx _ _ _ _ _ _ _
noncomputable def q0g.K5 (n:Nat) (L0:St→R):Ex→St→R:=kx F.q0g n [.block 5,.seq 2 (cx F.q0g [1,1,1,0,0,0,1,0,1,1,1,0,1,1,1,0,1,1,1,1]),.block 2,.block 1] (bx F.q0g 0 (q0g.K0 n) L0)
noncomputable def q0g.at5 (n:Nat) (L0:St→R) (m:Nat) (s:St):R:=lx F.q0g n 5 [1,1,1,0,0,0,1,0,1,1,1,0,1,1,1,0,1,1,1,0,1,0,0] (q0g.K5 n L0) m s
noncomputable def q0g.rd5 (n:Nat) (L0:St→R) (L5:St→R) (s:St):R:=rx F.q0g n 5 [1,1,1,0,0,0,1,0,1,1,1,0,1,1,1,0,1,1,1,0,1,0,0] (q0g.K5 n L0) L5 s
theorem q0g.next5 (n:Nat) (L0:St→R) (m:Nat) (s:St):q0g.at5 n L0 (m+1) s=q0g.rd5 n L0 (q0g.at5 n L0 m) s:=nx _ _ _ _ _ _ _
theorem q0g.round0 (n:Nat) (L0:St→R) (x0 x1 x2 x3:List T):q0g.rd0 n L0 (q0g.st0 x0 x1 x2 x3)=(bif (decide (((((x0).length / 2):Nat):Int) > (0:Int))) then (bif inB (0:Int) ((x0).length / 2) then ((x0[0]?).bind fun e1=>((oSl 1 e1).bind fun c2=>((LIM F.q0k [(.agg [(.sl 1 x2),(.sl 1 x3)]),(.sl 1 c2)]).bind fun r3=>((oNil r3.2).bind fun _=>((oSl 1 r3.1).bind fun c4=>(bif inB (0:Int) ((x0).length / 2) then ((x0[1]?).bind fun e5=>((oSl 1 e5).bind fun c6=>((LIM F.q0k [(.agg [(.sl 1 x2),(.sl 1 x3)]),(.sl 1 c6)]).bind fun r7=>((oNil r7.2).bind fun _=>((oSl 1 r7.1).bind fun c8=>(bif decide (0≤(1:Int))&&decide ((1:Int)≤((((x0).length / 2):Nat):Int))&&decide (((((x0).length / 2):Nat):Int)≤((((x0).length / 2):Nat):Int)) then (bif (decide (((((c4).length / 1):Nat):Int) > (24:Int))) then some ((.tup [(.agg [(.sl 1 []),(.sl 1 [])]),(.int .i64 (2:Int))]),[]) else (bif (decide (((((c8).length / 1):Nat):Int) > (24:Int))) then some ((.tup [(.agg [(.sl 1 []),(.sl 1 [])]),(.int .i64 (2:Int))]),[]) else ((LIM F.q0r [(.sl 1 c4),(.sl 1 c8)]).bind fun r9=>((oNil r9.2).bind fun _=>((q3h r9.1).bind fun b10=>(bif b10 then (L0 (q0g.st0 ((x0.take ((Int.toNat ((((x0).length / 2):Nat):Int))*2)).drop (1*2)) x1 x2 x3)) else (bif inB (0:Int) ((c4).length / 1) then ((c4[0]?).bind fun e11=>((oInt .i64 e11).bind fun n12=>(bif (decide (n12 < (0:Int))) then (bif inB (0:Int) ((c4).length / 1) then ((c4[0]?).bind fun e13=>((oInt .i64 e13).bind fun n14=>(bif (decide (n14 ≥ (0:Int))) then (bif inB (0:Int) ((c8).length / 1) then ((c8[0]?).bind fun e15=>((oInt .i64 e15).bind fun n16=>((LIM F.q1u [(.sl 1 c4),(.int .i64 n16)]).bind fun r17=>((oNil r17.2).bind fun _=>((q3h r17.1).bind fun b18=>(bif b18 then some ((.tup [(.agg [(.sl 1 []),(.sl 1 [])]),(.int .i64 (4:Int))]),[]) else (bif inB (0:Int) ((c8).length / 1) then ((c8[0]?).bind fun e19=>((oInt .i64 e19).bind fun n20=>(q0g.at5 n L0 n (q0g.st5 ((x0.take ((Int.toNat ((((x0).length / 2):Nat):Int))*2)).drop (1*2)) c8 c4 ((((x3).length / 1):Nat):Int) (0:Int) x1 x2 x3 [(.int .i64 (IntKind.wrap .i64 ((-1:Int) - n20)))] [(.sl 1 c4)])))) else none))))))) else none) else (bif inB (0:Int) ((c4).length / 1) then ((c4[0]?).bind fun e37=>((oInt .i64 e37).bind fun n38=>((LIM F.q1u [(.sl 1 c8),(.int .i64 n38)]).bind fun r39=>((oNil r39.2).bind fun _=>((q3h r39.1).bind fun b40=>(bif b40 then some ((.tup [(.agg [(.sl 1 []),(.sl 1 [])]),(.int .i64 (4:Int))]),[]) else (bif inB (0:Int) ((c4).length / 1) then ((c4[0]?).bind fun e41=>((oInt .i64 e41).bind fun n42=>(q0g.at5 n L0 n (q0g.st5 ((x0.take ((Int.toNat ((((x0).length / 2):Nat):Int))*2)).drop (1*2)) c4 c8 ((((x3).length / 1):Nat):Int) (0:Int) x1 x2 x3 [(.int .i64 (IntKind.wrap .i64 ((-1:Int) - n42)))] [(.sl 1 c8)])))) else none))))))) else none)))) else none) else (bif inB (0:Int) ((c8).length / 1) then ((c8[0]?).bind fun e43=>((oInt .i64 e43).bind fun n44=>(bif (decide (n44 < (0:Int))) then (bif inB (0:Int) ((c4).length / 1) then ((c4[0]?).bind fun e45=>((oInt .i64 e45).bind fun n46=>(bif (decide (n46 ≥ (0:Int))) then (bif inB (0:Int) ((c8).length / 1) then ((c8[0]?).bind fun e47=>((oInt .i64 e47).bind fun n48=>((LIM F.q1u [(.sl 1 c4),(.int .i64 n48)]).bind fun r49=>((oNil r49.2).bind fun _=>((q3h r49.1).bind fun b50=>(bif b50 then some ((.tup [(.agg [(.sl 1 []),(.sl 1 [])]),(.int .i64 (4:Int))]),[]) else (bif inB (0:Int) ((c8).length / 1) then ((c8[0]?).bind fun e51=>((oInt .i64 e51).bind fun n52=>(q0g.at5 n L0 n (q0g.st5 ((x0.take ((Int.toNat ((((x0).length / 2):Nat):Int))*2)).drop (1*2)) c8 c4 ((((x3).length / 1):Nat):Int) (0:Int) x1 x2 x3 [(.int .i64 (IntKind.wrap .i64 ((-1:Int) - n52)))] [(.sl 1 c4)])))) else none))))))) else none) else (bif inB (0:Int) ((c4).length / 1) then ((c4[0]?).bind fun e53=>((oInt .i64 e53).bind fun n54=>((LIM F.q1u [(.sl 1 c8),(.int .i64 n54)]).bind fun r55=>((oNil r55.2).bind fun _=>((q3h r55.1).bind fun b56=>(bif b56 then some ((.tup [(.agg [(.sl 1 []),(.sl 1 [])]),(.int .i64 (4:Int))]),[]) else (bif inB (0:Int) ((c4).length / 1) then ((c4[0]?).bind fun e57=>((oInt .i64 e57).bind fun n58=>(q0g.at5 n L0 n (q0g.st5 ((x0.take ((Int.toNat ((((x0).length / 2):Nat):Int))*2)).drop (1*2)) c4 c8 ((((x3).length / 1):Nat):Int) (0:Int) x1 x2 x3 [(.int .i64 (IntKind.wrap .i64 ((-1:Int) - n58)))] [(.sl 1 c8)])))) else none))))))) else none)))) else none) else (bif inB (0:Int) ((c4).length / 1) then ((c4[0]?).bind fun e59=>((oInt .i64 e59).bind fun n60=>(bif inB (0:Int) ((c8).length / 1) then ((c8[0]?).bind fun e61=>((oInt .i64 e61).bind fun n62=>(bif ((n60 != n62)) then some ((.tup [(.agg [(.sl 1 []),(.sl 1 [])]),(.int .i64 (4:Int))]),[]) else ((LIM F.q0z [(.agg [(.sl 2 x1)]),(.sl 1 c8),(.int .i64 (0:Int))]).bind fun r63=>((oNil r63.2).bind fun _=>((oSl 1 r63.1).bind fun c64=>((LIM F.q0z [(.agg [(.sl 2 x1)]),(.sl 1 c4),(.int .i64 (0:Int))]).bind fun r65=>((oNil r65.2).bind fun _=>((oSl 1 r65.1).bind fun c66=>(q0g.at3 n L0 n (q0g.st3 ((x0.take ((Int.toNat ((((x0).length / 2):Nat):Int))*2)).drop (1*2)) c4 c8 ((((c66).length / 1):Nat):Int) (0:Int) x1 x2 x3 c64 c66 []))))))))))) else none))) else none)))) else none)))) else none))))))) else none)))))) else none)))))) else none) else some ((.tup [(.agg [(.sl 1 x2),(.sl 1 x3)]),(.int .i64 (0:Int))]),[])):=by kernel_rfl
theorem q0g.round3 (n:Nat) (L0:St→R) (L3:St→R) (x0 x1 x2:List T) (x3 x4:Int) (x5 x6 x7 x8 x9 x10:List T):q0g.rd3 n L0 L3 (q0g.st3 x0 x1 x2 x3 x4 x5 x6 x7 x8 x9 x10)=(bif (decide (x4 < x3)) then (bif inB x4 ((x9).length / 1) then ((x9[((Int.toNat x4)*1)]?).bind fun e67=>((oInt .i64 e67).bind fun n68=>((LIM F.q4n [(.agg [(.sl 2 x5)]),(.sl 1 x1),(.int .i64 n68)]).bind fun r69=>((oNil r69.2).bind fun _=>((oSl 1 r69.1).bind fun c70=>(bif inB x4 ((x8).length / 1) then ((x8[((Int.toNat x4)*1)]?).bind fun e71=>((oInt .i64 e71).bind fun n72=>((LIM F.q4n [(.agg [(.sl 2 x5)]),(.sl 1 x2),(.int .i64 n72)]).bind fun r73=>((oNil r73.2).bind fun _=>((oSl 1 r73.1).bind fun c74=>(bif Nat.ble (((x10).length+2)*48) (140737488355328*2) then (L3 (q0g.st3 x0 x1 x2 x3 (IntKind.wrap .i64 (x4+(1:Int))) x5 x6 x7 x8 x9 (x10++[(.sl 1 c70),(.sl 1 c74)]:List T))) else none)))))) else none)))))) else none) else (bif Nat.ble (((x10).length+(x0).length)*48) (140737488355328*2) then (L0 (q0g.st0 (x10++x0:List T) x5 x6 x7)) else none)):=by kernel_rfl
theorem q0g.round5 (n:Nat) (L0:St→R) (L5:St→R) (x0 x1 x2:List T) (x3 x4:Int) (x5 x6 x7 x8 x9:List T):q0g.rd5 n L0 L5 (q0g.st5 x0 x1 x2 x3 x4 x5 x6 x7 x8 x9)=(bif (decide (x4 < x3)) then (bif inB x4 ((x7).length / 1) then ((x7[((Int.toNat x4)*1)]?).bind fun e21=>((oSl 1 e21).bind fun c22=>((LIM F.q0k [(.agg [(.sl 1 x8),(.sl 1 x9)]),(.sl 1 c22)]).bind fun r23=>((oNil r23.2).bind fun _=>((oSl 1 r23.1).bind fun c24=>(bif inB x4 ((x7).length / 1) then (bif decide (((Int.toNat x4)*1) < (x7).length) then (bif inB x4 (((List.set (List.set x7 ((Int.toNat x4)*1) (.sl 1 c22)) ((Int.toNat x4)*1) (.sl 1 c24))).length / 1) then (((List.set (List.set x7 ((Int.toNat x4)*1) (.sl 1 c22)) ((Int.toNat x4)*1) (.sl 1 c24))[((Int.toNat x4)*1)]?).bind fun e25=>((oSl 1 e25).bind fun c26=>(bif (decide (((((c26).length / 1):Nat):Int) > (24:Int))) then some ((.tup [(.agg [(.sl 1 []),(.sl 1 [])]),(.int .i64 (2:Int))]),[]) else (L5 (q0g.st5 x0 x1 x2 x3 (IntKind.wrap .i64 (x4+(1:Int))) x5 x6 (List.set (List.set (List.set x7 ((Int.toNat x4)*1) (.sl 1 c22)) ((Int.toNat x4)*1) (.sl 1 c24)) ((Int.toNat x4)*1) (.sl 1 c26)) x8 x9))))) else none) else none) else none)))))) else none) else (bif inB (0:Int) ((x1).length / 1) then ((x1[0]?).bind fun e27=>((oInt .i64 e27).bind fun n28=>((LIM F.q11 [(.rref [(.sl 1 x6),(.sl 1 x7)] 0),(.int .i64 (IntKind.wrap .i64 ((-1:Int) - n28))),(.sl 1 x2)]).bind fun r29=>((q0i r29.2).bind fun p30=>((oNil p30.2).bind fun _=>((oAgg p30.1).bind fun c31=>((q0i c31).bind fun p32=>((oSl 1 p32.1).bind fun c33=>((q0i p32.2).bind fun p34=>((oSl 1 p34.1).bind fun c35=>((oNil p34.2).bind fun _=>((oTup r29.1).bind fun c36=>((oNil c36).bind fun _=>(L0 (q0g.st0 x0 x5 c33 c35))))))))))))))) else none)):=by kernel_rfl
theorem q0g.ev (n:Nat) (a0_0 a1 a2:List T):q1m prog A H LIM n F.q0g [(.agg [(.sl 2 a0_0)]),(.sl 1 a1),(.sl 1 a2)]=(q0g.at0 n n (q0g.st0 [(.sl 1 a1),(.sl 1 a2)] a0_0 [] [])):=by kernel_rfl
def q0x.st2 (x0:List T) (x1 x2:Int) (x3:List T) (x4 x5:Int) (x6:List T):St:=⟨[(3,(.one (.obj 512))),(9,ol 1 x0),(10,oi x1),(11,oi x2),(15,ol 1 x3),(16,oi x4),(17,oi x5)],[(512,(.arr true true 1 x6))]⟩
def q0x.st0 (x0:List T) (x1 x2:Int) (x3:List T):St:=⟨[(3,(.one (.obj 512))),(9,ol 1 x0),(10,oi x1),(11,oi x2)],[(512,(.arr true true 1 x3))]⟩
noncomputable def q0x.K0 (n:Nat):Ex→St→R:=kx F.q0x n [.block 0,.seq 0 (cx F.q0x [1,1,1])] (q3u prog A F.q0x)
noncomputable def q0x.at0 (n:Nat) (m:Nat) (s:St):R:=lx F.q0x n 0 [1,1,0,1,0,0] (q0x.K0 n) m s
noncomputable def q0x.rd0 (n:Nat) (L0:St→R) (s:St):R:=rx F.q0x n 0 [1,1,0,1,0,0] (q0x.K0 n) L0 s
theorem q0x.next0 (n:Nat) (m:Nat) (s:St):q0x.at0 n (m+1) s=q0x.rd0 n (q0x.at0 n m) s:=nx _ _ _ _ _ _ _
noncomputable def q0x.K2 (n:Nat) (L0:St→R):Ex→St→R:=kx F.q0x n [.block 2,.block 1,.seq 0 (cx F.q0x [1,1,0,1,0,0,1,1,1])] (bx F.q0x 0 (q0x.K0 n) L0)
noncomputable def q0x.at2 (n:Nat) (L0:St→R) (m:Nat) (s:St):R:=lx F.q0x n 2 [1,1,0,1,0,0,1,1,0,0,1,1,0,0] (q0x.K2 n L0) m s
noncomputable def q0x.rd2 (n:Nat) (L0:St→R) (L2:St→R) (s:St):R:=rx F.q0x n 2 [1,1,0,1,0,0,1,1,0,0,1,1,0,0] (q0x.K2 n L0) L2 s
theorem q0x.next2 (n:Nat) (L0:St→R) (m:Nat) (s:St):q0x.at2 n L0 (m+1) s=q0x.rd2 n L0 (q0x.at2 n L0 m) s:=nx _ _ _ _ _ _ _
theorem q0x.round0 (n:Nat) (L0:St→R) (x0:List T) (x1 x2:Int) (x3:List T):q0x.rd0 n L0 (q0x.st0 x0 x1 x2 x3)=(bif (decide (x2 < x1)) then (bif inB x2 ((x0).length / 1) then ((x0[((Int.toNat x2)*1)]?).bind fun e1=>((oSl 1 e1).bind fun c2=>(q0x.at2 n L0 n (q0x.st2 x0 x1 x2 c2 ((((c2).length / 1):Nat):Int) (0:Int) x3)))) else none) else ((LIM F.q6v [(.sl 1 x3)]).bind fun r5=>((q0i r5.2).bind fun p6=>((oNil p6.2).bind fun _=>((oSl 1 p6.1).bind fun c7=>((oTup r5.1).bind fun c8=>((oNil c8).bind fun _=>((LIM F.q5i [(.sl 1 c7)]).bind fun r9=>((oNil r9.2).bind fun _=>((oSl 1 r9.1).bind fun c10=>some ((.sl 1 c10),[]))))))))))):=by kernel_rfl
theorem q0x.round2 (n:Nat) (L0:St→R) (L2:St→R) (x0:List T) (x1 x2:Int) (x3:List T) (x4 x5:Int) (x6:List T):q0x.rd2 n L0 L2 (q0x.st2 x0 x1 x2 x3 x4 x5 x6)=(bif (decide (x5 < x4)) then (bif inB x5 ((x3).length / 1) then ((x3[((Int.toNat x5)*1)]?).bind fun e3=>((oInt .i64 e3).bind fun n4=>(bif (decide (n4 < (0:Int))) then (bif Nat.ble (((x6).length+1)*8) (140737488355328*1) then (L2 (q0x.st2 x0 x1 x2 x3 x4 (IntKind.wrap .i64 (x5+(1:Int))) (x6++[(.int .i64 (IntKind.wrap .i64 ((-1:Int) - n4)))]:List T))) else none) else (L2 (q0x.st2 x0 x1 x2 x3 x4 (IntKind.wrap .i64 (x5+(1:Int))) x6))))) else none) else (L0 (q0x.st0 x0 x1 (IntKind.wrap .i64 (x2+(1:Int))) x6))):=by kernel_rfl
theorem q0x.ev (n:Nat) (a0:List T):q1m prog A H LIM n F.q0x [(.sl 1 a0)]=(q0x.at0 n n (q0x.st0 a0 ((((a0).length / 1):Nat):Int) (0:Int) [])):=by kernel_rfl
theorem q3x.ev (n:Nat) (a0 a1 a2:Int):q1m prog A H LIM n F.q3x [(.int .i64 a0),(.int .i64 a1),(.int .i64 a2)]=(bif (decide (a0 ≥ a1)) then some ((.bool (decide (a0≤a2))),[]) else some ((.bool false),[])):=by kernel_rfl
def q0t.st2 (x0:Int) (x1 x2:List T) (x3:Int) (x4:List T) (x5:Int):St:=⟨[(7,(.one (.ptr 448 0))),(11,(.one (.ptr 704 0))),(12,oi x0)],[(1665,(.arr false true 1 x1)),(1666,(.arr false true 1 x2)),(448,(.box [(.t (.int .i64 x3)),(.obj 1665),(.obj 1666)])),(5185,(.arr false true 2 x4)),(704,(.box [(.t (.int .i64 x5)),(.obj 5185)]))]⟩
def q0t.st0 (x0:List T) (x1:Int) (x2 x3 x4 x5 x6 x7 x8:List T) (x9:Int) (x10:List T):St:=⟨[(0,ol 1 x0),(3,(.one (.ptr 192 0))),(4,(.one (.ptr 256 0))),(5,(.one (.ptr 320 0))),(7,(.one (.ptr 448 0))),(8,(.one (.obj 2944))),(9,oi x1)],[(192,(.box [(.t (.sl 2 x2))])),(256,(.box [(.t (.sl 1 x3)),(.t (.sl 1 x4))])),(320,(.box [(.t (.sl 1 x5)),(.t (.sl 1 x6))])),(1665,(.arr false true 1 x7)),(1666,(.arr false true 1 x8)),(448,(.box [(.t (.int .i64 x9)),(.obj 1665),(.obj 1666)])),(2944,(.arr true false 2 x10))]⟩
noncomputable def q0t.K0 (n:Nat):Ex→St→R:=kx F.q0t n [.block 0,.seq 0 (cx F.q0t [1,1,1,1,1,1,1,1,1])] (q3u prog A F.q0t)
noncomputable def q0t.at0 (n:Nat) (m:Nat) (s:St):R:=lx F.q0t n 0 [1,1,1,1,1,1,1,1,0,1,0,0] (q0t.K0 n) m s
noncomputable def q0t.rd0 (n:Nat) (L0:St→R) (s:St):R:=rx F.q0t n 0 [1,1,1,1,1,1,1,1,0,1,0,0] (q0t.K0 n) L0 s
theorem q0t.next0 (n:Nat) (m:Nat) (s:St):q0t.at0 n (m+1) s=q0t.rd0 n (q0t.at0 n m) s:=nx _ _ _ _ _ _ _
noncomputable def q0t.K2 (n:Nat):Ex→St→R:=kx F.q0t n [.block 2,.seq 0 (cx F.q0t [1,1,1,1,1,1,1,1,1,1,1,1])] (q3u prog A F.q0t)
noncomputable def q0t.at2 (n:Nat) (m:Nat) (s:St):R:=lx F.q0t n 2 [1,1,1,1,1,1,1,1,1,1,1,0,1,0,0] (q0t.K2 n) m s
noncomputable def q0t.rd2 (n:Nat) (L2:St→R) (s:St):R:=rx F.q0t n 2 [1,1,1,1,1,1,1,1,1,1,1,0,1,0,0] (q0t.K2 n) L2 s
theorem q0t.next2 (n:Nat) (m:Nat) (s:St):q0t.at2 n (m+1) s=q0t.rd2 n (q0t.at2 n m) s:=nx _ _ _ _ _ _ _
theorem q0t.round0 (n:Nat) (L0:St→R) (x0:List T) (x1:Int) (x2 x3 x4 x5 x6 x7 x8:List T) (x9:Int) (x10:List T):q0t.rd0 n L0 (q0t.st0 x0 x1 x2 x3 x4 x5 x6 x7 x8 x9 x10)=(bif (decide (x1 < (6:Int))) then ((LIM F.q7l [(.sl 1 x0),(.int .i64 x1),(.int .i64 (90:Int))]).bind fun r41=>((oNil r41.2).bind fun _=>((oInt .i64 r41.1).bind fun n42=>((LIM F.q5v [(.agg [(.sl 2 x2)]),(.int .i64 (IntKind.wrap .i64 ((1:Int)+(Int.tmod x1 (3:Int))))),(.int .i64 (IntKind.wrap .i64 ((IntKind.wrap .i64 ((100:Int)*x1))+n42)))]).bind fun r43=>((oNil r43.2).bind fun _=>((oAgg r43.1).bind fun c44=>((q0i c44).bind fun p45=>((oInt .i64 p45.1).bind fun n46=>((q0i p45.2).bind fun p47=>((oInt .i64 p47.1).bind fun n48=>((q0i p47.2).bind fun p49=>((oSl 1 p49.1).bind fun c50=>((oNil p49.2).bind fun _=>((LIM F.q75 [(.agg [(.sl 2 x2)]),(.agg [(.int .i64 n48),(.sl 1 c50)]),(.sl 2 x10)]).bind fun r51=>((oNil r51.2).bind fun _=>((oAgg r51.1).bind fun c52=>((q0i c52).bind fun p53=>((oInt .i64 p53.1).bind fun n54=>((q0i p53.2).bind fun p55=>((oInt .i64 p55.1).bind fun n56=>((oNil p55.2).bind fun _=>(bif ((n56 == (1:Int))) then ((LIM F.q8d [(.agg [(.sl 2 x2)]),(.agg [(.int .i64 n48),(.sl 1 c50)]),(.agg [(.sl 1 x7),(.sl 1 x8)])]).bind fun r57=>((oNil r57.2).bind fun _=>((oAgg r57.1).bind fun c58=>((q0i c58).bind fun p59=>((oInt .i64 p59.1).bind fun n60=>((q0i p59.2).bind fun p61=>((oInt .i64 p61.1).bind fun n62=>((oNil p61.2).bind fun _=>(bif ((n62 != (1:Int))) then some ((.bool false),[]) else (L0 (q0t.st0 x0 (IntKind.wrap .i64 (x1+(1:Int))) x2 x3 x4 x5 x6 x7 x8 x9 x10))))))))))) else (L0 (q0t.st0 x0 (IntKind.wrap .i64 (x1+(1:Int))) x2 x3 x4 x5 x6 x7 x8 x9 x10)))))))))))))))))))))))) else ((LIM F.q5k [(.agg [(.sl 2 x2)]),(.agg [(.sl 1 x3),(.sl 1 x4)]),(.agg [(.sl 1 x5),(.sl 1 x6)]),(.bool false)]).bind fun r63=>((oNil r63.2).bind fun _=>((oAgg r63.1).bind fun c64=>((q0i c64).bind fun p65=>((oInt .i64 p65.1).bind fun n66=>((q0i p65.2).bind fun p67=>((oSl 2 p67.1).bind fun c68=>((oNil p67.2).bind fun _=>(bif ((n66 != (0:Int))) then ((LIM F.q5t [(.agg [(.sl 2 x2)]),(.agg [(.sl 1 x3),(.sl 1 x4)]),(.agg [(.sl 1 x5),(.sl 1 x6)]),(.bool false)]).bind fun r69=>((oNil r69.2).bind fun _=>((oAgg r69.1).bind fun c70=>((q0i c70).bind fun p71=>((oInt .i64 p71.1).bind fun n72=>((q0i p71.2).bind fun p73=>((oSl 2 p73.1).bind fun c74=>((oNil p73.2).bind fun _=>some ((.bool ((n66 == n72))),[]))))))))) else (q0t.at2 n n (q0t.st2 (0:Int) x7 x8 x9 c68 n66)))))))))))):=by kernel_rfl
theorem q0t.round2 (n:Nat) (L2:St→R) (x0:Int) (x1 x2:List T) (x3:Int) (x4:List T) (x5:Int):q0t.rd2 n L2 (q0t.st2 x0 x1 x2 x3 x4 x5)=(bif (decide (x0 < ((((x4).length / 2):Nat):Int))) then (bif decide (0≤x0)&&decide (x0≤(IntKind.wrap .i64 (x0+(1:Int))))&&decide ((IntKind.wrap .i64 (x0+(1:Int)))≤((((x4).length / 2):Nat):Int)) then ((LIM F.q44 [(.sl 2 ((x4.take ((Int.toNat (IntKind.wrap .i64 (x0+(1:Int))))*2)).drop ((Int.toNat x0)*2))),(.sl 2 [(.sl 1 x1),(.sl 1 x2)])]).bind fun r75=>((oNil r75.2).bind fun _=>((q3h r75.1).bind fun b76=>(bif b76 then some ((.bool true),[]) else (L2 (q0t.st2 (IntKind.wrap .i64 (x0+(1:Int))) x1 x2 x3 x4 x5)))))) else none) else some ((.bool false),[])):=by kernel_rfl
theorem q0t.ev (n:Nat) (a0:List T):q1m prog A H LIM n F.q0t [(.sl 1 a0)]=((LIM F.q7c [(.sl 1 a0)]).bind fun r1=>((oNil r1.2).bind fun _=>((q3h r1.1).bind fun b2=>(bif b2 then some ((.bool true),[]) else ((LIM F.q5b [(.sl 1 a0)]).bind fun r3=>((oNil r3.2).bind fun _=>((oTup r3.1).bind fun c4=>((q0i c4).bind fun p5=>((oAgg p5.1).bind fun c6=>((q0i c6).bind fun p7=>((oSl 2 p7.1).bind fun c8=>((oNil p7.2).bind fun _=>((q0i p5.2).bind fun p9=>((oAgg p9.1).bind fun c10=>((q0i c10).bind fun p11=>((oSl 1 p11.1).bind fun c12=>((q0i p11.2).bind fun p13=>((oSl 1 p13.1).bind fun c14=>((oNil p13.2).bind fun _=>((q0i p9.2).bind fun p15=>((oAgg p15.1).bind fun c16=>((q0i c16).bind fun p17=>((oSl 1 p17.1).bind fun c18=>((q0i p17.2).bind fun p19=>((oSl 1 p19.1).bind fun c20=>((oNil p19.2).bind fun _=>((q0i p15.2).bind fun p21=>((oInt .i64 p21.1).bind fun n22=>((oNil p21.2).bind fun _=>((LIM F.q6c [(.agg [(.sl 2 c8)]),(.agg [(.sl 1 c12),(.sl 1 c14)]),(.agg [(.sl 1 c18),(.sl 1 c20)]),(.int .i64 n22)]).bind fun r23=>((oNil r23.2).bind fun _=>((oAgg r23.1).bind fun c24=>((q0i c24).bind fun p25=>((oInt .i64 p25.1).bind fun n26=>((q0i p25.2).bind fun p27=>((oSl 1 p27.1).bind fun c28=>((q0i p27.2).bind fun p29=>((oSl 1 p29.1).bind fun c30=>((oNil p29.2).bind fun _=>((LIM F.q6h [(.agg [(.sl 2 c8)]),(.agg [(.sl 1 c12),(.sl 1 c14)]),(.agg [(.sl 1 c18),(.sl 1 c20)]),(.int .i64 n22)]).bind fun r31=>((oNil r31.2).bind fun _=>((oAgg r31.1).bind fun c32=>((q0i c32).bind fun p33=>((oInt .i64 p33.1).bind fun n34=>((q0i p33.2).bind fun p35=>((oSl 1 p35.1).bind fun c36=>((q0i p35.2).bind fun p37=>((oSl 1 p37.1).bind fun c38=>((oNil p37.2).bind fun _=>(bif ((n26 != n34)) then some ((.bool false),[]) else (bif ((n26 != (0:Int))) then some ((.bool true),[]) else ((LIM F.q3d [(.agg [(.sl 2 c8)]),(.agg [(.sl 1 c28),(.sl 1 c30)])]).bind fun r39=>((oNil r39.2).bind fun _=>((oInt .i64 r39.1).bind fun n40=>(bif ((n40 != (0:Int))) then some ((.bool false),[]) else (q0t.at0 n n (q0t.st0 a0 (0:Int) c8 c12 c14 c18 c20 c28 c30 n26 [(.sl 1 c12),(.sl 1 c14),(.sl 1 c18),(.sl 1 c20)]))))))))))))))))))))))))))))))))))))))))))))))))))))))))):=by kernel_rfl
theorem q7l.ev (n:Nat) (a0:List T) (a1 a2:Int):q1m prog A H LIM n F.q7l [(.sl 1 a0),(.int .i64 a1),(.int .i64 a2)]=(bif (decide (a2≤(1:Int))) then some ((.int .i64 (0:Int)),[]) else (bif ((((((a0).length / 1):Nat):Int) == (0:Int))) then (bif decide (a2=0) then none else some ((.int .i64 (Int.tmod (IntKind.wrap .i64 (a1*(7:Int))) a2)),[])) else (bif decide (((((a0).length / 1):Nat):Int)=0) then none else (bif inB (Int.tmod a1 ((((a0).length / 1):Nat):Int)) ((a0).length / 1) then ((a0[((Int.toNat (Int.tmod a1 ((((a0).length / 1):Nat):Int)))*1)]?).bind fun e1=>((oInt .u8 e1).bind fun n2=>(bif decide (((((a0).length / 1):Nat):Int)=0) then none else (bif (decide (a2 > (200:Int))) then (bif decide (((((a0).length / 1):Nat):Int)=0) then none else (bif inB (Int.tmod (IntKind.wrap .i64 (a1+(1:Int))) ((((a0).length / 1):Nat):Int)) ((a0).length / 1) then ((a0[((Int.toNat (Int.tmod (IntKind.wrap .i64 (a1+(1:Int))) ((((a0).length / 1):Nat):Int)))*1)]?).bind fun e3=>((oInt .u8 e3).bind fun n4=>(bif decide (a2=0) then none else some ((.int .i64 (Int.tmod (IntKind.wrap .i64 ((IntKind.wrap .i64 ((IntKind.wrap .i64 ((IntKind.wrap .i64 n2)+(IntKind.wrap .i64 ((IntKind.wrap .i64 (Int.tdiv a1 ((((a0).length / 1):Nat):Int)))*(3:Int)))))*(251:Int)))+(IntKind.wrap .i64 n4))) a2)),[])))) else none)) else (bif decide (a2=0) then none else some ((.int .i64 (Int.tmod (IntKind.wrap .i64 ((IntKind.wrap .i64 n2)+(IntKind.wrap .i64 ((IntKind.wrap .i64 (Int.tdiv a1 ((((a0).length / 1):Nat):Int)))*(3:Int))))) a2)),[])))))) else none)))):=by kernel_rfl
theorem q7c.ev (n:Nat) (a0:List T):q1m prog A H LIM n F.q7c [(.sl 1 a0)]=some ((.bool (decide (((((a0).length / 1):Nat):Int) > (1048576:Int)))),[]):=by kernel_rfl
theorem q58.ev (n:Nat) (a0:List T):q1m prog A H LIM n F.q4w [(.sl 2 a0),(.clo F.q3a [])]=((LIM F.q2x [(.sl 2 a0),(.clo F.q3a [])]).bind fun r1=>((oNil r1.2).bind fun _=>((oInt .i64 r1.1).bind fun n2=>some ((.bool (decide (n2 ≥ (0:Int)))),[])))):=by kernel_rfl
theorem q30.ev (n:Nat) (a0:List T):q1m prog A H LIM n F.q57 [(.sl 2 a0),(.clo F.q2r [])]=((LIM F.q1l [(.sl 2 a0),(.clo F.q2r [])]).bind fun r1=>((oNil r1.2).bind fun _=>((oInt .i64 r1.1).bind fun n2=>some ((.bool (decide (n2 ≥ (0:Int)))),[])))):=by kernel_rfl
theorem q33.ev (n:Nat) (a0:List T):q1m prog A H LIM n F.q28 [(.sl 1 a0),(.clo F.q2u [])]=((LIM F.q0q [(.sl 1 a0),(.clo F.q2u [])]).bind fun r1=>((oNil r1.2).bind fun _=>((oInt .i64 r1.1).bind fun n2=>some ((.bool (decide (n2 ≥ (0:Int)))),[])))):=by kernel_rfl
theorem q3f.ev (n:Nat) (a0 a1_0_0:List T):q1m prog A H LIM n F.q28 [(.sl 1 a0),(.clo F.q3j [(.rref [(.sl 2 a1_0_0)] 0)])]=((LIM F.q0q [(.sl 1 a0),(.clo F.q3j [(.rref [(.sl 2 a1_0_0)] 0)])]).bind fun r1=>((oNil r1.2).bind fun _=>((oInt .i64 r1.1).bind fun n2=>some ((.bool (decide (n2 ≥ (0:Int)))),[])))):=by kernel_rfl
theorem q3n.ev (n:Nat) (a0 a1_0_0:List T):q1m prog A H LIM n F.q28 [(.sl 1 a0),(.clo F.q48 [(.rref [(.sl 1 a1_0_0)] 0)])]=((LIM F.q0q [(.sl 1 a0),(.clo F.q48 [(.rref [(.sl 1 a1_0_0)] 0)])]).bind fun r1=>((oNil r1.2).bind fun _=>((oInt .i64 r1.1).bind fun n2=>some ((.bool (decide (n2 ≥ (0:Int)))),[])))):=by kernel_rfl
theorem q37.ev (n:Nat) (a0:List T) (a1_0_0:Int) (a1_0_1:List T):q1m prog A H LIM n F.q28 [(.sl 1 a0),(.clo F.q2w [(.rref [(.int .i64 a1_0_0),(.sl 1 a1_0_1)] 0)])]=((LIM F.q0q [(.sl 1 a0),(.clo F.q2w [(.rref [(.int .i64 a1_0_0),(.sl 1 a1_0_1)] 0)])]).bind fun r1=>((oNil r1.2).bind fun _=>((oInt .i64 r1.1).bind fun n2=>some ((.bool (decide (n2 ≥ (0:Int)))),[])))):=by kernel_rfl
theorem q1u.ev (n:Nat) (a0:List T) (a1:Int):q1m prog A H LIM n F.q1u [(.sl 1 a0),(.int .i64 a1)]=((LIM F.q0e [(.sl 1 a0),(.int .i64 a1)]).bind fun r1=>((oNil r1.2).bind fun _=>((oInt .i64 r1.1).bind fun n2=>some ((.bool (decide (n2 ≥ (0:Int)))),[])))):=by kernel_rfl
def q02.st0 (x0 x1:List T) (x2 x3:Int):St:=⟨[(1,ol 2 x0),(2,(.one (.t (.clo F.q3m [])))),(15,ol 2 x1),(16,oi x2),(17,oi x3)],[]⟩
noncomputable def q02.K0 (n:Nat):Ex→St→R:=kx F.q2y n [.block 0,.seq 0 (cx F.q2y [1,1,1])] (q3u prog A F.q2y)
noncomputable def q02.at0 (n:Nat) (m:Nat) (s:St):R:=lx F.q2y n 0 [1,1,0,1,0,0] (q02.K0 n) m s
noncomputable def q02.rd0 (n:Nat) (L0:St→R) (s:St):R:=rx F.q2y n 0 [1,1,0,1,0,0] (q02.K0 n) L0 s
theorem q02.next0 (n:Nat) (m:Nat) (s:St):q02.at0 n (m+1) s=q02.rd0 n (q02.at0 n m) s:=nx _ _ _ _ _ _ _
theorem q02.round0 (n:Nat) (L0:St→R) (x0 x1:List T) (x2 x3:Int):q02.rd0 n L0 (q02.st0 x0 x1 x2 x3)=(bif (decide (x3 < x2)) then (bif inB x3 ((x1).length / 2) then ((x1[((Int.toNat x3)*2)]?).bind fun e1=>((oSl 1 e1).bind fun c2=>((x1[(((Int.toNat x3)*2)+1)]?).bind fun e3=>((oSl 1 e3).bind fun c4=>(bif inB x3 ((x0).length / 2) then ((x0[((Int.toNat x3)*2)]?).bind fun e5=>((oSl 1 e5).bind fun c6=>((x0[(((Int.toNat x3)*2)+1)]?).bind fun e7=>((oSl 1 e7).bind fun c8=>((LIM F.q3m [(.agg [(.sl 1 c2),(.sl 1 c4)]),(.agg [(.sl 1 c6),(.sl 1 c8)])]).bind fun r9=>((oNil r9.2).bind fun _=>((q3h r9.1).bind fun b10=>(bif (!b10) then some ((.bool false),[]) else (L0 (q02.st0 x0 x1 x2 (IntKind.wrap .i64 (x3+(1:Int))))))))))))) else none))))) else none) else some ((.bool true),[])):=by kernel_rfl
theorem q02.ev (n:Nat) (a0 a1:List T):q1m prog A H LIM n F.q2y [(.sl 2 a0),(.sl 2 a1),(.clo F.q3m [])]=(bif ((((((a0).length / 2):Nat):Int) != ((((a1).length / 2):Nat):Int))) then some ((.bool false),[]) else (q02.at0 n n (q02.st0 a1 a0 ((((a0).length / 2):Nat):Int) (0:Int)))):=by kernel_rfl
def q0r.st0 (x0 x1:List T) (x2 x3:Int):St:=⟨[(0,ol 1 x0),(1,ol 1 x1),(12,oi x2),(13,oi x3)],[]⟩
noncomputable def q0r.K0 (n:Nat):Ex→St→R:=kx F.q0r n [.block 0,.seq 0 (cx F.q0r [1,1,1])] (q3u prog A F.q0r)
noncomputable def q0r.at0 (n:Nat) (m:Nat) (s:St):R:=lx F.q0r n 0 [1,1,0,1,0,0] (q0r.K0 n) m s
noncomputable def q0r.rd0 (n:Nat) (L0:St→R) (s:St):R:=rx F.q0r n 0 [1,1,0,1,0,0] (q0r.K0 n) L0 s
theorem q0r.next0 (n:Nat) (m:Nat) (s:St):q0r.at0 n (m+1) s=q0r.rd0 n (q0r.at0 n m) s:=nx _ _ _ _ _ _ _
theorem q0r.round0 (n:Nat) (L0:St→R) (x0 x1:List T) (x2 x3:Int):q0r.rd0 n L0 (q0r.st0 x0 x1 x2 x3)=(bif (decide (x3 < x2)) then (bif inB x3 ((x0).length / 1) then ((x0[((Int.toNat x3)*1)]?).bind fun e1=>((oInt .i64 e1).bind fun n2=>(bif inB x3 ((x1).length / 1) then ((x1[((Int.toNat x3)*1)]?).bind fun e3=>((oInt .i64 e3).bind fun n4=>(bif ((n2 != n4)) then some ((.bool false),[]) else (L0 (q0r.st0 x0 x1 x2 (IntKind.wrap .i64 (x3+(1:Int)))))))) else none))) else none) else some ((.bool true),[])):=by kernel_rfl
theorem q0r.ev (n:Nat) (a0 a1:List T):q1m prog A H LIM n F.q0r [(.sl 1 a0),(.sl 1 a1)]=(bif ((((((a0).length / 1):Nat):Int) != ((((a1).length / 1):Nat):Int))) then some ((.bool false),[]) else (q0r.at0 n n (q0r.st0 a0 a1 ((((a0).length / 1):Nat):Int) (0:Int)))):=by kernel_rfl
def q07.st0 (x0:List T) (x1 x2:Int):St:=⟨[(0,ol 2 x0),(1,(.one (.t (.clo F.q3a [])))),(7,oi x1),(8,oi x2)],[]⟩
noncomputable def q07.K0 (n:Nat):Ex→St→R:=kx F.q2x n [.block 0,.seq 0 (cx F.q2x [1,1])] (q3u prog A F.q2x)
noncomputable def q07.at0 (n:Nat) (m:Nat) (s:St):R:=lx F.q2x n 0 [1,0,1,0,0] (q07.K0 n) m s
noncomputable def q07.rd0 (n:Nat) (L0:St→R) (s:St):R:=rx F.q2x n 0 [1,0,1,0,0] (q07.K0 n) L0 s
theorem q07.next0 (n:Nat) (m:Nat) (s:St):q07.at0 n (m+1) s=q07.rd0 n (q07.at0 n m) s:=nx _ _ _ _ _ _ _
theorem q07.round0 (n:Nat) (L0:St→R) (x0:List T) (x1 x2:Int):q07.rd0 n L0 (q07.st0 x0 x1 x2)=(bif (decide (x2 < x1)) then (bif inB x2 ((x0).length / 2) then ((x0[((Int.toNat x2)*2)]?).bind fun e1=>((oSl 1 e1).bind fun c2=>((x0[(((Int.toNat x2)*2)+1)]?).bind fun e3=>((oSl 1 e3).bind fun c4=>((LIM F.q3a [(.agg [(.sl 1 c2),(.sl 1 c4)])]).bind fun r5=>((oNil r5.2).bind fun _=>((q3h r5.1).bind fun b6=>(bif b6 then some ((.int .i64 x2),[]) else (L0 (q07.st0 x0 x1 (IntKind.wrap .i64 (x2+(1:Int))))))))))))) else none) else some ((.int .i64 (-1:Int)),[])):=by kernel_rfl
theorem q07.ev (n:Nat) (a0:List T):q1m prog A H LIM n F.q2x [(.sl 2 a0),(.clo F.q3a [])]=(q07.at0 n n (q07.st0 a0 ((((a0).length / 2):Nat):Int) (0:Int))):=by kernel_rfl
def q01.st0 (x0:List T) (x1 x2:Int):St:=⟨[(0,ol 2 x0),(1,(.one (.t (.clo F.q2r [])))),(7,oi x1),(8,oi x2)],[]⟩
noncomputable def q01.K0 (n:Nat):Ex→St→R:=kx F.q1l n [.block 0,.seq 0 (cx F.q1l [1,1])] (q3u prog A F.q1l)
noncomputable def q01.at0 (n:Nat) (m:Nat) (s:St):R:=lx F.q1l n 0 [1,0,1,0,0] (q01.K0 n) m s
noncomputable def q01.rd0 (n:Nat) (L0:St→R) (s:St):R:=rx F.q1l n 0 [1,0,1,0,0] (q01.K0 n) L0 s
theorem q01.next0 (n:Nat) (m:Nat) (s:St):q01.at0 n (m+1) s=q01.rd0 n (q01.at0 n m) s:=nx _ _ _ _ _ _ _
theorem q01.round0 (n:Nat) (L0:St→R) (x0:List T) (x1 x2:Int):q01.rd0 n L0 (q01.st0 x0 x1 x2)=(bif (decide (x2 < x1)) then (bif inB x2 ((x0).length / 2) then ((x0[((Int.toNat x2)*2)]?).bind fun e1=>((oStr e1).bind fun s2=>((x0[(((Int.toNat x2)*2)+1)]?).bind fun e3=>((oInt .i64 e3).bind fun n4=>((LIM F.q2r [(.agg [(.str s2),(.int .i64 n4)])]).bind fun r5=>((oNil r5.2).bind fun _=>((q3h r5.1).bind fun b6=>(bif b6 then some ((.int .i64 x2),[]) else (L0 (q01.st0 x0 x1 (IntKind.wrap .i64 (x2+(1:Int))))))))))))) else none) else some ((.int .i64 (-1:Int)),[])):=by kernel_rfl
theorem q01.ev (n:Nat) (a0:List T):q1m prog A H LIM n F.q1l [(.sl 2 a0),(.clo F.q2r [])]=(q01.at0 n n (q01.st0 a0 ((((a0).length / 2):Nat):Int) (0:Int))):=by kernel_rfl
def q04.st0 (x0:List T) (x1:ByteArray) (x2 x3:Int):St:=⟨[(0,ol 2 x0),(1,(.one (.t (.clo F.q3z [(.rref [(.str x1)] 0)])))),(7,oi x2),(8,oi x3)],[]⟩
noncomputable def q04.K0 (n:Nat):Ex→St→R:=kx F.q1l n [.block 0,.seq 0 (cx F.q1l [1,1])] (q3u prog A F.q1l)
noncomputable def q04.at0 (n:Nat) (m:Nat) (s:St):R:=lx F.q1l n 0 [1,0,1,0,0] (q04.K0 n) m s
noncomputable def q04.rd0 (n:Nat) (L0:St→R) (s:St):R:=rx F.q1l n 0 [1,0,1,0,0] (q04.K0 n) L0 s
theorem q04.next0 (n:Nat) (m:Nat) (s:St):q04.at0 n (m+1) s=q04.rd0 n (q04.at0 n m) s:=nx _ _ _ _ _ _ _
theorem q04.round0 (n:Nat) (L0:St→R) (x0:List T) (x1:ByteArray) (x2 x3:Int):q04.rd0 n L0 (q04.st0 x0 x1 x2 x3)=(bif (decide (x3 < x2)) then (bif inB x3 ((x0).length / 2) then ((x0[((Int.toNat x3)*2)]?).bind fun e1=>((oStr e1).bind fun s2=>((x0[(((Int.toNat x3)*2)+1)]?).bind fun e3=>((oInt .i64 e3).bind fun n4=>((LIM F.q3z [(.agg [(.str s2),(.int .i64 n4)]),(.rref [(.str x1)] 0)]).bind fun r5=>((oNil r5.2).bind fun _=>((q3h r5.1).bind fun b6=>(bif b6 then some ((.int .i64 x3),[]) else (L0 (q04.st0 x0 x1 x2 (IntKind.wrap .i64 (x3+(1:Int))))))))))))) else none) else some ((.int .i64 (-1:Int)),[])):=by kernel_rfl
theorem q04.ev (n:Nat) (a0:List T) (a1_0_0:ByteArray):q1m prog A H LIM n F.q1l [(.sl 2 a0),(.clo F.q3z [(.rref [(.str a1_0_0)] 0)])]=(q04.at0 n n (q04.st0 a0 a1_0_0 ((((a0).length / 2):Nat):Int) (0:Int))):=by kernel_rfl
def q08.st0 (x0:List T) (x1 x2:Int):St:=⟨[(0,ol 1 x0),(1,(.one (.t (.clo F.q2u [])))),(7,oi x1),(8,oi x2)],[]⟩
noncomputable def q08.K0 (n:Nat):Ex→St→R:=kx F.q0q n [.block 0,.seq 0 (cx F.q0q [1,1])] (q3u prog A F.q0q)
noncomputable def q08.at0 (n:Nat) (m:Nat) (s:St):R:=lx F.q0q n 0 [1,0,1,0,0] (q08.K0 n) m s
noncomputable def q08.rd0 (n:Nat) (L0:St→R) (s:St):R:=rx F.q0q n 0 [1,0,1,0,0] (q08.K0 n) L0 s
theorem q08.next0 (n:Nat) (m:Nat) (s:St):q08.at0 n (m+1) s=q08.rd0 n (q08.at0 n m) s:=nx _ _ _ _ _ _ _
theorem q08.round0 (n:Nat) (L0:St→R) (x0:List T) (x1 x2:Int):q08.rd0 n L0 (q08.st0 x0 x1 x2)=(bif (decide (x2 < x1)) then (bif inB x2 ((x0).length / 1) then ((x0[((Int.toNat x2)*1)]?).bind fun e1=>((oInt .i64 e1).bind fun n2=>((LIM F.q2u [(.int .i64 n2)]).bind fun r3=>((oNil r3.2).bind fun _=>((q3h r3.1).bind fun b4=>(bif b4 then some ((.int .i64 x2),[]) else (L0 (q08.st0 x0 x1 (IntKind.wrap .i64 (x2+(1:Int))))))))))) else none) else some ((.int .i64 (-1:Int)),[])):=by kernel_rfl
theorem q08.ev (n:Nat) (a0:List T):q1m prog A H LIM n F.q0q [(.sl 1 a0),(.clo F.q2u [])]=(q08.at0 n n (q08.st0 a0 ((((a0).length / 1):Nat):Int) (0:Int))):=by kernel_rfl
def q0a.st0 (x0 x1:List T) (x2 x3:Int):St:=⟨[(0,ol 1 x0),(1,(.one (.t (.clo F.q3j [(.rref [(.sl 2 x1)] 0)])))),(7,oi x2),(8,oi x3)],[]⟩
noncomputable def q0a.K0 (n:Nat):Ex→St→R:=kx F.q0q n [.block 0,.seq 0 (cx F.q0q [1,1])] (q3u prog A F.q0q)
noncomputable def q0a.at0 (n:Nat) (m:Nat) (s:St):R:=lx F.q0q n 0 [1,0,1,0,0] (q0a.K0 n) m s
noncomputable def q0a.rd0 (n:Nat) (L0:St→R) (s:St):R:=rx F.q0q n 0 [1,0,1,0,0] (q0a.K0 n) L0 s
theorem q0a.next0 (n:Nat) (m:Nat) (s:St):q0a.at0 n (m+1) s=q0a.rd0 n (q0a.at0 n m) s:=nx _ _ _ _ _ _ _
theorem q0a.round0 (n:Nat) (L0:St→R) (x0 x1:List T) (x2 x3:Int):q0a.rd0 n L0 (q0a.st0 x0 x1 x2 x3)=(bif (decide (x3 < x2)) then (bif inB x3 ((x0).length / 1) then ((x0[((Int.toNat x3)*1)]?).bind fun e1=>((oInt .i64 e1).bind fun n2=>((LIM F.q3j [(.int .i64 n2),(.rref [(.sl 2 x1)] 0)]).bind fun r3=>((oNil r3.2).bind fun _=>((q3h r3.1).bind fun b4=>(bif b4 then some ((.int .i64 x3),[]) else (L0 (q0a.st0 x0 x1 x2 (IntKind.wrap .i64 (x3+(1:Int))))))))))) else none) else some ((.int .i64 (-1:Int)),[])):=by kernel_rfl
theorem q0a.ev (n:Nat) (a0 a1_0_0:List T):q1m prog A H LIM n F.q0q [(.sl 1 a0),(.clo F.q3j [(.rref [(.sl 2 a1_0_0)] 0)])]=(q0a.at0 n n (q0a.st0 a0 a1_0_0 ((((a0).length / 1):Nat):Int) (0:Int))):=by kernel_rfl
def q0d.st0 (x0 x1:List T) (x2 x3:Int):St:=⟨[(0,ol 1 x0),(1,(.one (.t (.clo F.q48 [(.rref [(.sl 1 x1)] 0)])))),(7,oi x2),(8,oi x3)],[]⟩
noncomputable def q0d.K0 (n:Nat):Ex→St→R:=kx F.q0q n [.block 0,.seq 0 (cx F.q0q [1,1])] (q3u prog A F.q0q)
noncomputable def q0d.at0 (n:Nat) (m:Nat) (s:St):R:=lx F.q0q n 0 [1,0,1,0,0] (q0d.K0 n) m s
noncomputable def q0d.rd0 (n:Nat) (L0:St→R) (s:St):R:=rx F.q0q n 0 [1,0,1,0,0] (q0d.K0 n) L0 s
theorem q0d.next0 (n:Nat) (m:Nat) (s:St):q0d.at0 n (m+1) s=q0d.rd0 n (q0d.at0 n m) s:=nx _ _ _ _ _ _ _
theorem q0d.round0 (n:Nat) (L0:St→R) (x0 x1:List T) (x2 x3:Int):q0d.rd0 n L0 (q0d.st0 x0 x1 x2 x3)=(bif (decide (x3 < x2)) then (bif inB x3 ((x0).length / 1) then ((x0[((Int.toNat x3)*1)]?).bind fun e1=>((oInt .i64 e1).bind fun n2=>((LIM F.q48 [(.int .i64 n2),(.rref [(.sl 1 x1)] 0)]).bind fun r3=>((oNil r3.2).bind fun _=>((q3h r3.1).bind fun b4=>(bif b4 then some ((.int .i64 x3),[]) else (L0 (q0d.st0 x0 x1 x2 (IntKind.wrap .i64 (x3+(1:Int))))))))))) else none) else some ((.int .i64 (-1:Int)),[])):=by kernel_rfl
theorem q0d.ev (n:Nat) (a0 a1_0_0:List T):q1m prog A H LIM n F.q0q [(.sl 1 a0),(.clo F.q48 [(.rref [(.sl 1 a1_0_0)] 0)])]=(q0d.at0 n n (q0d.st0 a0 a1_0_0 ((((a0).length / 1):Nat):Int) (0:Int))):=by kernel_rfl
def q05.st0 (x0:List T) (x1:Int) (x2:List T) (x3 x4:Int):St:=⟨[(0,ol 1 x0),(1,(.one (.t (.clo F.q2w [(.rref [(.int .i64 x1),(.sl 1 x2)] 0)])))),(7,oi x3),(8,oi x4)],[]⟩
noncomputable def q05.K0 (n:Nat):Ex→St→R:=kx F.q0q n [.block 0,.seq 0 (cx F.q0q [1,1])] (q3u prog A F.q0q)
noncomputable def q05.at0 (n:Nat) (m:Nat) (s:St):R:=lx F.q0q n 0 [1,0,1,0,0] (q05.K0 n) m s
noncomputable def q05.rd0 (n:Nat) (L0:St→R) (s:St):R:=rx F.q0q n 0 [1,0,1,0,0] (q05.K0 n) L0 s
theorem q05.next0 (n:Nat) (m:Nat) (s:St):q05.at0 n (m+1) s=q05.rd0 n (q05.at0 n m) s:=nx _ _ _ _ _ _ _
theorem q05.round0 (n:Nat) (L0:St→R) (x0:List T) (x1:Int) (x2:List T) (x3 x4:Int):q05.rd0 n L0 (q05.st0 x0 x1 x2 x3 x4)=(bif (decide (x4 < x3)) then (bif inB x4 ((x0).length / 1) then ((x0[((Int.toNat x4)*1)]?).bind fun e1=>((oInt .i64 e1).bind fun n2=>((LIM F.q2w [(.int .i64 n2),(.rref [(.int .i64 x1),(.sl 1 x2)] 0)]).bind fun r3=>((oNil r3.2).bind fun _=>((q3h r3.1).bind fun b4=>(bif b4 then some ((.int .i64 x4),[]) else (L0 (q05.st0 x0 x1 x2 x3 (IntKind.wrap .i64 (x4+(1:Int))))))))))) else none) else some ((.int .i64 (-1:Int)),[])):=by kernel_rfl
theorem q05.ev (n:Nat) (a0:List T) (a1_0_0:Int) (a1_0_1:List T):q1m prog A H LIM n F.q0q [(.sl 1 a0),(.clo F.q2w [(.rref [(.int .i64 a1_0_0),(.sl 1 a1_0_1)] 0)])]=(q05.at0 n n (q05.st0 a0 a1_0_0 a1_0_1 ((((a0).length / 1):Nat):Int) (0:Int))):=by kernel_rfl
def q0e.st0 (x0:List T) (x1 x2 x3:Int):St:=⟨[(0,ol 1 x0),(1,oi x1),(7,oi x2),(8,oi x3)],[]⟩
noncomputable def q0e.K0 (n:Nat):Ex→St→R:=kx F.q0e n [.block 0,.seq 0 (cx F.q0e [1,1])] (q3u prog A F.q0e)
noncomputable def q0e.at0 (n:Nat) (m:Nat) (s:St):R:=lx F.q0e n 0 [1,0,1,0,0] (q0e.K0 n) m s
noncomputable def q0e.rd0 (n:Nat) (L0:St→R) (s:St):R:=rx F.q0e n 0 [1,0,1,0,0] (q0e.K0 n) L0 s
theorem q0e.next0 (n:Nat) (m:Nat) (s:St):q0e.at0 n (m+1) s=q0e.rd0 n (q0e.at0 n m) s:=nx _ _ _ _ _ _ _
theorem q0e.round0 (n:Nat) (L0:St→R) (x0:List T) (x1 x2 x3:Int):q0e.rd0 n L0 (q0e.st0 x0 x1 x2 x3)=(bif (decide (x3 < x2)) then (bif inB x3 ((x0).length / 1) then ((x0[((Int.toNat x3)*1)]?).bind fun e1=>((oInt .i64 e1).bind fun n2=>(bif ((x1 == n2)) then some ((.int .i64 x3),[]) else (L0 (q0e.st0 x0 x1 x2 (IntKind.wrap .i64 (x3+(1:Int)))))))) else none) else some ((.int .i64 (-1:Int)),[])):=by kernel_rfl
theorem q0e.ev (n:Nat) (a0:List T) (a1:Int):q1m prog A H LIM n F.q0e [(.sl 1 a0),(.int .i64 a1)]=(q0e.at0 n n (q0e.st0 a0 a1 ((((a0).length / 1):Nat):Int) (0:Int))):=by kernel_rfl
def q0b.st2 (x0 x1:Int) (x2:List T) (x3:Int) (x4:List T):St:=⟨[(2,(.one (.ptr 128 0))),(3,(.one (.ptr 192 0))),(6,oi x0),(7,oi x1)],[(128,(.box [(.t (.sl 2 x2))])),(192,(.box [(.t (.int .i64 x3)),(.t (.sl 1 x4))]))]⟩
def q0b.st0 (x0:Int) (x1:List T) (x2:Int) (x3:List T):St:=⟨[(2,(.one (.ptr 128 0))),(3,(.one (.ptr 192 0))),(6,oi x0)],[(128,(.box [(.t (.sl 2 x1))])),(192,(.box [(.t (.int .i64 x2)),(.t (.sl 1 x3))]))]⟩
noncomputable def q0b.K0 (n:Nat):Ex→St→R:=kx F.q0b n [.block 0,.seq 0 (cx F.q0b [1,1,1,1,1])] (q3u prog A F.q0b)
noncomputable def q0b.at0 (n:Nat) (m:Nat) (s:St):R:=lx F.q0b n 0 [1,1,1,1,0,1,0,0] (q0b.K0 n) m s
noncomputable def q0b.rd0 (n:Nat) (L0:St→R) (s:St):R:=rx F.q0b n 0 [1,1,1,1,0,1,0,0] (q0b.K0 n) L0 s
theorem q0b.next0 (n:Nat) (m:Nat) (s:St):q0b.at0 n (m+1) s=q0b.rd0 n (q0b.at0 n m) s:=nx _ _ _ _ _ _ _
noncomputable def q0b.K2 (n:Nat) (L0:St→R):Ex→St→R:=kx F.q0b n [.block 2,.block 1,.seq 0 (cx F.q0b [1,1,1,1,0,1,0,0,1,1])] (bx F.q0b 0 (q0b.K0 n) L0)
noncomputable def q0b.at2 (n:Nat) (L0:St→R) (m:Nat) (s:St):R:=lx F.q0b n 2 [1,1,1,1,0,1,0,0,1,0,0,1,1,0,0] (q0b.K2 n L0) m s
noncomputable def q0b.rd2 (n:Nat) (L0:St→R) (L2:St→R) (s:St):R:=rx F.q0b n 2 [1,1,1,1,0,1,0,0,1,0,0,1,1,0,0] (q0b.K2 n L0) L2 s
theorem q0b.next2 (n:Nat) (L0:St→R) (m:Nat) (s:St):q0b.at2 n L0 (m+1) s=q0b.rd2 n L0 (q0b.at2 n L0 m) s:=nx _ _ _ _ _ _ _
theorem q0b.round0 (n:Nat) (L0:St→R) (x0:Int) (x1:List T) (x2:Int) (x3:List T):q0b.rd0 n L0 (q0b.st0 x0 x1 x2 x3)=(bif (decide (x0 < ((((x3).length / 1):Nat):Int))) then (bif inB x0 ((x3).length / 1) then ((x3[((Int.toNat x0)*1)]?).bind fun e5=>((oSl 1 e5).bind fun c6=>(bif inB x0 ((x1).length / 2) then ((x1[(((Int.toNat x0)*2)+1)]?).bind fun e7=>((oInt .i64 e7).bind fun n8=>((LIM F.q4a [(.int .i64 x2),(.int .i64 n8)]).bind fun r9=>((oNil r9.2).bind fun _=>((oInt .i64 r9.1).bind fun n10=>(bif ((((((c6).length / 1):Nat):Int) != n10)) then some ((.int .i64 (2:Int)),[]) else (q0b.at2 n L0 n (q0b.st2 x0 (0:Int) x1 x2 x3)))))))) else none))) else none) else some ((.int .i64 (0:Int)),[])):=by kernel_rfl
theorem q0b.round2 (n:Nat) (L0:St→R) (L2:St→R) (x0 x1:Int) (x2:List T) (x3:Int) (x4:List T):q0b.rd2 n L0 L2 (q0b.st2 x0 x1 x2 x3 x4)=(bif inB x0 ((x4).length / 1) then ((x4[((Int.toNat x0)*1)]?).bind fun e11=>((oSl 1 e11).bind fun c12=>(bif (decide (x1 < ((((c12).length / 1):Nat):Int))) then (bif inB x0 ((x4).length / 1) then ((x4[((Int.toNat x0)*1)]?).bind fun e13=>((oSl 1 e13).bind fun c14=>(bif inB x1 ((c14).length / 1) then ((c14[((Int.toNat x1)*1)]?).bind fun e15=>((oInt .i64 e15).bind fun n16=>((LIM F.q47 [(.int .i64 n16),(.int .i64 (0:Int)),(.int .i64 (IntKind.wrap .i64 (x3 - (1:Int))))]).bind fun r17=>((oNil r17.2).bind fun _=>((q3h r17.1).bind fun b18=>(bif (!b18) then some ((.int .i64 (3:Int)),[]) else (L2 (q0b.st2 x0 (IntKind.wrap .i64 (x1+(1:Int))) x2 x3 x4)))))))) else none))) else none) else (L0 (q0b.st0 (IntKind.wrap .i64 (x0+(1:Int))) x2 x3 x4))))) else none):=by kernel_rfl
theorem q0b.ev (n:Nat) (a0_0:List T) (a1_0:Int) (a1_1:List T):q1m prog A H LIM n F.q0b [(.agg [(.sl 2 a0_0)]),(.agg [(.int .i64 a1_0),(.sl 1 a1_1)])]=((LIM F.q00 [(.agg [(.sl 2 a0_0)])]).bind fun r1=>((oNil r1.2).bind fun _=>((oInt .i64 r1.1).bind fun n2=>(bif ((n2 != (0:Int))) then some ((.int .i64 n2),[]) else ((LIM F.q47 [(.int .i64 a1_0),(.int .i64 (1:Int)),(.int .i64 (3:Int))]).bind fun r3=>((oNil r3.2).bind fun _=>((q3h r3.1).bind fun b4=>(bif (!b4) then some ((.int .i64 (3:Int)),[]) else (bif ((((((a1_1).length / 1):Nat):Int) != ((((a0_0).length / 2):Nat):Int))) then some ((.int .i64 (2:Int)),[]) else (q0b.at0 n n (q0b.st0 (0:Int) a0_0 a1_0 a1_1))))))))))):=by kernel_rfl
theorem q5v.ev (n:Nat) (a0_0:List T) (a1 a2:Int):q1m prog A H LIM n F.q5v [(.agg [(.sl 2 a0_0)]),(.int .i64 a1),(.int .i64 a2)]=((LIM F.q00 [(.agg [(.sl 2 a0_0)])]).bind fun r1=>((oNil r1.2).bind fun _=>((oInt .i64 r1.1).bind fun n2=>(bif ((n2 != (0:Int))) then some ((.agg [(.int .i64 n2),(.int .i64 (0:Int)),(.sl 1 [])]),[]) else ((LIM F.q47 [(.int .i64 a1),(.int .i64 (1:Int)),(.int .i64 (3:Int))]).bind fun r3=>((oNil r3.2).bind fun _=>((q3h r3.1).bind fun b4=>(bif (!b4) then some ((.agg [(.int .i64 (3:Int)),(.int .i64 (0:Int)),(.sl 1 [])]),[]) else ((LIM F.q47 [(.int .i64 a2),(.int .i64 (0:Int)),(.int .i64 (65520:Int))]).bind fun r5=>((oNil r5.2).bind fun _=>((q3h r5.1).bind fun b6=>(bif (!b6) then some ((.agg [(.int .i64 (3:Int)),(.int .i64 (0:Int)),(.sl 1 [])]),[]) else ((LIM F.q0s [(.rref [(.sl 2 a0_0)] 0),(.int .i64 a1),(.int .i64 a2)]).bind fun r7=>((oNil r7.2).bind fun _=>((oAgg r7.1).bind fun c8=>((q0i c8).bind fun p9=>((oInt .i64 p9.1).bind fun n10=>((q0i p9.2).bind fun p11=>((oSl 1 p11.1).bind fun c12=>((oNil p11.2).bind fun _=>some ((.agg [(.int .i64 (0:Int)),(.int .i64 n10),(.sl 1 c12)]),[]))))))))))))))))))))):=by kernel_rfl
theorem q75.ev (n:Nat) (a0_0:List T) (a1_0:Int) (a1_1 a2:List T):q1m prog A H LIM n F.q75 [(.agg [(.sl 2 a0_0)]),(.agg [(.int .i64 a1_0),(.sl 1 a1_1)]),(.sl 2 a2)]=((LIM F.q0b [(.agg [(.sl 2 a0_0)]),(.agg [(.int .i64 a1_0),(.sl 1 a1_1)])]).bind fun r1=>((oNil r1.2).bind fun _=>((oInt .i64 r1.1).bind fun n2=>(bif ((n2 != (0:Int))) then some ((.agg [(.int .i64 n2),(.int .i64 (0:Int))]),[]) else ((LIM F.q1w [(.rref [(.sl 2 a0_0)] 0),(.sl 2 a2)]).bind fun r3=>((oNil r3.2).bind fun _=>((oInt .i64 r3.1).bind fun n4=>(bif ((n4 != (0:Int))) then some ((.agg [(.int .i64 n4),(.int .i64 (0:Int))]),[]) else ((LIM F.q2m [(.rref [(.sl 2 a0_0)] 0),(.rref [(.int .i64 a1_0),(.sl 1 a1_1)] 0),(.sl 2 a2)]).bind fun r5=>((oNil r5.2).bind fun _=>((q3h r5.1).bind fun b6=>((LIM F.q7t [(.bool b6)]).bind fun r7=>((oNil r7.2).bind fun _=>((oAgg r7.1).bind fun c8=>((q0i c8).bind fun p9=>((oInt .i64 p9.1).bind fun n10=>((q0i p9.2).bind fun p11=>((oInt .i64 p11.1).bind fun n12=>((oNil p11.2).bind fun _=>some ((.agg [(.int .i64 n10),(.int .i64 n12)]),[])))))))))))))))))))):=by kernel_rfl
end Ev
end
