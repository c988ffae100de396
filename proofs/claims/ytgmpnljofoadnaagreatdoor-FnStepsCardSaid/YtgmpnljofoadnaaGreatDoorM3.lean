/- Steps on the way to RowSteps: TyData, TyOf, TyLoops, X0. -/
import Derived.Test.YtgmpnljofoadnaaGreatDoorM2
set_option linter.unusedSectionVars false
set_option linter.unusedVariables false
set_option linter.unusedSimpArgs false
section
namespace Ev.Ty
open Go Ev
open Enc (enc)
open Sm (sm)
set_option linter.unusedVariables false
structure Symbol where
 name:ByteArray
 arity:Int
 deriving DecidableEq
instance:Enc Symbol:=⟨2,by decide,fun x=>[.str x.name,.int .i64 x.arity],fun _=>rfl⟩
@[simp] theorem q7y:Enc.sz Symbol=2:=rfl
theorem q2k (x:Symbol):enc x=[.str x.name,.int .i64 x.arity]:=rfl
instance:Sm Symbol:=⟨fun n x=>sm n x.name,fun h x=>q2l h x⟩
structure Signature where
 symbols:List Symbol
 deriving DecidableEq
instance:Enc Signature:=⟨1,by decide,fun x=>[slc x.symbols],fun _=>rfl⟩
@[simp] theorem sz_Signature:Enc.sz Signature=1:=rfl
instance:Sm Signature:=⟨fun n x=>sm n x.symbols,fun h x=>q2l h x⟩
structure Equation where
 left:List Int
 right:List Int
 deriving DecidableEq
instance:Enc Equation:=⟨2,by decide,fun x=>[slc x.left,slc x.right],fun _=>rfl⟩
@[simp] theorem q96:Enc.sz Equation=2:=rfl
theorem q3p (x:Equation):enc x=[slc x.left,slc x.right]:=rfl
instance:Sm Equation:=⟨fun n x=>sm n x.left∧sm n x.right,fun h x=>⟨q2l h x.1,q2l h x.2⟩⟩
structure Binding where
 vars:List Int
 terms:List (List Int)
 deriving DecidableEq
instance:Enc Binding:=⟨2,by decide,fun x=>[slc x.vars,slc x.terms],fun _=>rfl⟩
@[simp] theorem sz_Binding:Enc.sz Binding=2:=rfl
instance:Sm Binding:=⟨fun n x=>sm n x.vars∧sm n x.terms,fun h x=>⟨q2l h x.1,q2l h x.2⟩⟩
structure Algebra where
 size:Int
 tables:List (List Int)
 deriving DecidableEq
instance:Enc Algebra:=⟨2,by decide,fun x=>[.int .i64 x.size,slc x.tables],fun _=>rfl⟩
@[simp] theorem sz_Algebra:Enc.sz Algebra=2:=rfl
instance:Sm Algebra:=⟨fun n x=>sm n x.tables,fun h x=>q2l h x⟩
structure Entry where
 kind:Int
 a:Int
 b:Int
 place:Int
 side:Int
 left:List Int
 right:List Int
 deriving DecidableEq
instance:Enc Entry:=⟨7,by decide,fun x=>[.int .i64 x.kind,.int .i64 x.a,.int .i64 x.b,.int .i64 x.place,.int .i64 x.side,slc x.left,slc x.right],fun _=>rfl⟩
@[simp] theorem sz_Entry:Enc.sz Entry=7:=rfl
instance:Sm Entry:=⟨fun n x=>sm n x.left∧sm n x.right,fun h x=>⟨q2l h x.1,q2l h x.2⟩⟩
structure Completion where
 order:List Int
 equations:List Equation
 entries:List Entry
 rules:List Int
 waiting:List Int
 rounds:Int
 deriving DecidableEq
instance:Enc Completion:=⟨6,by decide,fun x=>[slc x.order,slc x.equations,slc x.entries,slc x.rules,slc x.waiting,.int .i64 x.rounds],fun _=>rfl⟩
@[simp] theorem sz_Completion:Enc.sz Completion=6:=rfl
instance:Sm Completion:=⟨fun n x=>sm n x.order∧sm n x.equations∧sm n x.entries∧sm n x.rules∧sm n x.waiting,fun h x=>⟨q2l h x.1,q2l h x.2.1,q2l h x.2.2.1,q2l h x.2.2.2.1,q2l h x.2.2.2.2⟩⟩
structure Theory where
 order:List Int
 equations:List Equation
 rules:List Equation
 deriving DecidableEq
instance:Enc Theory:=⟨3,by decide,fun x=>[slc x.order,slc x.equations,slc x.rules],fun _=>rfl⟩
@[simp] theorem sz_Theory:Enc.sz Theory=3:=rfl
instance:Sm Theory:=⟨fun n x=>sm n x.order∧sm n x.equations∧sm n x.rules,fun h x=>⟨q2l h x.1,q2l h x.2.1,q2l h x.2.2⟩⟩
structure Put where
 sector:Int
 bytes:List UInt8
 deriving DecidableEq
instance:Enc Put:=⟨2,by decide,fun x=>[.int .i64 x.sector,slc x.bytes],fun _=>rfl⟩
@[simp] theorem sz_Put:Enc.sz Put=2:=rfl
instance:Sm Put:=⟨fun n x=>sm n x.bytes,fun h x=>q2l h x⟩
structure Disk where
 sectors:List (List UInt8)
 pending:List Put
 deriving DecidableEq
instance:Enc Disk:=⟨2,by decide,fun x=>[slc x.sectors,slc x.pending],fun _=>rfl⟩
@[simp] theorem sz_Disk:Enc.sz Disk=2:=rfl
instance:Sm Disk:=⟨fun n x=>sm n x.sectors∧sm n x.pending,fun h x=>⟨q2l h x.1,q2l h x.2⟩⟩
structure Act where
 kind:Int
 put:Put
 deriving DecidableEq
instance:Enc Act:=⟨3,by decide,fun x=>[.int .i64 x.kind,.int .i64 x.put.sector,slc x.put.bytes],fun _=>rfl⟩
@[simp] theorem sz_Act:Enc.sz Act=3:=rfl
instance:Sm Act:=⟨fun n x=>sm n x.put,fun h x=>q2l h x⟩
structure IntResult where
 code:Int
 value:Int
 deriving DecidableEq
instance:Enc IntResult:=⟨2,by decide,fun x=>[.int .i64 x.code,.int .i64 x.value],fun _=>rfl⟩
@[simp] theorem sz_IntResult:Enc.sz IntResult=2:=rfl
instance:Sm IntResult:=⟨fun n x=>True,fun _ h=>h⟩
structure IntsResult where
 code:Int
 list:List Int
 deriving DecidableEq
instance:Enc IntsResult:=⟨2,by decide,fun x=>[.int .i64 x.code,slc x.list],fun _=>rfl⟩
@[simp] theorem sz_IntsResult:Enc.sz IntsResult=2:=rfl
instance:Sm IntsResult:=⟨fun n x=>sm n x.list,fun h x=>q2l h x⟩
structure BytesResult where
 code:Int
 bytes:List UInt8
 deriving DecidableEq
instance:Enc BytesResult:=⟨2,by decide,fun x=>[.int .i64 x.code,slc x.bytes],fun _=>rfl⟩
@[simp] theorem sz_BytesResult:Enc.sz BytesResult=2:=rfl
instance:Sm BytesResult:=⟨fun n x=>sm n x.bytes,fun h x=>q2l h x⟩
structure TextResult where
 code:Int
 text:ByteArray
 deriving DecidableEq
instance:Enc TextResult:=⟨2,by decide,fun x=>[.int .i64 x.code,.str x.text],fun _=>rfl⟩
@[simp] theorem sz_TextResult:Enc.sz TextResult=2:=rfl
instance:Sm TextResult:=⟨fun n x=>sm n x.text,fun h x=>q2l h x⟩
structure SignatureResult where
 code:Int
 signature:Signature
 deriving DecidableEq
instance:Enc SignatureResult:=⟨2,by decide,fun x=>[.int .i64 x.code,slc x.signature.symbols],fun _=>rfl⟩
@[simp] theorem sz_SignatureResult:Enc.sz SignatureResult=2:=rfl
instance:Sm SignatureResult:=⟨fun n x=>sm n x.signature,fun h x=>q2l h x⟩
structure TermResult where
 code:Int
 term:List Int
 deriving DecidableEq
instance:Enc TermResult:=⟨2,by decide,fun x=>[.int .i64 x.code,slc x.term],fun _=>rfl⟩
@[simp] theorem sz_TermResult:Enc.sz TermResult=2:=rfl
theorem q2v (x:TermResult):enc x=[.int .i64 x.code,slc x.term]:=rfl
instance:Sm TermResult:=⟨fun n x=>sm n x.term,fun h x=>q2l h x⟩
structure TermsResult where
 code:Int
 terms:List (List Int)
 deriving DecidableEq
instance:Enc TermsResult:=⟨2,by decide,fun x=>[.int .i64 x.code,slc x.terms],fun _=>rfl⟩
@[simp] theorem sz_TermsResult:Enc.sz TermsResult=2:=rfl
instance:Sm TermsResult:=⟨fun n x=>sm n x.terms,fun h x=>q2l h x⟩
structure EquationResult where
 code:Int
 equation:Equation
 deriving DecidableEq
instance:Enc EquationResult:=⟨3,by decide,fun x=>[.int .i64 x.code,slc x.equation.left,slc x.equation.right],fun _=>rfl⟩
@[simp] theorem sz_EquationResult:Enc.sz EquationResult=3:=rfl
instance:Sm EquationResult:=⟨fun n x=>sm n x.equation,fun h x=>q2l h x⟩
structure EquationsResult where
 code:Int
 list:List Equation
 deriving DecidableEq
instance:Enc EquationsResult:=⟨2,by decide,fun x=>[.int .i64 x.code,slc x.list],fun _=>rfl⟩
@[simp] theorem sz_EquationsResult:Enc.sz EquationsResult=2:=rfl
instance:Sm EquationsResult:=⟨fun n x=>sm n x.list,fun h x=>q2l h x⟩
structure KeyResult where
 code:Int
 normal:List Int
 term:List Int
 deriving DecidableEq
instance:Enc KeyResult:=⟨3,by decide,fun x=>[.int .i64 x.code,slc x.normal,slc x.term],fun _=>rfl⟩
@[simp] theorem sz_KeyResult:Enc.sz KeyResult=3:=rfl
instance:Sm KeyResult:=⟨fun n x=>sm n x.normal∧sm n x.term,fun h x=>⟨q2l h x.1,q2l h x.2⟩⟩
structure BindingResult where
 code:Int
 binding:Binding
 deriving DecidableEq
instance:Enc BindingResult:=⟨3,by decide,fun x=>[.int .i64 x.code,slc x.binding.vars,slc x.binding.terms],fun _=>rfl⟩
@[simp] theorem sz_BindingResult:Enc.sz BindingResult=3:=rfl
instance:Sm BindingResult:=⟨fun n x=>sm n x.binding,fun h x=>q2l h x⟩
structure RedexResult where
 code:Int
 place:Int
 rule:Int
 deriving DecidableEq
instance:Enc RedexResult:=⟨3,by decide,fun x=>[.int .i64 x.code,.int .i64 x.place,.int .i64 x.rule],fun _=>rfl⟩
@[simp] theorem sz_RedexResult:Enc.sz RedexResult=3:=rfl
theorem q4j (x:RedexResult):enc x=[.int .i64 x.code,.int .i64 x.place,.int .i64 x.rule]:=rfl
instance:Sm RedexResult:=⟨fun n x=>True,fun _ h=>h⟩
structure NormalResult where
 code:Int
 term:List Int
 steps:Int
 deriving DecidableEq
instance:Enc NormalResult:=⟨3,by decide,fun x=>[.int .i64 x.code,slc x.term,.int .i64 x.steps],fun _=>rfl⟩
@[simp] theorem sz_NormalResult:Enc.sz NormalResult=3:=rfl
theorem q3j (x:NormalResult):enc x=[.int .i64 x.code,slc x.term,.int .i64 x.steps]:=rfl
instance:Sm NormalResult:=⟨fun n x=>sm n x.term,fun h x=>q2l h x⟩
structure AlgebraResult where
 code:Int
 algebra:Algebra
 deriving DecidableEq
instance:Enc AlgebraResult:=⟨3,by decide,fun x=>[.int .i64 x.code,.int .i64 x.algebra.size,slc x.algebra.tables],fun _=>rfl⟩
@[simp] theorem sz_AlgebraResult:Enc.sz AlgebraResult=3:=rfl
instance:Sm AlgebraResult:=⟨fun n x=>sm n x.algebra,fun h x=>q2l h x⟩
structure EntryResult where
 code:Int
 entry:Entry
 deriving DecidableEq
instance:Enc EntryResult:=⟨8,by decide,fun x=>[.int .i64 x.code,.int .i64 x.entry.kind,.int .i64 x.entry.a,.int .i64 x.entry.b,.int .i64 x.entry.place,.int .i64 x.entry.side,slc x.entry.left,slc x.entry.right],fun _=>rfl⟩
@[simp] theorem sz_EntryResult:Enc.sz EntryResult=8:=rfl
instance:Sm EntryResult:=⟨fun n x=>sm n x.entry,fun h x=>q2l h x⟩
structure CompletionResult where
 code:Int
 completion:Completion
 deriving DecidableEq
instance:Enc CompletionResult:=⟨7,by decide,fun x=>[.int .i64 x.code,slc x.completion.order,slc x.completion.equations,slc x.completion.entries,slc x.completion.rules,slc x.completion.waiting,.int .i64 x.completion.rounds],fun _=>rfl⟩
@[simp] theorem sz_CompletionResult:Enc.sz CompletionResult=7:=rfl
instance:Sm CompletionResult:=⟨fun n x=>sm n x.completion,fun h x=>q2l h x⟩
structure TheoryResult where
 code:Int
 theory:Theory
 deriving DecidableEq
instance:Enc TheoryResult:=⟨4,by decide,fun x=>[.int .i64 x.code,slc x.theory.order,slc x.theory.equations,slc x.theory.rules],fun _=>rfl⟩
@[simp] theorem sz_TheoryResult:Enc.sz TheoryResult=4:=rfl
instance:Sm TheoryResult:=⟨fun n x=>sm n x.theory,fun h x=>q2l h x⟩
structure DiskResult where
 code:Int
 disk:Disk
 deriving DecidableEq
instance:Enc DiskResult:=⟨3,by decide,fun x=>[.int .i64 x.code,slc x.disk.sectors,slc x.disk.pending],fun _=>rfl⟩
@[simp] theorem sz_DiskResult:Enc.sz DiskResult=3:=rfl
instance:Sm DiskResult:=⟨fun n x=>sm n x.disk,fun h x=>q2l h x⟩
theorem szs:Enc.sz Int=1∧Enc.sz UInt8=1∧Enc.sz Symbol=2∧Enc.sz Signature=1∧Enc.sz Equation=2∧Enc.sz Binding=2∧Enc.sz Algebra=2∧Enc.sz Entry=7∧Enc.sz Completion=6∧Enc.sz Theory=3∧Enc.sz Put=2∧Enc.sz Disk=2∧Enc.sz Act=3∧Enc.sz IntResult=2∧Enc.sz IntsResult=2∧Enc.sz BytesResult=2∧Enc.sz TextResult=2∧Enc.sz SignatureResult=2∧Enc.sz TermResult=2∧Enc.sz TermsResult=2∧Enc.sz EquationResult=3∧Enc.sz EquationsResult=2∧Enc.sz KeyResult=3∧Enc.sz BindingResult=3∧Enc.sz RedexResult=3∧Enc.sz NormalResult=3∧Enc.sz AlgebraResult=3∧Enc.sz EntryResult=8∧Enc.sz CompletionResult=7∧Enc.sz TheoryResult=4∧Enc.sz DiskResult=3:=⟨rfl,rfl,rfl,rfl,rfl,rfl,rfl,rfl,rfl,rfl,rfl,rfl,rfl,rfl,rfl,rfl,rfl,rfl,rfl,rfl,rfl,rfl,rfl,rfl,rfl,rfl,rfl,rfl,rfl,rfl,rfl⟩
theorem evs:(∀ {n m:Nat},((n:Int) < (m:Int))↔n < m)∧(∀ {a b:ByteArray},(a.toList=b.toList)=(a=b)) ∧
 (∀ {α:Type} [BEq α] [LawfulBEq α] [DecidableEq α] {a b:α},(a == b)=decide (a=b))∧(∀ {α:Type} [BEq α] [LawfulBEq α] [DecidableEq α] {a b:α},(a != b) = !decide (a=b)) ∧
 (∀ {β:Type} {p:Prop} [Decidable p] {x y:β},(bif decide p then x else y)=if p then x else y)∧(∀ {β:Type} {b:Bool} {x y:β},(bif !b then x else y)=bif b then y else x) ∧
 (∀ {a b:UInt8},((a.toNat:Int)=(b.toNat:Int))=(a=b))∧(∀ {α:Type} [Enc α] {l:List α} {k:Nat},Enc.sz α=k→(cells l).length / k=l.length)∧(∀ {α:Type} [Enc α],Enc.sz (List α)=1) ∧
 (∀ i n:Nat,inB (i:Int) n=decide (i < n))∧(∀ n:Nat,((n:Nat):Int).toNat=n) ∧
 (∀ {α:Type} [Enc α] {l:List α} {k i:Nat},Enc.sz α=k→(cells l)[i*k]?=(l[i]?).bind fun x=>(Enc.enc x)[0]?) ∧
 (∀ {α:Type} [Enc α] {l:List α} {k i:Nat},Enc.sz α=k→1 < k→(cells l)[i*k+1]?=(l[i]?).bind fun x=>(Enc.enc x)[1]?) ∧
 (∀ {α:Type} [Enc α] {l:List α} {k i:Nat},Enc.sz α=k→2 < k→(cells l)[i*k+1+1]?=(l[i]?).bind fun x=>(Enc.enc x)[2]?) ∧
 (∀ {α:Type} [Enc α] {l:List α} {k i:Nat},Enc.sz α=k→3 < k→(cells l)[i*k+1+1+1]?=(l[i]?).bind fun x=>(Enc.enc x)[3]?) ∧
 (∀ {α:Type} [Enc α] {l:List α} {k i:Nat},Enc.sz α=k→4 < k→(cells l)[i*k+1+1+1+1]?=(l[i]?).bind fun x=>(Enc.enc x)[4]?) ∧
 (∀ {α:Type} [Enc α] {l:List α} {k i:Nat},Enc.sz α=k→5 < k→(cells l)[i*k+1+1+1+1+1]?=(l[i]?).bind fun x=>(Enc.enc x)[5]?) ∧
 (∀ {α:Type} [Enc α] {l:List α} {k i:Nat},Enc.sz α=k→6 < k→(cells l)[i*k+1+1+1+1+1+1]?=(l[i]?).bind fun x=>(Enc.enc x)[6]?) ∧
 (∀ {α:Type} [Enc α] {l:List α} {k i:Nat},Enc.sz α=k→7 < k→(cells l)[i*k+1+1+1+1+1+1+1]?=(l[i]?).bind fun x=>(Enc.enc x)[7]?) ∧
 (∀ {α:Type} [Enc α] {l:List α} {k i:Nat},Enc.sz α=k→8 < k→(cells l)[i*k+1+1+1+1+1+1+1+1]?=(l[i]?).bind fun x=>(Enc.enc x)[8]?) ∧
 (∀ {α β:Type} {x:α} {f:α→Option β},Option.bind (some x) f=f x)∧(∀ {α:Type} {a:α} {l:List α},(a::l)[0]?=some a)∧(∀ {α:Type} {a:α} {i:Nat} {l:List α},(a::l)[i+1]?=l[i]?) ∧
 (∀ (k:IntKind) (n:Int),oInt k (.int k n)=some n)∧(∀ b:Bool,oBool (.bool b)=some b)∧(∀ b:ByteArray,oStr (.str b)=some b)∧(∀ {α:Type} [Enc α] {k:Nat} (l:List α),Enc.sz α=k→oSl k (slc l)=some (cells l)) ∧
 (∀ c:List T,oAgg (.agg c)=some c)∧(∀ c:List T,oTup (.tup c)=some c)∧(∀ (x:T) (c:List T),oCons (x::c)=some (x,c))∧oNil []=some () ∧
 (∀ {α:Type} [Enc α] {k:Nat} {l:List α},Enc.sz α=k→T.sl k (cells l)=slc l) :=
 ⟨Int.ofNat_lt,str_inj,beq_dec,bne_dec,cond_dec,cond_nt,u8_inj,q5b,sz_list,q7a,Int.toNat_natCast,get0,get1,get2,get3,get4,get5,get6,get7,get8,bind_of,List.getElem?_cons_zero,List.getElem?_cons_succ,oInt_int,oBool_bool,oStr_str,oSl_slc,oAgg_agg,oTup_tup,oCons_cons,oNil_nil,sl_cells⟩
theorem tfs:(∀ {α:Type} {h:Decidable True} (a b:α),ite True a b=a)∧(∀ {α:Type} {h:Decidable False} (a b:α),ite False a b=b)∧(∀ (h:Decidable True),@decide True h=true) ∧
 (∀ (h:Decidable False),@decide False h=false)∧(∀ {α:Type} {a b:α},cond true a b=a)∧(∀ {α:Type} {a b:α},cond false a b=b) :=
 ⟨if_true,if_false,decide_true,decide_false,rfl,rfl⟩
theorem evz:type_of% tfs∧type_of% evs∧type_of% szs:=⟨tfs,evs,szs⟩
end Ev.Ty
end
section
namespace Ev.Ty
open Go Ev
open Enc (enc)
open Sm (sm)
class OfSh (s:Sh) (α:Type) [Enc α] [Sm α] where
 of:s.Val→α
 enc:∀ x,s.wf x→s.enc x=Enc.enc (of x)
 sz:s.size=Enc.sz α
 sm:∀ x,s.wf x→Sm.sm maxLen (of x)
theorem q38 {a b:Sh} {x:(Sh.pair a b).Val} {l r:List T} (h1:a.enc x.1=l) (h2:b.enc x.2=r):(Sh.pair a b).enc x=l++r:=by rw [Sh.enc,h1,h2]
instance:OfSh (.int .i64) Int:=⟨id,fun _ _=>rfl,rfl,fun _ _=>trivial⟩
instance:OfSh .bool Bool:=⟨id,fun _ _=>rfl,rfl,fun _ _=>trivial⟩
instance:OfSh .str ByteArray:=⟨id,fun _ _=>rfl,rfl,fun _ h=>h⟩
theorem u8_enc (x:Int) (h:(Lit.int .u8 x).wf=true):[T.int .u8 x]=[T.int .u8 ((UInt8.ofNat (Int.toNat x)).toNat:Int)]:=by
 simp [Lit.wf,IntKind.min,IntKind.max,IntKind.signed,IntKind.bits] at h
 rw [UInt8.toNat_ofNat']
 congr 2
 omega
instance:OfSh (.int .u8) UInt8:=⟨fun n=>UInt8.ofNat (Int.toNat n),fun x h=>u8_enc x h,rfl,fun _ _=>trivial⟩
theorem cells_of {s:Sh} {α:Type} [Enc α] [Sm α] [OfSh s α]:∀ (l:List s.Val),(∀ x,x∈l→s.wf x)→l.flatMap s.enc=cells (l.map (OfSh.of (s:=s) (α:=α)))
 | [],_=>rfl
 | x::l,h=>by
   rw [List.flatMap_cons,List.map_cons,q6e,OfSh.enc (α:=α) x (h x (by simp)),cells_of (α:=α) l fun y hy=>h y (by simp [hy])]
instance {s:Sh} {α:Type} [Enc α] [Sm α] [OfSh s α]:OfSh (.sl s) (List α):=⟨fun l=>l.map (OfSh.of (s:=s) (α:=α)),fun l h=>by
 show [T.sl s.size (List.flatMap s.enc l)]=[slc _]
 rw [cells_of (α:=α) l h.2,OfSh.sz (s:=s) (α:=α)]; rfl,rfl,fun l h=>⟨by simpa using h.1,fun x hx=>by
  obtain ⟨y,hy,rfl⟩:=List.mem_map.1 hx
  exact OfSh.sm y (h.2 y hy)⟩⟩
theorem arg_list {s:Sh} {α:Type} [Enc α] [Sm α] [OfSh s α] (l:List s.Val) (h:(Sh.sl s).wf l):argOf (.sl s) l=slc (OfSh.of (s := .sl s) (α:=List α) l):=by
 have:=OfSh.enc (s := .sl s) (α:=List α) l h
 simpa [Sh.enc,argOf] using this
@[reducible] def sh_Symbol:Sh := .pair .str (.pair (.int .i64) .unit)
instance:OfSh sh_Symbol Symbol:=⟨fun x=>⟨OfSh.of (s := .str) (α:=ByteArray) x.1,OfSh.of (s:=(.int .i64)) (α:=Int) x.2.1⟩,fun x h=>q38 (OfSh.enc (α:=ByteArray) x.1 h.1) (q38 (OfSh.enc (α:=Int) x.2.1 h.2.1) (rfl)),rfl,fun x h=>OfSh.sm (α:=ByteArray) x.1 h.1⟩
@[reducible] def sh_Signature:Sh := .pair (.sl sh_Symbol) .unit
instance:OfSh sh_Signature Signature:=⟨fun x=>⟨OfSh.of (s:=(.sl sh_Symbol)) (α:=List Symbol) x.1⟩,fun x h=>q38 (OfSh.enc (α:=List Symbol) x.1 h.1) (rfl),rfl,fun x h=>OfSh.sm (α:=List Symbol) x.1 h.1⟩
@[reducible] def q6x:Sh := .pair (.sl (.int .i64)) (.pair (.sl (.int .i64)) .unit)
instance:OfSh q6x Equation:=⟨fun x=>⟨OfSh.of (s:=(.sl (.int .i64))) (α:=List Int) x.1,OfSh.of (s:=(.sl (.int .i64))) (α:=List Int) x.2.1⟩,fun x h=>q38 (OfSh.enc (α:=List Int) x.1 h.1) (q38 (OfSh.enc (α:=List Int) x.2.1 h.2.1) (rfl)),rfl,fun x h=>⟨OfSh.sm (α:=List Int) x.1 h.1,OfSh.sm (α:=List Int) x.2.1 h.2.1⟩⟩
@[reducible] def sh_Binding:Sh := .pair (.sl (.int .i64)) (.pair (.sl (.sl (.int .i64))) .unit)
instance:OfSh sh_Binding Binding:=⟨fun x=>⟨OfSh.of (s:=(.sl (.int .i64))) (α:=List Int) x.1,OfSh.of (s:=(.sl (.sl (.int .i64)))) (α:=List (List Int)) x.2.1⟩,fun x h=>q38 (OfSh.enc (α:=List Int) x.1 h.1) (q38 (OfSh.enc (α:=List (List Int)) x.2.1 h.2.1) (rfl)),rfl,fun x h=>⟨OfSh.sm (α:=List Int) x.1 h.1,OfSh.sm (α:=List (List Int)) x.2.1 h.2.1⟩⟩
@[reducible] def sh_Algebra:Sh := .pair (.int .i64) (.pair (.sl (.sl (.int .i64))) .unit)
instance:OfSh sh_Algebra Algebra:=⟨fun x=>⟨OfSh.of (s:=(.int .i64)) (α:=Int) x.1,OfSh.of (s:=(.sl (.sl (.int .i64)))) (α:=List (List Int)) x.2.1⟩,fun x h=>q38 (OfSh.enc (α:=Int) x.1 h.1) (q38 (OfSh.enc (α:=List (List Int)) x.2.1 h.2.1) (rfl)),rfl,fun x h=>OfSh.sm (α:=List (List Int)) x.2.1 h.2.1⟩
@[reducible] def sh_Entry:Sh := .pair (.int .i64) (.pair (.int .i64) (.pair (.int .i64) (.pair (.int .i64) (.pair (.int .i64) (.pair (.sl (.int .i64)) (.pair (.sl (.int .i64)) .unit))))))
instance:OfSh sh_Entry Entry:=⟨fun x=>⟨OfSh.of (s:=(.int .i64)) (α:=Int) x.1,OfSh.of (s:=(.int .i64)) (α:=Int) x.2.1,OfSh.of (s:=(.int .i64)) (α:=Int) x.2.2.1,OfSh.of (s:=(.int .i64)) (α:=Int) x.2.2.2.1,OfSh.of (s:=(.int .i64)) (α:=Int) x.2.2.2.2.1,OfSh.of (s:=(.sl (.int .i64))) (α:=List Int) x.2.2.2.2.2.1,OfSh.of (s:=(.sl (.int .i64))) (α:=List Int) x.2.2.2.2.2.2.1⟩,fun x h=>q38 (OfSh.enc (α:=Int) x.1 h.1) (q38 (OfSh.enc (α:=Int) x.2.1 h.2.1) (q38 (OfSh.enc (α:=Int) x.2.2.1 h.2.2.1) (q38 (OfSh.enc (α:=Int) x.2.2.2.1 h.2.2.2.1) (q38 (OfSh.enc (α:=Int) x.2.2.2.2.1 h.2.2.2.2.1) (q38 (OfSh.enc (α:=List Int) x.2.2.2.2.2.1 h.2.2.2.2.2.1) (q38 (OfSh.enc (α:=List Int) x.2.2.2.2.2.2.1 h.2.2.2.2.2.2.1) (rfl))))))),rfl,fun x h=>⟨OfSh.sm (α:=List Int) x.2.2.2.2.2.1 h.2.2.2.2.2.1,OfSh.sm (α:=List Int) x.2.2.2.2.2.2.1 h.2.2.2.2.2.2.1⟩⟩
@[reducible] def sh_Completion:Sh := .pair (.sl (.int .i64)) (.pair (.sl q6x) (.pair (.sl sh_Entry) (.pair (.sl (.int .i64)) (.pair (.sl (.int .i64)) (.pair (.int .i64) .unit)))))
instance:OfSh sh_Completion Completion:=⟨fun x=>⟨OfSh.of (s:=(.sl (.int .i64))) (α:=List Int) x.1,OfSh.of (s:=(.sl q6x)) (α:=List Equation) x.2.1,OfSh.of (s:=(.sl sh_Entry)) (α:=List Entry) x.2.2.1,OfSh.of (s:=(.sl (.int .i64))) (α:=List Int) x.2.2.2.1,OfSh.of (s:=(.sl (.int .i64))) (α:=List Int) x.2.2.2.2.1,OfSh.of (s:=(.int .i64)) (α:=Int) x.2.2.2.2.2.1⟩,fun x h=>q38 (OfSh.enc (α:=List Int) x.1 h.1) (q38 (OfSh.enc (α:=List Equation) x.2.1 h.2.1) (q38 (OfSh.enc (α:=List Entry) x.2.2.1 h.2.2.1) (q38 (OfSh.enc (α:=List Int) x.2.2.2.1 h.2.2.2.1) (q38 (OfSh.enc (α:=List Int) x.2.2.2.2.1 h.2.2.2.2.1) (q38 (OfSh.enc (α:=Int) x.2.2.2.2.2.1 h.2.2.2.2.2.1) (rfl)))))),rfl,fun x h=>⟨OfSh.sm (α:=List Int) x.1 h.1,OfSh.sm (α:=List Equation) x.2.1 h.2.1,OfSh.sm (α:=List Entry) x.2.2.1 h.2.2.1,OfSh.sm (α:=List Int) x.2.2.2.1 h.2.2.2.1,OfSh.sm (α:=List Int) x.2.2.2.2.1 h.2.2.2.2.1⟩⟩
@[reducible] def sh_Theory:Sh := .pair (.sl (.int .i64)) (.pair (.sl q6x) (.pair (.sl q6x) .unit))
instance:OfSh sh_Theory Theory:=⟨fun x=>⟨OfSh.of (s:=(.sl (.int .i64))) (α:=List Int) x.1,OfSh.of (s:=(.sl q6x)) (α:=List Equation) x.2.1,OfSh.of (s:=(.sl q6x)) (α:=List Equation) x.2.2.1⟩,fun x h=>q38 (OfSh.enc (α:=List Int) x.1 h.1) (q38 (OfSh.enc (α:=List Equation) x.2.1 h.2.1) (q38 (OfSh.enc (α:=List Equation) x.2.2.1 h.2.2.1) (rfl))),rfl,fun x h=>⟨OfSh.sm (α:=List Int) x.1 h.1,OfSh.sm (α:=List Equation) x.2.1 h.2.1,OfSh.sm (α:=List Equation) x.2.2.1 h.2.2.1⟩⟩
@[reducible] def sh_Put:Sh := .pair (.int .i64) (.pair (.sl (.int .u8)) .unit)
instance:OfSh sh_Put Put:=⟨fun x=>⟨OfSh.of (s:=(.int .i64)) (α:=Int) x.1,OfSh.of (s:=(.sl (.int .u8))) (α:=List UInt8) x.2.1⟩,fun x h=>q38 (OfSh.enc (α:=Int) x.1 h.1) (q38 (OfSh.enc (α:=List UInt8) x.2.1 h.2.1) (rfl)),rfl,fun x h=>OfSh.sm (α:=List UInt8) x.2.1 h.2.1⟩
@[reducible] def sh_Disk:Sh := .pair (.sl (.sl (.int .u8))) (.pair (.sl sh_Put) .unit)
instance:OfSh sh_Disk Disk:=⟨fun x=>⟨OfSh.of (s:=(.sl (.sl (.int .u8)))) (α:=List (List UInt8)) x.1,OfSh.of (s:=(.sl sh_Put)) (α:=List Put) x.2.1⟩,fun x h=>q38 (OfSh.enc (α:=List (List UInt8)) x.1 h.1) (q38 (OfSh.enc (α:=List Put) x.2.1 h.2.1) (rfl)),rfl,fun x h=>⟨OfSh.sm (α:=List (List UInt8)) x.1 h.1,OfSh.sm (α:=List Put) x.2.1 h.2.1⟩⟩
@[reducible] def sh_Act:Sh := .pair (.int .i64) (.pair sh_Put .unit)
instance:OfSh sh_Act Act:=⟨fun x=>⟨OfSh.of (s:=(.int .i64)) (α:=Int) x.1,OfSh.of (s:=sh_Put) (α:=Put) x.2.1⟩,fun x h=>q38 (OfSh.enc (α:=Int) x.1 h.1) (q38 (OfSh.enc (α:=Put) x.2.1 h.2.1) (rfl)),rfl,fun x h=>OfSh.sm (α:=Put) x.2.1 h.2.1⟩
end Ev.Ty
end
section
namespace Ev.Ty
open Go Ev
open Enc (enc)
open Sm (sm)
def idx {α:Type} (p:α→Bool) (l:List α):Int:=match l.findIdx? p with
 | some i=>(i:Nat)
 | none => -1
theorem any_loop {n:Nat} {bad:Nat→Bool} {S:Nat→Nat→R} {r z:R}
 (step:∀ m k,k < n→S (m+1) k=if bad k=true then r else S m (k+1)) (stop:∀ m,S (m+1) n=z) {f:Nat} (hf:n < f) :
 S f 0=if (List.range n).any bad=true then r else z:=by
 have:∀ m k,k≤n→n < m+k→S m k=if (List.range' k (n - k)).any bad=true then r else z:=by
  intro m
  induction m with
  | zero=>intros; omega
  | succ m ih =>
    intro k hk hm
    by_cases h:k < n
    · rw [step m k h,ih (k+1) (by omega) (by omega),show n - k=(n - (k+1))+1 by omega,List.range'_succ,List.any_cons]
      by_cases hb:bad k=true
      · rw [if_pos hb,hb,Bool.true_or,if_pos rfl]
      · have hb':=Bool.eq_false_iff.2 hb; rw [if_neg hb,hb',Bool.false_or]
    · obtain rfl:k=n:=by omega
      rw [stop m]; simp
 have:=this f 0 (by omega) (by omega)
 rwa [Nat.sub_zero,← List.range_eq_range'] at this
theorem q8u {α:Type} {l:List α} {g:α→Option R} {S:Nat→Nat→R} {z:R}
 (step:∀ m k (h:k < l.length),S (m+1) k=match g l[k] with | some r=>r | none=>S m (k+1)) (stop:∀ m,S (m+1) l.length=z) {f:Nat} (hf:l.length < f) :
 S f 0=match l.findSome? g with | some r=>r | none=>z:=by
 have:∀ m k,k≤l.length→l.length < m+k→S m k=match (l.drop k).findSome? g with | some r=>r | none=>z:=by
  intro m
  induction m with
  | zero=>intros; omega
  | succ m ih =>
    intro k hk hm
    by_cases h:k < l.length
    · rw [step m k h,List.drop_eq_getElem_cons h,List.findSome?_cons]
      cases g l[k] with
      | none=>exact ih (k+1) (by omega) (by omega)
      | some r=>rfl
    · obtain rfl:k=l.length:=by omega
      rw [stop m]; simp
 simpa using this f 0 (by omega) (by omega)
theorem q7n {α:Type} {l:List α} {p:α→Bool} {S:Nat→Nat→R} {r z:R}
 (step:∀ m k (h:k < l.length),S (m+1) k=if p l[k]=true then r else S m (k+1)) (stop:∀ m,S (m+1) l.length=z) {f:Nat} (hf:l.length < f) :
 S f 0=if l.any p=true then r else z:=by
 have:∀ m k,k≤l.length→l.length < m+k→S m k=if (l.drop k).any p=true then r else z:=by
  intro m
  induction m with
  | zero=>intros; omega
  | succ m ih =>
    intro k hk hm
    by_cases h:k < l.length
    · rw [step m k h,List.drop_eq_getElem_cons h,List.any_cons,ih (k+1) (by omega) (by omega)]
      by_cases hb:p l[k]=true
      · rw [if_pos hb,hb,Bool.true_or,if_pos rfl]
      · have hb':=Bool.eq_false_iff.2 hb; rw [if_neg hb,hb',Bool.false_or]
    · obtain rfl:k=l.length:=by omega
      rw [stop m]; simp
 simpa using this f 0 (by omega) (by omega)
theorem hit_loop {α:Type} {l:List α} {p:α→Bool} {S:Nat→Nat→R} {r:R}
 (step:∀ m k (h:k < l.length),S (m+1) k=if p l[k]=true then r else S m (k+1)) (ha:l.any p=true) {f:Nat} (hf:l.length < f):S f 0=r:=by
 have:∀ m k,l.length < m+k→k≤l.length→(l.drop k).any p=true→S m k=r:=by
  intro m
  induction m with
  | zero=>intros; omega
  | succ m ih =>
    intro k hm hk ha
    by_cases h:k < l.length
    · rw [List.drop_eq_getElem_cons h,List.any_cons,Bool.or_eq_true] at ha
      rw [step m k h]
      by_cases hb:p l[k]=true
      · rw [if_pos hb]
      · rw [if_neg hb]; exact ih (k+1) (by omega) (by omega) (ha.resolve_left hb)
    · rw [List.drop_of_length_le (by omega)] at ha; cases ha
 exact this f 0 (by omega) (by omega) (by simpa using ha)
theorem q6o {α:Type} {l:List α} {p:α→Bool} {S:Nat→Nat→R}
 (step:∀ m k (h:k < l.length),S (m+1) k=if p l[k]=true then some (.int .i64 (k:Nat),[]) else S m (k+1)) (stop:∀ m,S (m+1) l.length=some (.int .i64 (-1),[])) {f:Nat} (hf:l.length < f) :
 S f 0=some (.int .i64 (idx p l),[]):=by
 have:∀ m k,k≤l.length→l.length < m+k→S m k=some (.int .i64 (match (l.drop k).findIdx? p with | some i=>((i+k:Nat):Int) | none => -1),[]):=by
  intro m
  induction m with
  | zero=>intros; omega
  | succ m ih =>
    intro k hk hm
    by_cases h:k < l.length
    · rw [step m k h,List.drop_eq_getElem_cons h,List.findIdx?_cons,ih (k+1) (by omega) (by omega)]
      by_cases hb:p l[k]=true
      · simp [hb]
      · simp only [hb]
        cases (l.drop (k+1)).findIdx? p with
        | none=>simp
        | some i=>simp; omega
    · obtain rfl:k=l.length:=by omega
      rw [stop m]; simp
 simpa [idx] using this f 0 (by omega) (by omega)
theorem q7f {α:Type} (p:α→Bool) (l:List α):decide (idx p l ≥ 0)=l.any p:=by
 unfold idx
 cases h:l.findIdx? p with
 | none =>
   rw [List.findIdx?_eq_none_iff] at h
   rw [Bool.eq_iff_iff]
   simp
   intro x hx; simpa using h x hx
 | some i =>
   rw [List.findIdx?_eq_some_iff_getElem] at h
   obtain ⟨h1,h2,_⟩:=h
   rw [Bool.eq_iff_iff]
   simp
   exact ⟨l[i],List.getElem_mem h1,h2⟩
theorem q60 {α:Type} (p:α→Bool) (l:List α):(idx p l = -1∧∀ x,x∈l→p x=false)∨∃ i,∃ h:i < l.length,idx p l=(i:Nat)∧p l[i]=true∧∀ j (hj:j < i),p (l[j]'(Nat.lt_trans hj h))=false:=by
 unfold idx
 cases hx:l.findIdx? p with
 | none=>rw [List.findIdx?_eq_none_iff] at hx; exact .inl ⟨rfl,hx⟩
 | some i =>
   rw [List.findIdx?_eq_some_iff_getElem] at hx
   obtain ⟨h1,h2,h3⟩:=hx
   exact .inr ⟨i,h1,rfl,h2,fun j hj=>by simpa using h3 j hj⟩
theorem q7o {α β γ:Type} (f:α→Option β) (g:β→γ):∀ l:List α,l.findSome? (fun x=>(f x).map g)=(l.findSome? f).map g
 | []=>rfl
 | x::l=>by
   rw [List.findSome?_cons,List.findSome?_cons]
   cases f x with
   | none=>exact q7o f g l
   | some b=>rfl
theorem fold_loop {α σ:Type} {l:List α} {S:Nat→Nat→σ→R} {g:σ→α→σ} {z:σ→R} (I:Nat→σ→Prop)
 (step:∀ m k s (h:k < l.length),I k s→S (m+1) k s=S m (k+1) (g s l[k]))
 (inv:∀ k s (h:k < l.length),I k s→I (k+1) (g s l[k]))
 (stop:∀ m s,I l.length s→S (m+1) l.length s=z s) (s:σ) (h0:I 0 s) {f:Nat} (hf:l.length < f):S f 0 s=z (l.foldl g s):=by
 have:∀ m k s,k≤l.length→l.length < m+k→I k s→S m k s=z ((l.drop k).foldl g s):=by
  intro m
  induction m with
  | zero=>intros; omega
  | succ m ih =>
    intro k s hk hm hi
    by_cases h:k < l.length
    · rw [step m k s h hi,List.drop_eq_getElem_cons h,List.foldl_cons]
      exact ih (k+1) _ (by omega) (by omega) (inv k s h hi)
    · obtain rfl:k=l.length:=by omega
      rw [stop m s hi,List.drop_of_length_le (Nat.le_refl _),List.foldl_nil]
 simpa using this f 0 s (by omega) (by omega) h0
theorem fold_inv {α σ:Type} {l:List α} {g:σ→α→σ} (I:Nat→σ→Prop) (inv:∀ k s (h:k < l.length),I k s→I (k+1) (g s l[k])) (s:σ) (h0:I 0 s):I l.length (l.foldl g s):=by
 have:∀ n k s,k+n=l.length→I k s→I l.length ((l.drop k).foldl g s):=by
  intro n
  induction n with
  | zero=>intro k s hk hi; obtain rfl:k=l.length:=by omega
          rw [List.drop_of_length_le (Nat.le_refl _)]; exact hi
  | succ n ih =>
    intro k s hk hi
    have h:k < l.length:=by omega
    rw [List.drop_eq_getElem_cons h,List.foldl_cons]
    exact ih (k+1) _ (by omega) (inv k s h hi)
 simpa using this l.length 0 s (by omega) h0
theorem q7b {α:Type} [Enc α]:slc ([]:List α)=T.sl (Enc.sz α) []:=rfl
theorem q2d (l:List Int) (x:Int):cells l++[.int .i64 x]=cells (l++[x]):=by rw [q36,← q1r,q7t]
theorem q6a {α:Type} [Enc α] (l:List (List α)) (x:List α):cells l++[slc x]=cells (l++[x]):=by rw [q36,← q9b,q7t]
theorem q3v {a b:Nat} (h:a≤b):Nat.ble a b=true:=Nat.ble_eq_true_of_le h
theorem run_loop {σ:Type} {n:Nat} {S:Nat→Nat→σ→R} {st:Nat→σ} {z:R} (step:∀ m k,k < n→S (m+1) k (st k)=S m (k+1) (st (k+1))) (stop:∀ m,S (m+1) n (st n)=z) {f:Nat} (hf:n < f) :
 S f 0 (st 0)=z:=by
 have:∀ m k,k≤n→n < m+k→S m k (st k)=z:=by
  intro m
  induction m with
  | zero=>intros; omega
  | succ m ih =>
    intro k hk hm
    by_cases h:k < n
    · rw [step m k h]; exact ih (k+1) (by omega) (by omega)
    · obtain rfl:k=n:=by omega
      exact stop m
 exact this f 0 (by omega) (by omega)
theorem q3n (l:List Int):(cells l).all T.scalar=true:=by
 rw [List.all_eq_true]
 intro x hx
 obtain ⟨y,_,hy⟩:=List.mem_flatMap.1 hx
 obtain rfl:=List.mem_singleton.1 hy
 rfl
end Ev.Ty
end
section
open Go
set_option linter.unusedVariables false
set_option maxRecDepth 100000
namespace Ev
def q1h.st0 (x0:Int) (x1:List T) (x2 x3:Int):St:=⟨[(3,oi x0),(6,ol 1 x1),(7,oi x2),(8,oi x3)],[]⟩
noncomputable def q1h.K0 (n:Nat):Ex→St→R:=kx F.q1h n [.block 0,.seq 0 (cx F.q1h [1,1,1])] (endOf prog A F.q1h)
noncomputable def q1h.at0 (n:Nat) (m:Nat) (s:St):R:=lx F.q1h n 0 [1,1,0,1,0,0] (q1h.K0 n) m s
noncomputable def q1h.rd0 (n:Nat) (L0:St→R) (s:St):R:=rx F.q1h n 0 [1,1,0,1,0,0] (q1h.K0 n) L0 s
theorem q1h.next0 (n:Nat) (m:Nat) (s:St):q1h.at0 n (m+1) s=q1h.rd0 n (q1h.at0 n m) s:=nx _ _ _ _ _ _ _
theorem q1h.round0 (n:Nat) (L0:St→R) (x0:Int) (x1:List T) (x2 x3:Int):q1h.rd0 n L0 (q1h.st0 x0 x1 x2 x3)=(bif (decide (x3 < x2)) then (bif inB x3 ((x1).length / 1) then ((x1[((Int.toNat x3)*1)]?).bind fun e1=>((oInt .i64 e1).bind fun n2=>(bif ((n2 != x0)) then some ((.int .i64 n2),[]) else (L0 (q1h.st0 x0 x1 x2 (IntKind.wrap .i64 (x3+(1:Int)))))))) else none) else some ((.int .i64 x0),[])):=by kernel_rfl
theorem q1h.ev (n:Nat) (a0:List T):callK prog A H LIM n F.q1h [(.sl 1 a0)]=(q1h.at0 n n (q1h.st0 (0:Int) a0 ((((a0).length / 1):Nat):Int) (0:Int))):=by kernel_rfl
def q0i.st0 (x0:List T) (x1 x2:Int) (x3 x4 x5:List T):St:=⟨[(2,(.one (.ptr 128 0))),(5,(.one (.obj 640))),(11,ol 1 x0),(12,oi x1),(13,oi x2)],[(128,(.box [(.t (.sl 1 x3)),(.t (.sl 1 x4))])),(640,(.arr true true 1 x5))]⟩
noncomputable def q0i.K0 (n:Nat):Ex→St→R:=kx F.q0i n [.block 0,.seq 0 (cx F.q0i [1,1,1])] (endOf prog A F.q0i)
noncomputable def q0i.at0 (n:Nat) (m:Nat) (s:St):R:=lx F.q0i n 0 [1,1,0,1,0,0] (q0i.K0 n) m s
noncomputable def q0i.rd0 (n:Nat) (L0:St→R) (s:St):R:=rx F.q0i n 0 [1,1,0,1,0,0] (q0i.K0 n) L0 s
theorem q0i.next0 (n:Nat) (m:Nat) (s:St):q0i.at0 n (m+1) s=q0i.rd0 n (q0i.at0 n m) s:=nx _ _ _ _ _ _ _
theorem q0i.round0 (n:Nat) (L0:St→R) (x0:List T) (x1 x2:Int) (x3 x4 x5:List T):q0i.rd0 n L0 (q0i.st0 x0 x1 x2 x3 x4 x5)=(bif (decide (x2 < x1)) then (bif inB x2 ((x0).length / 1) then ((x0[((Int.toNat x2)*1)]?).bind fun e1=>((oInt .i64 e1).bind fun n2=>((LIM F.q43 [(.agg [(.sl 1 x3),(.sl 1 x4)]),(.int .i64 (IntKind.wrap .i64 ((-1:Int) - n2)))]).bind fun r3=>((oNil r3.2).bind fun _=>((oTup r3.1).bind fun c4=>((oCons c4).bind fun p5=>((oSl 1 p5.1).bind fun c6=>(bif (c6).all T.scalar then ((oCons p5.2).bind fun p7=>((oBool p7.1).bind fun b8=>((oNil p7.2).bind fun _=>(bif b8 then (bif (c6).all T.scalar then (bif Nat.ble (((x5).length+(c6).length)*8) (140737488355328*1) then (L0 (q0i.st0 x0 x1 (IntKind.wrap .i64 (x2+(1:Int))) x3 x4 (x5++c6:List T))) else none) else none) else (bif Nat.ble (((x5).length+1)*8) (140737488355328*1) then (L0 (q0i.st0 x0 x1 (IntKind.wrap .i64 (x2+(1:Int))) x3 x4 (x5++[(.int .i64 n2)]:List T))) else none))))) else none)))))))) else none) else some ((.sl 1 x5),[])):=by kernel_rfl
theorem q0i.ev (n:Nat) (a0_0 a0_1 a1:List T):callK prog A H LIM n F.q0i [(.agg [(.sl 1 a0_0),(.sl 1 a0_1)]),(.sl 1 a1)]=(q0i.at0 n n (q0i.st0 a1 ((((a1).length / 1):Nat):Int) (0:Int) a0_0 a0_1 [])):=by kernel_rfl
def q0s.st0 (x0:Int) (x1:List T) (x2:Int) (x3 x4:List T):St:=⟨[(0,(.one (.ptr 1000000 0))),(1,oi x0),(2,ol 1 x1),(6,oi x2)],[(1000000,(.box [(.obj 1000001),(.obj 1000002)])),(1000001,(.arr true true 1 x3)),(1000002,(.arr true true 1 x4))]⟩
noncomputable def q0s.K0 (n:Nat):Ex→St→R:=kx F.q0s n [.block 0,.seq 0 (cx F.q0s [1,1])] (endOf prog A F.q0s)
noncomputable def q0s.at0 (n:Nat) (m:Nat) (s:St):R:=lx F.q0s n 0 [1,0,0,0] (q0s.K0 n) m s
noncomputable def q0s.rd0 (n:Nat) (L0:St→R) (s:St):R:=rx F.q0s n 0 [1,0,0,0] (q0s.K0 n) L0 s
theorem q0s.next0 (n:Nat) (m:Nat) (s:St):q0s.at0 n (m+1) s=q0s.rd0 n (q0s.at0 n m) s:=nx _ _ _ _ _ _ _
theorem q0s.round0 (n:Nat) (L0:St→R) (x0:Int) (x1:List T) (x2:Int) (x3 x4:List T):q0s.rd0 n L0 (q0s.st0 x0 x1 x2 x3 x4)=(bif (decide (x2 < ((((x3).length / 1):Nat):Int))) then (bif inB x2 ((x3).length / 1) then ((x3[((Int.toNat x2)*1)]?).bind fun e1=>((oInt .i64 e1).bind fun n2=>(bif (decide (n2 < x0)) then (L0 (q0s.st0 x0 x1 (IntKind.wrap .i64 (x2+(1:Int))) x3 x4)) else ((LIM F.q4v [(.sl 1 x3),(.int .i64 x2),(.sl 1 [(.int .i64 x0)])]).bind fun r3=>((oNil r3.2).bind fun _=>((oSl 1 r3.1).bind fun c4=>((LIM F.q2y [(.sl 1 x1)]).bind fun r5=>((oNil r5.2).bind fun _=>((oSl 1 r5.1).bind fun c6=>((LIM F.q4n [(.sl 1 x4),(.int .i64 x2),(.sl 1 [(.sl 1 c6)])]).bind fun r7=>((oNil r7.2).bind fun _=>((oSl 1 r7.1).bind fun c8=>some ((.tup []),[(.agg [(.sl 1 c4),(.sl 1 c8)])]))))))))))))) else none) else ((LIM F.q4v [(.sl 1 x3),(.int .i64 x2),(.sl 1 [(.int .i64 x0)])]).bind fun r9=>((oNil r9.2).bind fun _=>((oSl 1 r9.1).bind fun c10=>((LIM F.q2y [(.sl 1 x1)]).bind fun r11=>((oNil r11.2).bind fun _=>((oSl 1 r11.1).bind fun c12=>((LIM F.q4n [(.sl 1 x4),(.int .i64 x2),(.sl 1 [(.sl 1 c12)])]).bind fun r13=>((oNil r13.2).bind fun _=>((oSl 1 r13.1).bind fun c14=>some ((.tup []),[(.agg [(.sl 1 c10),(.sl 1 c14)])]))))))))))):=by kernel_rfl
theorem q0s.ev (n:Nat) (a0_0 a0_1:List T) (a1:Int) (a2:List T):callK prog A H LIM n F.q0s [(.rref [(.sl 1 a0_0),(.sl 1 a0_1)] 0),(.int .i64 a1),(.sl 1 a2)]=(q0s.at0 n n (q0s.st0 a1 a2 (0:Int) a0_0 a0_1)):=by kernel_rfl
theorem q43.ev (n:Nat) (a0_0 a0_1:List T) (a1:Int):callK prog A H LIM n F.q43 [(.agg [(.sl 1 a0_0),(.sl 1 a0_1)]),(.int .i64 a1)]=((LIM F.q0d [(.sl 1 a0_0),(.int .i64 a1)]).bind fun r1=>((oNil r1.2).bind fun _=>((oInt .i64 r1.1).bind fun n2=>(bif (decide (n2 < (0:Int))) then some ((.tup [(.sl 1 []),(.bool false)]),[]) else (bif inB n2 ((a0_1).length / 1) then ((a0_1[((Int.toNat n2)*1)]?).bind fun e3=>((oSl 1 e3).bind fun c4=>some ((.tup [(.sl 1 c4),(.bool true)]),[]))) else none))))):=by kernel_rfl
theorem q3u.ev (n:Nat) (a0_0 a1 a2 a3:List T):callK prog A H LIM n F.q3u [(.agg [(.sl 2 a0_0)]),(.sl 1 a1),(.sl 1 a2),(.sl 1 a3)]=((LIM F.q11 [(.agg [(.sl 2 a0_0)]),(.sl 1 a1)]).bind fun r1=>((oNil r1.2).bind fun _=>((oInt .i64 r1.1).bind fun n2=>((LIM F.q2x [(.agg [(.sl 2 a0_0)]),(.sl 1 a2)]).bind fun r3=>((oNil r3.2).bind fun _=>((oInt .i64 r3.1).bind fun n4=>((LIM F.q2x [(.agg [(.sl 2 a0_0)]),(.sl 1 a3)]).bind fun r5=>((oNil r5.2).bind fun _=>((oInt .i64 r5.1).bind fun n6=>((LIM F.q3z [(.sl 1 [(.int .i64 n2),(.int .i64 n4),(.int .i64 n6)])]).bind fun r7=>((oNil r7.2).bind fun _=>((oInt .i64 r7.1).bind fun n8=>(bif ((n8 != (0:Int))) then some ((.agg [(.int .i64 n8),(.int .i64 (0:Int))]),[]) else ((LIM F.q49 [(.agg [(.sl 2 a0_0)]),(.sl 1 a1),(.sl 1 a2),(.sl 1 a3)]).bind fun r9=>((oNil r9.2).bind fun _=>((oInt .i64 r9.1).bind fun n10=>some ((.agg [(.int .i64 (0:Int)),(.int .i64 n10)]),[]))))))))))))))))):=by kernel_rfl
theorem q42.ev (n:Nat) (a0_0 a1_0 a1_1:List T):callK prog A H LIM n F.q42 [(.agg [(.sl 2 a0_0)]),(.agg [(.sl 1 a1_0),(.sl 1 a1_1)])]=((LIM F.q2x [(.agg [(.sl 2 a0_0)]),(.sl 1 a1_0)]).bind fun r1=>((oNil r1.2).bind fun _=>((oInt .i64 r1.1).bind fun n2=>((LIM F.q2x [(.agg [(.sl 2 a0_0)]),(.sl 1 a1_1)]).bind fun r3=>((oNil r3.2).bind fun _=>((oInt .i64 r3.1).bind fun n4=>((LIM F.q3z [(.sl 1 [(.int .i64 n2),(.int .i64 n4)])]).bind fun r5=>((oNil r5.2).bind fun _=>((oInt .i64 r5.1).bind fun n6=>(bif ((n6 != (0:Int))) then some ((.int .i64 n6),[]) else ((LIM F.q0m [(.sl 1 [(.sl 1 a1_0),(.sl 1 a1_1)])]).bind fun r7=>((oNil r7.2).bind fun _=>((oSl 1 r7.1).bind fun c8=>((LIM F.q1w [(.sl 1 c8),(.clo F.q2b [])]).bind fun r9=>((oNil r9.2).bind fun _=>((oBool r9.1).bind fun b10=>(bif b10 then some ((.int .i64 (3:Int)),[]) else some ((.int .i64 (0:Int)),[])))))))))))))))))):=by kernel_rfl
theorem q2b.ev (n:Nat) (a0:Int):callK prog A H LIM n F.q2b [(.int .i64 a0)]=some ((.bool (decide (a0 ≥ (6:Int)))),[]):=by kernel_rfl
def q0n.st0 (x0:List T) (x1 x2:Int) (x3:List T):St:=⟨[(2,(.one (.ptr 128 0))),(17,ol 2 x0),(18,oi x1),(19,oi x2)],[(128,(.box [(.t (.sl 2 x3))]))]⟩
noncomputable def q0n.K0 (n:Nat):Ex→St→R:=kx F.q0n n [.block 0,.seq 0 (cx F.q0n [1,1,1,1])] (endOf prog A F.q0n)
noncomputable def q0n.at0 (n:Nat) (m:Nat) (s:St):R:=lx F.q0n n 0 [1,1,1,0,1,0,0] (q0n.K0 n) m s
noncomputable def q0n.rd0 (n:Nat) (L0:St→R) (s:St):R:=rx F.q0n n 0 [1,1,1,0,1,0,0] (q0n.K0 n) L0 s
theorem q0n.next0 (n:Nat) (m:Nat) (s:St):q0n.at0 n (m+1) s=q0n.rd0 n (q0n.at0 n m) s:=nx _ _ _ _ _ _ _
theorem q0n.round0 (n:Nat) (L0:St→R) (x0:List T) (x1 x2:Int) (x3:List T):q0n.rd0 n L0 (q0n.st0 x0 x1 x2 x3)=(bif (decide (x2 < x1)) then (bif inB x2 ((x0).length / 2) then ((x0[((Int.toNat x2)*2)]?).bind fun e3=>((oSl 1 e3).bind fun c4=>((x0[(((Int.toNat x2)*2)+1)]?).bind fun e5=>((oSl 1 e5).bind fun c6=>((LIM F.q42 [(.agg [(.sl 2 x3)]),(.agg [(.sl 1 c4),(.sl 1 c6)])]).bind fun r7=>((oNil r7.2).bind fun _=>((oInt .i64 r7.1).bind fun n8=>(bif ((n8 != (0:Int))) then some ((.int .i64 n8),[]) else (L0 (q0n.st0 x0 x1 (IntKind.wrap .i64 (x2+(1:Int))) x3)))))))))) else none) else some ((.int .i64 (0:Int)),[])):=by kernel_rfl
theorem q0n.ev (n:Nat) (a0_0 a1:List T):callK prog A H LIM n F.q0n [(.agg [(.sl 2 a0_0)]),(.sl 2 a1)]=((LIM F.q04 [(.agg [(.sl 2 a0_0)])]).bind fun r1=>((oNil r1.2).bind fun _=>((oInt .i64 r1.1).bind fun n2=>(bif ((n2 != (0:Int))) then some ((.int .i64 n2),[]) else (bif (decide (((((a1).length / 2):Nat):Int) > (12:Int))) then some ((.int .i64 (2:Int)),[]) else (q0n.at0 n n (q0n.st0 a1 ((((a1).length / 2):Nat):Int) (0:Int) a0_0))))))):=by kernel_rfl
theorem q40.ev (n:Nat) (a0_0 a1 a2:List T):callK prog A H LIM n F.q40 [(.agg [(.sl 2 a0_0)]),(.sl 2 a1),(.sl 1 a2)]=((LIM F.q32 [(.agg [(.sl 2 a0_0)]),(.sl 2 a1),(.sl 1 a2)]).bind fun r1=>((oNil r1.2).bind fun _=>((oInt .i64 r1.1).bind fun n2=>(bif ((n2 != (0:Int))) then some ((.agg [(.int .i64 n2),(.int .i64 (0:Int)),(.int .i64 (0:Int))]),[]) else ((LIM F.q0o [(.agg [(.sl 2 a0_0)]),(.sl 2 a1),(.sl 1 a2)]).bind fun r3=>((oNil r3.2).bind fun _=>((oTup r3.1).bind fun c4=>((oCons c4).bind fun p5=>((oInt .i64 p5.1).bind fun n6=>((oCons p5.2).bind fun p7=>((oInt .i64 p7.1).bind fun n8=>((oCons p7.2).bind fun p9=>((oBool p9.1).bind fun b10=>((oNil p9.2).bind fun _=>(bif (!b10) then some ((.agg [(.int .i64 (4:Int)),(.int .i64 (0:Int)),(.int .i64 (0:Int))]),[]) else some ((.agg [(.int .i64 (0:Int)),(.int .i64 n6),(.int .i64 n8)]),[])))))))))))))))):=by kernel_rfl
theorem q2t.ev (n:Nat) (a0_0 a1 a2:List T) (a3:Int):callK prog A H LIM n F.q2t [(.agg [(.sl 2 a0_0)]),(.sl 2 a1),(.sl 1 a2),(.int .i64 a3)]=((LIM F.q32 [(.agg [(.sl 2 a0_0)]),(.sl 2 a1),(.sl 1 a2)]).bind fun r1=>((oNil r1.2).bind fun _=>((oInt .i64 r1.1).bind fun n2=>(bif ((n2 != (0:Int))) then some ((.agg [(.int .i64 n2),(.sl 1 []),(.int .i64 (0:Int))]),[]) else ((LIM F.q3i [(.int .i64 a3),(.int .i64 (0:Int)),(.int .i64 (200:Int))]).bind fun r3=>((oNil r3.2).bind fun _=>((oBool r3.1).bind fun b4=>(bif (!b4) then some ((.agg [(.int .i64 (3:Int)),(.sl 1 []),(.int .i64 (0:Int))]),[]) else ((LIM F.q0x [(.agg [(.sl 2 a0_0)]),(.sl 2 a1),(.sl 1 a2),(.int .i64 a3)]).bind fun r5=>((oNil r5.2).bind fun _=>((oAgg r5.1).bind fun c6=>((oCons c6).bind fun p7=>((oInt .i64 p7.1).bind fun n8=>((oCons p7.2).bind fun p9=>((oSl 1 p9.1).bind fun c10=>((oCons p9.2).bind fun p11=>((oInt .i64 p11.1).bind fun n12=>((oNil p11.2).bind fun _=>some ((.agg [(.int .i64 n8),(.sl 1 c10),(.int .i64 n12)]),[]))))))))))))))))))):=by kernel_rfl
def q11.st0 (x0 x1:List T) (x2 x3:Int):St:=⟨[(1,ol 1 x0),(22,ol 1 x1),(23,oi x2),(24,oi x3)],[]⟩
noncomputable def q11.K0 (n:Nat):Ex→St→R:=kx F.q11 n [.block 0,.seq 0 (cx F.q11 [1,1,1,1,1])] (endOf prog A F.q11)
noncomputable def q11.at0 (n:Nat) (m:Nat) (s:St):R:=lx F.q11 n 0 [1,1,1,1,0,1,0,0] (q11.K0 n) m s
noncomputable def q11.rd0 (n:Nat) (L0:St→R) (s:St):R:=rx F.q11 n 0 [1,1,1,1,0,1,0,0] (q11.K0 n) L0 s
theorem q11.next0 (n:Nat) (m:Nat) (s:St):q11.at0 n (m+1) s=q11.rd0 n (q11.at0 n m) s:=nx _ _ _ _ _ _ _
theorem q11.round0 (n:Nat) (L0:St→R) (x0 x1:List T) (x2 x3:Int):q11.rd0 n L0 (q11.st0 x0 x1 x2 x3)=(bif (decide (x3 < x2)) then (bif inB x3 ((x1).length / 1) then ((x1[((Int.toNat x3)*1)]?).bind fun e5=>((oInt .i64 e5).bind fun n6=>(bif decide (0≤(0:Int))&&decide ((0:Int)≤x3)&&decide (x3≤((((x0).length / 1):Nat):Int)) then ((LIM F.q2a [(.sl 1 ((x0.take ((Int.toNat x3)*1)).drop (0*1))),(.int .i64 n6)]).bind fun r7=>((oNil r7.2).bind fun _=>((oBool r7.1).bind fun b8=>(bif b8 then some ((.int .i64 (6:Int)),[]) else (L0 (q11.st0 x0 x1 x2 (IntKind.wrap .i64 (x3+(1:Int))))))))) else none))) else none) else some ((.int .i64 (0:Int)),[])):=by kernel_rfl
theorem q11.ev (n:Nat) (a0_0 a1:List T):callK prog A H LIM n F.q11 [(.agg [(.sl 2 a0_0)]),(.sl 1 a1)]=((LIM F.q04 [(.agg [(.sl 2 a0_0)])]).bind fun r1=>((oNil r1.2).bind fun _=>((oInt .i64 r1.1).bind fun n2=>(bif ((n2 != (0:Int))) then some ((.int .i64 n2),[]) else (bif ((((((a1).length / 1):Nat):Int) != ((((a0_0).length / 2):Nat):Int))) then some ((.int .i64 (2:Int)),[]) else ((LIM F.q1w [(.sl 1 a1),(.clo F.q2r [(.rref [(.sl 2 a0_0)] 0)])]).bind fun r3=>((oNil r3.2).bind fun _=>((oBool r3.1).bind fun b4=>(bif b4 then some ((.int .i64 (3:Int)),[]) else (q11.at0 n n (q11.st0 a1 a1 ((((a1).length / 1):Nat):Int) (0:Int)))))))))))):=by kernel_rfl
theorem q2r.ev (n:Nat) (a0:Int) (a1_0:List T):callK prog A H LIM n F.q2r [(.int .i64 a0),(.rref [(.sl 2 a1_0)] 0)]=((LIM F.q4i [(.agg [(.sl 2 a1_0)]),(.int .i64 a0)]).bind fun r1=>((oNil r1.2).bind fun _=>((oBool r1.1).bind fun b2=>some ((.bool (!b2)),[])))):=by kernel_rfl
theorem q4b.ev (n:Nat) (a0_0 a1:List T) (a2 a3:Int) (a4:List T):callK prog A H LIM n F.q4b [(.agg [(.sl 2 a0_0)]),(.sl 2 a1),(.int .i64 a2),(.int .i64 a3),(.sl 1 a4)]=((LIM F.q32 [(.agg [(.sl 2 a0_0)]),(.sl 2 a1),(.sl 1 a4)]).bind fun r1=>((oNil r1.2).bind fun _=>((oInt .i64 r1.1).bind fun n2=>(bif ((n2 != (0:Int))) then some ((.agg [(.int .i64 n2),(.sl 1 [])]),[]) else ((LIM F.q3i [(.int .i64 a2),(.int .i64 (0:Int)),(.int .i64 (IntKind.wrap .i64 (((((a1).length / 2):Nat):Int) - (1:Int))))]).bind fun r3=>((oNil r3.2).bind fun _=>((oBool r3.1).bind fun b4=>(bif (!b4) then some ((.agg [(.int .i64 (3:Int)),(.sl 1 [])]),[]) else ((LIM F.q3i [(.int .i64 a3),(.int .i64 (0:Int)),(.int .i64 (IntKind.wrap .i64 (((((a4).length / 1):Nat):Int) - (1:Int))))]).bind fun r5=>((oNil r5.2).bind fun _=>((oBool r5.1).bind fun b6=>(bif (!b6) then some ((.agg [(.int .i64 (3:Int)),(.sl 1 [])]),[]) else (bif inB a2 ((a1).length / 2) then ((a1[((Int.toNat a2)*2)]?).bind fun e7=>((oSl 1 e7).bind fun c8=>((a1[(((Int.toNat a2)*2)+1)]?).bind fun e9=>((oSl 1 e9).bind fun c10=>((LIM F.q4e [(.agg [(.sl 2 a0_0)]),(.agg [(.sl 1 c8),(.sl 1 c10)]),(.sl 1 a4),(.int .i64 a3)]).bind fun r11=>((oNil r11.2).bind fun _=>((oAgg r11.1).bind fun c12=>((oCons c12).bind fun p13=>((oInt .i64 p13.1).bind fun n14=>((oCons p13.2).bind fun p15=>((oSl 1 p15.1).bind fun c16=>((oNil p15.2).bind fun _=>some ((.agg [(.int .i64 n14),(.sl 1 c16)]),[]))))))))))))) else none))))))))))))):=by kernel_rfl
theorem q58.ev (n:Nat) (a0_0 a1:List T):callK prog A H LIM n F.q58 [(.agg [(.sl 2 a0_0)]),(.sl 2 a1)]=((LIM F.q0n [(.agg [(.sl 2 a0_0)]),(.sl 2 a1)]).bind fun r1=>((oNil r1.2).bind fun _=>((oInt .i64 r1.1).bind fun n2=>(bif ((n2 != (0:Int))) then some ((.int .i64 n2),[]) else ((LIM F.q4s [(.sl 2 a1),(.clo F.q2q [])]).bind fun r3=>((oNil r3.2).bind fun _=>((oBool r3.1).bind fun b4=>(bif b4 then some ((.int .i64 (1:Int)),[]) else some ((.int .i64 (0:Int)),[]))))))))):=by kernel_rfl
theorem q2q.ev (n:Nat) (a0_0 a0_1:List T):callK prog A H LIM n F.q2q [(.agg [(.sl 1 a0_0),(.sl 1 a0_1)])]=((LIM F.q6u [(.agg [(.sl 1 a0_0),(.sl 1 a0_1)])]).bind fun r1=>((oNil r1.2).bind fun _=>((oBool r1.1).bind fun b2=>some ((.bool (!b2)),[])))):=by kernel_rfl
def q04.st2 (x0:List T) (x1 x2:Int) (x3:List T):St:=⟨[(1,(.one (.ptr 64 0))),(34,ol 2 x0),(35,oi x1),(36,oi x2)],[(64,(.box [(.t (.sl 2 x3))]))]⟩
def q04.st0 (x0:List T) (x1 x2:Int) (x3:List T):St:=⟨[(1,(.one (.ptr 64 0))),(18,ol 2 x0),(19,oi x1),(20,oi x2)],[(64,(.box [(.t (.sl 2 x3))]))]⟩
noncomputable def q04.K0 (n:Nat):Ex→St→R:=kx F.q04 n [.block 0,.seq 0 (cx F.q04 [1,1,1])] (endOf prog A F.q04)
noncomputable def q04.at0 (n:Nat) (m:Nat) (s:St):R:=lx F.q04 n 0 [1,1,0,1,0,0] (q04.K0 n) m s
noncomputable def q04.rd0 (n:Nat) (L0:St→R) (s:St):R:=rx F.q04 n 0 [1,1,0,1,0,0] (q04.K0 n) L0 s
theorem q04.next0 (n:Nat) (m:Nat) (s:St):q04.at0 n (m+1) s=q04.rd0 n (q04.at0 n m) s:=nx _ _ _ _ _ _ _
noncomputable def q04.K2 (n:Nat):Ex→St→R:=kx F.q04 n [.block 2,.seq 0 (cx F.q04 [1,1,1,1])] (endOf prog A F.q04)
noncomputable def q04.at2 (n:Nat) (m:Nat) (s:St):R:=lx F.q04 n 2 [1,1,1,0,1,0,0] (q04.K2 n) m s
noncomputable def q04.rd2 (n:Nat) (L2:St→R) (s:St):R:=rx F.q04 n 2 [1,1,1,0,1,0,0] (q04.K2 n) L2 s
theorem q04.next2 (n:Nat) (m:Nat) (s:St):q04.at2 n (m+1) s=q04.rd2 n (q04.at2 n m) s:=nx _ _ _ _ _ _ _
theorem q04.round0 (n:Nat) (L0:St→R) (x0:List T) (x1 x2:Int) (x3:List T):q04.rd0 n L0 (q04.st0 x0 x1 x2 x3)=(bif (decide (x2 < x1)) then (bif inB x2 ((x0).length / 2) then ((x0[((Int.toNat x2)*2)]?).bind fun e1=>((oStr e1).bind fun s2=>((x0[(((Int.toNat x2)*2)+1)]?).bind fun e3=>((oInt .i64 e3).bind fun n4=>((LIM F.q6w [(.str s2)]).bind fun r5=>((oNil r5.2).bind fun _=>((oBool r5.1).bind fun b6=>(bif (!b6) then some ((.int .i64 (5:Int)),[]) else ((LIM F.q3i [(.int .i64 n4),(.int .i64 (0:Int)),(.int .i64 (2:Int))]).bind fun r7=>((oNil r7.2).bind fun _=>((oBool r7.1).bind fun b8=>(bif (!b8) then some ((.int .i64 (3:Int)),[]) else (L0 (q04.st0 x0 x1 (IntKind.wrap .i64 (x2+(1:Int))) x3)))))))))))))) else none) else (q04.at2 n n (q04.st2 x3 ((((x3).length / 2):Nat):Int) (0:Int) x3))):=by kernel_rfl
theorem q04.round2 (n:Nat) (L2:St→R) (x0:List T) (x1 x2:Int) (x3:List T):q04.rd2 n L2 (q04.st2 x0 x1 x2 x3)=(bif (decide (x2 < x1)) then (bif inB x2 ((x0).length / 2) then ((x0[((Int.toNat x2)*2)]?).bind fun e9=>((oStr e9).bind fun s10=>((x0[(((Int.toNat x2)*2)+1)]?).bind fun e11=>((oInt .i64 e11).bind fun n12=>((LIM F.q4t [(.agg [(.sl 2 x3)]),(.str s10)]).bind fun r13=>((oNil r13.2).bind fun _=>((oInt .i64 r13.1).bind fun n14=>(bif ((n14 != x2)) then some ((.int .i64 (6:Int)),[]) else (L2 (q04.st2 x0 x1 (IntKind.wrap .i64 (x2+(1:Int))) x3)))))))))) else none) else ((LIM F.q5a [(.sl 2 x3),(.clo F.q28 [])]).bind fun r15=>((oNil r15.2).bind fun _=>((oBool r15.1).bind fun b16=>(bif (!b16) then some ((.int .i64 (4:Int)),[]) else some ((.int .i64 (0:Int)),[])))))):=by kernel_rfl
theorem q04.ev (n:Nat) (a0_0:List T):callK prog A H LIM n F.q04 [(.agg [(.sl 2 a0_0)])]=(bif (decide (((((a0_0).length / 2):Nat):Int) < (1:Int))) then some ((.int .i64 (2:Int)),[]) else (bif (decide (((((a0_0).length / 2):Nat):Int) > (6:Int))) then some ((.int .i64 (2:Int)),[]) else (q04.at0 n n (q04.st0 a0_0 ((((a0_0).length / 2):Nat):Int) (0:Int) a0_0)))):=by kernel_rfl
theorem q28.ev (n:Nat) (a0_0:ByteArray) (a0_1:Int):callK prog A H LIM n F.q28 [(.agg [(.str a0_0),(.int .i64 a0_1)])]=some ((.bool ((a0_1 == (0:Int)))),[]):=by kernel_rfl
theorem q2x.ev (n:Nat) (a0_0 a1:List T):callK prog A H LIM n F.q2x [(.agg [(.sl 2 a0_0)]),(.sl 1 a1)]=((LIM F.q04 [(.agg [(.sl 2 a0_0)])]).bind fun r1=>((oNil r1.2).bind fun _=>((oInt .i64 r1.1).bind fun n2=>(bif ((n2 != (0:Int))) then some ((.int .i64 n2),[]) else (bif (decide (((((a1).length / 1):Nat):Int) < (1:Int))) then some ((.int .i64 (2:Int)),[]) else (bif (decide (((((a1).length / 1):Nat):Int) > (24:Int))) then some ((.int .i64 (2:Int)),[]) else ((LIM F.q1w [(.sl 1 a1),(.clo F.q31 [(.rref [(.sl 2 a0_0)] 0)])]).bind fun r3=>((oNil r3.2).bind fun _=>((oBool r3.1).bind fun b4=>(bif b4 then some ((.int .i64 (3:Int)),[]) else ((LIM F.q20 [(.agg [(.sl 2 a0_0)]),(.sl 1 a1),(.int .i64 (0:Int))]).bind fun r5=>((oNil r5.2).bind fun _=>((oInt .i64 r5.1).bind fun n6=>(bif ((n6 != ((((a1).length / 1):Nat):Int))) then some ((.int .i64 (1:Int)),[]) else some ((.int .i64 (0:Int)),[]))))))))))))))):=by kernel_rfl
theorem q31.ev (n:Nat) (a0:Int) (a1_0:List T):callK prog A H LIM n F.q31 [(.int .i64 a0),(.rref [(.sl 2 a1_0)] 0)]=((LIM F.q6z [(.agg [(.sl 2 a1_0)]),(.int .i64 a0)]).bind fun r1=>((oNil r1.2).bind fun _=>((oBool r1.1).bind fun b2=>some ((.bool (!b2)),[])))):=by kernel_rfl
def q0w.st0 (x0:List T) (x1 x2 x3:Int) (x4 x5:List T):St:=⟨[(1,ol 1 x0),(3,(.one (.ptr 192 0))),(7,(.one (.obj 576))),(8,oi x1),(17,oi x2),(18,oi x3)],[(192,(.box [(.t (.sl 2 x4))])),(576,(.arr true true 1 x5))]⟩
noncomputable def q0w.K0 (n:Nat):Ex→St→R:=kx F.q0w n [.block 0,.seq 0 (cx F.q0w [1,1,1,1])] (endOf prog A F.q0w)
noncomputable def q0w.at0 (n:Nat) (m:Nat) (s:St):R:=lx F.q0w n 0 [1,1,1,0,1,0,0] (q0w.K0 n) m s
noncomputable def q0w.rd0 (n:Nat) (L0:St→R) (s:St):R:=rx F.q0w n 0 [1,1,1,0,1,0,0] (q0w.K0 n) L0 s
theorem q0w.next0 (n:Nat) (m:Nat) (s:St):q0w.at0 n (m+1) s=q0w.rd0 n (q0w.at0 n m) s:=nx _ _ _ _ _ _ _
theorem q0w.round0 (n:Nat) (L0:St→R) (x0:List T) (x1 x2 x3:Int) (x4 x5:List T):q0w.rd0 n L0 (q0w.st0 x0 x1 x2 x3 x4 x5)=(bif (decide (x3 < x2)) then (bif Nat.ble (((x5).length+1)*8) (140737488355328*1) then ((LIM F.q20 [(.agg [(.sl 2 x4)]),(.sl 1 x0),(.int .i64 x1)]).bind fun r5=>((oNil r5.2).bind fun _=>((oInt .i64 r5.1).bind fun n6=>(L0 (q0w.st0 x0 n6 x2 (IntKind.wrap .i64 (x3+(1:Int))) x4 (x5++[(.int .i64 x1)]:List T)))))) else none) else some ((.sl 1 x5),[])):=by kernel_rfl
theorem q0w.ev (n:Nat) (a0_0 a1:List T) (a2:Int):callK prog A H LIM n F.q0w [(.agg [(.sl 2 a0_0)]),(.sl 1 a1),(.int .i64 a2)]=(bif inB a2 ((a1).length / 1) then ((a1[((Int.toNat a2)*1)]?).bind fun e1=>((oInt .i64 e1).bind fun n2=>((LIM F.q5l [(.agg [(.sl 2 a0_0)]),(.int .i64 n2)]).bind fun r3=>((oNil r3.2).bind fun _=>((oInt .i64 r3.1).bind fun n4=>(q0w.at0 n n (q0w.st0 a1 (IntKind.wrap .i64 (a2+(1:Int))) n4 (0:Int) a0_0 []))))))) else none):=by kernel_rfl
theorem q5l.ev (n:Nat) (a0_0:List T) (a1:Int):callK prog A H LIM n F.q5l [(.agg [(.sl 2 a0_0)]),(.int .i64 a1)]=(bif (decide (a1 < (0:Int))) then some ((.int .i64 (0:Int)),[]) else (bif inB a1 ((a0_0).length / 2) then ((a0_0[(((Int.toNat a1)*2)+1)]?).bind fun e1=>((oInt .i64 e1).bind fun n2=>some ((.int .i64 n2),[]))) else none)):=by kernel_rfl
theorem q49.ev (n:Nat) (a0_0 a1 a2 a3:List T):callK prog A H LIM n F.q49 [(.agg [(.sl 2 a0_0)]),(.sl 1 a1),(.sl 1 a2),(.sl 1 a3)]=((LIM F.q0h [(.sl 1 a2),(.sl 1 a3)]).bind fun r1=>((oNil r1.2).bind fun _=>((oBool r1.1).bind fun b2=>(bif b2 then some ((.int .i64 (3:Int)),[]) else ((LIM F.q4h [(.agg [(.sl 2 a0_0)]),(.sl 1 a1),(.sl 1 a2),(.sl 1 a3)]).bind fun r3=>((oNil r3.2).bind fun _=>((oBool r3.1).bind fun b4=>(bif b4 then some ((.int .i64 (1:Int)),[]) else ((LIM F.q4h [(.agg [(.sl 2 a0_0)]),(.sl 1 a1),(.sl 1 a3),(.sl 1 a2)]).bind fun r5=>((oNil r5.2).bind fun _=>((oBool r5.1).bind fun b6=>(bif b6 then some ((.int .i64 (2:Int)),[]) else some ((.int .i64 (0:Int)),[]))))))))))))):=by kernel_rfl
theorem q2i.ev (n:Nat) (a0_0 a0_1 a0_2 a0_3:List T) (a0_4:List (Int × Int × Bool)) (a1 a2:Int):callK prog A H LIM n F.q2i [(.rref [(.sl 2 a0_0),(.sl 1 a0_1),(.sl 1 a0_2),(.sl 1 a0_3),(.mp a0_4)] 0),(.int .i64 a1),(.int .i64 a2)]=(bif (q7l a0_4 a1 a2).isSome then some ((.bool ((q7l a0_4 a1 a2).getD false)),[(.agg [(.sl 2 a0_0),(.sl 1 a0_1),(.sl 1 a0_2),(.sl 1 a0_3),(.mp a0_4)])]) else ((LIM F.q00 [(.rref [(.sl 2 a0_0),(.sl 1 a0_1),(.sl 1 a0_2),(.sl 1 a0_3),(.mp a0_4)] 0),(.int .i64 a1),(.int .i64 a2)]).bind fun r1=>((oCons r1.2).bind fun p2=>((oNil p2.2).bind fun _=>((oAgg p2.1).bind fun c3=>((oCons c3).bind fun p4=>((oSl 2 p4.1).bind fun c5=>((oCons p4.2).bind fun p6=>((oSl 1 p6.1).bind fun c7=>((oCons p6.2).bind fun p8=>((oSl 1 p8.1).bind fun c9=>((oCons p8.2).bind fun p10=>((oSl 1 p10.1).bind fun c11=>((oCons p10.2).bind fun p12=>(bif (p12.1).isMp then ((oNil p12.2).bind fun _=>((oBool r1.1).bind fun b13=>some ((.bool b13),[(.agg [(.sl 2 c5),(.sl 1 c7),(.sl 1 c9),(.sl 1 c11),(.mp (mpPut ((p12.1).mpL) a1 a2 b13))])]))) else none))))))))))))))):=by kernel_rfl
def q00.st4 (x0 x1:Int) (x2 x3 x4 x5:List T) (x6:List (Int × Int × Bool)) (x7 x8:List T):St:=⟨[(0,(.one (.ptr 1000000 0))),(10,(.one (.obj 4544))),(118,(.one (.obj 3904))),(119,oi x0),(120,oi x1)],[(1000000,(.box [(.t (.sl 2 x2)),(.t (.sl 1 x3)),(.t (.sl 1 x4)),(.t (.sl 1 x5)),(.obj 1000005)])),(1000005,(.mp x6)),(3904,(.arr true true 1 x7)),(4544,(.arr true true 1 x8))]⟩
def q00.st2 (x0 x1 x2 x3:Int) (x4 x5 x6 x7:List T) (x8:List (Int × Int × Bool)) (x9 x10:List T):St:=⟨[(0,(.one (.ptr 1000000 0))),(1,oi x0),(9,(.one (.obj 3904))),(10,(.one (.obj 4544))),(13,oi x1),(104,(.one (.obj 4544))),(105,oi x2),(106,oi x3)],[(1000000,(.box [(.t (.sl 2 x4)),(.t (.sl 1 x5)),(.t (.sl 1 x6)),(.t (.sl 1 x7)),(.obj 1000005)])),(1000005,(.mp x8)),(3904,(.arr true true 1 x9)),(4544,(.arr true true 1 x10))]⟩
def q00.st0 (x0 x1 x2 x3 x4 x5:Int) (x6 x7 x8 x9:List T) (x10:List (Int × Int × Bool)) (x11 x12:List T):St:=⟨[(0,(.one (.ptr 1000000 0))),(1,oi x0),(2,oi x1),(7,oi x2),(8,oi x3),(9,(.one (.obj 3904))),(10,(.one (.obj 4544))),(72,(.one (.obj 3904))),(73,oi x4),(74,oi x5)],[(1000000,(.box [(.t (.sl 2 x6)),(.t (.sl 1 x7)),(.t (.sl 1 x8)),(.t (.sl 1 x9)),(.obj 1000005)])),(1000005,(.mp x10)),(3904,(.arr true true 1 x11)),(4544,(.arr true true 1 x12))]⟩
noncomputable def q00.K0 (n:Nat):Ex→St→R:=kx F.q00 n [.block 0,.seq 0 (cx F.q00 [1,1,1,1,1,1])] (endOf prog A F.q00)
noncomputable def q00.at0 (n:Nat) (m:Nat) (s:St):R:=lx F.q00 n 0 [1,1,1,1,1,0,1,0,0] (q00.K0 n) m s
noncomputable def q00.rd0 (n:Nat) (L0:St→R) (s:St):R:=rx F.q00 n 0 [1,1,1,1,1,0,1,0,0] (q00.K0 n) L0 s
theorem q00.next0 (n:Nat) (m:Nat) (s:St):q00.at0 n (m+1) s=q00.rd0 n (q00.at0 n m) s:=nx _ _ _ _ _ _ _
noncomputable def q00.K2 (n:Nat):Ex→St→R:=kx F.q00 n [.block 2,.seq 0 (cx F.q00 [1,1,1,1,1,1,1,1,1])] (endOf prog A F.q00)
noncomputable def q00.at2 (n:Nat) (m:Nat) (s:St):R:=lx F.q00 n 2 [1,1,1,1,1,1,1,1,0,1,0,0] (q00.K2 n) m s
noncomputable def q00.rd2 (n:Nat) (L2:St→R) (s:St):R:=rx F.q00 n 2 [1,1,1,1,1,1,1,1,0,1,0,0] (q00.K2 n) L2 s
theorem q00.next2 (n:Nat) (m:Nat) (s:St):q00.at2 n (m+1) s=q00.rd2 n (q00.at2 n m) s:=nx _ _ _ _ _ _ _
noncomputable def q00.K4 (n:Nat):Ex→St→R:=kx F.q00 n [.block 4,.seq 0 (cx F.q00 [1,1,1,1,1,1,1,1,1,1,1])] (endOf prog A F.q00)
noncomputable def q00.at4 (n:Nat) (m:Nat) (s:St):R:=lx F.q00 n 4 [1,1,1,1,1,1,1,1,1,1,0,1,0,0] (q00.K4 n) m s
noncomputable def q00.rd4 (n:Nat) (L4:St→R) (s:St):R:=rx F.q00 n 4 [1,1,1,1,1,1,1,1,1,1,0,1,0,0] (q00.K4 n) L4 s
theorem q00.next4 (n:Nat) (m:Nat) (s:St):q00.at4 n (m+1) s=q00.rd4 n (q00.at4 n m) s:=nx _ _ _ _ _ _ _
theorem q00.round0 (n:Nat) (L0:St→R) (x0 x1 x2 x3 x4 x5:Int) (x6 x7 x8 x9:List T) (x10:List (Int × Int × Bool)) (x11 x12:List T):q00.rd0 n L0 (q00.st0 x0 x1 x2 x3 x4 x5 x6 x7 x8 x9 x10 x11 x12)=(bif (decide (x5 < x4)) then (bif inB x5 ((x11).length / 1) then ((x11[((Int.toNat x5)*1)]?).bind fun e13=>((oInt .i64 e13).bind fun n14=>((LIM F.q3e [(.rref [(.sl 2 x6),(.sl 1 x7),(.sl 1 x8),(.sl 1 x9),(.mp x10)] 0),(.int .i64 n14),(.int .i64 x1)]).bind fun r15=>((oCons r15.2).bind fun p16=>((oNil p16.2).bind fun _=>((oAgg p16.1).bind fun c17=>((oCons c17).bind fun p18=>((oSl 2 p18.1).bind fun c19=>((oCons p18.2).bind fun p20=>((oSl 1 p20.1).bind fun c21=>((oCons p20.2).bind fun p22=>((oSl 1 p22.1).bind fun c23=>((oCons p22.2).bind fun p24=>((oSl 1 p24.1).bind fun c25=>((oCons p24.2).bind fun p26=>(bif (p26.1).isMp then ((oNil p26.2).bind fun _=>((oBool r15.1).bind fun b27=>(bif b27 then some ((.bool true),[(.agg [(.sl 2 c19),(.sl 1 c21),(.sl 1 c23),(.sl 1 c25),(.mp ((p26.1).mpL))])]) else ((LIM F.q2i [(.rref [(.sl 2 c19),(.sl 1 c21),(.sl 1 c23),(.sl 1 c25),(.mp ((p26.1).mpL))] 0),(.int .i64 n14),(.int .i64 x1)]).bind fun r28=>((oCons r28.2).bind fun p29=>((oNil p29.2).bind fun _=>((oAgg p29.1).bind fun c30=>((oCons c30).bind fun p31=>((oSl 2 p31.1).bind fun c32=>((oCons p31.2).bind fun p33=>((oSl 1 p33.1).bind fun c34=>((oCons p33.2).bind fun p35=>((oSl 1 p35.1).bind fun c36=>((oCons p35.2).bind fun p37=>((oSl 1 p37.1).bind fun c38=>((oCons p37.2).bind fun p39=>(bif (p39.1).isMp then ((oNil p39.2).bind fun _=>((oBool r28.1).bind fun b40=>(bif b40 then some ((.bool true),[(.agg [(.sl 2 c32),(.sl 1 c34),(.sl 1 c36),(.sl 1 c38),(.mp ((p39.1).mpL))])]) else (L0 (q00.st0 x0 x1 x2 x3 x4 (IntKind.wrap .i64 (x5+(1:Int))) c32 c34 c36 c38 ((p39.1).mpL) x11 x12))))) else none))))))))))))))))) else none)))))))))))))))) else none) else ((LIM F.q0d [(.sl 1 x7),(.int .i64 x2)]).bind fun r41=>((oNil r41.2).bind fun _=>((oInt .i64 r41.1).bind fun n42=>((LIM F.q0d [(.sl 1 x7),(.int .i64 x3)]).bind fun r43=>((oNil r43.2).bind fun _=>((oInt .i64 r43.1).bind fun n44=>(bif (decide ((IntKind.wrap .i64 (n42 - n44)) < (0:Int))) then some ((.bool false),[(.agg [(.sl 2 x6),(.sl 1 x7),(.sl 1 x8),(.sl 1 x9),(.mp x10)])]) else (q00.at2 n n (q00.st2 x0 (IntKind.wrap .i64 (n42 - n44)) ((((x12).length / 1):Nat):Int) (0:Int) x6 x7 x8 x9 x10 x11 x12)))))))))):=by kernel_rfl
theorem q00.round2 (n:Nat) (L2:St→R) (x0 x1 x2 x3:Int) (x4 x5 x6 x7:List T) (x8:List (Int × Int × Bool)) (x9 x10:List T):q00.rd2 n L2 (q00.st2 x0 x1 x2 x3 x4 x5 x6 x7 x8 x9 x10)=(bif (decide (x3 < x2)) then (bif inB x3 ((x10).length / 1) then ((x10[((Int.toNat x3)*1)]?).bind fun e45=>((oInt .i64 e45).bind fun n46=>((LIM F.q2i [(.rref [(.sl 2 x4),(.sl 1 x5),(.sl 1 x6),(.sl 1 x7),(.mp x8)] 0),(.int .i64 x0),(.int .i64 n46)]).bind fun r47=>((oCons r47.2).bind fun p48=>((oNil p48.2).bind fun _=>((oAgg p48.1).bind fun c49=>((oCons c49).bind fun p50=>((oSl 2 p50.1).bind fun c51=>((oCons p50.2).bind fun p52=>((oSl 1 p52.1).bind fun c53=>((oCons p52.2).bind fun p54=>((oSl 1 p54.1).bind fun c55=>((oCons p54.2).bind fun p56=>((oSl 1 p56.1).bind fun c57=>((oCons p56.2).bind fun p58=>(bif (p58.1).isMp then ((oNil p58.2).bind fun _=>((oBool r47.1).bind fun b59=>(bif (!b59) then some ((.bool false),[(.agg [(.sl 2 c51),(.sl 1 c53),(.sl 1 c55),(.sl 1 c57),(.mp ((p58.1).mpL))])]) else (L2 (q00.st2 x0 x1 x2 (IntKind.wrap .i64 (x3+(1:Int))) c51 c53 c55 c57 ((p58.1).mpL) x9 x10))))) else none)))))))))))))))) else none) else (bif (decide (x1 > (0:Int))) then some ((.bool true),[(.agg [(.sl 2 x4),(.sl 1 x5),(.sl 1 x6),(.sl 1 x7),(.mp x8)])]) else (q00.at4 n n (q00.st4 ((((x9).length / 1):Nat):Int) (0:Int) x4 x5 x6 x7 x8 x9 x10)))):=by kernel_rfl
theorem q00.round4 (n:Nat) (L4:St→R) (x0 x1:Int) (x2 x3 x4 x5:List T) (x6:List (Int × Int × Bool)) (x7 x8:List T):q00.rd4 n L4 (q00.st4 x0 x1 x2 x3 x4 x5 x6 x7 x8)=(bif (decide (x1 < x0)) then (bif inB x1 ((x7).length / 1) then ((x7[((Int.toNat x1)*1)]?).bind fun e60=>((oInt .i64 e60).bind fun n61=>(bif inB x1 ((x8).length / 1) then ((x8[((Int.toNat x1)*1)]?).bind fun e62=>((oInt .i64 e62).bind fun n63=>((LIM F.q3e [(.rref [(.sl 2 x2),(.sl 1 x3),(.sl 1 x4),(.sl 1 x5),(.mp x6)] 0),(.int .i64 n61),(.int .i64 n63)]).bind fun r64=>((oCons r64.2).bind fun p65=>((oNil p65.2).bind fun _=>((oAgg p65.1).bind fun c66=>((oCons c66).bind fun p67=>((oSl 2 p67.1).bind fun c68=>((oCons p67.2).bind fun p69=>((oSl 1 p69.1).bind fun c70=>((oCons p69.2).bind fun p71=>((oSl 1 p71.1).bind fun c72=>((oCons p71.2).bind fun p73=>((oSl 1 p73.1).bind fun c74=>((oCons p73.2).bind fun p75=>(bif (p75.1).isMp then ((oNil p75.2).bind fun _=>((oBool r64.1).bind fun b76=>(bif (!b76) then (bif inB x1 ((x8).length / 1) then ((x8[((Int.toNat x1)*1)]?).bind fun e77=>((oInt .i64 e77).bind fun n78=>((LIM F.q2i [(.rref [(.sl 2 c68),(.sl 1 c70),(.sl 1 c72),(.sl 1 c74),(.mp ((p75.1).mpL))] 0),(.int .i64 n61),(.int .i64 n78)]).bind fun r79=>((oCons r79.2).bind fun p80=>((oNil p80.2).bind fun _=>((oAgg p80.1).bind fun c81=>((oCons c81).bind fun p82=>((oSl 2 p82.1).bind fun c83=>((oCons p82.2).bind fun p84=>((oSl 1 p84.1).bind fun c85=>((oCons p84.2).bind fun p86=>((oSl 1 p86.1).bind fun c87=>((oCons p86.2).bind fun p88=>((oSl 1 p88.1).bind fun c89=>((oCons p88.2).bind fun p90=>(bif (p90.1).isMp then ((oNil p90.2).bind fun _=>((oBool r79.1).bind fun b91=>some ((.bool b91),[(.agg [(.sl 2 c83),(.sl 1 c85),(.sl 1 c87),(.sl 1 c89),(.mp ((p90.1).mpL))])]))) else none)))))))))))))))) else none) else (L4 (q00.st4 x0 (IntKind.wrap .i64 (x1+(1:Int))) c68 c70 c72 c74 ((p75.1).mpL) x7 x8))))) else none)))))))))))))))) else none))) else none) else some ((.bool false),[(.agg [(.sl 2 x2),(.sl 1 x3),(.sl 1 x4),(.sl 1 x5),(.mp x6)])])):=by kernel_rfl
theorem q00.ev (n:Nat) (a0_0 a0_1 a0_2 a0_3:List T) (a0_4:List (Int × Int × Bool)) (a1 a2:Int):callK prog A H LIM n F.q00 [(.rref [(.sl 2 a0_0),(.sl 1 a0_1),(.sl 1 a0_2),(.sl 1 a0_3),(.mp a0_4)] 0),(.int .i64 a1),(.int .i64 a2)]=(bif inB a1 ((a0_2).length / 1) then ((a0_2[((Int.toNat a1)*1)]?).bind fun e1=>((oInt .i64 e1).bind fun n2=>(bif inB a2 ((a0_3).length / 1) then ((a0_3[((Int.toNat a2)*1)]?).bind fun e3=>((oInt .i64 e3).bind fun n4=>(bif (decide (n4 < (0:Int))) then (bif (decide (n2 ≥ (0:Int))) then ((LIM F.q2z [(.agg [(.sl 2 a0_0)]),(.sl 1 a0_2),(.int .i64 a1)]).bind fun r5=>((oNil r5.2).bind fun _=>((oSl 1 r5.1).bind fun c6=>((LIM F.q2a [(.sl 1 c6),(.int .i64 n4)]).bind fun r7=>((oNil r7.2).bind fun _=>((oBool r7.1).bind fun b8=>some ((.bool b8),[(.agg [(.sl 2 a0_0),(.sl 1 a0_1),(.sl 1 a0_2),(.sl 1 a0_3),(.mp a0_4)])]))))))) else some ((.bool false),[(.agg [(.sl 2 a0_0),(.sl 1 a0_1),(.sl 1 a0_2),(.sl 1 a0_3),(.mp a0_4)])])) else (bif (decide (n2 < (0:Int))) then some ((.bool false),[(.agg [(.sl 2 a0_0),(.sl 1 a0_1),(.sl 1 a0_2),(.sl 1 a0_3),(.mp a0_4)])]) else ((LIM F.q0w [(.agg [(.sl 2 a0_0)]),(.sl 1 a0_2),(.int .i64 a1)]).bind fun r9=>((oNil r9.2).bind fun _=>((oSl 1 r9.1).bind fun c10=>((LIM F.q0w [(.agg [(.sl 2 a0_0)]),(.sl 1 a0_3),(.int .i64 a2)]).bind fun r11=>((oNil r11.2).bind fun _=>((oSl 1 r11.1).bind fun c12=>(q00.at0 n n (q00.st0 a1 a2 n2 n4 ((((c10).length / 1):Nat):Int) (0:Int) a0_0 a0_1 a0_2 a0_3 a0_4 c10 c12)))))))))))) else none))) else none):=by kernel_rfl
theorem q3e.ev (n:Nat) (a0_0 a0_1 a0_2 a0_3:List T) (a0_4:List (Int × Int × Bool)) (a1 a2:Int):callK prog A H LIM n F.q3e [(.rref [(.sl 2 a0_0),(.sl 1 a0_1),(.sl 1 a0_2),(.sl 1 a0_3),(.mp a0_4)] 0),(.int .i64 a1),(.int .i64 a2)]=((LIM F.q2z [(.agg [(.sl 2 a0_0)]),(.sl 1 a0_2),(.int .i64 a1)]).bind fun r1=>((oNil r1.2).bind fun _=>((oSl 1 r1.1).bind fun c2=>((LIM F.q2z [(.agg [(.sl 2 a0_0)]),(.sl 1 a0_3),(.int .i64 a2)]).bind fun r3=>((oNil r3.2).bind fun _=>((oSl 1 r3.1).bind fun c4=>((LIM F.q0h [(.sl 1 c2),(.sl 1 c4)]).bind fun r5=>((oNil r5.2).bind fun _=>((oBool r5.1).bind fun b6=>some ((.bool b6),[(.agg [(.sl 2 a0_0),(.sl 1 a0_1),(.sl 1 a0_2),(.sl 1 a0_3),(.mp a0_4)])])))))))))):=by kernel_rfl
def q20.st0 (x0:List T) (x1 x2:Int) (x3:List T):St:=⟨[(1,ol 1 x0),(2,oi x1),(3,(.one (.ptr 192 0))),(7,oi x2)],[(192,(.box [(.t (.sl 2 x3))]))]⟩
noncomputable def q20.K0 (n:Nat):Ex→St→R:=kx F.q20 n [.block 0,.seq 0 (cx F.q20 [1,1])] (endOf prog A F.q20)
noncomputable def q20.at0 (n:Nat) (m:Nat) (s:St):R:=lx F.q20 n 0 [1,0,1,0,0] (q20.K0 n) m s
noncomputable def q20.rd0 (n:Nat) (L0:St→R) (s:St):R:=rx F.q20 n 0 [1,0,1,0,0] (q20.K0 n) L0 s
theorem q20.next0 (n:Nat) (m:Nat) (s:St):q20.at0 n (m+1) s=q20.rd0 n (q20.at0 n m) s:=nx _ _ _ _ _ _ _
theorem q20.round0 (n:Nat) (L0:St→R) (x0:List T) (x1 x2:Int) (x3:List T):q20.rd0 n L0 (q20.st0 x0 x1 x2 x3)=(bif (decide (x2 > (0:Int))) then (bif (decide (x1 ≥ ((((x0).length / 1):Nat):Int))) then some ((.int .i64 (IntKind.wrap .i64 (((((x0).length / 1):Nat):Int)+(1:Int)))),[]) else (bif inB x1 ((x0).length / 1) then ((x0[((Int.toNat x1)*1)]?).bind fun e1=>((oInt .i64 e1).bind fun n2=>((LIM F.q5l [(.agg [(.sl 2 x3)]),(.int .i64 n2)]).bind fun r3=>((oNil r3.2).bind fun _=>((oInt .i64 r3.1).bind fun n4=>(L0 (q20.st0 x0 (IntKind.wrap .i64 (x1+(1:Int))) (IntKind.wrap .i64 (x2+(IntKind.wrap .i64 (n4 - (1:Int))))) x3))))))) else none)) else some ((.int .i64 x1),[])):=by kernel_rfl
theorem q20.ev (n:Nat) (a0_0 a1:List T) (a2:Int):callK prog A H LIM n F.q20 [(.agg [(.sl 2 a0_0)]),(.sl 1 a1),(.int .i64 a2)]=(q20.at0 n n (q20.st0 a1 a2 (1:Int) a0_0)):=by kernel_rfl
def q0o.st0 (x0 x1:List T) (x2 x3 x4:Int) (x5:List T):St:=⟨[(1,ol 2 x0),(2,ol 1 x1),(3,(.one (.ptr 192 0))),(9,oi x2),(10,oi x3),(11,oi x4)],[(192,(.box [(.t (.sl 2 x5))]))]⟩
noncomputable def q0o.K0 (n:Nat):Ex→St→R:=kx F.q0o n [.block 0,.seq 0 (cx F.q0o [1,1,1])] (endOf prog A F.q0o)
noncomputable def q0o.at0 (n:Nat) (m:Nat) (s:St):R:=lx F.q0o n 0 [1,1,0,1,0,0] (q0o.K0 n) m s
noncomputable def q0o.rd0 (n:Nat) (L0:St→R) (s:St):R:=rx F.q0o n 0 [1,1,0,1,0,0] (q0o.K0 n) L0 s
theorem q0o.next0 (n:Nat) (m:Nat) (s:St):q0o.at0 n (m+1) s=q0o.rd0 n (q0o.at0 n m) s:=nx _ _ _ _ _ _ _
theorem q0o.round0 (n:Nat) (L0:St→R) (x0 x1:List T) (x2 x3 x4:Int) (x5:List T):q0o.rd0 n L0 (q0o.st0 x0 x1 x2 x3 x4 x5)=(bif (decide (x4 ≥ (0:Int))) then (bif (decide (x2 ≥ (0:Int))) then ((LIM F.q20 [(.agg [(.sl 2 x5)]),(.sl 1 x1),(.int .i64 x4)]).bind fun r1=>((oNil r1.2).bind fun _=>((oInt .i64 r1.1).bind fun n2=>((LIM F.q20 [(.agg [(.sl 2 x5)]),(.sl 1 x1),(.int .i64 x2)]).bind fun r3=>((oNil r3.2).bind fun _=>((oInt .i64 r3.1).bind fun n4=>(bif (decide (n2 ≥ n4)) then (L0 (q0o.st0 x0 x1 x2 x3 (IntKind.wrap .i64 (x4 - (1:Int))) x5)) else ((LIM F.q68 [(.agg [(.sl 2 x5)]),(.sl 2 x0),(.sl 1 x1),(.int .i64 x4)]).bind fun r5=>((oNil r5.2).bind fun _=>((oInt .i64 r5.1).bind fun n6=>(bif (decide (n6 ≥ (0:Int))) then (L0 (q0o.st0 x0 x1 x4 n6 (IntKind.wrap .i64 (x4 - (1:Int))) x5)) else (L0 (q0o.st0 x0 x1 x2 x3 (IntKind.wrap .i64 (x4 - (1:Int))) x5))))))))))))) else ((LIM F.q68 [(.agg [(.sl 2 x5)]),(.sl 2 x0),(.sl 1 x1),(.int .i64 x4)]).bind fun r7=>((oNil r7.2).bind fun _=>((oInt .i64 r7.1).bind fun n8=>(bif (decide (n8 ≥ (0:Int))) then (L0 (q0o.st0 x0 x1 x4 n8 (IntKind.wrap .i64 (x4 - (1:Int))) x5)) else (L0 (q0o.st0 x0 x1 x2 x3 (IntKind.wrap .i64 (x4 - (1:Int))) x5))))))) else some ((.tup [(.int .i64 x2),(.int .i64 x3),(.bool (decide (x2 ≥ (0:Int))))]),[])):=by kernel_rfl
theorem q0o.ev (n:Nat) (a0_0 a1 a2:List T):callK prog A H LIM n F.q0o [(.agg [(.sl 2 a0_0)]),(.sl 2 a1),(.sl 1 a2)]=(q0o.at0 n n (q0o.st0 a1 a2 (-1:Int) (-1:Int) (IntKind.wrap .i64 (((((a2).length / 1):Nat):Int) - (1:Int))) a0_0)):=by kernel_rfl
theorem q3z.ev (n:Nat) (a0:List T):callK prog A H LIM n F.q3z [(.sl 1 a0)]=((LIM F.q1h [(.sl 1 a0)]).bind fun r1=>((oNil r1.2).bind fun _=>((oInt .i64 r1.1).bind fun n2=>some ((.int .i64 n2),[])))):=by kernel_rfl
theorem q69.ev (n:Nat) (a0:List T):callK prog A H LIM n F.q69 [(.sl 1 a0)]=(bif (decide (((((a0).length / 1):Nat):Int) > (24:Int))) then some ((.agg [(.int .i64 (2:Int)),(.sl 1 [])]),[]) else some ((.agg [(.int .i64 (0:Int)),(.sl 1 a0)]),[])):=by kernel_rfl
theorem q4h.ev (n:Nat) (a0_0 a1 a2 a3:List T):callK prog A H LIM n F.q4h [(.agg [(.sl 2 a0_0)]),(.sl 1 a1),(.sl 1 a2),(.sl 1 a3)]=((LIM F.q2i [(.rref [(.sl 2 a0_0),(.sl 1 a1),(.sl 1 a2),(.sl 1 a3),(.mp [])] 0),(.int .i64 (0:Int)),(.int .i64 (0:Int))]).bind fun r1=>((oCons r1.2).bind fun p2=>((oNil p2.2).bind fun _=>((oAgg p2.1).bind fun c3=>((oCons c3).bind fun p4=>((oSl 2 p4.1).bind fun c5=>((oCons p4.2).bind fun p6=>((oSl 1 p6.1).bind fun c7=>((oCons p6.2).bind fun p8=>((oSl 1 p8.1).bind fun c9=>((oCons p8.2).bind fun p10=>((oSl 1 p10.1).bind fun c11=>((oCons p10.2).bind fun p12=>(bif (p12.1).isMp then ((oNil p12.2).bind fun _=>((oBool r1.1).bind fun b13=>some ((.bool b13),[]))) else none)))))))))))))):=by kernel_rfl
theorem q6w.ev (n:Nat) (a0:ByteArray):callK prog A H LIM n F.q6w [(.str a0)]=(bif (decide ((a0.size:Int) ≥ (1:Int))) then (bif (decide ((a0.size:Int)≤(3:Int))) then ((LIM F.q8g [(.str a0),(.str (ByteArray.mk #[97,98,99,100,101,102,103,104,105,106,107,108,109,110,111,112,113,114,115,116,117,118,119,120,121,122]))]).bind fun r1=>((oNil r1.2).bind fun _=>((oStr r1.1).bind fun s2=>some ((.bool (s2.toList == (ByteArray.mk #[]).toList)),[])))) else some ((.bool false),[])) else some ((.bool false),[])):=by kernel_rfl
theorem q6z.ev (n:Nat) (a0_0:List T) (a1:Int):callK prog A H LIM n F.q6z [(.agg [(.sl 2 a0_0)]),(.int .i64 a1)]=((LIM F.q4i [(.agg [(.sl 2 a0_0)]),(.int .i64 a1)]).bind fun r1=>((oNil r1.2).bind fun _=>((oBool r1.1).bind fun b2=>(bif b2 then some ((.bool true),[]) else ((LIM F.q3i [(.int .i64 a1),(.int .i64 (-12:Int)),(.int .i64 (-1:Int))]).bind fun r3=>((oNil r3.2).bind fun _=>((oBool r3.1).bind fun b4=>some ((.bool b4),[])))))))):=by kernel_rfl
theorem q6u.ev (n:Nat) (a0_0 a0_1:List T):callK prog A H LIM n F.q6u [(.agg [(.sl 1 a0_0),(.sl 1 a0_1)])]=(bif inB (0:Int) ((a0_0).length / 1) then ((a0_0[0]?).bind fun e1=>((oInt .i64 e1).bind fun n2=>(bif (decide (n2 < (0:Int))) then some ((.bool false),[]) else ((LIM F.q0m [(.sl 1 [(.sl 1 a0_0)])]).bind fun r3=>((oNil r3.2).bind fun _=>((oSl 1 r3.1).bind fun c4=>((LIM F.q0m [(.sl 1 [(.sl 1 a0_1)])]).bind fun r5=>((oNil r5.2).bind fun _=>((oSl 1 r5.1).bind fun c6=>((LIM F.q1w [(.sl 1 c6),(.clo F.q3s [(.rref [(.sl 1 c4)] 0)])]).bind fun r7=>((oNil r7.2).bind fun _=>((oBool r7.1).bind fun b8=>some ((.bool (!b8)),[]))))))))))))) else none):=by kernel_rfl
theorem q3s.ev (n:Nat) (a0:Int) (a1_0:List T):callK prog A H LIM n F.q3s [(.int .i64 a0),(.rref [(.sl 1 a1_0)] 0)]=((LIM F.q2a [(.sl 1 a1_0),(.int .i64 a0)]).bind fun r1=>((oNil r1.2).bind fun _=>((oBool r1.1).bind fun b2=>some ((.bool (!b2)),[])))):=by kernel_rfl
theorem q4i.ev (n:Nat) (a0_0:List T) (a1:Int):callK prog A H LIM n F.q4i [(.agg [(.sl 2 a0_0)]),(.int .i64 a1)]=((LIM F.q3i [(.int .i64 a1),(.int .i64 (0:Int)),(.int .i64 (IntKind.wrap .i64 (((((a0_0).length / 2):Nat):Int) - (1:Int))))]).bind fun r1=>((oNil r1.2).bind fun _=>((oBool r1.1).bind fun b2=>some ((.bool b2),[])))):=by kernel_rfl
def q1g.st0 (x0:List T) (x1:Int) (x2:List T) (x3 x4:Int) (x5 x6 x7:List T):St:=⟨[(2,ol 1 x0),(3,(.one (.ptr 192 0))),(6,(.one (.ptr 384 0))),(8,(.one (.ptr 512 0))),(9,oi x1),(16,ol 1 x2),(17,oi x3),(18,oi x4)],[(192,(.box [(.t (.sl 2 x5))])),(384,(.box [.nil,.nil])),(512,(.box [(.obj 518192),(.obj 518193)])),(518192,(.arr true true 1 x6)),(518193,(.arr true true 1 x7))]⟩
noncomputable def q1g.K0 (n:Nat):Ex→St→R:=kx F.q1g n [.block 0,.seq 0 (cx F.q1g [1,1,1,1])] (endOf prog A F.q1g)
noncomputable def q1g.at0 (n:Nat) (m:Nat) (s:St):R:=lx F.q1g n 0 [1,1,1,0,1,0,0] (q1g.K0 n) m s
noncomputable def q1g.rd0 (n:Nat) (L0:St→R) (s:St):R:=rx F.q1g n 0 [1,1,1,0,1,0,0] (q1g.K0 n) L0 s
theorem q1g.next0 (n:Nat) (m:Nat) (s:St):q1g.at0 n (m+1) s=q1g.rd0 n (q1g.at0 n m) s:=nx _ _ _ _ _ _ _
theorem q1g.round0 (n:Nat) (L0:St→R) (x0:List T) (x1:Int) (x2:List T) (x3 x4:Int) (x5 x6 x7:List T):q1g.rd0 n L0 (q1g.st0 x0 x1 x2 x3 x4 x5 x6 x7)=(bif (decide (x4 < x3)) then (bif inB x4 ((x2).length / 1) then ((x2[((Int.toNat x4)*1)]?).bind fun e1=>((oInt .i64 e1).bind fun n2=>(bif (decide (x1 ≥ ((((x0).length / 1):Nat):Int))) then some ((.tup [(.agg [(.sl 1 []),(.sl 1 [])]),(.bool false)]),[]) else (bif (decide (n2 ≥ (0:Int))) then (bif inB x1 ((x0).length / 1) then ((x0[((Int.toNat x1)*1)]?).bind fun e3=>((oInt .i64 e3).bind fun n4=>(bif ((n4 != n2)) then some ((.tup [(.agg [(.sl 1 []),(.sl 1 [])]),(.bool false)]),[]) else (L0 (q1g.st0 x0 (IntKind.wrap .i64 (x1+(1:Int))) x2 x3 (IntKind.wrap .i64 (x4+(1:Int))) x5 x6 x7))))) else none) else ((LIM F.q2z [(.agg [(.sl 2 x5)]),(.sl 1 x0),(.int .i64 x1)]).bind fun r5=>((oNil r5.2).bind fun _=>((oSl 1 r5.1).bind fun c6=>((LIM F.q43 [(.agg [(.sl 1 x6),(.sl 1 x7)]),(.int .i64 (IntKind.wrap .i64 ((-1:Int) - n2)))]).bind fun r7=>((oNil r7.2).bind fun _=>((oTup r7.1).bind fun c8=>((oCons c8).bind fun p9=>((oSl 1 p9.1).bind fun c10=>(bif (c10).all T.scalar then ((oCons p9.2).bind fun p11=>((oBool p11.1).bind fun b12=>((oNil p11.2).bind fun _=>(bif (!b12) then ((LIM F.q0s [(.rref [(.sl 1 x6),(.sl 1 x7)] 0),(.int .i64 (IntKind.wrap .i64 ((-1:Int) - n2))),(.sl 1 c6)]).bind fun r13=>((oCons r13.2).bind fun p14=>((oNil p14.2).bind fun _=>((oAgg p14.1).bind fun c15=>((oCons c15).bind fun p16=>((oSl 1 p16.1).bind fun c17=>((oCons p16.2).bind fun p18=>((oSl 1 p18.1).bind fun c19=>((oNil p18.2).bind fun _=>((oTup r13.1).bind fun c20=>((oNil c20).bind fun _=>(L0 (q1g.st0 x0 (IntKind.wrap .i64 (x1+((((c6).length / 1):Nat):Int))) x2 x3 (IntKind.wrap .i64 (x4+(1:Int))) x5 c17 c19))))))))))))) else ((LIM F.q0h [(.sl 1 c10),(.sl 1 c6)]).bind fun r21=>((oNil r21.2).bind fun _=>((oBool r21.1).bind fun b22=>(bif (!b22) then some ((.tup [(.agg [(.sl 1 []),(.sl 1 [])]),(.bool false)]),[]) else (L0 (q1g.st0 x0 (IntKind.wrap .i64 (x1+((((c6).length / 1):Nat):Int))) x2 x3 (IntKind.wrap .i64 (x4+(1:Int))) x5 x6 x7)))))))))) else none))))))))))))) else none) else some ((.tup [(.agg [(.sl 1 x6),(.sl 1 x7)]),(.bool ((x1 == ((((x0).length / 1):Nat):Int))))]),[])):=by kernel_rfl
theorem q1g.ev (n:Nat) (a0_0 a1 a2:List T):callK prog A H LIM n F.q1g [(.agg [(.sl 2 a0_0)]),(.sl 1 a1),(.sl 1 a2)]=(q1g.at0 n n (q1g.st0 a2 (0:Int) a1 ((((a1).length / 1):Nat):Int) (0:Int) a0_0 [] [])):=by kernel_rfl
def q0x.st0 (x0:List T) (x1 x2:Int) (x3:List T) (x4 x5:Int) (x6:List T):St:=⟨[(1,ol 2 x0),(3,oi x1),(4,(.one (.ptr 256 0))),(8,(.one (.ptr 512 0))),(9,(.one (.obj 1024))),(10,oi x2)],[(256,(.box [(.t (.sl 2 x3))])),(512,(.box [(.t (.int .i64 x4)),.nil,(.t (.int .i64 x5))])),(1024,(.arr true true 1 x6))]⟩
noncomputable def q0x.K0 (n:Nat):Ex→St→R:=kx F.q0x n [.block 0] (endOf prog A F.q0x)
noncomputable def q0x.at0 (n:Nat) (m:Nat) (s:St):R:=lx F.q0x n 0 [1,1,1,0,0] (q0x.K0 n) m s
noncomputable def q0x.rd0 (n:Nat) (L0:St→R) (s:St):R:=rx F.q0x n 0 [1,1,1,0,0] (q0x.K0 n) L0 s
theorem q0x.next0 (n:Nat) (m:Nat) (s:St):q0x.at0 n (m+1) s=q0x.rd0 n (q0x.at0 n m) s:=nx _ _ _ _ _ _ _
theorem q0x.round0 (n:Nat) (L0:St→R) (x0:List T) (x1 x2:Int) (x3:List T) (x4 x5:Int) (x6:List T):q0x.rd0 n L0 (q0x.st0 x0 x1 x2 x3 x4 x5 x6)=((LIM F.q0o [(.agg [(.sl 2 x3)]),(.sl 2 x0),(.sl 1 x6)]).bind fun r3=>((oNil r3.2).bind fun _=>((oTup r3.1).bind fun c4=>((oCons c4).bind fun p5=>((oInt .i64 p5.1).bind fun n6=>((oCons p5.2).bind fun p7=>((oInt .i64 p7.1).bind fun n8=>((oCons p7.2).bind fun p9=>((oBool p9.1).bind fun b10=>((oNil p9.2).bind fun _=>(bif (!b10) then some ((.agg [(.int .i64 (0:Int)),(.sl 1 x6),(.int .i64 x2)]),[]) else (bif ((x2 == x1)) then some ((.agg [(.int .i64 (9:Int)),(.sl 1 []),(.int .i64 (0:Int))]),[]) else (bif inB n8 ((x0).length / 2) then ((x0[((Int.toNat n8)*2)]?).bind fun e11=>((oSl 1 e11).bind fun c12=>((x0[(((Int.toNat n8)*2)+1)]?).bind fun e13=>((oSl 1 e13).bind fun c14=>((LIM F.q4e [(.agg [(.sl 2 x3)]),(.agg [(.sl 1 c12),(.sl 1 c14)]),(.sl 1 x6),(.int .i64 n6)]).bind fun r15=>((oNil r15.2).bind fun _=>((oAgg r15.1).bind fun c16=>((oCons c16).bind fun p17=>((oInt .i64 p17.1).bind fun n18=>((oCons p17.2).bind fun p19=>((oSl 1 p19.1).bind fun c20=>((oNil p19.2).bind fun _=>(bif ((n18 != (0:Int))) then some ((.agg [(.int .i64 n18),(.sl 1 []),(.int .i64 (0:Int))]),[]) else (L0 (q0x.st0 x0 x1 (IntKind.wrap .i64 (x2+(1:Int))) x3 x4 x5 c20))))))))))))))) else none))))))))))))):=by kernel_rfl
theorem q0x.ev (n:Nat) (a0_0 a1 a2:List T) (a3:Int):callK prog A H LIM n F.q0x [(.agg [(.sl 2 a0_0)]),(.sl 2 a1),(.sl 1 a2),(.int .i64 a3)]=((LIM F.q2y [(.sl 1 a2)]).bind fun r1=>((oNil r1.2).bind fun _=>((oSl 1 r1.1).bind fun c2=>(q0x.at0 n n (q0x.st0 a1 a3 (0:Int) a0_0 (0:Int) (0:Int) c2))))):=by kernel_rfl
theorem q61.ev (n:Nat) (a0_0 a1:List T) (a2:Int) (a3:List T):callK prog A H LIM n F.q61 [(.agg [(.sl 2 a0_0)]),(.sl 1 a1),(.int .i64 a2),(.sl 1 a3)]=(bif decide (0≤(0:Int))&&decide ((0:Int)≤a2)&&decide (a2≤((((a1).length / 1):Nat):Int)) then ((LIM F.q2y [(.sl 1 ((a1.take ((Int.toNat a2)*1)).drop (0*1)))]).bind fun r1=>((oNil r1.2).bind fun _=>((oSl 1 r1.1).bind fun c2=>(bif (a3).all T.scalar then (bif Nat.ble (((c2).length+(a3).length)*8) (140737488355328*1) then ((LIM F.q20 [(.agg [(.sl 2 a0_0)]),(.sl 1 a1),(.int .i64 a2)]).bind fun r3=>((oNil r3.2).bind fun _=>((oInt .i64 r3.1).bind fun n4=>(bif decide (0≤n4)&&decide (n4≤((((a1).length / 1):Nat):Int))&&decide (((((a1).length / 1):Nat):Int)≤((((a1).length / 1):Nat):Int)) then (bif (((a1.take ((Int.toNat ((((a1).length / 1):Nat):Int))*1)).drop ((Int.toNat n4)*1))).all T.scalar then (bif Nat.ble ((((c2++a3:List T)).length+(((a1.take ((Int.toNat ((((a1).length / 1):Nat):Int))*1)).drop ((Int.toNat n4)*1))).length)*8) (140737488355328*1) then some ((.sl 1 ((c2++a3:List T)++((a1.take ((Int.toNat ((((a1).length / 1):Nat):Int))*1)).drop ((Int.toNat n4)*1)):List T)),[]) else none) else none) else none)))) else none) else none)))) else none):=by kernel_rfl
theorem q32.ev (n:Nat) (a0_0 a1 a2:List T):callK prog A H LIM n F.q32 [(.agg [(.sl 2 a0_0)]),(.sl 2 a1),(.sl 1 a2)]=((LIM F.q58 [(.agg [(.sl 2 a0_0)]),(.sl 2 a1)]).bind fun r1=>((oNil r1.2).bind fun _=>((oInt .i64 r1.1).bind fun n2=>((LIM F.q2x [(.agg [(.sl 2 a0_0)]),(.sl 1 a2)]).bind fun r3=>((oNil r3.2).bind fun _=>((oInt .i64 r3.1).bind fun n4=>((LIM F.q3z [(.sl 1 [(.int .i64 n2),(.int .i64 n4)])]).bind fun r5=>((oNil r5.2).bind fun _=>((oInt .i64 r5.1).bind fun n6=>some ((.int .i64 n6),[])))))))))):=by kernel_rfl
theorem q4e.ev (n:Nat) (a0_0 a1_0 a1_1 a2:List T) (a3:Int):callK prog A H LIM n F.q4e [(.agg [(.sl 2 a0_0)]),(.agg [(.sl 1 a1_0),(.sl 1 a1_1)]),(.sl 1 a2),(.int .i64 a3)]=((LIM F.q2z [(.agg [(.sl 2 a0_0)]),(.sl 1 a2),(.int .i64 a3)]).bind fun r1=>((oNil r1.2).bind fun _=>((oSl 1 r1.1).bind fun c2=>((LIM F.q1g [(.agg [(.sl 2 a0_0)]),(.sl 1 a1_0),(.sl 1 c2)]).bind fun r3=>((oNil r3.2).bind fun _=>((oTup r3.1).bind fun c4=>((oCons c4).bind fun p5=>((oAgg p5.1).bind fun c6=>((oCons c6).bind fun p7=>((oSl 1 p7.1).bind fun c8=>((oCons p7.2).bind fun p9=>((oSl 1 p9.1).bind fun c10=>((oNil p9.2).bind fun _=>((oCons p5.2).bind fun p11=>((oBool p11.1).bind fun b12=>((oNil p11.2).bind fun _=>(bif (!b12) then some ((.agg [(.int .i64 (4:Int)),(.sl 1 [])]),[]) else ((LIM F.q0i [(.agg [(.sl 1 c8),(.sl 1 c10)]),(.sl 1 a1_1)]).bind fun r13=>((oNil r13.2).bind fun _=>((oSl 1 r13.1).bind fun c14=>((LIM F.q61 [(.agg [(.sl 2 a0_0)]),(.sl 1 a2),(.int .i64 a3),(.sl 1 c14)]).bind fun r15=>((oNil r15.2).bind fun _=>((oSl 1 r15.1).bind fun c16=>((LIM F.q69 [(.sl 1 c16)]).bind fun r17=>((oNil r17.2).bind fun _=>((oAgg r17.1).bind fun c18=>((oCons c18).bind fun p19=>((oInt .i64 p19.1).bind fun n20=>((oCons p19.2).bind fun p21=>((oSl 1 p21.1).bind fun c22=>((oNil p21.2).bind fun _=>some ((.agg [(.int .i64 n20),(.sl 1 c22)]),[])))))))))))))))))))))))))))))))):=by kernel_rfl
theorem q68.ev (n:Nat) (a0_0 a1 a2:List T) (a3:Int):callK prog A H LIM n F.q68 [(.agg [(.sl 2 a0_0)]),(.sl 2 a1),(.sl 1 a2),(.int .i64 a3)]=((LIM F.q2z [(.agg [(.sl 2 a0_0)]),(.sl 1 a2),(.int .i64 a3)]).bind fun r1=>((oNil r1.2).bind fun _=>((oSl 1 r1.1).bind fun c2=>((LIM F.q13 [(.sl 2 a1),(.clo F.q50 [(.rref [(.sl 2 a0_0)] 0),(.rref [(.sl 1 c2)] 0)])]).bind fun r3=>((oNil r3.2).bind fun _=>((oInt .i64 r3.1).bind fun n4=>some ((.int .i64 n4),[]))))))):=by kernel_rfl
theorem q50.ev (n:Nat) (a0_0 a0_1 a1_0 a2_0:List T):callK prog A H LIM n F.q50 [(.agg [(.sl 1 a0_0),(.sl 1 a0_1)]),(.rref [(.sl 2 a1_0)] 0),(.rref [(.sl 1 a2_0)] 0)]=((LIM F.q1g [(.agg [(.sl 2 a1_0)]),(.sl 1 a0_0),(.sl 1 a2_0)]).bind fun r1=>((oNil r1.2).bind fun _=>((oTup r1.1).bind fun c2=>((oCons c2).bind fun p3=>((oAgg p3.1).bind fun c4=>((oCons c4).bind fun p5=>((oSl 1 p5.1).bind fun c6=>((oCons p5.2).bind fun p7=>((oSl 1 p7.1).bind fun c8=>((oNil p7.2).bind fun _=>((oCons p3.2).bind fun p9=>((oBool p9.1).bind fun b10=>((oNil p9.2).bind fun _=>some ((.bool b10),[])))))))))))))):=by kernel_rfl
theorem q2z.ev (n:Nat) (a0_0 a1:List T) (a2:Int):callK prog A H LIM n F.q2z [(.agg [(.sl 2 a0_0)]),(.sl 1 a1),(.int .i64 a2)]=((LIM F.q20 [(.agg [(.sl 2 a0_0)]),(.sl 1 a1),(.int .i64 a2)]).bind fun r1=>((oNil r1.2).bind fun _=>((oInt .i64 r1.1).bind fun n2=>(bif decide (0≤a2)&&decide (a2≤n2)&&decide (n2≤((((a1).length / 1):Nat):Int)) then some ((.sl 1 ((a1.take ((Int.toNat n2)*1)).drop ((Int.toNat a2)*1))),[]) else none)))):=by kernel_rfl
theorem q4t.ev (n:Nat) (a0_0:List T) (a1:ByteArray):callK prog A H LIM n F.q4t [(.agg [(.sl 2 a0_0)]),(.str a1)]=((LIM F.q19 [(.sl 2 a0_0),(.clo F.q3c [(.rref [(.str a1)] 0)])]).bind fun r1=>((oNil r1.2).bind fun _=>((oInt .i64 r1.1).bind fun n2=>some ((.int .i64 n2),[])))):=by kernel_rfl
theorem q3c.ev (n:Nat) (a0_0:ByteArray) (a0_1:Int) (a1_0:ByteArray):callK prog A H LIM n F.q3c [(.agg [(.str a0_0),(.int .i64 a0_1)]),(.rref [(.str a1_0)] 0)]=some ((.bool (a0_0.toList == a1_0.toList)),[]):=by kernel_rfl
def q0m.st2 (x0:List T) (x1 x2:Int) (x3:List T) (x4 x5:Int) (x6:List T):St:=⟨[(3,(.one (.obj 512))),(9,ol 1 x0),(10,oi x1),(11,oi x2),(15,ol 1 x3),(16,oi x4),(17,oi x5)],[(512,(.arr true true 1 x6))]⟩
def q0m.st0 (x0:List T) (x1 x2:Int) (x3:List T):St:=⟨[(3,(.one (.obj 512))),(9,ol 1 x0),(10,oi x1),(11,oi x2)],[(512,(.arr true true 1 x3))]⟩
noncomputable def q0m.K0 (n:Nat):Ex→St→R:=kx F.q0m n [.block 0,.seq 0 (cx F.q0m [1,1,1])] (endOf prog A F.q0m)
noncomputable def q0m.at0 (n:Nat) (m:Nat) (s:St):R:=lx F.q0m n 0 [1,1,0,1,0,0] (q0m.K0 n) m s
noncomputable def q0m.rd0 (n:Nat) (L0:St→R) (s:St):R:=rx F.q0m n 0 [1,1,0,1,0,0] (q0m.K0 n) L0 s
theorem q0m.next0 (n:Nat) (m:Nat) (s:St):q0m.at0 n (m+1) s=q0m.rd0 n (q0m.at0 n m) s:=nx _ _ _ _ _ _ _
noncomputable def q0m.K2 (n:Nat) (L0:St→R):Ex→St→R:=kx F.q0m n [.block 2,.block 1,.seq 0 (cx F.q0m [1,1,0,1,0,0,1,1,1])] (bx F.q0m 0 (q0m.K0 n) L0)
noncomputable def q0m.at2 (n:Nat) (L0:St→R) (m:Nat) (s:St):R:=lx F.q0m n 2 [1,1,0,1,0,0,1,1,0,0,1,1,0,0] (q0m.K2 n L0) m s
noncomputable def q0m.rd2 (n:Nat) (L0:St→R) (L2:St→R) (s:St):R:=rx F.q0m n 2 [1,1,0,1,0,0,1,1,0,0,1,1,0,0] (q0m.K2 n L0) L2 s
theorem q0m.next2 (n:Nat) (L0:St→R) (m:Nat) (s:St):q0m.at2 n L0 (m+1) s=q0m.rd2 n L0 (q0m.at2 n L0 m) s:=nx _ _ _ _ _ _ _
theorem q0m.round0 (n:Nat) (L0:St→R) (x0:List T) (x1 x2:Int) (x3:List T):q0m.rd0 n L0 (q0m.st0 x0 x1 x2 x3)=(bif (decide (x2 < x1)) then (bif inB x2 ((x0).length / 1) then ((x0[((Int.toNat x2)*1)]?).bind fun e1=>((oSl 1 e1).bind fun c2=>(q0m.at2 n L0 n (q0m.st2 x0 x1 x2 c2 ((((c2).length / 1):Nat):Int) (0:Int) x3)))) else none) else ((LIM F.q67 [(.sl 1 x3)]).bind fun r5=>((oCons r5.2).bind fun p6=>((oNil p6.2).bind fun _=>((oSl 1 p6.1).bind fun c7=>((oTup r5.1).bind fun c8=>((oNil c8).bind fun _=>((LIM F.q5g [(.sl 1 c7)]).bind fun r9=>((oNil r9.2).bind fun _=>((oSl 1 r9.1).bind fun c10=>some ((.sl 1 c10),[]))))))))))):=by kernel_rfl
theorem q0m.round2 (n:Nat) (L0:St→R) (L2:St→R) (x0:List T) (x1 x2:Int) (x3:List T) (x4 x5:Int) (x6:List T):q0m.rd2 n L0 L2 (q0m.st2 x0 x1 x2 x3 x4 x5 x6)=(bif (decide (x5 < x4)) then (bif inB x5 ((x3).length / 1) then ((x3[((Int.toNat x5)*1)]?).bind fun e3=>((oInt .i64 e3).bind fun n4=>(bif (decide (n4 < (0:Int))) then (bif Nat.ble (((x6).length+1)*8) (140737488355328*1) then (L2 (q0m.st2 x0 x1 x2 x3 x4 (IntKind.wrap .i64 (x5+(1:Int))) (x6++[(.int .i64 (IntKind.wrap .i64 ((-1:Int) - n4)))]:List T))) else none) else (L2 (q0m.st2 x0 x1 x2 x3 x4 (IntKind.wrap .i64 (x5+(1:Int))) x6))))) else none) else (L0 (q0m.st0 x0 x1 (IntKind.wrap .i64 (x2+(1:Int))) x6))):=by kernel_rfl
theorem q0m.ev (n:Nat) (a0:List T):callK prog A H LIM n F.q0m [(.sl 1 a0)]=(q0m.at0 n n (q0m.st0 a0 ((((a0).length / 1):Nat):Int) (0:Int) [])):=by kernel_rfl
theorem q3i.ev (n:Nat) (a0 a1 a2:Int):callK prog A H LIM n F.q3i [(.int .i64 a0),(.int .i64 a1),(.int .i64 a2)]=(bif (decide (a0 ≥ a1)) then some ((.bool (decide (a0≤a2))),[]) else some ((.bool false),[])):=by kernel_rfl
theorem q47.ev (n:Nat) (a0:List T):callK prog A H LIM n F.q47 [(.sl 1 a0)]=((LIM F.q45 [(.sl 1 a0)]).bind fun r1=>((oNil r1.2).bind fun _=>((oBool r1.1).bind fun b2=>(bif b2 then some ((.bool true),[]) else ((LIM F.q3o [(.sl 1 a0)]).bind fun r3=>((oNil r3.2).bind fun _=>((oTup r3.1).bind fun c4=>((oCons c4).bind fun p5=>((oAgg p5.1).bind fun c6=>((oCons c6).bind fun p7=>((oSl 2 p7.1).bind fun c8=>((oNil p7.2).bind fun _=>((oCons p5.2).bind fun p9=>((oSl 2 p9.1).bind fun c10=>((oCons p9.2).bind fun p11=>((oInt .i64 p11.1).bind fun n12=>((oCons p11.2).bind fun p13=>((oInt .i64 p13.1).bind fun n14=>((oCons p13.2).bind fun p15=>((oSl 1 p15.1).bind fun c16=>((oNil p15.2).bind fun _=>((LIM F.q4b [(.agg [(.sl 2 c8)]),(.sl 2 c10),(.int .i64 n12),(.int .i64 n14),(.sl 1 c16)]).bind fun r17=>((oNil r17.2).bind fun _=>((oAgg r17.1).bind fun c18=>((oCons c18).bind fun p19=>((oInt .i64 p19.1).bind fun n20=>((oCons p19.2).bind fun p21=>((oSl 1 p21.1).bind fun c22=>((oNil p21.2).bind fun _=>((LIM F.q4d [(.agg [(.sl 2 c8)]),(.sl 2 c10),(.int .i64 n12),(.int .i64 n14),(.sl 1 c16)]).bind fun r23=>((oNil r23.2).bind fun _=>((oAgg r23.1).bind fun c24=>((oCons c24).bind fun p25=>((oInt .i64 p25.1).bind fun n26=>((oCons p25.2).bind fun p27=>((oSl 1 p27.1).bind fun c28=>((oNil p27.2).bind fun _=>(bif ((n20 != n26)) then some ((.bool false),[]) else (bif ((n20 != (0:Int))) then some ((.bool true),[]) else ((LIM F.q35 [(.sl 1 a0)]).bind fun r29=>((oNil r29.2).bind fun _=>((oTup r29.1).bind fun c30=>((oCons c30).bind fun p31=>((oAgg p31.1).bind fun c32=>((oCons c32).bind fun p33=>((oSl 2 p33.1).bind fun c34=>((oNil p33.2).bind fun _=>((oCons p31.2).bind fun p35=>((oSl 1 p35.1).bind fun c36=>((oCons p35.2).bind fun p37=>((oSl 2 p37.1).bind fun c38=>((oNil p37.2).bind fun _=>((LIM F.q3l [(.agg [(.sl 2 c8)]),(.sl 1 c36),(.sl 2 c10)]).bind fun r39=>((oNil r39.2).bind fun _=>((oBool r39.1).bind fun b40=>(bif b40 then ((LIM F.q3u [(.agg [(.sl 2 c8)]),(.sl 1 c36),(.sl 1 c16),(.sl 1 c22)]).bind fun r41=>((oNil r41.2).bind fun _=>((oAgg r41.1).bind fun c42=>((oCons c42).bind fun p43=>((oInt .i64 p43.1).bind fun n44=>((oCons p43.2).bind fun p45=>((oInt .i64 p45.1).bind fun n46=>((oNil p45.2).bind fun _=>(bif ((n46 != (1:Int))) then some ((.bool false),[]) else ((LIM F.q40 [(.agg [(.sl 2 c8)]),(.sl 2 c10),(.sl 1 c16)]).bind fun r47=>((oNil r47.2).bind fun _=>((oAgg r47.1).bind fun c48=>((oCons c48).bind fun p49=>((oInt .i64 p49.1).bind fun n50=>((oCons p49.2).bind fun p51=>((oInt .i64 p51.1).bind fun n52=>((oCons p51.2).bind fun p53=>((oInt .i64 p53.1).bind fun n54=>((oNil p53.2).bind fun _=>(bif ((n50 != (0:Int))) then (bif ((n50 == (0:Int))) then ((LIM F.q1d [(.sl 1 c22),(.sl 1 [])]).bind fun r55=>((oNil r55.2).bind fun _=>((oBool r55.1).bind fun b56=>some ((.bool (!b56)),[])))) else some ((.bool false),[])) else (bif ((n54 != n12)) then (bif ((n50 == (0:Int))) then ((LIM F.q1d [(.sl 1 c22),(.sl 1 [])]).bind fun r57=>((oNil r57.2).bind fun _=>((oBool r57.1).bind fun b58=>some ((.bool (!b58)),[])))) else some ((.bool false),[])) else (bif ((n52 != n14)) then (bif ((n50 == (0:Int))) then ((LIM F.q1d [(.sl 1 c22),(.sl 1 [])]).bind fun r59=>((oNil r59.2).bind fun _=>((oBool r59.1).bind fun b60=>some ((.bool (!b60)),[])))) else some ((.bool false),[])) else ((LIM F.q2t [(.agg [(.sl 2 c8)]),(.sl 2 c10),(.sl 1 c16),(.int .i64 (30:Int))]).bind fun r61=>((oNil r61.2).bind fun _=>((oAgg r61.1).bind fun c62=>((oCons c62).bind fun p63=>((oInt .i64 p63.1).bind fun n64=>((oCons p63.2).bind fun p65=>((oSl 1 p65.1).bind fun c66=>((oCons p65.2).bind fun p67=>((oInt .i64 p67.1).bind fun n68=>((oNil p67.2).bind fun _=>((LIM F.q2t [(.agg [(.sl 2 c8)]),(.sl 2 c10),(.sl 1 c22),(.int .i64 (29:Int))]).bind fun r69=>((oNil r69.2).bind fun _=>((oAgg r69.1).bind fun c70=>((oCons c70).bind fun p71=>((oInt .i64 p71.1).bind fun n72=>((oCons p71.2).bind fun p73=>((oSl 1 p73.1).bind fun c74=>((oCons p73.2).bind fun p75=>((oInt .i64 p75.1).bind fun n76=>((oNil p75.2).bind fun _=>(bif ((n64 != (0:Int))) then some ((.bool ((n72 == n64))),[]) else (bif ((n72 == (0:Int))) then (bif ((n76 == (IntKind.wrap .i64 (n68 - (1:Int))))) then ((LIM F.q1d [(.sl 1 c74),(.sl 1 c66)]).bind fun r77=>((oNil r77.2).bind fun _=>((oBool r77.1).bind fun b78=>some ((.bool b78),[])))) else some ((.bool false),[])) else some ((.bool false),[]))))))))))))))))))))))))))))))))))))))))))))) else ((LIM F.q40 [(.agg [(.sl 2 c8)]),(.sl 2 c10),(.sl 1 c16)]).bind fun r79=>((oNil r79.2).bind fun _=>((oAgg r79.1).bind fun c80=>((oCons c80).bind fun p81=>((oInt .i64 p81.1).bind fun n82=>((oCons p81.2).bind fun p83=>((oInt .i64 p83.1).bind fun n84=>((oCons p83.2).bind fun p85=>((oInt .i64 p85.1).bind fun n86=>((oNil p85.2).bind fun _=>(bif ((n82 != (0:Int))) then (bif ((n82 == (0:Int))) then ((LIM F.q1d [(.sl 1 c22),(.sl 1 [])]).bind fun r87=>((oNil r87.2).bind fun _=>((oBool r87.1).bind fun b88=>some ((.bool (!b88)),[])))) else some ((.bool false),[])) else (bif ((n86 != n12)) then (bif ((n82 == (0:Int))) then ((LIM F.q1d [(.sl 1 c22),(.sl 1 [])]).bind fun r89=>((oNil r89.2).bind fun _=>((oBool r89.1).bind fun b90=>some ((.bool (!b90)),[])))) else some ((.bool false),[])) else (bif ((n84 != n14)) then (bif ((n82 == (0:Int))) then ((LIM F.q1d [(.sl 1 c22),(.sl 1 [])]).bind fun r91=>((oNil r91.2).bind fun _=>((oBool r91.1).bind fun b92=>some ((.bool (!b92)),[])))) else some ((.bool false),[])) else ((LIM F.q2t [(.agg [(.sl 2 c8)]),(.sl 2 c10),(.sl 1 c16),(.int .i64 (30:Int))]).bind fun r93=>((oNil r93.2).bind fun _=>((oAgg r93.1).bind fun c94=>((oCons c94).bind fun p95=>((oInt .i64 p95.1).bind fun n96=>((oCons p95.2).bind fun p97=>((oSl 1 p97.1).bind fun c98=>((oCons p97.2).bind fun p99=>((oInt .i64 p99.1).bind fun n100=>((oNil p99.2).bind fun _=>((LIM F.q2t [(.agg [(.sl 2 c8)]),(.sl 2 c10),(.sl 1 c22),(.int .i64 (29:Int))]).bind fun r101=>((oNil r101.2).bind fun _=>((oAgg r101.1).bind fun c102=>((oCons c102).bind fun p103=>((oInt .i64 p103.1).bind fun n104=>((oCons p103.2).bind fun p105=>((oSl 1 p105.1).bind fun c106=>((oCons p105.2).bind fun p107=>((oInt .i64 p107.1).bind fun n108=>((oNil p107.2).bind fun _=>(bif ((n96 != (0:Int))) then some ((.bool ((n104 == n96))),[]) else (bif ((n104 == (0:Int))) then (bif ((n108 == (IntKind.wrap .i64 (n100 - (1:Int))))) then ((LIM F.q1d [(.sl 1 c106),(.sl 1 c98)]).bind fun r109=>((oNil r109.2).bind fun _=>((oBool r109.1).bind fun b110=>some ((.bool b110),[])))) else some ((.bool false),[])) else some ((.bool false),[])))))))))))))))))))))))))))))))))))))))))))))))))))))))))))))))))))))))))))))))))))))))))))):=by kernel_rfl
theorem q45.ev (n:Nat) (a0:List T):callK prog A H LIM n F.q45 [(.sl 1 a0)]=some ((.bool (decide (((((a0).length / 1):Nat):Int) > (1048576:Int)))),[]):=by kernel_rfl
def q1d.st0 (x0 x1:List T) (x2:Int):St:=⟨[(0,ol 1 x0),(1,ol 1 x1),(5,oi x2)],[]⟩
noncomputable def q1d.K0 (n:Nat):Ex→St→R:=kx F.q1d n [.block 0,.seq 0 (cx F.q1d [1,1,1])] (endOf prog A F.q1d)
noncomputable def q1d.at0 (n:Nat) (m:Nat) (s:St):R:=lx F.q1d n 0 [1,1,0,1,0,0] (q1d.K0 n) m s
noncomputable def q1d.rd0 (n:Nat) (L0:St→R) (s:St):R:=rx F.q1d n 0 [1,1,0,1,0,0] (q1d.K0 n) L0 s
theorem q1d.next0 (n:Nat) (m:Nat) (s:St):q1d.at0 n (m+1) s=q1d.rd0 n (q1d.at0 n m) s:=nx _ _ _ _ _ _ _
theorem q1d.round0 (n:Nat) (L0:St→R) (x0 x1:List T) (x2:Int):q1d.rd0 n L0 (q1d.st0 x0 x1 x2)=(bif (decide (x2 < ((((x0).length / 1):Nat):Int))) then (bif inB x2 ((x0).length / 1) then ((x0[((Int.toNat x2)*1)]?).bind fun e1=>((oInt .i64 e1).bind fun n2=>(bif inB x2 ((x1).length / 1) then ((x1[((Int.toNat x2)*1)]?).bind fun e3=>((oInt .i64 e3).bind fun n4=>(bif ((n2 != n4)) then some ((.bool false),[]) else (L0 (q1d.st0 x0 x1 (IntKind.wrap .i64 (x2+(1:Int)))))))) else none))) else none) else some ((.bool true),[])):=by kernel_rfl
theorem q1d.ev (n:Nat) (a0 a1:List T):callK prog A H LIM n F.q1d [(.sl 1 a0),(.sl 1 a1)]=(bif ((((((a0).length / 1):Nat):Int) != ((((a1).length / 1):Nat):Int))) then some ((.bool false),[]) else (q1d.at0 n n (q1d.st0 a0 a1 (0:Int)))):=by kernel_rfl
theorem q59.ev (n:Nat) (a0:List T):callK prog A H LIM n F.q4s [(.sl 2 a0),(.clo F.q2q [])]=((LIM F.q13 [(.sl 2 a0),(.clo F.q2q [])]).bind fun r1=>((oNil r1.2).bind fun _=>((oInt .i64 r1.1).bind fun n2=>some ((.bool (decide (n2 ≥ (0:Int)))),[])))):=by kernel_rfl
theorem q2f.ev (n:Nat) (a0:List T):callK prog A H LIM n F.q5a [(.sl 2 a0),(.clo F.q28 [])]=((LIM F.q19 [(.sl 2 a0),(.clo F.q28 [])]).bind fun r1=>((oNil r1.2).bind fun _=>((oInt .i64 r1.1).bind fun n2=>some ((.bool (decide (n2 ≥ (0:Int)))),[])))):=by kernel_rfl
theorem q2m.ev (n:Nat) (a0:List T):callK prog A H LIM n F.q1w [(.sl 1 a0),(.clo F.q2b [])]=((LIM F.q0g [(.sl 1 a0),(.clo F.q2b [])]).bind fun r1=>((oNil r1.2).bind fun _=>((oInt .i64 r1.1).bind fun n2=>some ((.bool (decide (n2 ≥ (0:Int)))),[])))):=by kernel_rfl
theorem q2w.ev (n:Nat) (a0 a1_0_0:List T):callK prog A H LIM n F.q1w [(.sl 1 a0),(.clo F.q31 [(.rref [(.sl 2 a1_0_0)] 0)])]=((LIM F.q0g [(.sl 1 a0),(.clo F.q31 [(.rref [(.sl 2 a1_0_0)] 0)])]).bind fun r1=>((oNil r1.2).bind fun _=>((oInt .i64 r1.1).bind fun n2=>some ((.bool (decide (n2 ≥ (0:Int)))),[])))):=by kernel_rfl
theorem q33.ev (n:Nat) (a0 a1_0_0:List T):callK prog A H LIM n F.q1w [(.sl 1 a0),(.clo F.q3s [(.rref [(.sl 1 a1_0_0)] 0)])]=((LIM F.q0g [(.sl 1 a0),(.clo F.q3s [(.rref [(.sl 1 a1_0_0)] 0)])]).bind fun r1=>((oNil r1.2).bind fun _=>((oInt .i64 r1.1).bind fun n2=>some ((.bool (decide (n2 ≥ (0:Int)))),[])))):=by kernel_rfl
theorem q5k.ev (n:Nat) (a0 a1_0_0:List T):callK prog A H LIM n F.q1w [(.sl 1 a0),(.clo F.q2r [(.rref [(.sl 2 a1_0_0)] 0)])]=((LIM F.q0g [(.sl 1 a0),(.clo F.q2r [(.rref [(.sl 2 a1_0_0)] 0)])]).bind fun r1=>((oNil r1.2).bind fun _=>((oInt .i64 r1.1).bind fun n2=>some ((.bool (decide (n2 ≥ (0:Int)))),[])))):=by kernel_rfl
theorem q2a.ev (n:Nat) (a0:List T) (a1:Int):callK prog A H LIM n F.q2a [(.sl 1 a0),(.int .i64 a1)]=((LIM F.q0d [(.sl 1 a0),(.int .i64 a1)]).bind fun r1=>((oNil r1.2).bind fun _=>((oInt .i64 r1.1).bind fun n2=>some ((.bool (decide (n2 ≥ (0:Int)))),[])))):=by kernel_rfl
def q0h.st0 (x0 x1:List T) (x2 x3:Int):St:=⟨[(0,ol 1 x0),(1,ol 1 x1),(12,oi x2),(13,oi x3)],[]⟩
noncomputable def q0h.K0 (n:Nat):Ex→St→R:=kx F.q0h n [.block 0,.seq 0 (cx F.q0h [1,1,1])] (endOf prog A F.q0h)
noncomputable def q0h.at0 (n:Nat) (m:Nat) (s:St):R:=lx F.q0h n 0 [1,1,0,1,0,0] (q0h.K0 n) m s
noncomputable def q0h.rd0 (n:Nat) (L0:St→R) (s:St):R:=rx F.q0h n 0 [1,1,0,1,0,0] (q0h.K0 n) L0 s
theorem q0h.next0 (n:Nat) (m:Nat) (s:St):q0h.at0 n (m+1) s=q0h.rd0 n (q0h.at0 n m) s:=nx _ _ _ _ _ _ _
theorem q0h.round0 (n:Nat) (L0:St→R) (x0 x1:List T) (x2 x3:Int):q0h.rd0 n L0 (q0h.st0 x0 x1 x2 x3)=(bif (decide (x3 < x2)) then (bif inB x3 ((x0).length / 1) then ((x0[((Int.toNat x3)*1)]?).bind fun e1=>((oInt .i64 e1).bind fun n2=>(bif inB x3 ((x1).length / 1) then ((x1[((Int.toNat x3)*1)]?).bind fun e3=>((oInt .i64 e3).bind fun n4=>(bif ((n2 != n4)) then some ((.bool false),[]) else (L0 (q0h.st0 x0 x1 x2 (IntKind.wrap .i64 (x3+(1:Int)))))))) else none))) else none) else some ((.bool true),[])):=by kernel_rfl
theorem q0h.ev (n:Nat) (a0 a1:List T):callK prog A H LIM n F.q0h [(.sl 1 a0),(.sl 1 a1)]=(bif ((((((a0).length / 1):Nat):Int) != ((((a1).length / 1):Nat):Int))) then some ((.bool false),[]) else (q0h.at0 n n (q0h.st0 a0 a1 ((((a0).length / 1):Nat):Int) (0:Int)))):=by kernel_rfl
def q06.st0 (x0:List T) (x1 x2:Int):St:=⟨[(0,ol 2 x0),(1,(.one (.t (.clo F.q2q [])))),(7,oi x1),(8,oi x2)],[]⟩
noncomputable def q06.K0 (n:Nat):Ex→St→R:=kx F.q13 n [.block 0,.seq 0 (cx F.q13 [1,1])] (endOf prog A F.q13)
noncomputable def q06.at0 (n:Nat) (m:Nat) (s:St):R:=lx F.q13 n 0 [1,0,1,0,0] (q06.K0 n) m s
noncomputable def q06.rd0 (n:Nat) (L0:St→R) (s:St):R:=rx F.q13 n 0 [1,0,1,0,0] (q06.K0 n) L0 s
theorem q06.next0 (n:Nat) (m:Nat) (s:St):q06.at0 n (m+1) s=q06.rd0 n (q06.at0 n m) s:=nx _ _ _ _ _ _ _
theorem q06.round0 (n:Nat) (L0:St→R) (x0:List T) (x1 x2:Int):q06.rd0 n L0 (q06.st0 x0 x1 x2)=(bif (decide (x2 < x1)) then (bif inB x2 ((x0).length / 2) then ((x0[((Int.toNat x2)*2)]?).bind fun e1=>((oSl 1 e1).bind fun c2=>((x0[(((Int.toNat x2)*2)+1)]?).bind fun e3=>((oSl 1 e3).bind fun c4=>((LIM F.q2q [(.agg [(.sl 1 c2),(.sl 1 c4)])]).bind fun r5=>((oNil r5.2).bind fun _=>((oBool r5.1).bind fun b6=>(bif b6 then some ((.int .i64 x2),[]) else (L0 (q06.st0 x0 x1 (IntKind.wrap .i64 (x2+(1:Int))))))))))))) else none) else some ((.int .i64 (-1:Int)),[])):=by kernel_rfl
theorem q06.ev (n:Nat) (a0:List T):callK prog A H LIM n F.q13 [(.sl 2 a0),(.clo F.q2q [])]=(q06.at0 n n (q06.st0 a0 ((((a0).length / 2):Nat):Int) (0:Int))):=by kernel_rfl
def q08.st0 (x0 x1 x2:List T) (x3 x4:Int):St:=⟨[(0,ol 2 x0),(1,(.one (.t (.clo F.q50 [(.rref [(.sl 2 x1)] 0),(.rref [(.sl 1 x2)] 0)])))),(7,oi x3),(8,oi x4)],[]⟩
noncomputable def q08.K0 (n:Nat):Ex→St→R:=kx F.q13 n [.block 0,.seq 0 (cx F.q13 [1,1])] (endOf prog A F.q13)
noncomputable def q08.at0 (n:Nat) (m:Nat) (s:St):R:=lx F.q13 n 0 [1,0,1,0,0] (q08.K0 n) m s
noncomputable def q08.rd0 (n:Nat) (L0:St→R) (s:St):R:=rx F.q13 n 0 [1,0,1,0,0] (q08.K0 n) L0 s
theorem q08.next0 (n:Nat) (m:Nat) (s:St):q08.at0 n (m+1) s=q08.rd0 n (q08.at0 n m) s:=nx _ _ _ _ _ _ _
theorem q08.round0 (n:Nat) (L0:St→R) (x0 x1 x2:List T) (x3 x4:Int):q08.rd0 n L0 (q08.st0 x0 x1 x2 x3 x4)=(bif (decide (x4 < x3)) then (bif inB x4 ((x0).length / 2) then ((x0[((Int.toNat x4)*2)]?).bind fun e1=>((oSl 1 e1).bind fun c2=>((x0[(((Int.toNat x4)*2)+1)]?).bind fun e3=>((oSl 1 e3).bind fun c4=>((LIM F.q50 [(.agg [(.sl 1 c2),(.sl 1 c4)]),(.rref [(.sl 2 x1)] 0),(.rref [(.sl 1 x2)] 0)]).bind fun r5=>((oNil r5.2).bind fun _=>((oBool r5.1).bind fun b6=>(bif b6 then some ((.int .i64 x4),[]) else (L0 (q08.st0 x0 x1 x2 x3 (IntKind.wrap .i64 (x4+(1:Int))))))))))))) else none) else some ((.int .i64 (-1:Int)),[])):=by kernel_rfl
theorem q08.ev (n:Nat) (a0 a1_0_0 a1_1_0:List T):callK prog A H LIM n F.q13 [(.sl 2 a0),(.clo F.q50 [(.rref [(.sl 2 a1_0_0)] 0),(.rref [(.sl 1 a1_1_0)] 0)])]=(q08.at0 n n (q08.st0 a0 a1_0_0 a1_1_0 ((((a0).length / 2):Nat):Int) (0:Int))):=by kernel_rfl
def q02.st0 (x0:List T) (x1 x2:Int):St:=⟨[(0,ol 2 x0),(1,(.one (.t (.clo F.q28 [])))),(7,oi x1),(8,oi x2)],[]⟩
noncomputable def q02.K0 (n:Nat):Ex→St→R:=kx F.q19 n [.block 0,.seq 0 (cx F.q19 [1,1])] (endOf prog A F.q19)
noncomputable def q02.at0 (n:Nat) (m:Nat) (s:St):R:=lx F.q19 n 0 [1,0,1,0,0] (q02.K0 n) m s
noncomputable def q02.rd0 (n:Nat) (L0:St→R) (s:St):R:=rx F.q19 n 0 [1,0,1,0,0] (q02.K0 n) L0 s
theorem q02.next0 (n:Nat) (m:Nat) (s:St):q02.at0 n (m+1) s=q02.rd0 n (q02.at0 n m) s:=nx _ _ _ _ _ _ _
theorem q02.round0 (n:Nat) (L0:St→R) (x0:List T) (x1 x2:Int):q02.rd0 n L0 (q02.st0 x0 x1 x2)=(bif (decide (x2 < x1)) then (bif inB x2 ((x0).length / 2) then ((x0[((Int.toNat x2)*2)]?).bind fun e1=>((oStr e1).bind fun s2=>((x0[(((Int.toNat x2)*2)+1)]?).bind fun e3=>((oInt .i64 e3).bind fun n4=>((LIM F.q28 [(.agg [(.str s2),(.int .i64 n4)])]).bind fun r5=>((oNil r5.2).bind fun _=>((oBool r5.1).bind fun b6=>(bif b6 then some ((.int .i64 x2),[]) else (L0 (q02.st0 x0 x1 (IntKind.wrap .i64 (x2+(1:Int))))))))))))) else none) else some ((.int .i64 (-1:Int)),[])):=by kernel_rfl
theorem q02.ev (n:Nat) (a0:List T):callK prog A H LIM n F.q19 [(.sl 2 a0),(.clo F.q28 [])]=(q02.at0 n n (q02.st0 a0 ((((a0).length / 2):Nat):Int) (0:Int))):=by kernel_rfl
def q03.st0 (x0:List T) (x1:ByteArray) (x2 x3:Int):St:=⟨[(0,ol 2 x0),(1,(.one (.t (.clo F.q3c [(.rref [(.str x1)] 0)])))),(7,oi x2),(8,oi x3)],[]⟩
noncomputable def q03.K0 (n:Nat):Ex→St→R:=kx F.q19 n [.block 0,.seq 0 (cx F.q19 [1,1])] (endOf prog A F.q19)
noncomputable def q03.at0 (n:Nat) (m:Nat) (s:St):R:=lx F.q19 n 0 [1,0,1,0,0] (q03.K0 n) m s
noncomputable def q03.rd0 (n:Nat) (L0:St→R) (s:St):R:=rx F.q19 n 0 [1,0,1,0,0] (q03.K0 n) L0 s
theorem q03.next0 (n:Nat) (m:Nat) (s:St):q03.at0 n (m+1) s=q03.rd0 n (q03.at0 n m) s:=nx _ _ _ _ _ _ _
theorem q03.round0 (n:Nat) (L0:St→R) (x0:List T) (x1:ByteArray) (x2 x3:Int):q03.rd0 n L0 (q03.st0 x0 x1 x2 x3)=(bif (decide (x3 < x2)) then (bif inB x3 ((x0).length / 2) then ((x0[((Int.toNat x3)*2)]?).bind fun e1=>((oStr e1).bind fun s2=>((x0[(((Int.toNat x3)*2)+1)]?).bind fun e3=>((oInt .i64 e3).bind fun n4=>((LIM F.q3c [(.agg [(.str s2),(.int .i64 n4)]),(.rref [(.str x1)] 0)]).bind fun r5=>((oNil r5.2).bind fun _=>((oBool r5.1).bind fun b6=>(bif b6 then some ((.int .i64 x3),[]) else (L0 (q03.st0 x0 x1 x2 (IntKind.wrap .i64 (x3+(1:Int))))))))))))) else none) else some ((.int .i64 (-1:Int)),[])):=by kernel_rfl
theorem q03.ev (n:Nat) (a0:List T) (a1_0_0:ByteArray):callK prog A H LIM n F.q19 [(.sl 2 a0),(.clo F.q3c [(.rref [(.str a1_0_0)] 0)])]=(q03.at0 n n (q03.st0 a0 a1_0_0 ((((a0).length / 2):Nat):Int) (0:Int))):=by kernel_rfl
def q05.st0 (x0:List T) (x1 x2:Int):St:=⟨[(0,ol 1 x0),(1,(.one (.t (.clo F.q2b [])))),(7,oi x1),(8,oi x2)],[]⟩
noncomputable def q05.K0 (n:Nat):Ex→St→R:=kx F.q0g n [.block 0,.seq 0 (cx F.q0g [1,1])] (endOf prog A F.q0g)
noncomputable def q05.at0 (n:Nat) (m:Nat) (s:St):R:=lx F.q0g n 0 [1,0,1,0,0] (q05.K0 n) m s
noncomputable def q05.rd0 (n:Nat) (L0:St→R) (s:St):R:=rx F.q0g n 0 [1,0,1,0,0] (q05.K0 n) L0 s
theorem q05.next0 (n:Nat) (m:Nat) (s:St):q05.at0 n (m+1) s=q05.rd0 n (q05.at0 n m) s:=nx _ _ _ _ _ _ _
theorem q05.round0 (n:Nat) (L0:St→R) (x0:List T) (x1 x2:Int):q05.rd0 n L0 (q05.st0 x0 x1 x2)=(bif (decide (x2 < x1)) then (bif inB x2 ((x0).length / 1) then ((x0[((Int.toNat x2)*1)]?).bind fun e1=>((oInt .i64 e1).bind fun n2=>((LIM F.q2b [(.int .i64 n2)]).bind fun r3=>((oNil r3.2).bind fun _=>((oBool r3.1).bind fun b4=>(bif b4 then some ((.int .i64 x2),[]) else (L0 (q05.st0 x0 x1 (IntKind.wrap .i64 (x2+(1:Int))))))))))) else none) else some ((.int .i64 (-1:Int)),[])):=by kernel_rfl
theorem q05.ev (n:Nat) (a0:List T):callK prog A H LIM n F.q0g [(.sl 1 a0),(.clo F.q2b [])]=(q05.at0 n n (q05.st0 a0 ((((a0).length / 1):Nat):Int) (0:Int))):=by kernel_rfl
def q09.st0 (x0 x1:List T) (x2 x3:Int):St:=⟨[(0,ol 1 x0),(1,(.one (.t (.clo F.q31 [(.rref [(.sl 2 x1)] 0)])))),(7,oi x2),(8,oi x3)],[]⟩
noncomputable def q09.K0 (n:Nat):Ex→St→R:=kx F.q0g n [.block 0,.seq 0 (cx F.q0g [1,1])] (endOf prog A F.q0g)
noncomputable def q09.at0 (n:Nat) (m:Nat) (s:St):R:=lx F.q0g n 0 [1,0,1,0,0] (q09.K0 n) m s
noncomputable def q09.rd0 (n:Nat) (L0:St→R) (s:St):R:=rx F.q0g n 0 [1,0,1,0,0] (q09.K0 n) L0 s
theorem q09.next0 (n:Nat) (m:Nat) (s:St):q09.at0 n (m+1) s=q09.rd0 n (q09.at0 n m) s:=nx _ _ _ _ _ _ _
theorem q09.round0 (n:Nat) (L0:St→R) (x0 x1:List T) (x2 x3:Int):q09.rd0 n L0 (q09.st0 x0 x1 x2 x3)=(bif (decide (x3 < x2)) then (bif inB x3 ((x0).length / 1) then ((x0[((Int.toNat x3)*1)]?).bind fun e1=>((oInt .i64 e1).bind fun n2=>((LIM F.q31 [(.int .i64 n2),(.rref [(.sl 2 x1)] 0)]).bind fun r3=>((oNil r3.2).bind fun _=>((oBool r3.1).bind fun b4=>(bif b4 then some ((.int .i64 x3),[]) else (L0 (q09.st0 x0 x1 x2 (IntKind.wrap .i64 (x3+(1:Int))))))))))) else none) else some ((.int .i64 (-1:Int)),[])):=by kernel_rfl
theorem q09.ev (n:Nat) (a0 a1_0_0:List T):callK prog A H LIM n F.q0g [(.sl 1 a0),(.clo F.q31 [(.rref [(.sl 2 a1_0_0)] 0)])]=(q09.at0 n n (q09.st0 a0 a1_0_0 ((((a0).length / 1):Nat):Int) (0:Int))):=by kernel_rfl
def q0a.st0 (x0 x1:List T) (x2 x3:Int):St:=⟨[(0,ol 1 x0),(1,(.one (.t (.clo F.q3s [(.rref [(.sl 1 x1)] 0)])))),(7,oi x2),(8,oi x3)],[]⟩
noncomputable def q0a.K0 (n:Nat):Ex→St→R:=kx F.q0g n [.block 0,.seq 0 (cx F.q0g [1,1])] (endOf prog A F.q0g)
noncomputable def q0a.at0 (n:Nat) (m:Nat) (s:St):R:=lx F.q0g n 0 [1,0,1,0,0] (q0a.K0 n) m s
noncomputable def q0a.rd0 (n:Nat) (L0:St→R) (s:St):R:=rx F.q0g n 0 [1,0,1,0,0] (q0a.K0 n) L0 s
theorem q0a.next0 (n:Nat) (m:Nat) (s:St):q0a.at0 n (m+1) s=q0a.rd0 n (q0a.at0 n m) s:=nx _ _ _ _ _ _ _
theorem q0a.round0 (n:Nat) (L0:St→R) (x0 x1:List T) (x2 x3:Int):q0a.rd0 n L0 (q0a.st0 x0 x1 x2 x3)=(bif (decide (x3 < x2)) then (bif inB x3 ((x0).length / 1) then ((x0[((Int.toNat x3)*1)]?).bind fun e1=>((oInt .i64 e1).bind fun n2=>((LIM F.q3s [(.int .i64 n2),(.rref [(.sl 1 x1)] 0)]).bind fun r3=>((oNil r3.2).bind fun _=>((oBool r3.1).bind fun b4=>(bif b4 then some ((.int .i64 x3),[]) else (L0 (q0a.st0 x0 x1 x2 (IntKind.wrap .i64 (x3+(1:Int))))))))))) else none) else some ((.int .i64 (-1:Int)),[])):=by kernel_rfl
theorem q0a.ev (n:Nat) (a0 a1_0_0:List T):callK prog A H LIM n F.q0g [(.sl 1 a0),(.clo F.q3s [(.rref [(.sl 1 a1_0_0)] 0)])]=(q0a.at0 n n (q0a.st0 a0 a1_0_0 ((((a0).length / 1):Nat):Int) (0:Int))):=by kernel_rfl
def q07.st0 (x0 x1:List T) (x2 x3:Int):St:=⟨[(0,ol 1 x0),(1,(.one (.t (.clo F.q2r [(.rref [(.sl 2 x1)] 0)])))),(7,oi x2),(8,oi x3)],[]⟩
noncomputable def q07.K0 (n:Nat):Ex→St→R:=kx F.q0g n [.block 0,.seq 0 (cx F.q0g [1,1])] (endOf prog A F.q0g)
noncomputable def q07.at0 (n:Nat) (m:Nat) (s:St):R:=lx F.q0g n 0 [1,0,1,0,0] (q07.K0 n) m s
noncomputable def q07.rd0 (n:Nat) (L0:St→R) (s:St):R:=rx F.q0g n 0 [1,0,1,0,0] (q07.K0 n) L0 s
theorem q07.next0 (n:Nat) (m:Nat) (s:St):q07.at0 n (m+1) s=q07.rd0 n (q07.at0 n m) s:=nx _ _ _ _ _ _ _
theorem q07.round0 (n:Nat) (L0:St→R) (x0 x1:List T) (x2 x3:Int):q07.rd0 n L0 (q07.st0 x0 x1 x2 x3)=(bif (decide (x3 < x2)) then (bif inB x3 ((x0).length / 1) then ((x0[((Int.toNat x3)*1)]?).bind fun e1=>((oInt .i64 e1).bind fun n2=>((LIM F.q2r [(.int .i64 n2),(.rref [(.sl 2 x1)] 0)]).bind fun r3=>((oNil r3.2).bind fun _=>((oBool r3.1).bind fun b4=>(bif b4 then some ((.int .i64 x3),[]) else (L0 (q07.st0 x0 x1 x2 (IntKind.wrap .i64 (x3+(1:Int))))))))))) else none) else some ((.int .i64 (-1:Int)),[])):=by kernel_rfl
theorem q07.ev (n:Nat) (a0 a1_0_0:List T):callK prog A H LIM n F.q0g [(.sl 1 a0),(.clo F.q2r [(.rref [(.sl 2 a1_0_0)] 0)])]=(q07.at0 n n (q07.st0 a0 a1_0_0 ((((a0).length / 1):Nat):Int) (0:Int))):=by kernel_rfl
def q0d.st0 (x0:List T) (x1 x2 x3:Int):St:=⟨[(0,ol 1 x0),(1,oi x1),(7,oi x2),(8,oi x3)],[]⟩
noncomputable def q0d.K0 (n:Nat):Ex→St→R:=kx F.q0d n [.block 0,.seq 0 (cx F.q0d [1,1])] (endOf prog A F.q0d)
noncomputable def q0d.at0 (n:Nat) (m:Nat) (s:St):R:=lx F.q0d n 0 [1,0,1,0,0] (q0d.K0 n) m s
noncomputable def q0d.rd0 (n:Nat) (L0:St→R) (s:St):R:=rx F.q0d n 0 [1,0,1,0,0] (q0d.K0 n) L0 s
theorem q0d.next0 (n:Nat) (m:Nat) (s:St):q0d.at0 n (m+1) s=q0d.rd0 n (q0d.at0 n m) s:=nx _ _ _ _ _ _ _
theorem q0d.round0 (n:Nat) (L0:St→R) (x0:List T) (x1 x2 x3:Int):q0d.rd0 n L0 (q0d.st0 x0 x1 x2 x3)=(bif (decide (x3 < x2)) then (bif inB x3 ((x0).length / 1) then ((x0[((Int.toNat x3)*1)]?).bind fun e1=>((oInt .i64 e1).bind fun n2=>(bif ((x1 == n2)) then some ((.int .i64 x3),[]) else (L0 (q0d.st0 x0 x1 x2 (IntKind.wrap .i64 (x3+(1:Int)))))))) else none) else some ((.int .i64 (-1:Int)),[])):=by kernel_rfl
theorem q0d.ev (n:Nat) (a0:List T) (a1:Int):callK prog A H LIM n F.q0d [(.sl 1 a0),(.int .i64 a1)]=(q0d.at0 n n (q0d.st0 a0 a1 ((((a0).length / 1):Nat):Int) (0:Int))):=by kernel_rfl
end Ev
end
