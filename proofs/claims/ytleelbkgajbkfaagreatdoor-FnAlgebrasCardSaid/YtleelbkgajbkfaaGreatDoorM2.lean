/- Steps on the way to RowAlgebras: EvOrder, EvState, EvCode, EvBody, EvMeets, EvLim, EvOpen, EvRow, EvInsert, EvInts, EvTrim, Lay, F, TyBase. -/
import Derived.Test.YtleelbkgajbkfaaGreatDoorM1
import Derived.ChangeArms
import Derived.OpenShut
import Derived.WalkKit
import Derived.ProofKit
import Derived.ShutString
import Derived.ChangeOld
import Derived.SizedLaws
import Derived.Below
import Derived.Sort.Row
import Derived.Shelf.Lays2
import Derived.Shelf.SlGeneric
import Derived.Shelf.Spec.SlicesInsertGrow
import Derived.Sort.Grow
import Derived.Lib.SlicesCompact
import Derived.Shelf.Strings.SlTrimAscii
import Derived.Test.YtleelbkgajbkfaaGreatDoorProg
import Derived.KernelRfl
import Derived.Shelf.SlicesG.Clone
import Derived.Shelf.SlicesG.CompactI
import Derived.Shelf.SortM.Plain
import Derived.Shelf.SortM.SortNone
import Derived.Lib.Strings
set_option linter.unusedSectionVars false
set_option linter.unusedVariables false
set_option linter.unusedSimpArgs false
section
namespace Ev
open Go
section
variable {P:Program}{A:Attrs}{E:Env}{c:Ctx}{s:St}{a:Act}{w w0:World}{val:Key->Value}{fp:Key->List Nat}{r:T×List T}
theorem opsK_sound(hE:∀g args r,E g args=some r->Meets P (A g) g args r){ops:Array Oper}{n:Nat}{tp:Option Nat}{a0:Array Value}(hdst:∀(i:Nat)(o:Oper),ops[i]?=some o->∀d,o.dst=some d->d<n/\tp≠some d){K:St->R}{Q:Exit->Act->World->Prop}
 (hQ:∀s' a' w' val' fp',K s'=some r->Inv c s' a' w' val' fp'->KT a0 tp n a'->Kp c.own w0 w'->Q .normal a' w') :
 ∀(rest:List Oper)(j:Nat)(s:St)(a:Act)(w:World)(val:Key->Value)(fp:Key->List Nat),(∀i,rest[i]?=ops[j+i]?)->Inv c s a w val fp->KT a0 tp n a->Kp c.own w0 w->
  opsK P A E ops.toList rest s K=some r->wpOps P ops Q (List.range' j rest.length) a w
 |[],j,s,a,w,val,fp,_,h,hn,hk,hr=>hQ s a w val fp hr h hn hk
 |o::rest,j,s,a,w,val,fp,hrest,h,hn,hk,hr=>by
  have hj:ops[j]?=some o:=by have:=hrest 0;simp at this;exact this.symm
  rw[List.length_cons,List.range'_succ,wpOps_cons];rw[opsK,runP_step,Option.bind_eq_some_iff]at hr;obtain⟨⟨s',L⟩,hstep,hr⟩:=hr;refine wpOp_mono (fun a' w' ⟨h1,val',fp',h2,h3⟩=>?_) (guard_sound h hE hj (fun d hd=>by rw[hn.1];exact(hdst j o hj d hd).1) hstep);exact opsK_sound hE hdst hQ rest (j+1) s' a' w' val' fp' (fun i=>by have:=hrest (i+1);simp at this;rw[this];congr 1;omega) h2 (hn.next h1 fun d hd=>(hdst j o hj d hd).2) (hk.trans h3) hr
structure Run(P:Program)(A:Attrs)(E:Env)(ops:Array Oper)(n:Nat)(st:Nat->St)(lg:Nat->Log):Prop where
 step:∀i o,i<n->ops[i]?=some o->stepP E (guardP ops.toList o (opP P A o)) (st i) emptyLog=some (st (i+1),lg i)
theorem opsL_run{ops:Array Oper}{K:St->List Log->R}:∀(rest:List Oper)(j:Nat)(s:St)(ls:List Log),(∀i,rest[i]?=ops[j+i]?)->opsL P A E ops.toList rest s ls K=some r->
 ∃(st:Nat->St)(lg:Nat->Log),st j=s/\(∀i o,j<=i->i<j+rest.length->ops[i]?=some o->stepP E (guardP ops.toList o (opP P A o)) (st i) emptyLog=some (st (i+1),lg i))/\
  K (st (j+rest.length)) (((List.range' j rest.length).map lg).reverse++ls)=some r
 |[],j,s,ls,_,hr=>⟨fun _=>s,fun _=>emptyLog,rfl,fun i o h1 h2=>by simp at h2;omega,by simpa[opsL]using hr⟩
 |o::rest,j,s,ls,hrest,hr=>by
  have hj:ops[j]?=some o:=by have:=hrest 0;simp at this;exact this.symm
  rw[opsL,runP_step,Option.bind_eq_some_iff]at hr;obtain⟨⟨s',L⟩,hstep,hr⟩:=hr;obtain⟨st,lg,e1,e2,e3⟩:=opsL_run rest (j+1) s' (L::ls) (fun i=>by have:=hrest (i+1);simp at this;rw[this];congr 1;omega) hr;refine⟨fun i=>if i=j then s else st i,fun i=>if i=j then L else lg i,by simp,fun i o' h1 h2 ho=>?_,?_⟩
  ·by_cases hij:i=j
   ·subst hij;rw[hj]at ho;cases ho;show stepP E _ (if i=i then s else st i) emptyLog=some (if i+1=i then s else st (i+1),if i=i then L else lg i);rw[if_pos rfl,if_pos rfl,if_neg (by omega),e1];exact hstep
   ·show stepP E _ (if i=j then s else st i) emptyLog=some (if i+1=j then s else st (i+1),if i=j then L else lg i);rw[if_neg hij,if_neg (by omega),if_neg hij];exact e2 i o' (by omega) (by simp at h2;omega) ho
  ·show K (if j+(rest.length+1)=j then s else st (j+(rest.length+1))) (((List.range' j (rest.length+1)).map fun i=>if i=j then L else lg i).reverse++ls)=some r;rw[if_neg (by omega),List.range'_succ,List.map_cons,if_pos rfl,List.reverse_cons,List.append_assoc,List.singleton_append]
   have:(List.range' (j+1) rest.length).map (fun i=>if i=j then L else lg i)=(List.range' (j+1) rest.length).map lg:=by
    apply List.map_congr_left;intro i hi;have:=List.mem_range'_1.1 hi;rw[if_neg (by omega)]
   rw[this,show j+(rest.length+1)=j+1+rest.length by omega];exact e3
section
variable {ops:Array Oper}{st:Nat->St}{lg:Nat->Log}
def MgT(n:Nat)(st:Nat->St)(lg:Nat->Log)(D:Nat->Prop)(t:St)(x:Nat):Prop:=
 (∃j,j<n/\D j/\x∈(lg j).wrT/\(∀j',j<j'->j'<n->D j'->x∉(lg j').wrT)/\t.getT x=(st (j+1)).getT x)\/((∀j,j<n->D j->x∉(lg j).wrT)/\t.getT x=(st 0).getT x)
def MgO(n:Nat)(st:Nat->St)(lg:Nat->Log)(D:Nat->Prop)(t:St)(x:Key):Prop:=
 (∃j,j<n/\D j/\x∈(lg j).wrO/\(∀j',j<j'->j'<n->D j'->x∉(lg j').wrO)/\t.getO x=(st (j+1)).getO x)\/((∀j,j<n->D j->x∉(lg j).wrO)/\t.getO x=(st 0).getO x)
theorem Run.mgT(h:Run P A E ops ops.size st lg)(x:Nat):∀i,i<=ops.size->MgT ops.size st lg (· < i) (st i) x:=by
 intro i;induction i with
 |zero=>intro _;exact .inr ⟨fun _ _ h=>absurd h (Nat.not_lt_zero _),rfl⟩
 |succ i ih=>
  intro hi;have ho:ops[i]?=some ops[i]:=by simp[show i<ops.size by omega]
  have hs:=step_log E _ (h.step i _ (by omega) ho);by_cases hx:x∈(lg i).wrT
  ·exact .inl ⟨i,by omega,Nat.lt_succ_self i,hx,fun j' h1 _ h3=>by omega,rfl⟩
  ·have hsame:(st (i+1)).getT x=(st i).getT x:=hs.2.2.2.2.1 x hx;rcases ih (by omega)with⟨j,h1,h2,h3,h4,h5⟩|⟨h1,h2⟩
   ·refine .inl ⟨j,h1,by omega,h3,fun j' q1 q2 q3=>?_,hsame.trans h5⟩;by_cases hj:j'=i
    ·rw[hj];exact hx
    ·exact h4 j' q1 q2 (by omega)
   ·refine .inr ⟨fun j q1 q2=>?_,hsame.trans h2⟩;by_cases hj:j=i
    ·rw[hj];exact hx
    ·exact h1 j q1 (by omega)
theorem Run.mgO(h:Run P A E ops ops.size st lg)(x:Key):∀i,i<=ops.size->MgO ops.size st lg (· < i) (st i) x:=by
 intro i;induction i with
 |zero=>intro _;exact .inr ⟨fun _ _ h=>absurd h (Nat.not_lt_zero _),rfl⟩
 |succ i ih=>
  intro hi;have ho:ops[i]?=some ops[i]:=by simp[show i<ops.size by omega]
  have hs:=step_log E _ (h.step i _ (by omega) ho);by_cases hx:x∈(lg i).wrO
  ·exact .inl ⟨i,by omega,Nat.lt_succ_self i,hx,fun j' h1 _ h3=>by omega,rfl⟩
  ·have hsame:(st (i+1)).getO x=(st i).getO x:=hs.2.2.2.2.2 x hx;rcases ih (by omega)with⟨j,h1,h2,h3,h4,h5⟩|⟨h1,h2⟩
   ·refine .inl ⟨j,h1,by omega,h3,fun j' q1 q2 q3=>?_,hsame.trans h5⟩;by_cases hj:j'=i
    ·rw[hj];exact hx
    ·exact h4 j' q1 q2 (by omega)
   ·refine .inr ⟨fun j q1 q2=>?_,hsame.trans h2⟩;by_cases hj:j=i
    ·rw[hj];exact hx
    ·exact h1 j q1 (by omega)
theorem MgT.same{n:Nat}{D D':Nat->Prop}{t t':St}{x:Nat}(h:MgT n st lg D t x)(h':MgT n st lg D' t' x)(hw:∀j,j<n->x∈(lg j).wrT->(D j<->D' j)):t'.getT x=t.getT x:=by
 rcases h with⟨j,a1,a2,a3,a4,a5⟩|⟨a1,a2⟩ <;> rcases h' with⟨j',b1,b2,b3,b4,b5⟩|⟨b1,b2⟩
 ·have:j=j':=by
   rcases Nat.lt_trichotomy j j' with h|h|h
   ·exact absurd b3 (a4 j' h b1 ((hw j' b1 b3).2 b2))
   ·exact h
   ·exact absurd a3 (b4 j h a1 ((hw j a1 a3).1 a2))
  subst this;rw[a5,b5]
 ·exact absurd a3 (b1 j a1 ((hw j a1 a3).1 a2))
 ·exact absurd b3 (a1 j' b1 ((hw j' b1 b3).2 b2))
 ·rw[a2,b2]
theorem MgO.same{n:Nat}{D D':Nat->Prop}{t t':St}{x:Key}(h:MgO n st lg D t x)(h':MgO n st lg D' t' x)(hw:∀j,j<n->x∈(lg j).wrO->(D j<->D' j)):t'.getO x=t.getO x:=by
 rcases h with⟨j,a1,a2,a3,a4,a5⟩|⟨a1,a2⟩ <;> rcases h' with⟨j',b1,b2,b3,b4,b5⟩|⟨b1,b2⟩
 ·have:j=j':=by
   rcases Nat.lt_trichotomy j j' with h|h|h
   ·exact absurd b3 (a4 j' h b1 ((hw j' b1 b3).2 b2))
   ·exact h
   ·exact absurd a3 (b4 j h a1 ((hw j a1 a3).1 a2))
  subst this;rw[a5,b5]
 ·exact absurd a3 (b1 j a1 ((hw j a1 a3).1 a2))
 ·exact absurd b3 (a1 j' b1 ((hw j' b1 b3).2 b2))
 ·rw[a2,b2]
theorem memN_iff{l:List Nat}{i:Nat}:memN l i=true<->i∈l:=by
 unfold memN;rw[List.any_eq_true];constructor
 ·rintro⟨x,hx,he⟩;rw[Nat.eq_of_beq_eq_true he];exact hx
 ·intro h;exact⟨i,h,by simp⟩
theorem disj_spec{a b:List Nat}(h:disj a b=true):∀x,x∈a->x∉b:=by
 intro x hx hb;have:=List.all_eq_true.1 h x hx;rw[memN_iff.2 hb]at this;cases this
theorem edgesOk_spec:∀{rest:List Oper}{j:Nat},edgesOk j rest=true->∀(i:Nat)(o:Oper),rest[i]?=some o->∀e∈o.after.toList,Region.binds .any e=true->e.on<j+i
 |[],j,_,i,o,ho=>by simp at ho
 |x::rest,j,h,i,o,ho=>by
  rw[edgesOk,Bool.and_eq_true]at h;intro e he hb;cases i with
  |zero=>
   simp at ho;subst ho;have:=List.all_eq_true.1 h.1 e he;rw[hb]at this;simp only[Bool.not_true,Bool.false_or]at this;exact Nat.le_of_ble_eq_true this
  |succ i=>
   have:=edgesOk_spec h.2 i o (by simpa using ho) e he hb;omega
theorem testBit_orAll:∀{l:List Nat}{j:Nat},(orAll l).testBit j=true<->∃x,x∈l/\x.testBit j=true
 |[],j=>by simp[orAll]
 |x::r,j=>by
  rw[orAll,Nat.testBit_or,Bool.or_eq_true,testBit_orAll];constructor
  ·rintro(h|⟨y,hy,h⟩)
   ·exact⟨x,by simp,h⟩
   ·exact⟨y,by simp[hy],h⟩
  ·rintro⟨y,hy,h⟩;rcases List.mem_cons.1 hy with rfl|hy
   ·exact .inl h
   ·exact .inr ⟨y,hy,h⟩
theorem ancs_spec:∀{rest:List Oper}{acc:List Nat},edgesOk acc.length rest=true->∃l,ancs rest acc=acc++l/\l.length=rest.length/\
 ∀(i:Nat)(o:Oper),rest[i]?=some o->∀j,((ancs rest acc).getD (acc.length+i) 0).testBit j=true <->
  ∃e,e∈o.after.toList/\Region.binds .any e=true/\(j=e.on\/((ancs rest acc).getD e.on 0).testBit j=true)
 |[],acc,_=>⟨[],by simp[ancs],rfl,by simp⟩
 |x::rest,acc,h=>by
  rw[edgesOk,Bool.and_eq_true]at h;let y:=orAll ((x.after.toList.filter (Region.binds .any)).map fun e=>2 ^ e.on ||| acc.getD e.on 0);have hlen:(acc++[y]).length=acc.length+1:=by simp
  obtain⟨l,e1,e2,e3⟩:=ancs_spec (rest:=rest) (acc:=acc++[y]) (by rw[hlen];exact h.2);have e0:ancs (x::rest) acc=ancs rest (acc++[y]):=rfl;have e1':ancs (x::rest) acc=acc++(y::l):=by rw[e0,e1];simp
  refine⟨y::l,e1',by simp[e2],fun i o ho j=>?_⟩;cases i with
  |zero=>
   simp at ho;subst ho;have hy:(ancs (x::rest) acc).getD (acc.length+0) 0=y:=by rw[e1'];simp
   rw[hy]
   have hlt:∀e,e∈x.after.toList->Region.binds .any e=true->((ancs (x::rest) acc).getD e.on 0)=acc.getD e.on 0:=fun e he hb=>by
    have:e.on<acc.length:=by
     have:=List.all_eq_true.1 h.1 e he;rw[hb]at this;simp only[Bool.not_true,Bool.false_or]at this;exact Nat.le_of_ble_eq_true this
    rw[e1'];simp only[List.getD_eq_getElem?_getD];rw[List.getElem?_append_left this]
   show y.testBit j=true<->_;rw[show y=orAll _ from rfl,testBit_orAll];constructor
   ·rintro⟨m,hm,hj⟩;obtain⟨e,he,rfl⟩:=List.mem_map.1 hm;rw[List.mem_filter]at he;refine⟨e,he.1,he.2,?_⟩;rw[hlt e he.1 he.2];rw[Nat.testBit_or,Bool.or_eq_true,Nat.testBit_two_pow,decide_eq_true_eq]at hj;exact hj.imp Eq.symm id
   ·rintro⟨e,he,hb,hj⟩;rw[hlt e he hb]at hj;refine⟨_,List.mem_map.2 ⟨e,List.mem_filter.2 ⟨he,hb⟩,rfl⟩,?_⟩;rw[Nat.testBit_or,Bool.or_eq_true,Nat.testBit_two_pow,decide_eq_true_eq];exact hj.imp Eq.symm id
  |succ i=>
   have:=e3 i o (by simpa using ho) j;rw[hlen]at this;rw[e0,show acc.length+(i+1)=acc.length+1+i by omega];exact this
structure Ordered(ops:Array Oper)(lg:Nat->Log)(anc:Nat->Nat->Prop):Prop where
 edge:∀(i:Nat)(o:Oper),ops[i]?=some o->∀j,anc i j<->∃e,e∈o.after.toList/\Region.binds .any e=true/\(j=e.on\/anc e.on j)
 less:∀(i:Nat)(o:Oper),ops[i]?=some o->∀e,e∈o.after.toList->Region.binds .any e=true->e.on<i
 apart:∀i j,i<j->j<ops.size->anc j i\/apartL (lg i) (lg j)=true
theorem ordered_of(h1:edgesOk 0 ops.toList=true)(h2:apartAll (ancs ops.toList []) ((List.range ops.size).map lg)=true) :
 Ordered ops lg fun i j=>((ancs ops.toList []).getD i 0).testBit j=true:=by
 obtain⟨l,e1,e2,e3⟩:=ancs_spec (acc:=[]) h1;refine⟨fun i o ho j=>?_,fun i o ho e he hb=>?_,fun i j hij hj=>?_⟩
 ·have:=e3 i o (by simpa using ho) j;rw[List.length_nil,Nat.zero_add]at this;exact this
 ·have:=edgesOk_spec h1 i o (by simpa using ho) e he hb;omega
 ·unfold apartAll at h2;have h3:=List.all_eq_true.1 h2 j (by simp[hj]);have h4:=List.all_eq_true.1 h3 i (List.mem_range.2 hij);rw[Bool.or_eq_true]at h4;rcases h4 with h4|h4
  ·exact .inl h4
  ·right;have g:∀k,k<ops.size->((List.range ops.size).map lg).getD k emptyLog=lg k:=fun k hk=>by simp[List.getD_eq_getElem?_getD,hk]
   rw[g i (by omega),g j hj]at h4;exact h4
theorem apartL_spec{a b:Log}(h:apartL a b=true):(∀x,x∈a.wrT->x∉b.rdT/\x∉b.wrT)/\(∀x,x∈b.wrT->x∉a.rdT)/\(∀x,x∈a.wrO->x∉b.rdO/\x∉b.wrO)/\(∀x,x∈b.wrO->x∉a.rdO):=by
 unfold apartL at h;simp only[Bool.and_eq_true]at h;obtain⟨⟨⟨⟨⟨h1,h2⟩,h3⟩,h4⟩,h5⟩,h6⟩:=h;exact⟨fun x hx=>⟨disj_spec h1 x hx,disj_spec h2 x hx⟩,fun x hx=>disj_spec h3 x hx,fun x hx=>⟨disj_spec h4 x hx,disj_spec h5 x hx⟩,fun x hx=>disj_spec h6 x hx⟩
def Closed(n:Nat)(anc:Nat->Nat->Prop)(D:Nat->Prop):Prop:=∀j,j<n->D j->∀k,anc j k->D k
theorem mg_step{anc:Nat->Nat->Prop}(ho:Ordered ops lg anc)(hr:Run P A E ops ops.size st lg){D:Nat->Prop}(hD:Closed ops.size anc D){t:St}(hT:∀x,MgT ops.size st lg D t x)(hO:∀x,MgO ops.size st lg D t x)
 {i:Nat} (hi:i<ops.size) (hn:¬ D i) (hanc:∀k,anc i k->D k) :
 ∃t',stepP E (guardP ops.toList ops[i] (opP P A ops[i])) t emptyLog=some (t',lg i)/\(∀x,MgT ops.size st lg (fun j=>D j\/j=i) t' x)/\(∀x,MgO ops.size st lg (fun j=>D j\/j=i) t' x):=by
 have hoi:ops[i]?=some ops[i]:=by simp[hi]
 have hstep:=hr.step i _ hi hoi;have hs:=step_log E _ hstep
 have cmp:∀j,j<ops.size->j≠i->(apartL (lg j) (lg i)=true->False)->(apartL (lg i) (lg j)=true->False)->(j<i<->D j):=fun j hj hne h1 h2=>by
  constructor
  ·intro hlt;rcases ho.apart j i hlt hi with h|h
   ·exact hanc j h
   ·exact(h1 h).elim
  ·intro hDj;rcases Nat.lt_or_gt_of_ne hne with h|h
   ·exact h
   ·rcases ho.apart i j h hj with h'|h'
    ·exact absurd (hD j hj hDj i h') hn
    ·exact(h2 h').elim
 have agree:Agrees (lg i) (st i) t:=by
  refine⟨fun x hx=>?_,fun x hx=>?_⟩
  ·refine(hr.mgT x i (by omega)).same (hT x) fun j hj hw=>?_;by_cases hji:j=i
   ·subst hji;simp[hn]
   ·exact cmp j hj hji (fun h=>(apartL_spec h).1 x hw |>.1 hx) (fun h=>(apartL_spec h).2.1 x hw hx)
  ·refine(hr.mgO x i (by omega)).same (hO x) fun j hj hw=>?_;by_cases hji:j=i
   ·subst hji;simp[hn]
   ·exact cmp j hj hji (fun h=>(apartL_spec h).2.2.1 x hw |>.1 hx) (fun h=>(apartL_spec h).2.2.2 x hw hx)
 obtain⟨t',h1,h2,h3,h4,h5⟩:=step_local E _ hstep agree;have hs':=step_log E _ h1;refine⟨t',h1,fun x=>?_,fun x=>?_⟩
 ·by_cases hx:x∈(lg i).wrT
  ·refine .inl ⟨i,hi,.inr rfl,hx,fun j' q1 q2 q3 hw=>?_,h4 x hx (by simp[emptyLog])⟩;rcases q3 with q3|q3
   ·rcases ho.apart i j' q1 q2 with h|h
    ·exact hn (hD j' q2 q3 i h)
    ·exact((apartL_spec h).1 x hx).2 hw
   ·omega
  ·have e:t'.getT x=t.getT x:=hs'.2.2.2.2.1 x hx;rcases hT x with⟨j,a1,a2,a3,a4,a5⟩|⟨a1,a2⟩
   ·refine .inl ⟨j,a1,.inl a2,a3,fun j' q1 q2 q3=>?_,e.trans a5⟩;rcases q3 with q3|q3
    ·exact a4 j' q1 q2 q3
    ·rw[q3];exact hx
   ·refine .inr ⟨fun j q1 q2=>?_,e.trans a2⟩;rcases q2 with q2|q2
    ·exact a1 j q1 q2
    ·rw[q2];exact hx
 ·by_cases hx:x∈(lg i).wrO
  ·refine .inl ⟨i,hi,.inr rfl,hx,fun j' q1 q2 q3 hw=>?_,h5 x hx (by simp[emptyLog])⟩;rcases q3 with q3|q3
   ·rcases ho.apart i j' q1 q2 with h|h
    ·exact hn (hD j' q2 q3 i h)
    ·exact((apartL_spec h).2.2.1 x hx).2 hw
   ·omega
  ·have e:t'.getO x=t.getO x:=hs'.2.2.2.2.2 x hx;rcases hO x with⟨j,a1,a2,a3,a4,a5⟩|⟨a1,a2⟩
   ·refine .inl ⟨j,a1,.inl a2,a3,fun j' q1 q2 q3=>?_,e.trans a5⟩;rcases q3 with q3|q3
    ·exact a4 j' q1 q2 q3
    ·rw[q3];exact hx
   ·refine .inr ⟨fun j q1 q2=>?_,e.trans a2⟩;rcases q2 with q2|q2
    ·exact a1 j q1 q2
    ·rw[q2];exact hx
def left(n:Nat)(listed:Array Bool):List Nat:=(List.range n).filter fun i=>!listed.getD i true
theorem mem_ready{listed:Array Bool}{i:Nat}:i∈Region.ready .any ops listed<->i<ops.size/\listed.getD i true=false/\∀o,ops[i]?=some o->∀e,e∈o.after.toList->Region.binds .any e=true->listed.getD e.on false=true:=by
 unfold Region.ready;rw[List.mem_filter,List.mem_range];constructor
 ·rintro⟨h1,h2⟩;rw[Bool.and_eq_true,Bool.not_eq_true']at h2;refine⟨h1,h2.1,fun o ho e he hb=>?_⟩;rw[ho]at h2;simp only[Option.map_some,Option.getD_some]at h2;have:=Array.all_eq_true_iff_forall_mem.1 h2.2 e (by simpa using he);rw[hb]at this;simpa using this
 ·rintro⟨h1,h2,h3⟩;refine⟨h1,?_⟩;have ho:ops[i]?=some ops[i]:=by simp[h1]
  rw[Bool.and_eq_true,Bool.not_eq_true',ho];refine⟨h2,?_⟩;simp only[Option.map_some,Option.getD_some];refine Array.all_eq_true_iff_forall_mem.2 fun e he=>?_;cases hb:Region.binds .any e with
  |false=>rfl
  |true=>simpa using h3 _ ho e (by simpa using he) hb
theorem anyOrder(hE:∀g args r,E g args=some r->Meets P (A g) g args r){n:Nat}{tp:Option Nat}{a0:Array Value}(hdst:∀(i:Nat)(o:Oper),ops[i]?=some o->∀d,o.dst=some d->d<n/\tp≠some d){anc:Nat->Nat->Prop}(ho:Ordered ops lg anc)(hr:Run P A E ops ops.size st lg)
 {Q:Exit->Act->World->Prop} (hQ:∀a' w' val' fp',Inv c (st ops.size) a' w' val' fp'->KT a0 tp n a'->Kp c.own w0 w'->Q .normal a' w') :
 ∀(fuel:Nat)(listed:Array Bool)(t:St)(a:Act)(w:World)(val:Key->Value)(fp:Key->List Nat),listed.size=ops.size->(left ops.size listed).length=fuel->
  Closed ops.size anc (fun i=>listed.getD i false=true)->(∀x,MgT ops.size st lg (fun i=>listed.getD i false=true) t x)->(∀x,MgO ops.size st lg (fun i=>listed.getD i false=true) t x)->
  Inv c t a w val fp->KT a0 tp n a->Kp c.own w0 w->wpAny P .any ops Q fuel listed a w:=by
 have fin:∀(listed:Array Bool)(t:St)(a:Act)(w:World)(val:Key->Value)(fp:Key->List Nat),(∀i,i<ops.size->listed.getD i false=true)->(∀x,MgT ops.size st lg (fun i=>listed.getD i false=true) t x)->
  (∀x,MgO ops.size st lg (fun i=>listed.getD i false=true) t x)->Inv c t a w val fp->KT a0 tp n a->Kp c.own w0 w->Q .normal a w:=by
  intro listed t a w val fp hall hT hO hinv hn hk;refine hQ a w val fp (hinv.eqv ⟨fun x=>?_,fun x=>?_⟩) hn hk
  ·exact(hT x).same (hr.mgT x ops.size (Nat.le_refl _)) fun j hj _=>by simp[hall j hj,hj]
  ·exact(hO x).same (hr.mgO x ops.size (Nat.le_refl _)) fun j hj _=>by simp[hall j hj,hj]
 have none_ready:∀(listed:Array Bool),listed.size=ops.size->Region.ready .any ops listed=[]->∀i,i<ops.size->listed.getD i false=true:=by
  intro listed hsz hnil i;induction i using Nat.strongRecOn with
  |_ i ih=>
   intro hi;have hoi:ops[i]?=some ops[i]:=by simp[hi]
   cases hl:listed.getD i true with
   |true=>
    have:i<listed.size:=by omega
    simp only[Array.getD_eq_getD_getElem?,this,getElem?_pos,Option.getD_some]at hl ⊢;exact hl
   |false=>
    exfalso;have hm:i∈Region.ready .any ops listed:=mem_ready.2 ⟨hi,hl,fun o hoo e he hb=>ih e.on (ho.less i o hoo e he hb) (Nat.lt_trans (ho.less i o hoo e he hb) hi)⟩;rw[hnil]at hm;simp at hm
 intro fuel;induction fuel with
 |zero=>
  intro listed t a w val fp hsz hfuel hcl hT hO hinv hn hk;have hnil:left ops.size listed=[]:=List.eq_nil_of_length_eq_zero hfuel
  have hready:Region.ready .any ops listed=[]:=by
   cases hq:Region.ready .any ops listed with
   |nil=>rfl
   |cons i l=>
    have hm:i∈Region.ready .any ops listed:=by rw[hq];simp
    obtain⟨h1,h2,_⟩:=mem_ready.1 hm;have:i∈left ops.size listed:=by unfold left;rw[List.mem_filter,List.mem_range];exact⟨h1,by rw[h2];rfl⟩
    rw[hnil]at this;simp at this
  exact⟨hready,fin listed t a w val fp (none_ready listed hsz hready) hT hO hinv hn hk⟩
 |succ fuel ih=>
  intro listed t a w val fp hsz hfuel hcl hT hO hinv hn hk;refine⟨fun hready=>fin listed t a w val fp (none_ready listed hsz hready) hT hO hinv hn hk,fun i hi=>?_⟩;obtain⟨h1,h2,h3⟩:=mem_ready.1 hi;have hoi:ops[i]?=some ops[i]:=by simp[h1]
  have hnD:¬ listed.getD i false=true:=by
   have:i<listed.size:=by omega
   simp only[Array.getD_eq_getD_getElem?,this,getElem?_pos,Option.getD_some]at h2 ⊢;rw[h2];simp
  have hlt:∀k,anc i k->listed.getD k false=true:=fun k hk=>by
   obtain⟨e,he,hb,hj⟩:=(ho.edge i _ hoi k).1 hk;have hl:=h3 _ hoi e he hb;rcases hj with rfl|hj
   ·exact hl
   ·exact hcl e.on (Nat.lt_trans (ho.less i _ hoi e he hb) h1) hl k hj
  obtain⟨t',hstep,hT',hO'⟩:=mg_step ho hr hcl hT hO h1 hnD hlt
  have hD:∀j,(listed.setIfInBounds i true).getD j false=true<->(listed.getD j false=true\/j=i):=fun j=>by
   simp only[Array.getD_eq_getD_getElem?];by_cases hji:j=i
   ·subst hji;have:j<listed.size:=by omega
    simp[this]
   ·rw[Array.getElem?_setIfInBounds_ne (fun e=>hji e.symm)];simp[hji]
  refine wpOp_mono (fun a' w' ⟨q1,val',fp',q2,q3⟩=>?_) (guard_sound hinv hE hoi (fun d hd=>by rw[hn.1];exact(hdst i _ hoi d hd).1) hstep);refine ih (listed.setIfInBounds i true) t' a' w' val' fp' (by simpa using hsz) ?_ ?_ (fun x=>?_) (fun x=>?_) q2 (hn.next q1 fun d hd=>(hdst i _ hoi d hd).2) (hk.trans q3)
  ·have e:left ops.size (listed.setIfInBounds i true)=(left ops.size listed).filter fun j=>!Nat.beq j i:=by
    unfold left;rw[List.filter_filter];apply List.filter_congr;intro j hj;have hj':=List.mem_range.1 hj;simp only[Array.getD_eq_getD_getElem?];by_cases hji:j=i
    ·subst hji;have:j<listed.size:=by omega
     simp[this]
    ·rw[Array.getElem?_setIfInBounds_ne (fun e=>hji e.symm),nbeq hji];simp
   have hcount:∀(l:List Nat),l.Nodup->i∈l->(l.filter fun j=>!Nat.beq j i).length+1=l.length:=by
    intro l;induction l with
    |nil=>intro _ h;simp at h
    |cons y l ih=>
     intro hnd hm;rw[List.nodup_cons]at hnd;by_cases hy:y=i
     ·subst hy;have:(l.filter fun j=>!Nat.beq j y)=l:=List.filter_eq_self.2 fun j hj=>by rw[nbeq (fun e=>hnd.1 (by rw[<- e];exact hj))];rfl
      simp[this]
     ·have hm':i∈l:=(List.mem_cons.1 hm).resolve_left fun e=>hy e.symm;rw[List.filter_cons,nbeq hy];simp only[Bool.not_false,if_true,List.length_cons];have:=ih hnd.2 hm';omega
   have hmem:i∈left ops.size listed:=by unfold left;rw[List.mem_filter,List.mem_range];exact⟨h1,by rw[h2];rfl⟩
   have:=hcount (left ops.size listed) (List.Nodup.sublist List.filter_sublist List.nodup_range) hmem;rw[e];omega
  ·intro j hj hDj k hk;rw[hD]at hDj ⊢;rcases hDj with hDj|rfl
   ·exact .inl (hcl j hj hDj k hk)
   ·exact .inl (hlt k hk)
  ·have:=hT' x;unfold MgT at this ⊢;simp only[hD];exact this
  ·have:=hO' x;unfold MgO at this ⊢;simp only[hD];exact this
end
end
end Ev
end
section
namespace Ev
open Go
theorem look_map{α β:Type}(d:α)(g:α->β):∀(l:List (Nat×α))(i:Nat),look (g d) (l.map fun q=>(q.1,g q.2)) i=g (look d l i)
 |[],_=>rfl
 |(j,v)::r,i=>by
  simp only[List.map_cons,look];cases Nat.beq j i
  ·exact look_map d g r i
  ·rfl
theorem look_filter{α:Type}(d:α)(p:Nat->Bool):∀(l:List (Nat×α))(i:Nat),look d (l.filter fun q=>p q.1) i=if p i=true then look d l i else d
 |[],i=>by simp[look]
 |(j,v)::r,i=>by
  have ih:=look_filter d p r i;have e:((j,v)::r).filter (fun q=>p q.1)=if p j=true then(j,v)::r.filter (fun q=>p q.1)else r.filter (fun q=>p q.1):=List.filter_cons
  rw[e];cases hp:p j with
  |true=>
   simp only[if_true,look];cases hj:Nat.beq j i with
   |true=>
    have:j=i:=Nat.eq_of_beq_eq_true hj;subst this;rw[if_pos hp];rfl
   |false=>simp only[cond_false];exact ih
  |false=>
   simp only[Bool.false_eq_true,if_false,look];rw[ih];cases hj:Nat.beq j i with
   |true=>
    have:j=i:=Nat.eq_of_beq_eq_true hj;subst this;rw[if_neg (by simp[hp]),if_neg (by simp[hp])]
   |false=>rfl
theorem getT_map(f:C->C)(s:St)(i:Nat):(s.map f).getT i=mapV f (s.getT i):=look_map V.any (mapV f) s.tm i
theorem getO_map(f:C->C)(s:St)(k:Key):(s.map f).getO k=mapO f (s.getO k):=look_map Ob.free (mapO f) s.ob k
theorem getT_clear(p:Key->Bool)(s:St)(i:Nat):(s.clear p).getT i=mapV (killC p) (s.getT i):=getT_map _ _ _
theorem getO_clear(p:Key->Bool)(s:St)(k:Key):(s.clear p).getO k=if p k=true then .free else mapO (killC p) (s.getO k):=by
 have h:(s.clear p).getO k=look Ob.free ((s.map (killC p)).ob.filter fun(j,_)=>!p j) k:=rfl;rw[h,look_filter Ob.free (fun j=>!p j)];have h2:=getO_map (killC p) s k;unfold St.getO at h2 ⊢;rw[h2];cases p k <;> simp
section
variable {c:Ctx}{s s':St}{a:Act}{w:World}{val val':Key->Value}{fp fp':Key->List Nat}
structure Leads(fr fr':Fr)(s s':St)(f:C->C):Prop where
 cr:∀x v,CR fr s x v->CR fr' s' (f x) v
theorem Leads.crs{fr fr':Fr}{f:C->C}(h:Leads fr fr' s s' f){cs:List C}{vs:List Value}(hc:CRs fr s cs vs):CRs fr' s' (cs.map f) vs:=by
 refine⟨by simpa using hc.1,fun i x v hx hv=>?_⟩;rw[List.getElem?_map,Option.map_eq_some_iff]at hx;obtain⟨y,hy,rfl⟩:=hx;exact h.cr y v (hc.2 i y v hy hv)
theorem Leads.vr{fr fr':Fr}{f:C->C}(h:Leads fr fr' s s' f){x:V}{v:Value}(hv:VR fr s x v):VR fr' s' (mapV f x) v:=by
 cases x with
 |one y=>exact h.cr y v hv
 |agg cs=>obtain⟨vs,e,hc⟩:=hv;exact⟨vs,e,h.crs hc⟩
 |tup ps=>
  obtain⟨us,e,hl,hp⟩:=hv;refine⟨us,e,by simpa using hl,fun i p u hpi hu=>?_⟩;rw[List.getElem?_map,Option.map_eq_some_iff]at hpi;obtain⟨⟨b,cs⟩,hq,rfl⟩:=hpi;rcases hp i _ u hq hu with⟨h1,vs,h2,h3⟩|⟨h1,y,h2,h3⟩
  ·exact .inl ⟨h1,vs,h2,h.crs h3⟩
  ·simp only at h1 h2;subst h2;exact .inr ⟨h1,f y,rfl,h.cr y u h3⟩
 |clo fn cs=>obtain⟨vs,e,hc⟩:=hv;exact⟨vs,e,h.crs hc⟩
 |skip=>exact hv
 |any=>trivial
theorem Inv.recast(h:Inv c s a w val fp){f:C->C}(uo:Ob->Ob)(huo:(∀o,uo o=o)\/∀o,uo o=unlend o)(g:Key->Option Key)(hl:Leads (mkFr c w val fp) (mkFr c w val' fp') s s' f)
 (ht:∀i,s'.getT i=mapV f (s.getT i)\/s'.getT i=.any)
 (hg:∀k,(g k=none/\s'.getO k=.free/\fp' k=[])\/∃j,g k=some j/\s'.getO k=uo (mapO f (s.getO j))/\val' k=val j/\fp' k=fp j) (hinj:∀k k' j,g k=some j->g k'=some j->k=k')
 (hrb:∀x v,RB w (inI c w fp) (inJ c w fp) x v->RB w (inI c w fp') (inJ c w fp') x v):Inv c s' a w val' fp':=by
 have shr:∀{sz:Nat}{cells:List T}{u:Value}{F:List Nat},ShR (mkFr c w val fp) sz cells u F->ShR (mkFr c w val' fp') sz cells u F:=fun hob=>by
  rcases hob with h1|⟨g',len,cap,cur,e,vs,r0,r1,r2,r3,r4,r5,r6,r7,r8,r9⟩
  ·exact .inl h1
  ·exact .inr ⟨g',len,cap,cur,e,vs,r0,r1,r2,r3,r4,r5,r6,r7,r8,fun i x hx=>hrb x _ (r9 i x hx)⟩
 refine⟨fun k=>?_,fun i=>?_,fun k k' hne b hb hb'=>?_,fun k b hb=>?_,h.size,h.defers,h.ij⟩
 ·rcases hg k with⟨_,e1,e2⟩|⟨j,_,e1,e2,e3⟩
  ·rw[e1,e2];rfl
  ·rw[e1,e2,e3];have hob:=h.obs j
   have un:∀{o:Ob},ObR (mkFr c w val' fp') s' o (val j) (fp j)->ObR (mkFr c w val' fp') s' (uo o) (val j) (fp j):=fun {o} ho=>by
    rcases huo with e|e
    ·rw[e];exact ho
    ·rw[e];cases o with
     |lent deep sz cells=>cases deep <;> exact ho
     |_=>exact ho
   refine un ?_;cases ho:s.getO j with
   |box cs=>
    rw[ho]at hob;obtain⟨b,cur,e,hu,hF,hh,hc⟩:=hob;exact⟨b,cur,e,hu,hF,hh,hl.crs hc⟩
   |arr own deep sz cells=>
    rw[ho]at hob;cases own with
    |true=>
     cases deep with
     |true=>exact hob
     |false=>exact shr hob
    |false=>exact⟨hrb _ _ hob.1,hob.2⟩
   |free=>rw[ho]at hob;exact hob
   |gone=>rw[ho]at hob;exact hob
   |moved k'=>rw[ho]at hob;exact hob
   |lent deep sz cells=>
    rw[ho]at hob;cases deep with
    |true=>exact hob
    |false=>exact shr hob
   |opn sz cells ws=>
    rw[ho]at hob;obtain⟨g',len,cap,cur,e,vs,fs,r0,r1,r2,r3,r4,r5,r6,r7,r8,r9,r10⟩:=hob;refine⟨g',len,cap,cur,e,vs,fs,r0,r1,⟨r2.1,fun i hi=>r2.2 i (by rw[findW_map]at hi;simpa using hi)⟩,r3,r4,r5,r6,r7,r8,fun i x hx=>?_,r10⟩;have:=r9 i x hx;unfold WR at *;rw[findW_map];cases hc:findW ws i with
    |none=>rw[hc]at this;exact this
    |some c=>rw[hc]at this;exact⟨hl.cr _ _ this.1,this.2⟩
   |mp l=>rw[ho]at hob;exact hob
 ·rcases ht i with e|e
  ·rw[e];exact hl.vr (h.tms i)
  ·rw[e];trivial
 ·rcases hg k with⟨_,_,e2⟩|⟨j,e0,_,_,e3⟩
  ·rw[e2]at hb;simp at hb
  ·rcases hg k' with⟨_,_,e2'⟩|⟨j',e0',_,_,e3'⟩
   ·rw[e2']at hb';simp at hb'
   ·rw[e3]at hb;rw[e3']at hb';exact h.disj j j' (fun e=>hne (hinj k k' j e0 (e▸e0'))) b hb hb'
 ·rcases hg k with⟨_,_,e2⟩|⟨j,_,_,_,e3⟩
  ·rw[e2]at hb;simp at hb
  ·rw[e3]at hb;exact h.mine j b hb
theorem ref_map{o:Ob}{f:C->C}{p:Prop}:(mapO f o).ref p<->o.ref p:=by cases o <;> exact Iff.rfl
theorem Inv.clear(h:Inv c s a w val fp)(p:Key->Bool):∃fp',Inv c (s.clear p) a w val fp':=by
 let fp':Key->List Nat:=fun k=>if p k=true then[]else fp k
 have hsub:∀k b,b∈fp' k->b∈fp k:=fun k b hb=>by
  simp only[fp']at hb;split at hb
  ·simp at hb
  ·exact hb
 have hrb:∀x v,RB w (inI c w fp) (inJ c w fp) x v->RB w (inI c w fp') (inJ c w fp') x v:=fun x v hx=>
  RB.move hx (fun b hb=>⟨⟨hb.1,hb.2.1,fun k hk=>hb.2.2 k (hsub k b hk)⟩,rfl⟩) (fun b hb=>⟨⟨hb.1,hb.2.1,fun k hk=>hb.2.2 k (hsub k b hk)⟩,rfl⟩)
 refine⟨fp',h.recast (f:=killC p) (val':=val) id (.inl fun _=>rfl) (fun k=>if p k=true then none else some k) ⟨fun x v hx=>?_⟩ (fun i=>.inl (getT_clear p s i)) (fun k=>?_) (fun k k' j h1 h2=>?_) hrb⟩
 ·cases x with
  |t y=>exact hrb y v hx
  |kept j y=>exact⟨hrb y v hx.1,hx.2⟩
  |nil=>exact hx
  |undef=>exact hx
  |ptr k q=>
   show CR _ _ (bif p k then C.undef else C.ptr k q) v;cases hp:p k with
   |true=>exact CR.one hx
   |false=>
    refine⟨?_,hx.2⟩;rw[getO_clear,hp];exact ref_map.2 hx.1
  |view y=>
   have key:∀b,Lent (mkFr c w val fp) s b->Lent (mkFr c w val fp') (s.clear p) b\/(inI c w fp' b/\inJ c w fp' b):=by
    rintro b ⟨k,hk,hb⟩;have hb:b∈fp k:=hb;cases hp:p k with
    |true=>
     have hn:∀j,b∉fp' j:=fun j hj=>by
      have hj':=hsub j b hj;by_cases hjk:j=k
      ·subst hjk;simp[fp',hp]at hj
      ·exact h.disj j k hjk b hj' hb
     exact .inr ⟨⟨.inr (h.mine k b hb),h.lt hb,hn⟩,⟨.inr (h.mine k b hb),h.lt hb,hn⟩⟩
    |false=>
     refine .inl ⟨k,?_,by show b∈fp' k;simp[fp',hp];exact hb⟩;rw[getO_clear,hp];simp only[Bool.false_eq_true,if_false];revert hk;cases s.getO k <;> simp[mapO,Ob.isLent]
   have hx:RB w (fun b=>inI c w fp b\/Lent (mkFr c w val fp) s b) (fun b=>inJ c w fp b\/Lent (mkFr c w val fp) s b) y v:=hx;refine RB.move hx (fun b hb=>⟨?_,rfl⟩) (fun b hb=>⟨?_,rfl⟩)
   ·rcases hb with hb|hb
    ·exact .inl ⟨hb.1,hb.2.1,fun k hk=>hb.2.2 k (hsub k b hk)⟩
    ·exact(key b hb).symm.imp (fun h=>h.1) id
   ·rcases hb with hb|hb
    ·exact .inl ⟨hb.1,hb.2.1,fun k hk=>hb.2.2 k (hsub k b hk)⟩
    ·exact(key b hb).symm.imp (fun h=>h.2) id
  |obj k=>
   show CR _ _ (bif p k then C.undef else C.obj k) v;cases hp:p k with
   |true=>exact CR.one hx
   |false=>
    refine⟨?_,hx.2⟩;rw[getO_clear,hp];exact ref_map.2 hx.1
 ·cases hp:p k with
  |true=>exact .inl ⟨by simp,by rw[getO_clear,hp];simp,by simp[fp',hp]⟩
  |false=>exact .inr ⟨k,by simp,by rw[getO_clear,hp];simp,rfl,by simp[fp',hp]⟩
 ·split at h1
  ·cases h1
  ·split at h2
   ·cases h2
   ·cases h1;cases h2;rfl
theorem look_ren{α:Type}(d:α)(k k':Key)(hne:k≠k'):∀(l:List (Nat×α)),(∀q,q∈l->q.1≠k)->∀j,look d (l.map fun q=>(renK k k' q.1,q.2)) j=if j=k then look d l k' else if j=k' then d else look d l j
 |[],_,j=>by simp[look]
 |(i,v)::r,h,j=>by
  have ih:=look_ren d k k' hne r (fun q hq=>h q (by simp[hq])) j;have hik:i≠k:=h (i,v) (by simp);rw[List.map_cons];show(bif Nat.beq (renK k k' i) j then v else look d (r.map fun q=>(renK k k' q.1,q.2)) j)=if j=k then(bif Nat.beq i k' then v else look d r k')else if j=k' then d else(bif Nat.beq i j then v else look d r j)
  by_cases hi:i=k'
  ·subst hi;have eK:renK k i i=k:=by unfold renK;simp
   have e1:Nat.beq i i=true:=by simp
   rw[eK,e1];simp only[cond_true];by_cases hj:j=k
   ·subst hj;have e2:Nat.beq j j=true:=by simp
    rw[e2,if_pos rfl];rfl
   ·rw[nbeq (fun e=>hj e.symm),if_neg hj];simp only[cond_false];rw[ih,if_neg hj];by_cases hj':j=i
    ·rw[if_pos hj',if_pos hj']
    ·rw[if_neg hj',if_neg hj',nbeq (fun e=>hj' e.symm)];rfl
  ·have eK:renK k k' i=i:=by unfold renK;rw[nbeq hi];rfl
   rw[eK,nbeq hi];simp only[cond_false];by_cases hj:j=k
   ·subst hj;rw[nbeq hik,if_pos rfl];simp only[cond_false];rw[ih,if_pos rfl]
   ·rw[if_neg hj];by_cases hj':j=k'
    ·subst hj';rw[nbeq hi,if_pos rfl];simp only[cond_false];rw[ih,if_neg hj,if_pos rfl]
    ·rw[if_neg hj'];cases hij:Nat.beq i j with
     |true=>rfl
     |false=>simp only[cond_false];rw[ih,if_neg hj,if_neg hj']
theorem clear_keys(p:Key->Bool)(s:St):∀q,q∈(s.clear p).ob->p q.1=false:=by
 intro q hq;have:q∈(s.map (killC p)).ob.filter fun(k,_)=>!p k:=hq;rw[List.mem_filter]at this;simpa using this.2
theorem Inv.rename(h:Inv c s a w val fp)(k k':Key):∃val' fp',Inv c (s.rename k k') a w val' fp':=by
 obtain⟨fp0,h0⟩:=h.clear (Nat.beq k);by_cases hne:k=k'
 ·subst hne
  have hren:∀x,renC k k x=x:=fun x=>by
   cases x with
   |ptr j q=>
    show(bif Nat.beq j k then C.ptr k q else C.ptr j q)=C.ptr j q;cases hj:Nat.beq j k with
    |true=>rw[Nat.eq_of_beq_eq_true hj];rfl
    |false=>rfl
   |obj j=>
    show(bif Nat.beq j k then C.obj k else C.obj j)=C.obj j;cases hj:Nat.beq j k with
    |true=>rw[Nat.eq_of_beq_eq_true hj];rfl
    |false=>rfl
   |_=>rfl
  have hid:renC k k=id:=funext hren
  have hK:∀j,renK k k j=j:=fun j=>by
   unfold renK;cases hj:Nat.beq j k with
   |true=>rw[Nat.eq_of_beq_eq_true hj];rfl
   |false=>rfl
  refine⟨val,fp0,h0.eqv ⟨fun i=>?_,fun j=>?_⟩⟩
  ·show(((s.clear (Nat.beq k)).map (renC k k)).getT i)=_;rw[getT_map,hid];cases (s.clear (Nat.beq k)).getT i <;> simp[mapV]
  ·have e:(s.rename k k).getO j=look Ob.free (((s.clear (Nat.beq k)).map (renC k k)).ob.map fun(j,o)=>(renK k k j,o)) j:=rfl;rw[e];simp only[hK];have e2:(((s.clear (Nat.beq k)).map (renC k k)).ob.map fun x:Key×Ob=>(x.1,x.2))=((s.clear (Nat.beq k)).map (renC k k)).ob:=by simp
   rw[e2];have e3:=getO_map (renC k k) (s.clear (Nat.beq k)) j;unfold St.getO at e3 ⊢;rw[e3,hid];cases look Ob.free (s.clear (Nat.beq k)).ob j <;> simp[mapO]
 ·have hO:∀j,(s.rename k k').getO j=if j=k then mapO (renC k k') ((s.clear (Nat.beq k)).getO k')else if j=k' then .free else mapO (renC k k') ((s.clear (Nat.beq k)).getO j):=fun j=>by
   have e:(s.rename k k').getO j=look Ob.free (((s.clear (Nat.beq k)).map (renC k k')).ob.map fun(j,o)=>(renK k k' j,o)) j:=rfl
   have hkeys:∀q,q∈((s.clear (Nat.beq k)).map (renC k k')).ob->q.1≠k:=by
    intro q hq;have:q∈(s.clear (Nat.beq k)).ob.map fun(k_1,o)=>(k_1,mapO (renC k k') o):=hq;rw[List.mem_map]at this;obtain⟨q',hq',rfl⟩:=this;have:=clear_keys (Nat.beq k) s q' hq';intro e;simp only at e;rw[e]at this;simp at this
   rw[e,look_ren Ob.free k k' hne _ hkeys];have e3:∀j,look Ob.free ((s.clear (Nat.beq k)).map (renC k k')).ob j=mapO (renC k k') ((s.clear (Nat.beq k)).getO j):=fun j=>getO_map (renC k k') (s.clear (Nat.beq k)) j;rw[e3,e3]
  have hkfree:(s.clear (Nat.beq k)).getO k=.free:=by rw[getO_clear];simp
  let val':Key->Value:=fun j=>if j=k then val k' else val j
  let fp':Key->List Nat:=fun j=>if j=k then fp0 k' else if j=k' then[]else fp0 j
  have hrb:∀x v,RB w (inI c w fp0) (inJ c w fp0) x v->RB w (inI c w fp') (inJ c w fp') x v:=fun x v hx=>by
   have key:∀b,(∀j,b∉fp0 j)->∀j,b∉fp' j:=fun b hb j hj=>by
    simp only[fp']at hj;split at hj
    ·exact hb k' hj
    ·split at hj
     ·simp at hj
     ·exact hb j hj
   exact RB.move hx (fun b hb=>⟨⟨hb.1,hb.2.1,key b hb.2.2⟩,rfl⟩) (fun b hb=>⟨⟨hb.1,hb.2.1,key b hb.2.2⟩,rfl⟩)
  refine⟨val',fp',h0.recast (f:=renC k k') id (.inl fun _=>rfl) (fun j=>if j=k then some k' else if j=k' then none else some j) ⟨fun x v hx=>?_⟩ (fun i=>.inl ?_) (fun j=>?_) (fun j j' i h1 h2=>?_) hrb⟩
  ·have refs:∀(j:Key)(q:Value->Prop),((s.clear (Nat.beq k)).getO j).ref (q (val j))->((s.rename k k').getO (renK k k' j)).ref (q (val' (renK k k' j))):=by
    intro j q hq;unfold renK;cases hj:Nat.beq j k' with
    |true=>
     have:j=k':=Nat.eq_of_beq_eq_true hj;subst this;simp only[cond_true,val',if_true];rw[hO,if_pos rfl];exact ref_map.2 hq
    |false=>
     have hj':j≠k':=fun e=>by rw[e]at hj;simp at hj
     have hjk:j≠k:=fun e=>by
      rw[e,hkfree]at hq;exact hq.elim
     simp only[cond_false,val',if_neg hjk];rw[hO,if_neg hjk,if_neg hj'];exact ref_map.2 hq
   cases x with
   |t y=>exact hrb y v hx
   |kept j y=>exact⟨hrb y v hx.1,hx.2⟩
   |nil=>exact hx
   |undef=>exact hx
   |ptr j q=>
    have:=refs j (fun u=>ptrTo u q v) hx.1;show CR _ _ (bif Nat.beq j k' then C.ptr k q else C.ptr j q) v;unfold renK at this;cases hj:Nat.beq j k' with
    |true=>rw[hj]at this;exact⟨this,hx.2⟩
    |false=>rw[hj]at this;exact⟨this,hx.2⟩
   |view y=>
    have key:∀b,Lent (mkFr c w val fp0) (s.clear (Nat.beq k)) b->Lent (mkFr c w val' fp') (s.rename k k') b:=by
     rintro b ⟨j,hj,hb⟩;have hb:b∈fp0 j:=hb;have lm:∀o:Ob,o.isLent=true->(mapO (renC k k') o).isLent=true:=fun o ho=>by cases o <;> first|exact ho|cases ho
     have hjk:j≠k:=fun e=>by rw[e,hkfree]at hj;cases hj
     by_cases hj':j=k'
     ·refine⟨k,by rw[hO,if_pos rfl];exact lm _ (hj'▸hj),?_⟩;show b∈fp' k;simp only[fp',if_true];exact hj'▸hb
     ·refine⟨j,by rw[hO,if_neg hjk,if_neg hj'];exact lm _ hj,?_⟩;show b∈fp' j;simp only[fp',if_neg hjk,if_neg hj'];exact hb
    have keyN:∀b,(∀j,b∉fp0 j)->∀j,b∉fp' j:=fun b hb j hj=>by
     simp only[fp']at hj;split at hj
     ·exact hb k' hj
     ·split at hj
      ·simp at hj
      ·exact hb j hj
    have hx:RB w (fun b=>inI c w fp0 b\/Lent (mkFr c w val fp0) (s.clear (Nat.beq k)) b) (fun b=>inJ c w fp0 b\/Lent (mkFr c w val fp0) (s.clear (Nat.beq k)) b) y v:=hx;exact RB.move hx (fun b hb=>⟨hb.imp (fun hb=>⟨hb.1,hb.2.1,keyN b hb.2.2⟩) (key b),rfl⟩) (fun b hb=>⟨hb.imp (fun hb=>⟨hb.1,hb.2.1,keyN b hb.2.2⟩) (key b),rfl⟩)
   |obj j=>
    have:=refs j (fun u=>v=u) hx.1;show CR _ _ (bif Nat.beq j k' then C.obj k else C.obj j) v;unfold renK at this;cases hj:Nat.beq j k' with
    |true=>rw[hj]at this;exact⟨this,hx.2⟩
    |false=>rw[hj]at this;exact⟨this,hx.2⟩
  ·show((s.clear (Nat.beq k)).map (renC k k')).getT i=_;rw[getT_map]
  ·by_cases h1:j=k
   ·subst h1;exact .inr ⟨k',by simp,by rw[hO,if_pos rfl];rfl,by simp[val'],by simp[fp']⟩
   ·by_cases h2:j=k'
    ·subst h2;exact .inl ⟨by simp[h1],by rw[hO,if_neg h1,if_pos rfl],by simp[fp',h1]⟩
    ·exact .inr ⟨j,by simp[h1,h2],by rw[hO,if_neg h1,if_neg h2];rfl,by simp[val',h1],by simp[fp',h1,h2]⟩
  ·by_cases a1:j=k <;> by_cases a2:j'=k
   ·rw[a1,a2]
   ·exfalso;rw[if_pos a1]at h1;rw[if_neg a2]at h2;cases h1;split at h2
    ·cases h2
    ·rename_i a3;cases h2;exact a3 rfl
   ·exfalso;rw[if_neg a1]at h1;rw[if_pos a2]at h2;cases h2;split at h1
    ·cases h1
    ·rename_i a3;cases h1;exact a3 rfl
   ·rw[if_neg a1]at h1;rw[if_neg a2]at h2;split at h1
    ·cases h1
    ·split at h2
     ·cases h2
     ·cases h1;cases h2;rfl
theorem Inv.settle:∀(n:Nat){s:St}{val:Key->Value}{fp:Key->List Nat},Inv c s a w val fp->∃val' fp',Inv c (settle n s) a w val' fp'
 |0,s,val,fp,h=>⟨val,fp,h⟩
 |n+1,s,val,fp,h=>by
  unfold Ev.settle;split
  ·obtain⟨val',fp',h'⟩:=h.rename _ _;exact h'.settle n
  ·exact⟨val,fp,h⟩
theorem Inv.prepare(h:Inv c s a w val fp)(ops:List Oper):∃fp',Inv c (prepare ops s) a w val fp':=h.clear _
theorem pack1_sound(h:Inv c s a w val fp){L:List Key}{s1:St}(hm:Moved s s1 L)(x:C):∃M F,Moved s (pack1 s1 x).2 (M++L)/\(∀v,CR (mkFr c w val fp) s x v->RO w (pack1 s1 x).1 v F)/\F.Nodup/\∀b,b∈F->∃k,k∈M/\b∈fp k:=by
 cases x with
 |t y=>
  refine⟨[],[],hm,fun v hv=>?_,List.nodup_nil,by simp⟩;show RO w (bif y.scalar then y else T.hole) v [];cases hs:y.scalar with
  |true=>exact scalar_ro (CR_t hv) hs
  |false=>exact .hole (CR.one hv)
 |obj j=>
  show ∃M F,Moved s (match s1.getO j with
   |.arr true true sz cs=>(T.sl sz cs,s1.setO j .gone)
   |_=>(.hole,s1)).2 (M++L)/\(∀v,CR (mkFr c w val fp) s (.obj j) v->RO w (match s1.getO j with
   |.arr true true sz cs=>(T.sl sz cs,s1.setO j .gone)
   |_=>(.hole,s1)).1 v F)/\F.Nodup/\∀b,b∈F->∃k,k∈M/\b∈fp k
  split
  ·rename_i sz cs hj;obtain⟨hn,hj0,hm'⟩:=hm.add (o:=.gone) (.inl rfl) hj;have hob:=h.obs j;rw[hj0]at hob;refine⟨[j],fp j,hm',fun v hv=>?_,RO.nodup hob,fun b hb=>⟨j,by simp,hb⟩⟩;rw[ref_live hv (by rw[hj0];rfl)];exact hob
  ·exact⟨[],[],hm,fun v hv=>.hole (CR.one hv),List.nodup_nil,by simp⟩
 |nil=>exact⟨[],[],hm,fun v hv=>.hole (CR.one hv),List.nodup_nil,by simp⟩
 |kept _ _=>exact⟨[],[],hm,fun v hv=>.hole (CR.one hv),List.nodup_nil,by simp⟩
 |ptr k q=>exact⟨[],[],hm,fun v hv=>.hole (CR.one hv),List.nodup_nil,by simp⟩
 |undef=>exact⟨[],[],hm,fun v hv=>.hole (CR.one hv),List.nodup_nil,by simp⟩
 |view y=>exact⟨[],[],hm,fun v hv=>.hole (CR.one hv),List.nodup_nil,by simp⟩
theorem packW_sound(h:Inv c s a w val fp):∀(ws:List (Nat×C)){L:List Key}{s1:St},Moved s s1 L->∃M,∃fs:Nat->List Nat,Moved s (packW s1 ws).2 (M++L)/\
 (∀i,(findW ws i=none/\findT (packW s1 ws).1 i=none)\/∃x y,findW ws i=some x/\findT (packW s1 ws).1 i=some y/\∀v,CR (mkFr c w val fp) s x v->RO w y v (fs i))/\
 (∀i,(fs i).Nodup)/\(∀i j,i≠j->∀b,b∈fs i->b∉fs j)/\∀i b,b∈fs i->∃k,k∈M/\b∈fp k
 |[],L,s1,hm=>⟨[],fun _=>[],hm,fun _=>.inl ⟨rfl,rfl⟩,fun _=>List.nodup_nil,by simp,by simp⟩
 |(q,x)::r,L,s1,hm=>by
  obtain⟨M,F,hm1,h1,h2,h3⟩:=pack1_sound h hm x;obtain⟨M',fs,hm2,g1,g2,g3,g4⟩:=packW_sound h r hm1
  have hap:∀k,k∈M->k∉M':=fun k hk hk'=>by
   have:=hm2.nd;rw[List.nodup_append]at this;exact this.2.2 k hk' k (List.mem_append_left _ hk) rfl
  have cross:∀b,b∈F->∀i,b∉fs i:=fun b hb i hbi=>by
   obtain⟨k,hk,hbk⟩:=h3 b hb;obtain⟨k',hk',hbk'⟩:=g4 i b hbi;exact h.disj k k' (fun e=>hap k hk (e▸hk')) b hbk hbk'
  refine⟨M'++M,fun i=>if q=i then F else fs i,by rw[List.append_assoc];exact hm2,fun i=>?_,fun i=>?_,fun i j hne b hb hb'=>?_,fun i b hb=>?_⟩
  ·by_cases hq:q=i
   ·refine .inr ⟨x,(pack1 s1 x).1,by rw[findW,if_pos hq],by show findT ((q,_)::_) i=_;rw[findT,if_pos hq],?_⟩;simp only[if_pos hq];exact h1
   ·have e1:findW ((q,x)::r) i=findW r i:=by rw[findW,if_neg hq]
    have e2:findT (packW s1 ((q,x)::r)).1 i=findT (packW (pack1 s1 x).2 r).1 i:=by
     show findT ((q,_)::_) i=_;rw[findT,if_neg hq]
    rw[e1,e2];simp only[if_neg hq];exact g1 i
  ·by_cases hq:q=i
   ·simp only[hq,if_true];exact h2
   ·simp only[if_neg hq];exact g2 i
  ·by_cases hq:q=i
   ·simp only[if_pos hq,if_neg (fun e=>hne (hq.symm.trans e))]at hb hb';exact cross b hb j hb'
   ·by_cases hq':q=j
    ·simp only[if_neg hq,if_pos hq']at hb hb';exact cross b hb' i hb
    ·simp only[if_neg hq,if_neg hq']at hb hb';exact g3 i j hne b hb hb'
  ·by_cases hq:q=i
   ·simp only[if_pos hq]at hb;obtain⟨k,hk,hb⟩:=h3 b hb;exact⟨k,List.mem_append_right _ hk,hb⟩
   ·simp only[if_neg hq]at hb;obtain⟨k,hk,hb⟩:=g4 i b hb;exact⟨k,List.mem_append_left _ hk,hb⟩
theorem Inv.pack(h:Inv c s a w val fp){k:Key}{sz:Nat}{cells:List T}{ws:List (Nat×C)}(hk:s.getO k=.opn sz cells ws) :
 ∃val' fp',Inv c ((packW s ws).2.setO k (.arr true true sz (fillT cells (packW s ws).1))) a w val' fp':=by
 obtain⟨M,fs,hm,g1,g2,g3,g4⟩:=packW_sound h ws (Moved.refl s);rw[List.append_nil]at hm
 have hkM:k∉M:=fun hkM=>by
  obtain⟨_,⟨d,sz',cells',e⟩|⟨m,e⟩⟩:=hm.gone k hkM <;> rw[hk]at e <;> cases e
 have hob:=h.obs k;rw[hk]at hob;obtain⟨g,len,cap,cur,e,vs,fs0,hu,hF,hsz,hg,hlen,hcap,hmax,hcur,hv,hel,hnd⟩:=hob;have hg:w.heap[g]?=some (.cells cur e (0,0)):=hg;let fs':Nat->List Nat:=fun i=>match findW ws i with|some _=>fs i|none=>fs0 i
 rw[List.nodup_cons]at hnd;have hnd2:=(nodup_flat cells.length fs0).1 hnd.2
 have old:∀i b,i<cells.length->b∈fs0 i->b∈fp k:=fun i b hi hb=>by
  rw[hF];exact List.mem_cons_of_mem _ (mem_flat.2 ⟨i,hi,hb⟩)
 have hgk:g∈fp k:=by rw[hF];simp
 have cross:∀b,b∈fp k->∀i,b∉fs i:=fun b hb i hbi=>by
  obtain⟨k',hk',hbk'⟩:=g4 i b hbi;exact h.disj k k' (fun e=>hkM (e▸hk')) b hb hbk'
 have cs:∀i b,i<cells.length->b∈fs' i->(b∈fs i/\(findW ws i).isSome)\/(b∈fs0 i/\findW ws i=none):=fun i b hi hb=>by
  simp only[fs']at hb;cases hw:findW ws i with
  |some x=>rw[hw]at hb;exact .inl ⟨hb,rfl⟩
  |none=>rw[hw]at hb;exact .inr ⟨hb,rfl⟩
 have hnd':(g::(List.range cells.length).flatMap fs').Nodup:=by
  rw[List.nodup_cons];refine⟨fun hb=>?_,(nodup_flat cells.length fs').2 ⟨fun i hi=>?_,fun i j hi hj hne b hb hb'=>?_⟩⟩
  ·obtain⟨i,hi,hbi⟩:=mem_flat.1 hb;rcases cs i g hi hbi with⟨h1,_⟩|⟨h1,_⟩
   ·exact cross g hgk i h1
   ·exact hnd.1 (mem_flat.2 ⟨i,hi,h1⟩)
  ·simp only[fs'];split
   ·exact g2 i
   ·exact hnd2.1 i hi
  ·rcases cs i b hi hb with⟨h1,_⟩|⟨h1,_⟩
   ·rcases cs j b hj hb' with⟨h2,_⟩|⟨h2,_⟩
    ·exact g3 i j hne b h1 h2
    ·exact cross b (old j b hj h2) i h1
   ·rcases cs j b hj hb' with⟨h2,_⟩|⟨h2,_⟩
    ·exact cross b (old i b hi h1) j h2
    ·exact hnd2.2 i j hi hj hne b h1 h2
 refine⟨_,_,(h.finish (w':=w) hm hkM (o':=.arr true true sz (fillT cells (packW s ws).1)) (u':=val k) (F':=g::(List.range cells.length).flatMap fs') (by rw[hk];rfl) (by rw[hk];rfl) (fun b hb=>.inl ?_)
  (fun _ _ _=>rfl) (Nat.le_refl _) rfl rfl rfl (fun _=>?_)).1⟩
 ·rcases List.mem_cons.1 hb with rfl|hb
  ·exact⟨k,.inr rfl,hgk⟩
  ·obtain⟨i,hi,hbi⟩:=mem_flat.1 hb;rcases cs i b hi hbi with⟨h1,_⟩|⟨h1,_⟩
   ·obtain⟨k',hk',hbk'⟩:=g4 i b h1;exact⟨k',.inl hk',hbk'⟩
   ·exact⟨k,.inr rfl,old i b hi h1⟩
 ·have hl:=fillT_len (packW s ws).1 cells;show RO w _ (val k) _;rw[hu,<- hl];rw[<- hl]at hnd';refine RO.sl vs fs' hsz.1 hg (by rw[hl];exact hlen) hcap hmax hcur (fun i hi=>hv i (by rwa[hl]at hi)) (fun i x hx=>?_) hnd';have hi:i<cells.length:=by have:=(List.getElem?_eq_some_iff.1 hx).1;rwa[hl]at this
  rw[fillT_get _ _ _ hi]at hx;have hw:=hel i _ (List.getElem?_eq_getElem hi);unfold WR at hw;rcases g1 i with⟨h1,h2⟩|⟨x',y,h1,h2,h3⟩
  ·rw[h1]at hw;rw[h2]at hx;have hx:cells[i]?=some x:=hx;rw[List.getElem?_eq_getElem hi]at hx;cases hx;simp only[fs',h1];exact hw
  ·rw[h1]at hw;rw[h2]at hx;have hx:some y=some x:=hx;cases hx;simp only[fs',h1];exact h3 _ hw.1
theorem look_skip{α:Type}(d:α)(p:Nat->Bool)(j:Nat)(hj:p j=true):∀m:List (Nat×α),look d (m.filter fun q=>p q.1) j=look d m j
 |[]=>rfl
 |(k,v)::m=>by
  rw[List.filter_cons];by_cases hk:k=j
  ·subst hk;simp[hj,look]
  ·have hb:Nat.beq k j=false:=by
    cases h:Nat.beq k j with
    |false=>rfl
    |true=>exact absurd (Nat.eq_of_beq_eq_true h) hk
   split
   ·rw[look,look,hb,cond_false,cond_false];exact look_skip d p j hj m
   ·rw[look,hb,cond_false];exact look_skip d p j hj m
theorem look_front{α:Type}(d:α)(f:Nat->α)(j:Nat)(m:List (Nat×α))(hm:look d m j=f j):∀l:List Nat,look d ((l.map fun k=>(k,f k))++m) j=f j
 |[]=>hm
 |k::l=>by
  rw[List.map_cons,List.cons_append,look];by_cases hk:k=j
  ·subst hk;simp
  ·have hb:Nat.beq k j=false:=by
    cases h:Nat.beq k j with
    |false=>rfl
    |true=>exact absurd (Nat.eq_of_beq_eq_true h) hk
   rw[hb,cond_false];exact look_front d f j m hm l
theorem look_order(ob:List (Key×Ob))(l:List Key)(j:Key):look Ob.free ((l.map fun k=>(k,look Ob.free ob k))++ob.filter fun q=>!memN l q.1) j=look Ob.free ob j:=by
 cases hj:memN l j with
 |false=>exact look_front _ (fun k=>look Ob.free ob k) j _ (look_skip Ob.free (fun k=>!memN l k) j (by simp[hj]) ob) l
 |true=>
  have hmem:j∈l:=by
   unfold memN at hj;obtain⟨x,hx,e⟩:=List.any_eq_true.1 hj;rwa[Nat.eq_of_beq_eq_true e]
  revert hmem;generalize (ob.filter fun q=>!memN l q.1)=m;clear hj;induction l with
  |nil=>intro h;cases h
  |cons k l ih=>
   intro hmem;rw[List.map_cons,List.cons_append,look];by_cases hk:k=j
   ·subst hk;simp
   ·have hb:Nat.beq k j=false:=by
     cases h:Nat.beq k j with
     |false=>rfl
     |true=>exact absurd (Nat.eq_of_beq_eq_true h) hk
    rw[hb,cond_false];exact ih ((List.mem_cons.1 hmem).resolve_left fun e=>hk e.symm)
theorem treesC_some:∀{cs:List C}{xs:List T},treesC cs=some xs->cs.length=xs.length/\∀(i:Nat)(x:T),xs[i]?=some x->cs[i]?=some (C.t x)
 |[],xs,h=>by cases h;simp
 |c::r,xs,h=>by
  cases c with
  |t x=>
   simp only[treesC]at h;cases hr:treesC r with
   |none=>rw[hr]at h;cases h
   |some l=>
    rw[hr]at h;cases h;have ih:=treesC_some hr;refine⟨by simp[ih.1],fun i y hy=>?_⟩;cases i with
    |zero=>simp at hy ⊢;exact hy
    |succ i=>simp at hy ⊢;exact ih.2 i y hy
  |_=>cases h
theorem Inv.lendO(h:Inv c s a w val fp)(k:Key):∃val' fp',Inv c (lendO s k) a w val' fp':=by
 unfold Ev.lendO;split
 ·rename_i deep sz cs hk;have hob:=h.obs k;rw[hk]at hob;refine⟨_,_,(h.change1 (w':=w) k (.lent deep sz cs) (val k) (fp k) (by rw[hk];rfl) (by rw[hk];rfl) (fun b hb=>.inl hb) (fun _ _ _=>rfl) (Nat.le_refl _) rfl rfl rfl (fun g=>?_)).1⟩;cases deep with
  |true=>exact hob
  |false=>exact ShR.goes g hob fun _ _=>rfl
 ·exact⟨val,fp,h⟩
theorem Inv.eachO{f:St->Key->St}:∀{l:List Key}{s:St}{val:Key->Value}{fp:Key->List Nat},Inv c s a w val fp->(∀{s:St}{val:Key->Value}{fp:Key->List Nat},Inv c s a w val fp->∀k,∃val' fp',Inv c (f s k) a w val' fp')->∃val' fp',Inv c (eachO f s l) a w val' fp'
 |[],s,val,fp,h,_=>⟨val,fp,h⟩
 |k::l,s,val,fp,h,hf=>by
  obtain⟨val',fp',h'⟩:=hf h k;exact h'.eachO hf
theorem getO_reclaim(s:St)(k:Key):(Ev.ghost s .reclaim).getO k=unlend (mapO killV (s.getO k)):=by
 have h1:=getO_map killV s k;have h2:=look_map Ob.free unlend (s.map killV).ob k;show look Ob.free ((s.map killV).ob.map fun q=>(q.1,unlend q.2)) k=_;rw[<- h1];exact h2
theorem Inv.ghost(h:Inv c s a w val fp)(g:Gh):∃val' fp',Inv c (ghost s g) a w val' fp':=by
 cases g with
 |keepT l=>
  have g:Goes (mkFr c w val fp) (mkFr c w val fp) s (Ev.ghost s (.keepT l)):=⟨rfl,fun b hb=>⟨hb,rfl⟩,fun b hb=>⟨hb,rfl⟩,fun k=>Turns.refl _ _,fun b hb=>⟨.inl hb,rfl⟩⟩;refine⟨val,fp,fun k=>(h.obs k).goes g fun _ _=>rfl,fun i=>?_,h.disj,h.mine,h.size,h.defers,h.ij⟩;have e:(Ev.ghost s (.keepT l)).getT i=if memN l i=true then s.getT i else .any:=look_filter V.any (memN l) s.tm i
  rw[e];split
  ·exact(h.tms i).goes g
  ·trivial
 |keepO l=>obtain⟨fp',h'⟩:=h.clear fun k=>!memN l k;exact⟨val,fp',h'⟩
 |adoptT i k sz=>
  simp only[Ev.ghost];split
  ·rename_i hi hk;cases hsz:Nat.blt 0 sz with
   |false=>exact⟨val,fp,h⟩
   |true=>
    simp only[cond_true];obtain⟨F'',r1,r2⟩:=new_nil h hk (blt_pos hsz) none;refine⟨upd val k (.slice none 0 0),upd fp k F'',⟨fun k'=>?_,fun j=>?_,r1.disj,r1.mine,r1.size,r1.defers,r1.ij⟩⟩
    ·have:=(r1.obs k').setT i (.one (.obj k));exact this
    ·have e:((s.setT i (.one (.obj k))).setO k (.arr true true sz [])).getT j=if i=j then .one (.obj k)else s.getT j:=by rw[getT_setO,getT_setT]
     rw[e];by_cases hij:i=j
     ·subst hij;rw[if_pos rfl];have hv:=h.tms i;rw[hi]at hv;have hv:a.tmps.getD i undef=.slice none 0 0:=hv;rw[hv];exact CR.setT (x:=.obj k) r2 i _
     ·rw[if_neg hij];exact(r1.tms j).setT i _
  ·exact⟨val,fp,h⟩
 |adoptO o j k sz=>
  simp only[Ev.ghost];split
  ·rename_i cells ho hk;split
   ·rename_i hj;cases hsz:(Nat.blt 0 sz && !Nat.beq o k)with
    |false=>exact⟨val,fp,h⟩
    |true=>
     simp only[cond_true];rw[Bool.and_eq_true,Bool.not_eq_true']at hsz;have hok:o≠k:=fun e=>by rw[e]at hsz;simp at hsz
     obtain⟨F'',r1,r2⟩:=new_nil h hk (blt_pos hsz.1) none;have ho1:(s.setO k (.arr true true sz [])).getO o=.box cells:=by rw[getO_setO,if_neg (fun e=>hok e.symm)];exact ho
     have hob:=r1.obs o;rw[ho1]at hob;obtain⟨b,cur,e,hu,hF,hh,hcs⟩:=hob
     obtain⟨q1,q2,q3⟩:=r1.change1 (w':=w) o (.box (cells.set j (.obj k))) _ _ (by rw[ho1];rfl) (by rw[ho1];rfl) (fun b hb=>.inl hb) (fun _ _ _=>rfl) (Nat.le_refl _) rfl rfl rfl (fun g=>by
      refine⟨b,cur,e,hu,hF,hh,by simpa using(hcs.goes g).1,fun i x v hx hv=>?_⟩;rw[List.getElem?_set]at hx;split at hx
      ·rename_i hji;subst hji;split at hx
       ·cases hx;have hnil:=hcs.2 j .nil v hj hv;have hnil:v=.slice none 0 0:=hnil;rw[hnil];exact CR.goes g r2
       ·cases hx
      ·exact(hcs.goes g).2 i x v hx hv)
     have hsw:Eqv ((s.setO k (.arr true true sz [])).setO o (.box (cells.set j (.obj k)))) ((s.setO o (.box (cells.set j (.obj k)))).setO k (.arr true true sz [])):=by
      refine⟨fun i=>rfl,fun i=>?_⟩;simp only[getO_setO];by_cases h1:k=i <;> by_cases h2:o=i
      ·exact absurd (h2.trans h1.symm) hok
      ·simp[h1,h2]
      ·simp[h1,h2]
      ·simp[h1,h2]
     exact⟨_,_,q1.eqv hsw⟩
   ·exact⟨val,fp,h⟩
  ·exact⟨val,fp,h⟩
 |freeze k=>exact h.freezeO k
 |shallow k=>
  simp only[Ev.ghost];split
  ·rename_i deep sz cs hk;have hob:=h.obs k;rw[hk]at hob;obtain⟨xs,Fg,fs,ho,hF⟩:=own_iff.1 hob;refine⟨val,upd fp k Fg,h.release hk (fun b hb=>by rw[hF];exact List.mem_append_left _ hb) fun hrb=>own_iff.2 ⟨xs,Fg,fun _=>[],⟨ho.pos,ho.row,ho.len,ND.nil _,by simp,fun i x y hx hy=>?_⟩,by simp[flat]⟩⟩;have hi:=(List.getElem?_eq_some_iff.1 hx).1;have hel:=ho.el i x y hx hy;refine⟨?_,rfl⟩;unfold El at hel;split at hel
   ·refine RO.rb hel fun b hb=>?_;have hbf:b∈fp k:=by rw[hF];exact List.mem_append_right _ (mem_flat.2 ⟨i,hi,hb⟩)
    refine⟨.inr (h.mine k b hbf),h.lt hbf,fun j hj=>?_⟩;by_cases hkj:k=j
    ·subst hkj;rw[upd_same]at hj;exact ho.apart b hj i hi hb
    ·rw[upd_ne _ _ hkj]at hj;exact h.disj k j hkj b hbf hj
   ·exact hrb _ _ hel.1
  ·exact⟨val,fp,h⟩
 |rename k k'=>exact h.rename k k'
 |pack k=>
  simp only[Ev.ghost];split
  ·rename_i hk;exact h.pack hk
  ·exact⟨val,fp,h⟩
 |melt i=>
  simp only[Ev.ghost];split
  ·rename_i k hi;split
   ·rename_i deep sz cs hk;refine⟨val,fp,fun k'=>(h.obs k').setT i _,fun j=>?_,h.disj,h.mine,h.size,h.defers,h.ij⟩;rw[getT_setT];by_cases hij:i=j
    ·subst hij;rw[if_pos rfl];have hv:=h.tms i;rw[hi]at hv;rw[obj_alive hv hk];have hob:=h.obs k;rw[hk]at hob;exact hob.1
    ·rw[if_neg hij];exact(h.tms j).setT i _
   ·exact⟨val,fp,h⟩
  ·exact⟨val,fp,h⟩
 |meltO o j sz=>
  simp only[Ev.ghost];split
  ·rename_i cells ho;have hob:=h.obs o;rw[ho]at hob;obtain⟨b,cur,e,hu,hF,hh,hcs⟩:=hob
   have put:∀x,(∀v,cur.toList[j]?=some v->RB w (inI c w fp) (inJ c w fp) x v)->∃val' fp',Inv c (s.setO o (.box (cells.set j (.t x)))) a w val' fp':=fun x hx=>by
    refine⟨_,_,(h.change1 (w':=w) o (.box (cells.set j (.t x))) _ _ (by rw[ho];rfl) (by rw[ho];rfl) (fun b hb=>.inl hb) (fun _ _ _=>rfl) (Nat.le_refl _) rfl rfl rfl (fun g=>?_)).1⟩;refine⟨b,cur,e,hu,hF,hh,by simpa using(hcs.goes g).1,fun i y v hy hv=>?_⟩;rw[List.getElem?_set]at hy;split at hy
    ·rename_i hji;subst hji;split at hy
     ·cases hy;exact RB.move (hx v hv) g.hI g.hJ
     ·cases hy
    ·exact(hcs.goes g).2 i y v hy hv
   split
   ·rename_i k hj;split
    ·rename_i deep sz' cs hk;refine put _ fun v hv=>?_;rw[obj_alive (hcs.2 j _ v hj hv) hk];have hob:=h.obs k;rw[hk]at hob;exact hob.1
    ·exact⟨val,fp,h⟩
   ·rename_i hj;cases hsz:Nat.blt 0 sz with
    |false=>exact⟨val,fp,h⟩
    |true=>
     simp only[cond_true];refine put _ fun v hv=>?_;have:v=.slice none 0 0:=hcs.2 j .nil v hj hv;rw[this];exact .sl (fun _=>undef) (blt_pos hsz) (by simp) (Nat.le_refl _) (fun h=>absurd rfl h) (by simp)
   ·exact⟨val,fp,h⟩
  ·exact⟨val,fp,h⟩
 |lend k=>exact h.lendO k
 |freezeT i=>exact h.eachO fun h k=>h.freezeO k
 |lendT i=>exact h.eachO fun h k=>h.lendO k
 |freezeB k=>exact h.eachO fun h k=>h.freezeO k
 |lendB k=>exact h.eachO fun h k=>h.lendO k
 |orderO l=>
  refine⟨val,fp,h.eqv ⟨fun i=>rfl,fun j=>?_⟩⟩;exact look_order s.ob l j
 |nameT i k=>
  simp only[Ev.ghost];split
  ·rename_i x _;cases Nat.beq x k with
   |true=>exact⟨val,fp,h⟩
   |false=>exact h.rename k x
  ·exact⟨val,fp,h⟩
 |nameB o j k=>
  simp only[Ev.ghost];split
  ·split
   ·rename_i x _;cases Nat.beq x k with
    |true=>exact⟨val,fp,h⟩
    |false=>exact h.rename k x
   ·exact⟨val,fp,h⟩
  ·exact⟨val,fp,h⟩
 |meltP i=>
  simp only[Ev.ghost];split
  ·rename_i k q hi;split
   ·rename_i cs hk;split
    ·rename_i xs hx;have hob:=h.obs k;rw[hk]at hob;obtain⟨b,cur,e,hu,hF,hh,hcs⟩:=hob;have hb:b∈fp k:=by rw[hF];simp
     obtain⟨q1,g,_⟩:=h.change1 (w':=w) k .gone (val k) [] (by rw[hk];trivial) (by rw[hk];rfl) (by simp) (fun _ _ _=>rfl) (Nat.le_refl _) rfl rfl rfl (fun _=>rfl);refine⟨_,_,fun k'=>(q1.obs k').setT i _,fun j=>?_,q1.disj,q1.mine,q1.size,q1.defers,q1.ij⟩;rw[getT_setT];by_cases hij:i=j
     ·subst hij;rw[if_pos rfl];have hv:=h.tms i;rw[hi]at hv;have hp:ptrTo (val k) q (a.tmps.getD i undef):=ptr_alive hv hk (.inl ⟨_,rfl⟩);rw[hu]at hp;have hp:a.tmps.getD i undef=.pointer (some ⟨b,0+q,none⟩):=hp;rw[hp];have hl:=treesC_some hx
      have hcur:∀i,i<xs.length->cur[i]?=some (cur.getD i undef):=fun i hi=>by
       have h0:=hcs.1;have:xs.length=cur.size:=by rw[<- hl.1,h0];exact Array.length_toList
       rw[Array.getElem?_eq_getElem (by omega),Array.getD_eq_getD_getElem?,Array.getElem?_eq_getElem (by omega)];rfl
      refine RB.rref (fun i=>cur.getD i undef) (fun _=>⟨.inr (h.mine k b hb),h.lt hb,fun j hj=>?_⟩) (fun i hi=>?_) (fun i x hxi=>?_)
      ·by_cases hkj:k=j
       ·subst hkj;rw[upd_same]at hj;simp at hj
       ·rw[upd_ne _ _ hkj]at hj;exact h.disj k j hkj b hb hj
      ·rw[Nat.zero_add];show w.cell? _=_;rw[cell_of_cells (w:=w) hh];exact hcur i hi
      ·have hi:=(List.getElem?_eq_some_iff.1 hxi).1;exact RB.move (hcs.2 i (.t x) _ (hl.2 i x hxi) (by rw[Array.getElem?_toList];exact hcur i hi)) g.hI g.hJ
     ·rw[if_neg hij];exact(q1.tms j).setT i _
    ·exact⟨val,fp,h⟩
   ·exact⟨val,fp,h⟩
  ·exact⟨val,fp,h⟩
 |reclaim=>
  refine⟨val,fp,h.recast (f:=killV) (val':=val) (fp':=fp) unlend (.inr fun _=>rfl) some ⟨fun x v hx=>?_⟩ (fun i=>.inl (getT_map killV s i)) (fun k=>.inr ⟨k,rfl,?_,rfl,rfl⟩) (fun k k' j h1 h2=>by cases h1;cases h2;rfl) (fun _ _ h=>h)⟩
  ·have refs:∀(j:Key)(p:Prop),(s.getO j).ref p->((Ev.ghost s .reclaim).getO j).ref p:=fun j p hp=>by
    rw[getO_reclaim];revert hp;cases s.getO j <;> exact id
   cases x with
   |t y=>exact hx
   |kept j y=>exact hx
   |nil=>exact hx
   |undef=>exact hx
   |ptr j q=>exact⟨refs j _ hx.1,hx.2⟩
   |obj j=>exact⟨refs j _ hx.1,hx.2⟩
   |view y=>exact CR.one hx
  ·exact getO_reclaim s k
theorem Inv.ghosts:∀(l:List Gh){s:St}{val:Key->Value}{fp:Key->List Nat},Inv c s a w val fp->∃val' fp',Inv c (ghosts s l) a w val' fp'
 |[],s,val,fp,h=>⟨val,fp,h⟩
 |g::l,s,val,fp,h=>by
  obtain⟨val',fp',h'⟩:=h.ghost g;exact h'.ghosts l
end
end Ev
end
section
namespace Ev
open Go
section
variable {P:Program}{A:Attrs}{E:Env}{H:Hints}{c:Ctx}{s:St}{a:Act}{w w0:World}{val:Key->Value}{fp:Key->List Nat}{r:T×List T}{n:Nat}{tp:Option Nat}{a0:Array Value}
def Ok(a0:Array Value)(tp:Option Nat)(c:Ctx)(w0:World)(n:Nat)(K:St->R)(r:T×List T)(a:Act)(w:World):Prop:=
 ∃s val fp,K s=some r/\Inv c s a w val fp/\KT a0 tp n a/\Kp c.own w0 w
def OkE(a0:Array Value)(tp:Option Nat)(c:Ctx)(w0:World)(n:Nat)(K:Ex->St->R)(r:T×List T):Exit->Act->World->Prop
 |.normal,a,w=>Ok a0 tp c w0 n (K .normal) r a w
 |.exit i,a,w=>Ok a0 tp c w0 n (K (.exit i)) r a w
 |.ret,a,w=>Ok a0 tp c w0 n (K .ret) r a w
 |_,_,_=>False
theorem regionK_sound(hm:P.follows .mixedOrders=true)(hE:∀g args r,E g args=some r->Meets P (A g) g args r){id:Nat}{ops:Array Oper}{draw:Bool}(hdst:∀(i:Nat)(o:Oper),ops[i]?=some o->∀d,o.dst=some d->d<n/\tp≠some d)
 (h:Inv c s a w val fp) (hn:KT a0 tp n a) (hk:Kp c.own w0 w) {K:St->R} {Q:Exit->Act->World->Prop} (hQ:∀a w,Ok a0 tp c w0 n K r a w->Q .normal a w) (hr:regionK P A E ops.toList draw s K=some r) :
 (Code.region id ops draw).wp P Q a w:=by
 obtain⟨fp1,h1⟩:=h.prepare ops.toList;unfold regionK at hr;cases draw with
 |false=>
  rw[cond_false]at hr;refine wp_region ?_
  have:=opsK_sound (w0:=w0) hE hdst (K:=fun s=>K (settle 8 s)) (Q:=Q) (fun s' a' w' val' fp' hK hi hsz hkp=>by
   obtain⟨val2,fp2,h2⟩:=hi.settle 8;exact hQ a' w' ⟨_,val2,fp2,hK,h2,hsz,hkp⟩) ops.toList 0 _ a w val fp1 (fun i=>by simp) h1 hn hk hr
  rw[Array.length_toList]at this;rw[List.range_eq_range'];exact this
 |true=>
  rw[cond_true]at hr;obtain⟨st,lg,e1,e2,e3⟩:=opsL_run ops.toList 0 _ [] (fun i=>by simp) hr;rw[Nat.zero_add,Array.length_toList,List.append_nil,List.reverse_reverse,<- List.range_eq_range']at e3;replace e3:=ev_true e3;obtain⟨hok,hK⟩:=e3;rw[Bool.and_eq_true]at hok;have ho:=ordered_of hok.1 hok.2;have hrun:Run P A E ops ops.size st lg:=⟨fun i o hi hoi=>e2 i o (Nat.zero_le i) (by rw[Nat.zero_add,Array.length_toList];exact hi) hoi⟩;refine wp_region_any hm ?_;obtain⟨h2,hk2⟩:=h1.world (w':={ w with drawn:=w.drawn+1 }) rfl rfl rfl rfl;refine anyOrder (w0:=w0) hE hdst ho hrun (fun a' w' val' fp' hi hsz hkp=>?_) ops.size (Array.replicate ops.size false) (st 0) a _ val fp1 (by simp) ?_ ?_ (fun x=>?_) (fun x=>?_) (by rw[e1];exact h2) hn (hk.trans hk2)
  ·obtain⟨val2,fp2,h3⟩:=hi.settle 8;exact hQ a' w' ⟨_,val2,fp2,hK,h3,hsz,hkp⟩
  ·have:left ops.size (Array.replicate ops.size false)=List.range ops.size:=by
    unfold left;refine List.filter_eq_self.2 fun i hi=>?_;have:=List.mem_range.1 hi;simp[Array.getD_eq_getD_getElem?,this]
   rw[this,List.length_range]
  ·intro j hj hD;simp[Array.getD_eq_getD_getElem?,hj]at hD
  ·exact .inr ⟨fun j hj hD=>by simp[Array.getD_eq_getD_getElem?,hj]at hD,rfl⟩
  ·exact .inr ⟨fun j hj hD=>by simp[Array.getD_eq_getD_getElem?,hj]at hD,rfl⟩
theorem wp_loop_fuel{cd:Code}{Q:Exit->Act->World->Prop}(I:Nat->Act->World->Prop){m:Nat}(h0:I m a w)
 (round:∀m a w,I m a w->cd.wp P (Exit.then (fun a' w'=>∃m',m'<m/\I m' a' w') Q) a w):(Code.loop cd).wp P Q a w:=by
 intro b k cs
 have key:∀m a w,I m a w->∃e a' w',Q e a' w'/\Arrives P (lone (b.at a (.code cd :: .inLoop cd::k)) cs w) b k cs e a' w':=by
  intro m;induction m using Nat.strongRecOn with
  |_ m ih=>
   intro a w hI;obtain⟨e,a₁,w₁,hq,harr⟩:=round m a w hI b (.inLoop cd::k) cs;cases e with
   |normal=>
    obtain⟨m',hlt,hI₁⟩:=hq;obtain⟨e₂,a₂,w₂,hq₂,harr₂⟩:=ih m' hlt a₁ w₁ hI₁;exact⟨e₂,a₂,w₂,hq₂,.of_steps (Steps.trans harr (.one step_inLoop)) harr₂⟩
   |exit id=>exact⟨_,a₁,w₁,hq,.pass (x:=.inLoop cd) rfl (fun _ _=>.inl (by simp)) harr⟩
   |goto l=>exact⟨_,a₁,w₁,hq,.pass (x:=.inLoop cd) rfl (fun _ _=>.inl (by simp)) harr⟩
   |ret=>exact⟨_,a₁,w₁,hq,.pass (x:=.inLoop cd) rfl (fun _ _=>.inl (by simp)) harr⟩
   |panic ch=>exact⟨_,a₁,w₁,hq,.pass (x:=.inLoop cd) rfl (fun _ _=>.inl (by simp)) harr⟩
   |outgrown=>exact⟨_,a₁,w₁,hq,.pass (x:=.inLoop cd) rfl (fun _ _=>.inl (by simp)) harr⟩
 obtain⟨e,a',w',hq,harr⟩:=key _ a w h0;exact⟨e,a',w',hq,.of_steps (.one step_loop) harr⟩
theorem codeK_sound(hm:P.follows .mixedOrders=true)(hE:∀g args r,E g args=some r->Meets P (A g) g args r)(fuel:Nat):∀(cd:Code),dstsOk tp n cd=true->∀(blk:Nat)(K:Ex->St->R)(s:St)(a:Act)(w:World)(val:Key->Value)(fp:Key->List Nat),
 Inv c s a w val fp->KT a0 tp n a->Kp c.own w0 w->codeK P A H E fuel blk cd s K=some r->cd.wp P (OkE a0 tp c w0 n K r) a w:=by
 intro cd;induction cd with
 |skip=>intro _ blk K s a w val fp h hn hk hr;exact wp_skip ⟨s,val,fp,hr,h,hn,hk⟩
 |region id ops draw=>
  intro hd blk K s a w val fp h hn hk hr;obtain⟨val0,fp0,h0⟩:=h.ghosts (H.regions id);obtain⟨s1,val1,fp1,h1,hr⟩:=openK_sound (H.opens id) h0 hr;refine regionK_sound hm hE (fun i o ho d hod=>?_) h1 hn hk (fun a w hok=>hok) hr;have:=List.all_eq_true.1 hd o (List.mem_of_getElem? (by simpa using ho));rw[hod]at this;simp only[Bool.and_eq_true]at this;refine⟨Nat.le_of_ble_eq_true this.1,fun e=>?_⟩;rw[e]at this;simp at this
 |seq x y ihx ihy=>
  intro hd blk K s a w val fp h hn hk hr;rw[dstsOk,Bool.and_eq_true]at hd;refine wp_seq (wp_mono (ihx hd.1 blk _ s a w val fp h hn hk hr) fun e a' w' hq=>?_);cases e with
  |normal=>
   obtain⟨s',val',fp',hr',h',hn',hk'⟩:=hq;exact ihy hd.2 blk K s' a' w' val' fp' h' hn' hk' hr'
  |exit i=>exact hq
  |ret=>exact hq
  |goto l=>exact hq
  |panic ch=>exact hq
  |outgrown=>exact hq
 |cond x y z ihy ihz=>
  intro hd blk K s a w val fp h hn hk hr;rw[dstsOk,Bool.and_eq_true]at hd
  have hv:VR (mkFr c w val fp) s (isUnder P s x) (a.eval x):=by
   unfold isUnder;split
   ·exact h.tms _
   ·exact VR_ofVal _
   ·trivial
  rw[codeK]at hr;split at hr
  ·rename_i b hb;rw[hb]at hv;have hv:a.eval x=.bool b:=RB.bool_inv hv;refine wp_cond hv ?_;cases b with
   |true=>exact ihy hd.1 blk K s a w val fp h hn hk hr
   |false=>exact ihz hd.2 blk K s a w val fp h hn hk hr
  ·cases hr
 |block i x ih=>
  intro hd blk K s a w val fp h hn hk hr;refine wp_block (wp_mono (ih hd i _ s a w val fp h hn hk hr) fun e a' w' hq=>?_);cases e with
  |normal=>exact hq
  |exit j=>
   obtain⟨s',val',fp',hr',h'⟩:=hq;simp only at hr';show if j=i then OkE a0 tp c w0 n K r Exit.normal a' w' else OkE a0 tp c w0 n K r (Exit.exit j) a' w'
   by_cases hij:j=i
   ·subst hij;have:Nat.beq j j=true:=by simp
    rw[this,cond_true]at hr';rw[if_pos rfl];exact⟨s',val',fp',hr',h'⟩
   ·rw[nbeq (fun e=>hij e.symm),cond_false]at hr';rw[if_neg hij];exact⟨s',val',fp',hr',h'⟩
  |ret=>exact hq
  |goto l=>exact hq
  |panic ch=>exact hq
  |outgrown=>exact hq
 |loop x ih=>
  intro hd blk K s a w val fp h hn hk hr;obtain⟨val0,fp0,h0⟩:=h.ghosts (H.loops blk)
  refine wp_loop_fuel (fun m a w=>∃s val fp,loopK (fun s K=>codeK P A H E fuel blk x s fun e s=>match e with
   |.normal=>K .normal (ghosts s (H.loops blk))
   |e=>K e s) m s K=some r/\Inv c s a w val fp/\KT a0 tp n a/\Kp c.own w0 w) ⟨_,val0,fp0,hr,h0,hn,hk⟩ ?_
  rintro m a w ⟨s,val,fp,hr,h,hn,hk⟩;cases m with
  |zero=>cases hr
  |succ m=>
   refine wp_mono (ih hd blk _ _ a w val fp h hn hk hr) fun e a' w' hq=>?_;cases e with
   |normal=>
    obtain⟨s',val',fp',hr',h',hn',hk'⟩:=hq;obtain⟨val1,fp1,h1⟩:=h'.ghosts (H.loops blk);exact⟨m,Nat.lt_succ_self m,_,val1,fp1,hr',h1,hn',hk'⟩
   |exit i=>exact hq
   |ret=>exact hq
   |goto l=>exact hq
   |panic ch=>exact hq
   |outgrown=>exact hq
 |exit i=>intro _ blk K s a w val fp h hn hk hr;exact wp_exit ⟨s,val,fp,hr,h,hn,hk⟩
 |ret=>intro _ blk K s a w val fp h hn hk hr;exact wp_ret ⟨s,val,fp,hr,h,hn,hk⟩
 |_=>intro _ blk K s a w val fp h hn hk hr;cases hr
end
end Ev
end
section
namespace Ev
open Go
theorem argsV_spec(at_:Attr):∀{args:List T}{i:Nat}{l:List (Nat×V)}{os:List (Key×Ob)},argsV at_ i args=some (l,os)->
 (∀j,j<i->look V.any l j=.any)/\(∀j x,args[j]?=some x->(at_.turn=some (i+j)/\turnV at_.md x=some (look V.any l (i+j),os))\/(at_.turn≠some (i+j)/\argV x=some (look V.any l (i+j))))/\
  (∀j,i+args.length<=j->look V.any l j=.any)/\((∀j,j<args.length->at_.turn≠some (i+j))->os=[])
 |[],i,l,os,h=>by simp[argsV]at h;obtain⟨rfl,rfl⟩:=h;simp[look]
 |x::xs,i,l,os,h=>by
  rw[argsV,Option.bind_eq_some_iff]at h;obtain⟨⟨v,os1⟩,hv,h⟩:=h;rw[Option.map_eq_some_iff]at h;obtain⟨⟨l2,os2⟩,h2,h⟩:=h;simp only[Prod.mk.injEq]at h;obtain⟨rfl,rfl⟩:=h;obtain⟨r1,r2,r3,r4⟩:=argsV_spec at_ h2;have hii:Nat.beq i i=true:=by simp
  have first:(at_.turn=some i/\turnV at_.md x=some (v,os1))\/(at_.turn≠some i/\argV x=some v/\os1=[]):=by
   split at hv
   ·rename_i j hj;cases hji:Nat.beq j i with
    |true=>
     rw[hji]at hv;have:j=i:=Nat.eq_of_beq_eq_true hji;exact .inl ⟨by rw[hj,this],hv⟩
    |false=>
     rw[hji]at hv;simp only[cond_false,Option.map_eq_some_iff,Prod.mk.injEq]at hv;obtain⟨v',hv',rfl,rfl⟩:=hv;refine .inr ⟨fun e=>?_,hv',rfl⟩;rw[hj]at e;cases e;simp at hji
   ·rename_i hj;simp only[Option.map_eq_some_iff,Prod.mk.injEq]at hv;obtain⟨v',hv',rfl,rfl⟩:=hv;exact .inr ⟨by rw[hj];simp,hv',rfl⟩
  refine⟨fun j hj=>?_,fun j y hy=>?_,fun j hj=>?_,fun hn=>?_⟩
  ·rw[look,nbeq (by omega:i≠j),cond_false];exact r1 j (by omega)
  ·cases j with
   |zero=>
    simp at hy;subst hy;simp only[Nat.add_zero,look,hii,cond_true];rcases first with⟨f1,f2⟩|⟨f1,f2,f3⟩
    ·refine .inl ⟨f1,?_⟩;have:os2=[]:=r4 fun j hj e=>by rw[f1]at e;have:=Option.some.inj e;omega
     rw[this,List.append_nil];exact f2
    ·exact .inr ⟨f1,f2⟩
   |succ j=>
    have hy':xs[j]?=some y:=by simpa using hy
    have:=r2 j y hy';rw[look,nbeq (by omega:i≠i+(j+1)),cond_false,show i+(j+1)=i+1+j by omega];rcases this with⟨f1,f2⟩|h
    ·refine .inl ⟨f1,?_⟩;rcases first with⟨g1,_⟩|⟨_,_,g3⟩
     ·rw[f1]at g1;have:=Option.some.inj g1;omega
     ·rw[g3];exact f2
    ·exact .inr h
  ·simp only[List.length_cons]at hj;rw[look,nbeq (by omega:i≠j),cond_false];exact r3 j (by omega)
  ·have e1:os1=[]:=by
    rcases first with⟨f1,_⟩|⟨_,_,f3⟩
    ·exact absurd f1 (by have:=hn 0 (by simp);simpa using this)
    ·exact f3
   have e2:os2=[]:=r4 fun j hj=>by have:=hn (j+1) (by simp;omega);rwa[show i+(j+1)=i+1+j by omega]at this
   rw[e1,e2];rfl
section
variable {P:Program}{A:Attrs}{E:Env}{c:Ctx}{s:St}{a:Act}{w:World}{val:Key->Value}{fp:Key->List Nat}
variable {l:Log}{r:T×List T}
theorem getD_args{vs:Array Value}{n i:Nat}(h:i<vs.size):(vs++Array.replicate n undef).getD i undef=vs.getD i undef:=by
 simp only[Array.getD_eq_getD_getElem?];rw[Array.getElem?_append_left h]
theorem look_cons{α:Type}(d:α)(k:Nat)(v:α)(l:List (Nat×α))(i:Nat):look d ((k,v)::l) i=if k=i then v else look d l i:=by
 rw[look];by_cases h:k=i
 ·subst h;simp
 ·rw[nbeq h,if_neg h];rfl
theorem turnCs_spec:∀{os:List Bool}{key:Nat}{xs:List T}{cs:List C}{obs:List (Key×Ob)},turnCs os key xs=some (cs,obs)->cs.length=xs.length/\os.length=xs.length/\
 (∀k:Nat,k<key\/key+xs.length<=k->look Ob.free obs k=.free)/\
 ∀(i:Nat)(x:T),xs[i]?=some x->(cs[i]?=some (.t x)/\look Ob.free obs (key+i)=.free/\(os.getD i false=true->(∀sz c,x ≠ .sl sz c)/\∀l,x ≠ .mp l))\/
  (os.getD i false=true/\cs[i]?=some (.obj (key+i))/\((∃sz c,x=.sl sz c/\look Ob.free obs (key+i)=.arr true true sz c)\/∃l,x=.mp l/\look Ob.free obs (key+i)=.mp l))
 |[],key,[],cs,obs,h=>by simp[turnCs]at h;obtain⟨rfl,rfl⟩:=h;simp[look]
 |o::os,key,x::xs,cs,obs,h=>by
  rw[turnCs,Option.map_eq_some_iff]at h;obtain⟨⟨cs',obs'⟩,h1,h2⟩:=h;obtain⟨r1,r2,r3,r4⟩:=turnCs_spec h1;simp only[Prod.mk.injEq]at h2;obtain⟨rfl,rfl⟩:=h2
  have up:∀j:Nat,key<j->look Ob.free ((turnC o key x).2++obs') j=look Ob.free obs' j:=fun j hj=>by
   unfold turnC;split
   ·show look Ob.free ((key,_)::obs') j=_;rw[look_cons,if_neg (by omega)]
   ·show look Ob.free ((key,_)::obs') j=_;rw[look_cons,if_neg (by omega)]
   ·rfl
  refine⟨by simp[r1],by simp[r2],fun k hk=>?_,fun i y hy=>?_⟩
  ·rcases hk with hk|hk
   ·unfold turnC;split
    ·show look Ob.free ((key,_)::obs') k=_;rw[look_cons,if_neg (by omega)];exact r3 k (.inl (by omega))
    ·show look Ob.free ((key,_)::obs') k=_;rw[look_cons,if_neg (by omega)];exact r3 k (.inl (by omega))
    ·exact r3 k (.inl (by omega))
   ·simp only[List.length_cons]at hk;rw[up k (by omega)];exact r3 k (.inr (by omega))
  ·cases i with
   |zero=>
    simp only[List.getElem?_cons_zero,Option.some.injEq]at hy;subst hy;unfold turnC;split
    ·refine .inr ⟨rfl,rfl,.inl ⟨_,_,rfl,?_⟩⟩;show look Ob.free ((key,_)::obs') (key+0)=_;rw[look_cons,if_pos (by omega)]
    ·refine .inr ⟨rfl,rfl,.inr ⟨_,rfl,?_⟩⟩;show look Ob.free ((key,_)::obs') (key+0)=_;rw[look_cons,if_pos (by omega)]
    ·rename_i hn1 hn2;refine .inl ⟨rfl,r3 _ (.inl (by omega)),fun ho=>?_⟩;have ho:o=true:=by simpa using ho
     subst ho;exact⟨fun sz c e=>hn1 sz c rfl e,fun l e=>hn2 l rfl e⟩
   |succ i=>
    have:=r4 i y (by simpa using hy);rw[up _ (by omega),show key+(i+1)=key+1+i by omega];simpa using this
 |[],_,_::_,_,_,h=>by simp[turnCs]at h
 |_::_,_,[],_,_,h=>by simp[turnCs]at h
def fpo(o:Ob)(F:List Nat):List Nat:=match o with|.free=>[]|_=>F
theorem turned_cells{I J:Nat->Prop}{os:List Bool}{key:Nat}{xs:List T}{us:List Value}{fs:Nat->List Nat}{cs:List C}{obs:List (Key×Ob)}(hx:CellsR w I J os xs us fs)(ht:turnCs os key xs=some (cs,obs))
 (fr:Ev.Fr) (s':St) (hw:fr.w=w) (hI:∀b,I b->fr.I b) (hJ:∀b,J b->fr.J b) (hs:∀i,i<us.length->s'.getO (key+i)=look Ob.free obs (key+i)) (hv:∀i,i<us.length->fr.val (key+i)=us.getD i undef) :
 CRs fr s' cs us/\∀i,i<us.length->ObR fr s' (look Ob.free obs (key+i)) (us.getD i undef) (fpo (look Ob.free obs (key+i)) (fs i)):=by
 obtain⟨r1,r2,r3,r4⟩:=turnCs_spec ht;refine⟨⟨r1.trans hx.1,fun i cc v hc hv'=>?_⟩,fun i hi=>?_⟩
 ·have hiu:=(List.getElem?_eq_some_iff.1 hv').1;have hix:i<xs.length:=by rw[hx.1];exact hiu
  have hel:=hx.2.2 i _ v (List.getElem?_eq_getElem hix) hv';rcases r4 i _ (List.getElem?_eq_getElem hix)with⟨h1,h2,h3⟩|⟨ho,h1,h2⟩
  ·rw[h1]at hc;cases hc;show RB fr.w fr.I fr.J _ v;rw[hw];unfold El at hel;split at hel
   ·rename_i ho;obtain⟨n1,n2⟩:=h3 ho;revert n1 n2 hel;generalize xs[i]=x;generalize fs i=F;intro hel n1 n2;cases hel with
    |int k n=>exact .int k n
    |bool b=>exact .bool b
    |str s=>exact .str s
    |nil hsz=>exact absurd rfl (n1 _ _)
    |sl _ _ _ _ _ _ _ _ _ _ _=>exact absurd rfl (n1 _ _)
    |hole h=>exact .hole h
    |mp _ _=>exact absurd rfl (n2 _)
   ·exact RB.move hel.1 (fun b hb=>⟨hI b hb,rfl⟩) (fun b hb=>⟨hJ b hb,rfl⟩)
  ·rw[h1]at hc;cases hc
   have hval:fr.val (key+i)=v:=by
    rw[hv i hiu];exact getD_of hv'
   unfold El at hel;rw[if_pos ho]at hel;refine⟨?_,RO.one hel⟩;rw[hs i hiu,<- hval];rcases h2 with⟨sz,c',_,h3⟩|⟨l,_,h3⟩ <;> rw[h3] <;> rfl
 ·have hix:i<xs.length:=by rw[hx.1];exact hi
  have hu:us[i]?=some (us.getD i undef):=by simp[List.getD_eq_getElem?_getD,hi]
  have hel:=hx.2.2 i _ _ (List.getElem?_eq_getElem hix) hu;rcases r4 i _ (List.getElem?_eq_getElem hix)with⟨h1,h2,h3⟩|⟨ho,h1,h2⟩
  ·rw[h2];rfl
  ·unfold El at hel;rw[if_pos ho]at hel;rcases h2 with⟨sz,c',h4,h3⟩|⟨l,h4,h3⟩
   ·rw[h3];show RO fr.w _ _ _;rw[hw,<- h4];exact hel
   ·rw[h3];show RO fr.w _ _ _;rw[hw,<- h4];exact hel
def keptOf(at_:Attr)(vs:Array Value)(w:World):Nat->Value:=match at_.turn with
 |some i=>keptAt w (vs.getD i undef)
 |none=>fun _=>undef
theorem keptCs_get:∀{xs:List T}{j i:Nat},(keptCs j xs)[i]?=(xs[i]?).map fun x=>keptC (j+i) x
 |[],j,i=>rfl
 |x::xs,j,i=>by
  cases i with
  |zero=>rfl
  |succ i=>rw[keptCs,List.getElem?_cons_succ,List.getElem?_cons_succ,keptCs_get,show j+1+i=j+(i+1) by omega]
theorem keptCs_len:∀{xs:List T}{j:Nat},(keptCs j xs).length=xs.length
 |[],_=>rfl
 |_::xs,j=>by rw[keptCs,List.length_cons,List.length_cons,keptCs_len]
theorem more_none{at_:Attr}{args:List T}{I J:Nat->Prop}{vs:Array Value}{F:List Nat}(hp:Pre at_ args w I J vs F){l:List (Nat×V)}{os:List (Key×Ob)}
 (r2:∀j x,args[j]?=some x->(at_.turn=some j/\turnV at_.md x=some (look V.any l j,os))\/(at_.turn≠some j/\argV x=some (look V.any l j))) (i:Nat):at_.more≠some i:=by
 unfold Attr.more;cases ht:at_.turn with
 |none=>simp
 |some j=>
  obtain⟨x,v,F1,hx,_⟩:=hp.turned j ht;cases hmd:at_.md with
  |two m=>
   exfalso;rcases r2 j x hx with⟨_,hturn⟩|⟨hn,_⟩
   ·rw[hmd]at hturn;cases hturn
   ·exact hn ht
  |_=>simp
theorem entry{at_:Attr}{args:List T}{I J:Nat->Prop}{vs:Array Value}{F:List Nat}(hp:Pre at_ args w I J vs F){l:List (Nat×V)}{os:List (Key×Ob)}(ha:argsV at_ 0 args=some (l,os))(n:Nat) :
 ∃val fp,Inv ⟨w.heap.size,I,J,(· ∈ F),keptOf at_ vs w⟩ ⟨l,os⟩ { tmps:=vs++Array.replicate n undef,defers:=[] } w val fp:=by
 obtain⟨r1,r2,r3,r4⟩:=argsV_spec at_ ha;simp only[Nat.zero_add]at r1 r2 r3 r4
 have key:∃(u0:Value)(F0:List Nat)(us:List Value)(fs:Nat->List Nat),(∀b,b∈F0->b∈F)/\(∀i b,i<us.length->b∈fs i->b∈F/\b∉F0)/\ND us.length fs/\
  (∀k:Nat,k≠turnKey->(k<turnKey\/turnKey+1+us.length<=k)->look Ob.free os k=.free)/\
  ∀(fr:Ev.Fr),fr.w=w->fr.kept=keptOf at_ vs w->(∀b,I b->fr.I b)->(∀b,J b->fr.J b)->fr.val turnKey=u0->(∀i,i<us.length->fr.val (turnKey+1+i)=us.getD i undef)->
   ObR fr ⟨l,os⟩ (look Ob.free os turnKey) u0 F0/\(∀i,i<us.length->ObR fr ⟨l,os⟩ (look Ob.free os (turnKey+1+i)) (us.getD i undef) (fpo (look Ob.free os (turnKey+1+i)) (fs i)))/\
   ∀i x v,at_.turn=some i->args[i]?=some x->vs[i]?=some v->VR fr ⟨l,os⟩ (look V.any l i) v:=by
  cases ht:at_.turn with
  |none=>
   have hos:os=[]:=r4 fun j _ e=>by rw[ht]at e;cases e
   subst hos;exact⟨undef,[],[],fun _=>[],by simp,by simp,ND.nil _,fun _ _ _=>rfl,fun fr _ _ _ _ _ _=>⟨rfl,by simp,fun i x v e=>by cases e⟩⟩
  |some i=>
   obtain⟨x,v,F1,hx,hv,harg,hmore⟩:=hp.turned i ht
   have hFF:F=F1:=by
    unfold MoreT Attr.more at hmore;rw[ht]at hmore;cases hmd:at_.md with
    |two m=>
     exfalso;rcases r2 i x hx with⟨_,hturn⟩|⟨hn,_⟩
     ·rw[hmd]at hturn;cases hturn
     ·exact hn ht
    |_=>rw[hmd]at hmore;exact hmore.symm
   subst hFF
   have same:∀{fr:Ev.Fr}{y:V},look V.any l i=y->VR fr ⟨l,os⟩ y v->∀i' x' v',some i=some i'->args[i']?=some x'->vs[i']?=some v'->VR fr ⟨l,os⟩ (look V.any l i') v':=fun {fr y} hy hvr i' x' v' hi _ hv''=>by
    cases hi;rw[hv]at hv'';cases hv'';rw[hy];exact hvr
   rcases r2 i x hx with⟨_,hturn⟩|⟨hn,_⟩
   ·unfold turnV at hturn;split at hturn
    ·rename_i bs cells0 hmd;rw[hmd]at harg;obtain⟨ys,e,b,cur,ty,fs,hv',hF,hbn,hh,hcr⟩:=harg;cases e;rw[Option.map_eq_some_iff]at hturn;obtain⟨⟨cs,obs⟩,htc,e1⟩:=hturn;simp only[Prod.mk.injEq]at e1;obtain⟨e1,rfl⟩:=e1;obtain⟨q1,q2,q3,q4⟩:=turnCs_spec htc;have hl1:∀k:Nat,k≠turnKey->look Ob.free ((turnKey,Ob.box cs)::obs) k=look Ob.free obs k:=fun k hk=>by rw[look_cons,if_neg (fun e=>hk e.symm)]
     have hl0:look Ob.free ((turnKey,Ob.box cs)::obs) turnKey=.box cs:=by rw[look_cons,if_pos rfl]
     have hlen:cur.toList.length=cells0.length:=hcr.1.symm;refine⟨v,[b],cur.toList,fs,fun b' hb'=>by rw[List.mem_singleton.1 hb',hF];simp,fun j b' hj hb'=>⟨by rw[hF];exact List.mem_cons_of_mem _ (mem_flat.2 ⟨j,by omega,hb'⟩),fun hbb=>?_⟩,by rw[hlen];exact hcr.2.1,fun k hk hk2=>?_,fun fr hw _ hI hJ hv0 hvs=>?_⟩
     ·rw[List.mem_singleton.1 hbb]at hb';exact hbn (mem_flat.2 ⟨j,by omega,hb'⟩)
     ·rw[hl1 k hk];exact q3 k (by rw[hlen]at hk2;omega)
     ·have hob:∀j,j<cur.toList.length->(⟨l,(turnKey,Ob.box cs)::obs⟩:St).getO (turnKey+1+j)=look Ob.free obs (turnKey+1+j):=fun j _=>hl1 _ (by omega);obtain⟨c1,c2⟩:=turned_cells hcr htc fr ⟨l,(turnKey,Ob.box cs)::obs⟩ hw hI hJ hob hvs;refine⟨?_,fun j hj=>by rw[hl1 _ (by omega)];exact c2 j hj,same e1.symm ?_⟩
      ·rw[hl0];exact⟨b,cur,ty,hv',rfl,by rw[hw];exact hh,c1⟩
      ·refine⟨?_,by rw[hv'];rfl⟩;show(look Ob.free ((turnKey,Ob.box cs)::obs) turnKey).ref _;rw[hl0];show ptrTo (fr.val turnKey) 0 v;rw[hv0,hv'];rfl
    ·rename_i cells0 hmd;rw[hmd]at harg;obtain⟨ys,e,b,cur,ty,fs,hv',hF,hbn,hh,hcr⟩:=harg;cases e;simp only[Option.some.injEq,Prod.mk.injEq]at hturn;obtain⟨e1,rfl⟩:=hturn;have hl0:look Ob.free [(turnKey,Ob.box (keptCs 0 cells0))] turnKey=.box (keptCs 0 cells0):=by rw[look_cons,if_pos rfl]
     have hiv:i<vs.size:=(Array.getElem?_eq_some_iff.1 hv).1
     have hkept:∀j,keptOf at_ vs w j=cur.getD j undef:=fun j=>by
      unfold keptOf;rw[ht];simp only[Array.getD_eq_getD_getElem?,hv,Option.getD_some];rw[hv'];unfold keptAt;simp only[hh,Array.getD_eq_getD_getElem?]
     refine⟨v,[b],[],fun _=>[],fun b' hb'=>by rw[List.mem_singleton.1 hb',hF];simp,by simp,ND.nil _,fun k hk _=>by rw[look_cons,if_neg (fun e=>hk e.symm)];rfl,fun fr hw hkk hI hJ hv0 _=>⟨?_,by simp,same e1.symm ?_⟩⟩
     ·rw[hl0];refine⟨b,cur,ty,hv',rfl,by rw[hw];exact hh,by rw[keptCs_len];exact hcr.1,fun j cc u hcj hu=>?_⟩;rw[keptCs_get,Option.map_eq_some_iff]at hcj;obtain⟨y,hy,rfl⟩:=hcj;have hel:=hcr.2.2 j y u hy hu;unfold El at hel;rw[if_neg (by simp)]at hel;have h9:RB fr.w fr.I fr.J y u:=by rw[hw];exact RB.move hel.1 (fun b hb=>⟨hI b hb,rfl⟩) (fun b hb=>⟨hJ b hb,rfl⟩)
      unfold keptC;cases y.scalar with
      |true=>exact h9
      |false=>
       refine⟨h9,?_⟩;rw[hkk,Nat.zero_add,hkept];have hu':cur[j]?=some u:=by simpa using hu
       rw[Array.getD_eq_getD_getElem?,hu'];rfl
     ·refine⟨?_,by rw[hv'];rfl⟩;show(look Ob.free [(turnKey,Ob.box (keptCs 0 cells0))] turnKey).ref _;rw[hl0];show ptrTo (fr.val turnKey) 0 v;rw[hv0,hv'];rfl
    ·rename_i sz0 cs0 hmd;rw[hmd]at harg;obtain⟨⟨sz,cs,e⟩,hro⟩:=harg;cases e;simp only[Option.some.injEq,Prod.mk.injEq]at hturn;obtain⟨e1,rfl⟩:=hturn;have hl0:look Ob.free [(turnKey,Ob.arr true true sz0 cs0)] turnKey=.arr true true sz0 cs0:=by rw[look_cons,if_pos rfl]
     refine⟨v,F,[],fun _=>[],fun _ h=>h,by simp,ND.nil _,fun k hk _=>by rw[look_cons,if_neg (fun e=>hk e.symm)];rfl,fun fr hw _ hI hJ hv0 _=>⟨?_,by simp,same e1.symm ?_⟩⟩
     ·rw[hl0];show RO fr.w _ _ _;rw[hw];exact hro
     ·refine⟨?_,hro.one⟩;show(look Ob.free [(turnKey,Ob.arr true true sz0 cs0)] turnKey).ref _;rw[hl0];exact hv0.symm
    ·rename_i cs0 hmd;rw[hmd]at harg;obtain⟨ys,e,us,fs,hv',hF,hcr⟩:=harg;cases e;rw[Option.map_eq_some_iff]at hturn;obtain⟨⟨cs,obs⟩,htc,e1⟩:=hturn;simp only[Prod.mk.injEq]at e1;obtain⟨e1,rfl⟩:=e1;obtain⟨q1,q2,q3,q4⟩:=turnCs_spec htc;have hlen:us.toList.length=cs0.length:=hcr.1.symm;have hl0:look Ob.free obs turnKey=.free:=q3 _ (.inl (by omega));refine⟨undef,[],us.toList,fs,by simp,fun j b' hj hb'=>⟨by rw[hF];exact mem_flat.2 ⟨j,by omega,hb'⟩,by simp⟩,by rw[hlen];exact hcr.2.1,fun k hk hk2=>q3 k (by rw[hlen]at hk2;omega),fun fr hw _ hI hJ hv0 hvs=>?_⟩;obtain⟨c1,c2⟩:=turned_cells hcr htc fr ⟨l,obs⟩ hw (fun _ h=>h.elim) (fun _ h=>h.elim) (fun j _=>rfl) hvs;refine⟨by rw[hl0];rfl,c2,same e1.symm ⟨us,hv',c1⟩⟩
    ·cases hturn
   ·exact absurd ht hn
 obtain⟨u0,F0,us,fs,k1,k2,k3,k4,k5⟩:=key;let val:Nat->Value:=fun k=>if k=turnKey then u0 else us.getD (k-turnKey-1) undef
 let fp:Nat->List Nat:=fun k=>if k=turnKey then F0 else if turnKey<k/\k-turnKey-1<us.length then fpo (look Ob.free os k) (fs (k-turnKey-1))else[]
 have fpo_sub:∀(o:Ob)(G:List Nat) b,b∈fpo o G->b∈G:=fun o G b hb=>by unfold fpo at hb;split at hb <;> first|exact hb|simp at hb
 have fpF:∀(k:Nat) b,b∈fp k->b∈F:=fun k b hb=>by
  simp only[fp]at hb;split at hb
  ·exact k1 b hb
  ·split at hb
   ·rename_i h2;exact(k2 _ b h2.2 (fpo_sub _ _ b hb)).1
   ·simp at hb
 have hI:∀b,I b->inI ⟨w.heap.size,I,J,(· ∈ F),keptOf at_ vs w⟩ w fp b:=fun b hb=>⟨.inl hb,hp.lt b (hp.ij b hb),fun k hk=>hp.ap b (fpF k b hk) (hp.ij b hb)⟩;have hJ:∀b,J b->inJ ⟨w.heap.size,I,J,(· ∈ F),keptOf at_ vs w⟩ w fp b:=fun b hb=>⟨.inl hb,hp.lt b hb,fun k hk=>hp.ap b (fpF k b hk) hb⟩;have hrb:∀{x:T}{v:Value},RB w I J x v->RB w (inI ⟨w.heap.size,I,J,(· ∈ F),keptOf at_ vs w⟩ w fp) (inJ ⟨w.heap.size,I,J,(· ∈ F),keptOf at_ vs w⟩ w fp) x v:=fun h=>RB.move h (fun b hb=>⟨hI b hb,rfl⟩) (fun b hb=>⟨hJ b hb,rfl⟩)
 have hval:∀i,i<us.length->val (turnKey+1+i)=us.getD i undef:=fun i _=>by
  have e1:¬ turnKey+1+i=turnKey:=by omega
  have e2:turnKey+1+i-turnKey-1=i:=by omega
  simp only[val,if_neg e1,e2]
 obtain⟨c1,c2,c3⟩:=k5 (mkFr ⟨w.heap.size,I,J,(· ∈ F),keptOf at_ vs w⟩ w val fp) rfl rfl hI hJ (by simp[mkFr,val]) (fun i hi=>hval i hi);refine⟨val,fp,fun(k:Nat)=>?_,fun i=>?_,fun(k k':Nat) hne b hb hb'=>?_,fun k b hb=>.inr (fpF k b hb),Nat.le_refl _,rfl,hp.ij⟩
 ·by_cases hk:k=turnKey
  ·subst hk;have e1:val turnKey=u0:=by simp[val]
   have e2:fp turnKey=F0:=by simp[fp]
   rw[e1,e2];exact c1
  ·by_cases hk2:turnKey<k/\k-turnKey-1<us.length
   ·have h3:=c2 (k-turnKey-1) hk2.2;have e:turnKey+1+(k-turnKey-1)=k:=by omega
    rw[e]at h3;have e1:val k=us.getD (k-turnKey-1) undef:=by simp only[val,if_neg hk]
    have e2:fp k=fpo (look Ob.free os k) (fs (k-turnKey-1)):=by simp only[fp,if_neg hk,if_pos hk2]
    rw[e1,e2];exact h3
   ·have e:(⟨l,os⟩:St).getO k=.free:=k4 k hk (by omega);rw[e];show fp k=[];simp only[fp,if_neg hk,if_neg hk2]
 ·have hg:(⟨l,os⟩:St).getT i=look V.any l i:=rfl;rw[hg];by_cases hi:i<args.length
  ·have hiv:i<vs.size:=by rw[hp.len];exact hi
   have hv:vs[i]?=some vs[i]:=by simp[hiv]
   have hx:args[i]?=some args[i]:=by simp[hi]
   have hval:(vs++Array.replicate n undef).getD i undef=vs[i]:=by
    rw[getD_args hiv];simp[Array.getD_eq_getD_getElem?,hiv]
   show VR _ _ _ ((vs++Array.replicate n undef).getD i undef);rw[hval];rcases r2 i _ hx with⟨ht,_⟩|⟨ht,hargV⟩
   ·exact c3 i _ _ ht hx hv
   ·have hres:=hp.vals i _ _ ht (more_none hp r2 i) hx hv;unfold argV at hargV;split at hargV
    ·rename_i cs hcs;rw[hcs]at hres;cases hargV':look V.any l i with
     |agg ds=>
      rw[hargV']at hargV;cases hargV;obtain⟨us,fs,e1,e2,_,_,hel⟩:=hres;refine⟨us,e1,by simpa using e2,fun j cj u hcj hu=>?_⟩;rw[List.getElem?_map,Option.map_eq_some_iff]at hcj;obtain⟨y,hy,rfl⟩:=hcj;exact hrb (hel j y u hy (by simpa using hu)).1
     |_=>rw[hargV']at hargV;cases hargV
    ·cases hargV
    ·rename_i h1 h2;cases hargV':look V.any l i with
     |one d=>
      rw[hargV']at hargV;cases hargV
      have hrb':RB w I J args[i] vs[i]:=by
       revert hres;cases hc:args[i]with
       |agg cs=>exact absurd hc (h1 cs)
       |tup ps=>exact absurd hc (h2 ps)
       |bx ys=>exact fun⟨_,_,_,_,hF,_⟩=>by cases hF
       |_=>exact fun hres=>hres.1
      exact hrb hrb'
     |_=>rw[hargV']at hargV;cases hargV
  ·rw[r3 i (by omega)];trivial
 ·have big:∀(k:Nat) b,k≠turnKey->b∈fp k->(turnKey<k/\k-turnKey-1<us.length)/\b∈fs (k-turnKey-1):=fun k b hk hb=>by
   simp only[fp,if_neg hk]at hb;split at hb
   ·exact⟨by assumption,fpo_sub _ _ b hb⟩
   ·simp at hb
  by_cases e1:k=turnKey
  ·by_cases e2:k'=turnKey
   ·exact hne (e1.trans e2.symm)
   ·obtain⟨g1,g2⟩:=big k' b e2 hb';subst e1;simp only[fp,if_true]at hb;exact(k2 _ b g1.2 g2).2 hb
  ·obtain⟨g1,g2⟩:=big k b e1 hb;by_cases e2:k'=turnKey
   ·subst e2;simp only[fp,if_true]at hb';exact(k2 _ b g1.2 g2).2 hb'
   ·obtain⟨g3,g4⟩:=big k' b e2 hb';have hne':¬(k:Nat)=k':=hne;exact k3.2 _ _ g1.2 g3.2 (by omega) b g2 g4
end
end Ev
end
section
namespace Ev
open Go
section
variable {P:Program}{A:Attrs}{E:Env}{c:Ctx}{s s1:St}{a:Act}{w:World}{val:Key->Value}{fp:Key->List Nat}
variable {l:Log}{K:St->Log->R}{r:T×List T}
def resOf(tmps:Array Value):ResultVar->Sem Value
 |.tmp t=>pure (tmps.getD t undef)
 |.cell a t=>do loadVar t (<- asAddr (tmps.getD a undef))
theorem resVs_sound(h:Inv c s a w val fp):∀{rs:List ResultVar}{ts:List TypeId}{f:List V->Prog}{l:Log},runP E (resVs P rs ts f) s l K=some r->
 ∃vs us l',runP E (f vs) s l' K=some r/\(rs.mapM (resOf a.tmps)).run P w=.ok us w/\vs.length=us.length/\∀(i:Nat)(v:V)(u:Value),vs[i]?=some v->us[i]?=some u->VR (mkFr c w val fp) s v u
 |[],[],f,l,hr=>⟨[],[],l,hr,rfl,rfl,by simp⟩
 |.tmp t::rs,_::ts,f,l,hr=>by
  rw[resVs,run_getT]at hr;obtain⟨vs,us,l1,h1,h2,h3,h4⟩:=resVs_sound h hr;refine⟨_::vs,a.tmps.getD t undef::us,l1,h1,?_,by simp[h3],fun i v u hv hu=>?_⟩
  ·simp[List.mapM_cons,resOf,h2]
  ·cases i with
   |zero=>simp at hv hu;subst hv;subst hu;simpa using h.tms t
   |succ i=>exact h4 i v u (by simpa using hv) (by simpa using hu)
 |.cell b t::rs,_::ts,f,l,hr=>by
  rw[resVs,run_getT]at hr;have hv:=h.tms b;split at hr
  ·rename_i k q hb;rw[hb]at hv;rw[run_getO]at hr;split at hr
   ·rename_i cells hk;rw[run_iteF]at hr;replace hr:=ev_true hr;obtain⟨hok,hr⟩:=hr;rw[Bool.and_eq_true]at hok;have hle:=of_decide_eq_true hok.2;have hob:=h.obs k;rw[hk]at hob;obtain⟨g,cur,e,hu,hF,hh,hcs⟩:=hob;have hh:w.heap[g]?=some (.cells cur e (0,0)):=hh;have hp:ptrTo (val k) q (a.tmps.getD b undef):=ptr_alive hv hk (.inl ⟨_,rfl⟩);rw[hu]at hp;have hp:a.tmps.getD b undef=.pointer (some ⟨g,0+q,none⟩):=hp;rw[Nat.zero_add]at hp
    have hget:∀j,j<(cellTys P 8 t).length->cur[q+j]?=some (cur.getD (q+j) undef):=fun j hj=>by
     have:q+j<cur.size:=by have:=hcs.1;simp at this;omega
     simp[this]
    have hload:=run_loadVar (P:=P) hok.1 (b:=g) (o:=q) (f:=fun j=>cur.getD (q+j) undef) (w:=w) (fun j hj=>by rw[cell_of_cells hh];exact hget j hj);obtain⟨vs,us,l1,h1,h2,h3,h4⟩:=resVs_sound h hr;refine⟨_::vs,readV P t (fun j=>cur.getD (q+j) undef)::us,l1,h1,?_,by simp[h3],fun i v u hv hu=>?_⟩
    ·simp only[List.mapM_cons,resOf,hp];simp[asAddr,hload,h2]
    ·cases i with
     |zero=>
      simp only[List.getElem?_cons_zero,Option.some.injEq]at hv hu;subst hv;subst hu;refine VR_mkV hok.1 (by simp;omega) fun j y hy=>?_;rw[List.getElem?_take]at hy;split at hy
      ·rename_i hj;rw[List.getElem?_drop]at hy;exact hcs.2 (q+j) y _ hy (by simpa using hget j hj)
      ·cases hy
     |succ i=>exact h4 i v u (by simpa using hv) (by simpa using hu)
   ·cases hr
  ·cases hr
 |[],_::_,_,_,hr=>by cases hr
 |.tmp _::_,[],_,_,hr=>by cases hr
 |.cell _ _::_,[],_,_,hr=>by cases hr
structure Given(c:Ctx)(s:St)(w:World)(fp:Key->List Nat)(own:Bool)(L M B:List Key)(xs:List T)(us:List Value)(fs:Nat->List Nat):Prop where
 len:xs.length=us.length
 nd:ND xs.length fs
 sub:∀i b,i<xs.length->b∈fs i->∃k,(k∈M\/k∈B)/\b∈fp k
 bx:∀k,k∈B->k≠turnKey/\∃cs,s.getO k=.box cs
 nf:own=false->∀i b,i<xs.length->b∈fs i->∃k,k∈B/\b∈fp k
 el:∀(i:Nat)(x:T)(u:Value),xs[i]?=some x->us[i]?=some u->(∀ys,x ≠ .bx ys)->ResV w (inI c w (clr fp (M++L))) (inJ c w (clr fp (M++L))) own x u (fs i)
 eb:∀(i:Nat)(ys:List T)(u:Value),xs[i]?=some (.bx ys)->us[i]?=some u->BoxR w (inI c w fp) (inJ c w fp) ys u (fs i)
theorem ResV.clr_more{own:Bool}{L M:List Key}{x:T}{v:Value}{F:List Nat}(h:ResV w (inI c w (clr fp L)) (inJ c w (clr fp L)) own x v F):ResV w (inI c w (clr fp (M++L))) (inJ c w (clr fp (M++L))) own x v F:=by
 have el:∀{y:T}{u:Value}{F:List Nat},El w (inI c w (clr fp L)) (inJ c w (clr fp L)) own y u F->El w (inI c w (clr fp (M++L))) (inJ c w (clr fp (M++L))) own y u F:=fun h=>by
  unfold El at *;split
  ·rename_i ho;rw[if_pos ho]at h;exact h
  ·rename_i ho;rw[if_neg ho]at h;exact⟨RB.clr_more h.1,h.2⟩
 unfold ResV at *;cases x with
 |agg xs=>
  obtain⟨vs,fs,h1,h2,h3,h4,h5⟩:=h;exact⟨vs,fs,h1,h2,h3,h4,fun i y u hy hu=>el (h5 i y u hy hu)⟩
 |tup _=>exact h
 |int _ _=>exact el h
 |bool _=>exact el h
 |str _=>exact el h
 |sl _ _=>exact el h
 |rref _ _=>exact el h
 |clo _ _=>exact el h
 |hole=>exact el h
 |mp _=>exact el h
 |bx _=>
  obtain⟨b,cur,e,h1,h2,h3,h4,h5⟩:=h;exact⟨b,cur,e,h1,h2,h3,h4,fun i y u hy hu=>RB.clr_more (h5 i y u hy hu)⟩
theorem El_res{I J:Nat->Prop}{own:Bool}{x:T}{v:Value}{F:List Nat}(h:El w I J own x v F):ResV w I J own x v F:=by
 unfold El at h;split at h
 ·rename_i ho;subst ho;cases x with
  |agg _=>cases h
  |tup _=>cases h
  |bx _=>cases h
  |_=>exact h
 ·rename_i ho;have:own=false:=by simpa using ho
  subst this;cases x with
  |agg _=>obtain⟨h,_⟩:=h;cases h
  |tup _=>obtain⟨h,_⟩:=h;cases h
  |bx _=>obtain⟨h,_⟩:=h;cases h
  |_=>exact h
theorem giveB_sound(h:Inv c s a w val fp){L:List Key}(hm:Moved s s1 L){t:TypeId}{x:C}{v:Value}(hx:CR (mkFr c w val fp) s x v){f:T->Prog}(hr:runP E (giveB P t x f) s1 l K=some r) :
 ∃ys s' l' M k F,runP E (f (.bx ys)) s' l' K=some r/\Moved s s' (M++L)/\k≠turnKey/\(∃cs,s.getO k=.box cs)/\F.Nodup/\(∀b,b∈F->b∈fp k)/\BoxR w (inI c w fp) (inJ c w fp) ys v F:=by
 unfold giveB at hr;split at hr
 ·rename_i k;rw[run_ite,run_fail]at hr;rcases ev_wrap hr with⟨_,hr⟩|⟨hkt,hr⟩
  ·cases hr
  have hkt:k≠turnKey:=fun e=>by subst e;simp at hkt
  rw[run_getO]at hr;split at hr
  ·rename_i cells hk
   have hnL:k∉L:=fun hl=>by
    rcases(hm.gone k hl).1 with e|⟨j,e⟩ <;> rw[hk]at e <;> cases e
   have hs:s.getO k=.box cells:=by rw[<- hm.same k hnL];exact hk
   have hob:=h.obs k;rw[hs]at hob;obtain⟨b,cur,e,hvk,hF,hh,hcs⟩:=hob;have hh:w.heap[b]?=some (.cells cur e (0,0)):=hh;have hp:ptrTo (val k) 0 v:=ptr_live hx (by rw[hs];rfl);rw[hvk]at hp;have hp:v=.pointer (some ⟨b,0,none⟩):=hp;obtain⟨ys,s',l',M,fs,h1,hm2,hg⟩:=giveCs_sound h hm hcs hr;refine⟨ys,s',l',M,k,[b],h1,hm2,hkt,⟨_,hs⟩,by simp,fun x hx=>by rw[List.mem_singleton.1 hx,hF];simp,b,cur,e,hp,rfl,hh,by have:=hg.r.1;simpa using this,fun i y u hy hu=>?_⟩;have:=hg.r.2.2 i y u hy (by simpa using hu);unfold El at this;rw[if_neg]at this
   ·exact this.1
   ·have hf:∀(l:List TypeId)(i:Nat),(l.map fun _=>false).getD i false=false:=fun l i=>by
     rw[List.getD_eq_getElem?_getD,List.getElem?_map];cases l[i]? <;> rfl
    rw[hf];simp
  ·cases hr
 ·cases hr
theorem giveRs_sound(h:Inv c s a w val fp){own:Bool}:∀{ts:List TypeId}{vs:List V}{us:List Value}{L:List Key}{s1:St}{l:Log}{f:List T->Prog},Moved s s1 L->vs.length=us.length->
 (∀(i:Nat)(v:V)(u:Value),vs[i]?=some v->us[i]?=some u->VR (mkFr c w val fp) s v u)->runP E (giveRs P own ts vs f) s1 l K=some r->
 ∃xs s2 l2 M B fs,runP E (f xs) s2 l2 K=some r/\Moved s s2 (M++L)/\Given c s w fp own L M B xs us fs/\(ts.any (isPtrT P)=false->B=[])
 |[],[],us,L,s1,l,f,hm,hl,hv,hr=>by
  have:us=[]:=List.eq_nil_of_length_eq_zero (by simpa using hl.symm);subst this;exact⟨[],s1,l,[],[],fun _=>[],hr,hm,⟨rfl,ND.nil _,by simp,by simp,by simp,by simp,by simp⟩,fun _=>rfl⟩
 |t::ts,v::vs,[],L,s1,l,f,hm,hl,hv,hr=>by simp at hl
 |t::ts,v::vs,u::us,L,s1,l,f,hm,hl,hv,hr=>by
  have hv':∀(i:Nat)(v:V)(u:Value),vs[i]?=some v->us[i]?=some u->VR (mkFr c w val fp) s v u:=fun i v' u' h1 h2=>hv (i+1) v' u' (by simpa using h1) (by simpa using h2);have hv0:=hv 0 v u rfl rfl;have hl':vs.length=us.length:=by simpa using hl
  have join:∀{x:T}{F:List Nat}{M1 B1:List Key}{s2:St}{l2:Log},((∀ys,x ≠ .bx ys)->ResV w (inI c w (clr fp (M1++L))) (inJ c w (clr fp (M1++L))) own x u F)->(∀ys,x=.bx ys->BoxR w (inI c w fp) (inJ c w fp) ys u F)->F.Nodup->
   (∀b,b∈F->∃k,(k∈M1\/k∈B1)/\b∈fp k)->(∀k,k∈B1->k≠turnKey/\∃cs,s.getO k=.box cs)->(own=false->∀b,b∈F->∃k,k∈B1/\b∈fp k)->(B1≠[]->ts.any (isPtrT P)=false)->(isPtrT P t=false->B1=[])->Moved s s2 (M1++L)->
   runP E (giveRs P own ts vs fun r=>f (x::r)) s2 l2 K=some r->∃xs s2 l2 M B fs,runP E (f xs) s2 l2 K=some r/\Moved s s2 (M++L)/\Given c s w fp own L M B xs (u::us) fs/\((t::ts).any (isPtrT P)=false->B=[]):=by
   intro x F M1 B1 s2 l2 hx hxb hnd hsub hbx hnf hone hnp hm2 h2;obtain⟨xs,s3,l3,M,B,fs,h3,hm3,hg,hgB⟩:=giveRs_sound h hm2 hl' hv' h2
   have hap:∀k,k∈M1->k∉M:=fun k hk hk'=>by
    have:=hm3.nd;rw[List.nodup_append]at this;exact this.2.2 k hk' k (List.mem_append_left _ hk) rfl
   have notbox:∀k,k∈M\/k∈M1->∀cs,s.getO k ≠ .box cs:=fun k hk cs hb=>by
    obtain⟨_,⟨d,sz,cells',e⟩|⟨m,e⟩⟩:=hm3.gone k (by rcases hk with hk|hk <;> simp[hk]) <;> rw[hb]at e <;> cases e
   have cross:∀b,b∈F->∀i,i<xs.length->b∉fs i:=fun b hb i hi hbi=>by
    obtain⟨k,hk,hbk⟩:=hsub b hb;obtain⟨k',hk',hbk'⟩:=hg.sub i b hi hbi;refine h.disj k k' (fun e=>?_) b hbk hbk';subst e;rcases hk with hk|hk
    ·rcases hk' with hk'|hk'
     ·exact hap k hk hk'
     ·obtain⟨_,cs,hc⟩:=hg.bx k hk';exact notbox k (.inr hk) cs hc
    ·rcases hk' with hk'|hk'
     ·obtain⟨_,cs,hc⟩:=hbx k hk;exact notbox k (.inl hk') cs hc
     ·rw[hgB (hone (fun e=>by rw[e]at hk;simp at hk))]at hk';simp at hk'
   refine⟨x::xs,s3,l3,M++M1,B++B1,fun i=>match i with|0=>F|i+1=>fs i,h3,by rw[List.append_assoc];exact hm3,⟨by simp[hg.len],⟨fun i hi=>?_,fun i j hi hj hne b hb hb'=>?_⟩,fun i b hi hb=>?_,fun k hk=>?_,fun ho i b hi hb=>?_,fun i y u' hy hu hyb=>?_,fun i ys u' hy hu=>?_⟩,fun hn=>?_⟩
   ·cases i with
    |zero=>exact hnd
    |succ i=>exact hg.nd.1 i (by simpa using hi)
   ·cases i with
    |zero=>
     cases j with
     |zero=>exact hne rfl
     |succ j=>exact cross b hb j (by simpa using hj) hb'
    |succ i=>
     cases j with
     |zero=>exact cross b hb' i (by simpa using hi) hb
     |succ j=>exact hg.nd.2 i j (by simpa using hi) (by simpa using hj) (by omega) b hb hb'
   ·cases i with
    |zero=>
     obtain⟨k,hk,hbk⟩:=hsub b hb;exact⟨k,by rcases hk with hk|hk <;> simp[hk],hbk⟩
    |succ i=>
     obtain⟨k,hk,hbk⟩:=hg.sub i b (by simpa using hi) hb;exact⟨k,by rcases hk with hk|hk <;> simp[hk],hbk⟩
   ·rcases List.mem_append.1 hk with hk|hk
    ·exact hg.bx k hk
    ·exact hbx k hk
   ·cases i with
    |zero=>obtain⟨k,hk,hbk⟩:=hnf ho b hb;exact⟨k,by simp[hk],hbk⟩
    |succ i=>obtain⟨k,hk,hbk⟩:=hg.nf ho i b (by simpa using hi) hb;exact⟨k,by simp[hk],hbk⟩
   ·rw[List.append_assoc];cases i with
    |zero=>simp at hy hu;subst hy;subst hu;exact(hx hyb).clr_more
    |succ i=>exact hg.el i y u' (by simpa using hy) (by simpa using hu) hyb
   ·cases i with
    |zero=>simp at hy hu;subst hu;exact hxb ys hy
    |succ i=>exact hg.eb i ys u' (by simpa using hy) (by simpa using hu)
   ·rw[List.any_cons,Bool.or_eq_false_iff]at hn;rw[hgB hn.2,hnp hn.1];rfl
  have plain:∀{x:T}{F:List Nat}{M1:List Key}{s2:St}{l2:Log},(∀ys,x ≠ .bx ys)->ResV w (inI c w (clr fp (M1++L))) (inJ c w (clr fp (M1++L))) own x u F->F.Nodup->(∀b,b∈F->∃k,k∈M1/\b∈fp k)->(own=false->F=[])->Moved s s2 (M1++L)->
   runP E (giveRs P own ts vs fun r=>f (x::r)) s2 l2 K=some r->∃xs s2 l2 M B fs,runP E (f xs) s2 l2 K=some r/\Moved s s2 (M++L)/\Given c s w fp own L M B xs (u::us) fs/\((t::ts).any (isPtrT P)=false->B=[]):=by
   intro x F M1 s2 l2 hnb hx hnd hsub ho hm2 h2;exact join (B1:=[]) (fun _=>hx) (fun ys e=>absurd e (hnb ys)) hnd (fun b hb=>by obtain⟨k,hk,hbk⟩:=hsub b hb;exact⟨k,.inl hk,hbk⟩) (by simp) (fun e b hb=>by rw[ho e]at hb;simp at hb) (by simp) (fun _=>rfl) hm2 h2
  cases v with
  |agg cs=>
   rw[giveRs]at hr;obtain⟨vs',rfl,hcs⟩:=hv0;obtain⟨ys,b,s2,l2,M1,fs,h2,hm2,hmv⟩:=moveCs_sound h hm hcs hr;rw[run_ite,run_fail]at h2;rcases ev_wrap h2 with⟨_,h2⟩|⟨hchk,h2⟩
   ·cases h2
   cases own with
   |true=>
    have hb:b=true:=by cases b; · cases hchk
                       ·rfl
    obtain⟨q1,q2,q3⟩:=hmv.ro hb;refine plain (x:=.agg ys) (M1:=M1) (F:=flat ys.length fs) (fun _ e=>by cases e) ⟨vs',fs,rfl,by simpa using hmv.len,q2,rfl,fun i y u hy hu=>q1 i y u hy (by simpa using hu)⟩ ((nodup_flat _ _).2 q2) (fun x hx=>?_) (fun e=>by cases e) hm2 h2;obtain⟨i,hi,hx⟩:=mem_flat.1 hx;exact q3 i x hi hx
   |false=>
    exact plain (x:=.agg ys) (M1:=M1) (F:=[]) (fun _ e=>by cases e) ⟨vs',fun _=>[],rfl,by simpa using hmv.len,ND.nil _,by simp[flat],fun i y u hy hu=>⟨hmv.rb i y u hy (by simpa using hu),rfl⟩⟩ List.nodup_nil (by simp) (fun _=>rfl) hm2 h2
  |one x=>
   rw[giveRs]at hr;cases hpt:isPtrT P t with
   |true=>
    rw[hpt,cond_true,run_ite,run_fail]at hr;rcases ev_wrap hr with⟨_,hr⟩|⟨hnp,hr⟩
    ·cases hr
    obtain⟨ys,s2,l2,M1,k,F,h2,hm2,q1,q2,q3,q4,q5⟩:=giveB_sound h hm hv0 hr;exact join (M1:=M1) (B1:=[k]) (fun hn=>absurd rfl (hn ys)) (fun ys' e=>by cases e;exact q5) q3 (fun b hb=>⟨k,by simp,q4 b hb⟩) (fun k' hk'=>by rw[List.mem_singleton.1 hk'];exact⟨q1,q2⟩) (fun _ b hb=>⟨k,by simp,q4 b hb⟩) (fun _=>hnp) (fun e=>by rw[hpt]at e;cases e) hm2 h2
   |false=>
   rw[hpt,cond_false]at hr;obtain⟨y,b,s2,l2,M1,F,h2,hm2,hmv⟩:=moveC_sound h hm hv0 hr;rw[run_ite,run_fail]at h2;rcases ev_wrap h2 with⟨_,h2⟩|⟨hchk,h2⟩
   ·cases h2
   cases own with
   |true=>
    have hb:b=true:=by cases b; · cases hchk
                       ·rfl
    obtain⟨q1,q2⟩:=hmv.ro hb;exact plain (F:=F) (fun ys e=>by subst e;cases q1) (El_res (show El w _ _ true y u F from q1)) q1.nodup q2 (fun e=>by cases e) hm2 h2
   |false=>exact plain (F:=[]) (fun ys e=>by subst e;have:=hmv.rb;cases this) (El_res (show El w _ _ false y u []from⟨hmv.rb,rfl⟩)) List.nodup_nil (by simp) (fun _=>rfl) hm2 h2
  |tup _=>cases hr
  |clo _ _=>cases hr
  |skip=>cases hr
  |any=>cases hr
 |[],_::_,_,_,_,_,_,_,_,_,hr=>by cases hr
 |_::_,[],_,_,_,_,_,_,_,_,hr=>by cases hr
theorem outCs_sound:∀{cs:List C}{n:Nat}{f:List T->Prog}{l:Log},runP E (outCs n cs f) s l K=some r->
 ∃xs l',runP E (f xs) s l' K=some r/\xs.length=cs.length/\∀(i:Nat)(x:T)(c:C),xs[i]?=some x->cs[i]?=some c->(x.scalar=true/\c=.t x)\/c=.kept (n+i) x
 |[],n,f,l,hr=>⟨[],l,hr,rfl,by simp⟩
 |c::cs,n,f,l,hr=>by
  have go:∀{x:T}{l:Log},((x.scalar=true/\c=.t x)\/c=.kept n x)->runP E (outCs (n+1) cs fun l=>f (x::l)) s l K=some r->
   ∃xs l',runP E (f xs) s l' K=some r/\xs.length=(c::cs).length/\∀(i:Nat)(x:T)(c':C),xs[i]?=some x->(c::cs)[i]?=some c'->(x.scalar=true/\c'=.t x)\/c'=.kept (n+i) x:=fun {x l} hc hr=>by
   obtain⟨xs,l',h1,h2,h3⟩:=outCs_sound hr;refine⟨x::xs,l',h1,by simp[h2],fun i y c' hy hc'=>?_⟩;cases i with
   |zero=>simp at hy hc';subst hy;subst hc';exact hc
   |succ i=>
    have:=h3 i y c' (by simpa using hy) (by simpa using hc');rwa[show n+1+i=n+(i+1) by omega]at this
  cases c with
  |t x=>
   rw[outCs]at hr;simp only[run_iteF]at hr;exact go (.inl ⟨(ev_true hr).1,rfl⟩) (ev_true hr).2
  |kept j x=>
   rw[outCs]at hr;simp only[run_iteF]at hr;obtain⟨h1,h2⟩:=ev_true hr;exact go (.inr (by rw[Nat.eq_of_beq_eq_true h1])) h2
  |_=>cases hr
theorem endOuts_sound(h:Inv c s a w val fp){L:List Key}(hm:Moved s s1 L){at_:Attr}{pts:List TypeId}{f:List T->Prog}(hr:runP E (endOuts P at_ pts f) s1 l K=some r) :
 ∃outs s2 l2 Fo,runP E (f outs) s2 l2 K=some r/\(∀b,b∈Fo->∃k,k∉L/\(k=turnKey\/∀cs,s.getO k ≠ .box cs)/\b∈fp k)/\((at_.turn=none/\outs=[]/\Fo=[])\/
  (∃i y,at_.turn=some i/\at_.take=false/\outs=[y]/\OutT w (inI c w fp) (inJ c w fp) c.kept at_.md y (a.tmps.getD i undef) Fo)\/(at_.take=true/\outs=[]/\Fo=[])):=by
 have same:∀{k:Key},Alive (s1.getO k)->k∉L/\s.getO k=s1.getO k:=fun {k} hal=>by
  have:k∉L:=fun hl=>by
   rcases(hm.gone _ hl).1 with e|⟨j,e⟩ <;> rw[e]at hal <;> cases hal
  exact⟨this,(hm.same _ this).symm⟩
 have apart:∀{M:List Key},∀{s2:St},Moved s s2 (M++L)->∀k,k∈M->k∉L:=fun {M s2} hm2 k hk hl=>by
  have:=hm2.nd;rw[List.nodup_append]at this;exact this.2.2 k hk k hl rfl
 have nobox:∀{M:List Key},∀{s2:St},Moved s s2 (M++L)->∀k,k∈M->∀cs,s.getO k ≠ .box cs:=fun {M s2} hm2 k hk cs hb=>by
  obtain⟨_,⟨d,sz,cells',e⟩|⟨m,e⟩⟩:=hm2.gone k (List.mem_append_left _ hk) <;> rw[hb]at e <;> cases e
 unfold endOuts at hr;split at hr
 ·rename_i ht;exact⟨[],s1,l,[],hr,by simp,.inl ⟨ht,rfl,rfl⟩⟩
 ·rename_i i ht;cases htk:at_.take with
  |true=>rw[htk,cond_true]at hr;exact⟨[],s1,l,[],hr,by simp,.inr (.inr ⟨rfl,rfl,rfl⟩)⟩
  |false=>
  rw[htk,cond_false]at hr;rw[run_getT,hm.tm]at hr;have hv:=h.tms i;split at hr
  ·rename_i os k hmd hvk;rw[hvk]at hv;rw[run_iteF]at hr;replace hr:=ev_true hr;obtain⟨hb,hr⟩:=hr;have hk:k=turnKey:=Nat.eq_of_beq_eq_true hb;subst hk;rw[run_getO]at hr;split at hr
   ·rename_i cells hok;obtain⟨hnL,hs⟩:=same (k:=turnKey) (by rw[hok];rfl);rw[hok]at hs;have hob:=h.obs turnKey;rw[hs]at hob;obtain⟨b,cur,e,hu,hF,hh,hcs⟩:=hob;have hh:w.heap[b]?=some (.cells cur e (0,0)):=hh;have hp:ptrTo (val turnKey) 0 (a.tmps.getD i undef):=ptr_live hv (by rw[hs];rfl);rw[hu]at hp;have hp:a.tmps.getD i undef=.pointer (some ⟨b,0,none⟩):=hp;obtain⟨ys,s2,l2,M,fs,h1,hm2,hg⟩:=giveCs_sound h hm hcs hr;rw[run_getO]at h1;split at h1
    ·have hbn:b∉flat ys.length fs:=fun hb=>by
      obtain⟨i,hi,hbi⟩:=mem_flat.1 hb;obtain⟨k',hk',hbk'⟩:=hg.sub i b hi hbi
      have hne:turnKey≠k':=fun e=>by
       subst e;obtain⟨_,⟨d,sz,cells',h2⟩|⟨m,h2⟩⟩:=hm2.gone turnKey (List.mem_append_left _ hk') <;> rw[hs]at h2 <;> cases h2
      exact h.disj turnKey k' hne b (by rw[hF];simp) hbk'
     refine⟨_,s2,_,b::flat ys.length fs,h1,fun x hx=>?_,.inr (.inl ⟨i,_,ht,rfl,rfl,?_⟩)⟩
     ·rcases List.mem_cons.1 hx with rfl|hx
      ·exact⟨turnKey,hnL,.inl rfl,by rw[hF];simp⟩
      ·obtain⟨j,hj,hxj⟩:=mem_flat.1 hx;obtain⟨k',hk',hbk'⟩:=hg.sub j x hj hxj;exact⟨k',apart hm2 k' hk',.inr (nobox hm2 k' hk'),hbk'⟩
     ·rw[hmd];exact⟨ys,rfl,b,cur,e,fs,hp,rfl,hbn,hh,hg.r⟩
    ·cases h1
   ·cases hr
  ·rename_i k hmd hvk;rw[hvk]at hv;rw[run_iteF]at hr;replace hr:=ev_true hr;obtain⟨hb,hr⟩:=hr;have hk:k=turnKey:=Nat.eq_of_beq_eq_true hb;subst hk;rw[run_getO]at hr;split at hr
   ·rename_i cells hok;obtain⟨hnL,hs⟩:=same (k:=turnKey) (by rw[hok];rfl);rw[hok]at hs;have hob:=h.obs turnKey;rw[hs]at hob;obtain⟨b,cur,e,hu,hF,hh,hcs⟩:=hob;have hh:w.heap[b]?=some (.cells cur e (0,0)):=hh;have hp:ptrTo (val turnKey) 0 (a.tmps.getD i undef):=ptr_live hv (by rw[hs];rfl);rw[hu]at hp;have hp:a.tmps.getD i undef=.pointer (some ⟨b,0,none⟩):=hp;obtain⟨ys,l2,h1,hyl,hys⟩:=outCs_sound hr;refine⟨_,s1,l2,[b],h1,fun x hx=>⟨turnKey,hnL,.inl rfl,by rw[hF];exact hx⟩,.inr (.inl ⟨i,_,ht,rfl,rfl,?_⟩)⟩;rw[hmd];refine⟨ys,rfl,b,cur,e,hp,rfl,hh,by rw[hyl];have:=hcs.1;simpa using this,fun j y u hy hu=>?_⟩;have hj:j<cells.length:=by rw[<- hyl];exact(List.getElem?_eq_some_iff.1 hy).1
    have hcr:=hcs.2 j _ u (List.getElem?_eq_getElem hj) (by simpa using hu);rcases hys j y _ hy (List.getElem?_eq_getElem hj)with⟨hsc,hc⟩|hc <;> rw[hc]at hcr
    ·exact⟨fun _=>hcr,fun e=>by rw[hsc]at e;cases e⟩
    ·rw[Nat.zero_add]at hcr;exact⟨fun _=>hcr.1,fun _=>hcr.2⟩
   ·cases hr
  ·rename_i k hmd hvk;rw[hvk]at hv;rw[run_iteF]at hr;replace hr:=ev_true hr;obtain⟨hb,hr⟩:=hr;have hk:k=turnKey:=Nat.eq_of_beq_eq_true hb;subst hk;rw[run_getO]at hr;split at hr
   ·rename_i sz cs hok;rw[run_setO]at hr;obtain⟨hnL,hs⟩:=same (k:=turnKey) (by rw[hok];rfl);rw[hok]at hs;have hob:=h.obs turnKey;rw[hs]at hob;have hp:a.tmps.getD i undef=val turnKey:=obj_alive hv hs;refine⟨_,_,_,fp turnKey,hr,fun x hx=>⟨turnKey,hnL,.inl rfl,hx⟩,.inr (.inl ⟨i,_,ht,rfl,rfl,?_⟩)⟩;rw[hmd,hp];exact⟨⟨_,_,rfl⟩,hob⟩
   ·cases hr
  ·rename_i cells hmd hvk;rw[hvk]at hv;obtain⟨vs,hu,hcs⟩:=hv;obtain⟨ys,s2,l2,M,fs,h1,hm2,hg⟩:=giveCs_sound h hm hcs hr
   have tr:∀j,j<ys.length->(trues (cellTys P 8 (pts.getD i 0))).getD j false=true:=fun j hj=>by
    have h1:j<(trues (cellTys P 8 (pts.getD i 0))).length:=by rw[hg.ol];exact hj
    unfold trues at *;simp at h1;simp[List.getD_eq_getElem?_getD,h1]
   refine⟨_,s2,_,flat ys.length fs,h1,fun x hx=>?_,.inr (.inl ⟨i,_,ht,rfl,rfl,?_⟩)⟩
   ·obtain⟨j,hj,hxj⟩:=mem_flat.1 hx;obtain⟨k',hk',hbk'⟩:=hg.sub j x hj hxj;exact⟨k',apart hm2 k' hk',.inr (nobox hm2 k' hk'),hbk'⟩
   ·rw[hmd,hu];refine⟨ys,rfl,vs,fs,rfl,rfl,hg.r.1,hg.r.2.1,fun j y u hy hu=>?_⟩;have hi:=(List.getElem?_eq_some_iff.1 hy).1;have h2:=hg.r.2.2 j y u hy hu;rw[tr j hi]at h2;have h3:(truesT ys).getD j false=true:=by simp[truesT,List.getD_eq_getElem?_getD,hi]
    rw[h3];exact h2
  ·cases hr
end
end Ev
namespace Ev
open Go
theorem run_results{P:Program}{fn:Func}{tmps:Array Value}{w:World}{us:List Value}(h:(fn.results.toList.mapM (resOf tmps)).run P w=.ok us w) :
 (results fn tmps).run P w=.ok (if h:us.toArray.size=1 then us.toArray[0]else .tuple us.toArray) w:=by
 have e2:results fn tmps=(do
  let vs <- fn.results.mapM (resOf tmps)
  pure (if h:vs.size=1 then vs[0]else .tuple vs)):=rfl
 have e:fn.results.mapM (resOf tmps)=List.toArray <$> fn.results.toList.mapM (resOf tmps):=by
  rcases fn.results with⟨rl⟩;simp
 rw[e2,e];simp[h]
theorem callK_sound{P:Program}{A:Attrs}{H:FuncId->Hints}{E:Env}(hm:P.follows .mixedOrders=true)(hE:∀g args r,E g args=some r->Meets P (A g) g args r){n:Nat}{f:FuncId}{args:List T}{r:T×List T}
 (hr:callK P A H E n f args=some r):Meets P (A f) f args r:=by
 unfold callK at hr;split at hr
 case h_2=>cases hr
 rename_i fn hf;split at hr
 case h_2=>cases hr
 rename_i body hb;split at hr
 case h_2=>cases hr
 rename_i vs0 os hargs;replace hr:=ev_true hr;obtain⟨hok,hr⟩:=hr;rw[Bool.and_eq_true,Bool.and_eq_true]at hok;have hname:(fn.name=="runtime.NumGoroutine")=false:=by simpa using hok.2
 have hle:args.length<=fn.ntmps:=Nat.le_of_ble_eq_true hok.1.2;intro w I J vs F hp
 have hcall:(callFunc f vs).run P w=.ok (.enter f vs) w:=by
  have hne:¬ fn.name="runtime.NumGoroutine":=by simpa using hname
  simp[callFunc,hf,hne,hb]
 unfold Does;rw[hcall];refine calls_of_wp hf hb ?_;obtain⟨val,fp,hinv⟩:=entry hp hargs (fn.ntmps-vs.size)
 have hsz:(vs++Array.replicate (fn.ntmps-vs.size) undef).size=fn.ntmps:=by
  have:=hp.len;simp;omega
 refine wp_mono (codeK_sound (a0:=vs) (tp:=(A f).turn) (w0:=w) hm hE n body hok.1.1 0 _ _ _ w val fp hinv ⟨hsz,fun i hi=>?_⟩ (Kp.refl _ _) hr) fun e a' w' hq=>?_
 ·obtain⟨x,v,_,hx,hv,_⟩:=hp.turned i hi;exact Array.getElem?_append_left (by have:=hp.len;have:=(List.getElem?_eq_some_iff.1 hx).1;omega)
 have fin:∀{K:St->R},Ok vs (A f).turn ⟨w.heap.size,I,J,(· ∈ F),keptOf (A f) vs w⟩ w fn.ntmps K r a' w'->(∀s,K s=endK P A f fn s)->
  a'.defers=[]/\∃v,(results fn a'.tmps).run P w'=.ok v w'/\∃v',Ending.returned v=.returned v'/\∃Fr Fo,Done (A f) w I J vs F r v' w' Fr Fo:=by
  rintro K ⟨s,val,fp,hK,hi,hkt,hkp⟩ hKe;rw[hKe]at hK;unfold endK at hK;unfold endP at hK;obtain⟨rs,us,l1,h1,h2,h3,h4⟩:=resVs_sound hi hK;obtain⟨xs,s2,l2,M,B,fs,h5,hm2,hg,_⟩:=giveRs_sound hi (Moved.refl s) h3 h4 h1;rw[List.append_nil]at hm2;obtain⟨outs,s3,l3,Fo,h6,hFo,hout⟩:=endOuts_sound hi hm2 h5;rw[run_setO,run_done]at h6;have hget:((s3.setO endKey (.arr true true 0 (packR xs::outs))).getO endKey)=.arr true true 0 (packR xs::outs):=by rw[getO_setO,if_pos rfl]
  rw[hget]at h6;simp only[Option.some.injEq]at h6;subst h6;refine⟨hi.defers,_,run_results h2,_,rfl,flat xs.length fs,Fo,?_⟩
  have hFrsub:∀b,b∈flat xs.length fs->∃k,(k∈M\/k∈B)/\b∈fp k:=fun b hb=>by
   obtain⟨i,hib,hb⟩:=mem_flat.1 hb;exact hg.sub i b hib hb
  have mine:∀k b,b∈fp k->b∈F\/w.heap.size<=b:=fun k b hb=>(hi.mine k b hb).symm
  have hBM:∀k,k∈B->k∉M:=fun k hk hk'=>by
   obtain⟨_,cs,hc⟩:=hg.bx k hk;obtain⟨_,⟨d,sz,cells',e⟩|⟨m,e⟩⟩:=hm2.gone k hk' <;> rw[hc]at e <;> cases e
  have hBo:∀k,k∈B->∀b,b∈fp k->b∉Fo:=fun k hk b hb hbo=>by
   obtain⟨k',_,q2,q3⟩:=hFo b hbo;obtain⟨g1,cs,g2⟩:=hg.bx k hk;refine hi.disj k k' (fun e=>?_) b hb q3;subst e;rcases q2 with q2|q2
   ·exact g1 q2
   ·exact q2 cs g2
  have hFr0:(A f).own=false->∀b,b∈flat xs.length fs->∃k,k∈B/\b∈fp k:=fun ho b hb=>by
   obtain⟨i,hib,hb⟩:=mem_flat.1 hb;exact hg.nf ho i b hib hb
  have after:∀b,inI ⟨w.heap.size,I,J,(· ∈ F),keptOf (A f) vs w⟩ w' (clr fp (M++[])) b->(A f).own=false->aftI I w w' F (flat xs.length fs) Fo b:=fun b hb ho=>by
   refine⟨?_,hb.2.1,fun hbr=>?_,fun hbo=>?_⟩
   ·rcases hb.1 with h|h|h
    ·exact .inl h
    ·exact .inr (.inr h)
    ·exact .inr (.inl h)
   ·obtain⟨k,q1,q2⟩:=hFr0 ho b hbr;exact hb.2.2 k (by simp[clr,hBM k q1,q2])
   ·obtain⟨k,q1,_,q2⟩:=hFo b hbo;exact hb.2.2 k (by simp[clr,q1,q2])
  have afterJ:∀b,inJ ⟨w.heap.size,I,J,(· ∈ F),keptOf (A f) vs w⟩ w' (clr fp (M++[])) b->(A f).own=false->aftI J w w' F (flat xs.length fs) Fo b:=fun b hb ho=>by
   refine⟨?_,hb.2.1,fun hbr=>?_,fun hbo=>?_⟩
   ·rcases hb.1 with h|h|h
    ·exact .inl h
    ·exact .inr (.inr h)
    ·exact .inr (.inl h)
   ·obtain⟨k,q1,q2⟩:=hFr0 ho b hbr;exact hb.2.2 k (by simp[clr,hBM k q1,q2])
   ·obtain⟨k,q1,_,q2⟩:=hFo b hbo;exact hb.2.2 k (by simp[clr,q1,q2])
  have toI:∀b,inI ⟨w.heap.size,I,J,(· ∈ F),keptOf (A f) vs w⟩ w' fp b->aftI I w w' F (flat xs.length fs) Fo b:=fun b hb=>by
   refine⟨?_,hb.2.1,fun hbr=>?_,fun hbo=>?_⟩
   ·rcases hb.1 with h|h|h
    ·exact .inl h
    ·exact .inr (.inr h)
    ·exact .inr (.inl h)
   ·obtain⟨k,_,hbk⟩:=hFrsub b hbr;exact hb.2.2 k hbk
   ·obtain⟨k,_,_,hbk⟩:=hFo b hbo;exact hb.2.2 k hbk
  have toJ:∀b,inJ ⟨w.heap.size,I,J,(· ∈ F),keptOf (A f) vs w⟩ w' fp b->aftI J w w' F (flat xs.length fs) Fo b:=fun b hb=>by
   refine⟨?_,hb.2.1,fun hbr=>?_,fun hbo=>?_⟩
   ·rcases hb.1 with h|h|h
    ·exact .inl h
    ·exact .inr (.inr h)
    ·exact .inr (.inl h)
   ·obtain⟨k,_,hbk⟩:=hFrsub b hbr;exact hb.2.2 k hbk
   ·obtain⟨k,_,_,hbk⟩:=hFo b hbo;exact hb.2.2 k hbk
  have el:∀{x:T}{v:Value}{G:List Nat},ResV w' (inI ⟨w.heap.size,I,J,(· ∈ F),keptOf (A f) vs w⟩ w' (clr fp (M++[]))) (inJ ⟨w.heap.size,I,J,(· ∈ F),keptOf (A f) vs w⟩ w' (clr fp (M++[]))) (A f).own x v G->(∀ys,x ≠ .bx ys)->
   ResV w' (aftI I w w' F (flat xs.length fs) Fo) (aftI J w w' F (flat xs.length fs) Fo) (A f).own x v G:=fun {x v G} h hnb=>by
   have cell:∀{y:T}{u:Value}{G:List Nat},El w' (inI ⟨w.heap.size,I,J,(· ∈ F),keptOf (A f) vs w⟩ w' (clr fp (M++[]))) (inJ ⟨w.heap.size,I,J,(· ∈ F),keptOf (A f) vs w⟩ w' (clr fp (M++[]))) (A f).own y u G->
    El w' (aftI I w w' F (flat xs.length fs) Fo) (aftI J w w' F (flat xs.length fs) Fo) (A f).own y u G:=fun h=>by
    unfold El at *;split
    ·rename_i ho;rw[if_pos ho]at h;exact h
    ·rename_i ho;rw[if_neg ho]at h;have ho:(A f).own=false:=by simpa using ho
     exact⟨RB.move h.1 (fun b hb=>⟨after b hb ho,rfl⟩) (fun b hb=>⟨afterJ b hb ho,rfl⟩),h.2⟩
   cases x with
   |agg ys=>
    obtain⟨vs',gs,e1,e2,e3,e4,e5⟩:=h;exact⟨vs',gs,e1,e2,e3,e4,fun i y u hy hu=>cell (e5 i y u hy hu)⟩
   |tup _=>exact h
   |bx ys=>exact absurd rfl (hnb ys)
   |_=>exact cell h
  have elx:∀(i:Nat)(x:T)(u:Value),xs[i]?=some x->us[i]?=some u->ResV w' (aftI I w w' F (flat xs.length fs) Fo) (aftI J w w' F (flat xs.length fs) Fo) (A f).own x u (fs i):=fun i x u hx hu=>by
   cases x with
   |bx ys=>
    obtain⟨b,cur,ty,e1,e2,e3,e4,e5⟩:=hg.eb i ys u hx hu;exact⟨b,cur,ty,e1,e2,e3,e4,fun j y u' hy hu'=>RB.move (e5 j y u' hy hu') (fun b hb=>⟨toI b hb,rfl⟩) (fun b hb=>⟨toJ b hb,rfl⟩)⟩
   |_=>exact el (hg.el i _ u hx hu (fun ys e=>by cases e)) (fun ys e=>by cases e)
  refine⟨⟨hkp.os,hkp.tape,hkp.output,hkp.size,fun b hb hn=>hkp.block b hb ?_⟩,fun b hb=>?_,fun b hb hbo=>?_,?_,?_⟩
  ·rintro(h|h)
   ·exact absurd hb (by show ¬ b<w.heap.size;have:w.heap.size<=b:=h;omega)
   ·exact hn h
  ·rcases hb with hb|hb
   ·obtain⟨k,_,hbk⟩:=hFrsub b hb;exact mine k b hbk
   ·obtain⟨k,_,_,q2⟩:=hFo b hb;exact mine k b q2
  ·obtain⟨k,hk,hbk⟩:=hFrsub b hb;rcases hk with hk|hk
   ·obtain⟨k',q1,_,q2⟩:=hFo b hbo;exact hi.disj k k' (fun e=>q1 (e▸hk)) b hbk q2
   ·exact hBo k hk b hbk hbo
  ·clear el hFrsub hBM hBo hFr0 after afterJ toI toJ
   match xs,us,hg,elx with
   |[],[],hg,_=>exact⟨#[],fs,rfl,rfl,hg.nd,rfl,by simp⟩
   |[x],[u],hg,elx=>
    have h7:=elx 0 x u rfl rfl;have hfl:flat [x].length fs=fs 0:=by simp[flat]
    have h8:ResV w' (aftI I w w' F (flat [x].length fs) Fo) (aftI J w w' F (flat [x].length fs) Fo) (A f).own x u (flat [x].length fs):=by
     rw[hfl]at h7 ⊢;exact h7
    show ResT w' _ _ _ x u _;cases x with
    |tup _=>exact h8.elim
    |_=>exact h8
   |x::y::xs,u::v::us,hg,elx=>
    refine⟨(u::v::us).toArray,fs,?_,by simpa using hg.len,hg.nd,rfl,fun i z u' hz hu=>elx i z u' hz (by simpa using hu)⟩;rw[dif_neg (by simp)]
   |[],_::_,hg,_=>have:=hg.len;simp at this
   |_::_,[],hg,_=>have:=hg.len;simp at this
   |[_],_::_::_,hg,_=>have:=hg.len;simp at this
   |_::_::_,[_],hg,_=>have:=hg.len;simp at this
  ·rcases hout with⟨q1,q2,q3⟩|⟨i,y,q1,q0,q2,q3⟩|q4
   ·exact .inl ⟨q1,q2,q3⟩
   ·obtain⟨x,v,_,hx,hv,_⟩:=hp.turned i q1;have hil:i<args.length:=(List.getElem?_eq_some_iff.1 hx).1;refine .inr (.inl ⟨i,y,v,q1,q0,q2,hv,?_⟩)
    have:a'.tmps.getD i undef=v:=by
     rw[Array.getD_eq_getD_getElem?,hkt.2 i q1,hv];rfl
    rw[this]at q3
    have hkk:keptOf (A f) vs w=keptAt w v:=by
     unfold keptOf;rw[q1];simp only[Array.getD_eq_getD_getElem?,hv,Option.getD_some]
    have q3:OutT w' (inI ⟨w.heap.size,I,J,(· ∈ F),keptOf (A f) vs w⟩ w' fp) (inJ ⟨w.heap.size,I,J,(· ∈ F),keptOf (A f) vs w⟩ w' fp) (keptAt w v) (A f).md y v Fo:=hkk▸q3;revert q3;cases (A f).md with
    |src=>
     rintro⟨ys,e1,b',cur,e,p1,p2,p3,p4,p5⟩;exact⟨ys,e1,b',cur,e,p1,p2,p3,p4,fun j y u hy hu=>⟨fun hs=>RB.move ((p5 j y u hy hu).1 hs) (fun x hx=>⟨toI x hx,rfl⟩) (fun x hx=>⟨toJ x hx,rfl⟩),(p5 j y u hy hu).2⟩⟩
    |ptr os=>
     rintro⟨ys,e1,b',cur,e,fs',p1,p2,p3,p4,p5,p6,p7⟩;refine⟨ys,e1,b',cur,e,fs',p1,p2,p3,p4,p5,p6,fun j y u hy hu=>?_⟩;have:=p7 j y u hy hu;unfold El at *;split
     ·rename_i ho;rw[if_pos ho]at this;exact this
     ·rename_i ho;rw[if_neg ho]at this;exact⟨RB.move this.1 (fun x hx=>⟨toI x hx,rfl⟩) (fun x hx=>⟨toJ x hx,rfl⟩),this.2⟩
    |sl=>exact id
    |val=>exact id
    |two _=>exact id
   ·exact .inr (.inr q4)
 cases e with
 |normal=>exact fin hq fun s=>rfl
 |ret=>exact fin hq fun s=>rfl
 |exit i=>obtain⟨s,_,_,hK,_⟩:=hq;cases hK
 |goto l=>exact hq.elim
 |panic ch=>exact hq.elim
 |outgrown=>exact hq.elim
end Ev
end
section
namespace Ev
open Go
abbrev Ext:=FuncId->Option (Env->List T->R)
def callN(P:Program)(A:Attrs)(H:FuncId->Hints)(X:Ext):Nat->Env
 |0=>fun _ _=>none
 |n+1=>fun f args=>match X f with
  |some e=>e (callN P A H X n) args
  |none=>callK P A H (callN P A H X n) n f args
theorem callN_sound{P:Program}{A:Attrs}{H:FuncId->Hints}{X:Ext}(hm:P.follows .mixedOrders=true)
 (hX:∀f e,X f=some e->∀E,(∀g args r,E g args=some r->Meets P (A g) g args r)->∀args r,e E args=some r->Meets P (A f) f args r) :
 ∀n g args r,callN P A H X n g args=some r->Meets P (A g) g args r:=by
 intro n;induction n with
 |zero=>intro g args r h;cases h
 |succ n ih=>
  intro g args r h;simp only[callN]at h;split at h
  ·rename_i e he;exact hX g e he _ ih args r h
  ·exact callK_sound hm ih h
def Ev(p:Nat->Prop):Prop:=∃m0,∀m,m0<=m->p m
theorem Ev.and{p q:Nat->Prop}(h:Ev p)(h':Ev q):Ev fun m=>p m/\q m:=by
 obtain⟨a,h⟩:=h;obtain⟨b,h'⟩:=h';exact⟨max a b,fun m hm=>⟨h m (by omega),h' m (by omega)⟩⟩
theorem Ev.mono{p q:Nat->Prop}(h:Ev p)(hpq:∀m,p m->q m):Ev q:=by
 obtain⟨a,h⟩:=h;exact⟨a,fun m hm=>hpq m (h m hm)⟩
theorem Ev.of{p:Nat->Prop}(h:∀m,p m):Ev p:=⟨0,fun m _=>h m⟩
theorem Ev.ge(n:Nat):Ev fun m=>n<=m:=⟨n,fun _ h=>h⟩
def Tends(L:Env)(Em:Nat->Env):Prop:=∀g args r,L g args=some r->Ev fun m=>Em m g args=some r
section
variable {L:Env}{Em:Nat->Env}{r:T×List T}
theorem runP_cont(hE:Tends L Em){K:St->Log->R}{Km:Nat->St->Log->R}(hK:∀s l,K s l=some r->Ev fun m=>Km m s l=some r)(p:Prog) :
 ∀s l,runP L p s l K=some r->Ev fun m=>runP (Em m) p s l (Km m)=some r:=by
 induction p with
 |done=>intro s l h;exact hK s l h
 |fail=>intro s l h;cases h
 |getT i f ih=>intro s l h;exact ih _ s _ h
 |getO k f ih=>intro s l h;exact ih _ s _ h
 |setT i v p ih=>intro s l h;exact ih _ _ h
 |setO k o p ih=>intro s l h;exact ih _ _ h
 |ite b p q ihp ihq=>intro s l h;cases b <;> first|exact ihq s l h|exact ihp s l h
 |asInt k x f ih=>
  intro s l h;cases x with
  |int k' n=>
   rw[run_asInt]at h;obtain⟨h1,h2⟩:=ev_true h;refine(ih _ s l h2).mono fun m hm=>?_;rw[run_asInt];simp only[h1];exact hm
  |_=>cases h
 |asBool x f ih=>intro s l h;cases x <;> first|exact ih _ s l h|cases h
 |asStr x f ih=>intro s l h;cases x <;> first|exact ih _ s l h|cases h
 |asSl sz x f ih=>
  intro s l h;cases x with
  |sl sz' cs=>
   rw[run_asSl]at h;obtain⟨h1,h2⟩:=ev_true h;refine(ih _ s l h2).mono fun m hm=>?_;rw[run_asSl];simp only[h1];exact hm
  |_=>cases h
 |asAgg x f ih=>intro s l h;cases x <;> first|exact ih _ s l h|cases h
 |asTup x f ih=>intro s l h;cases x <;> first|exact ih _ s l h|cases h
 |asBx x f ih=>intro s l h;cases x <;> first|exact ih _ s l h|cases h
 |uncons l' f ih=>intro s l h;cases l' <;> first|exact ih _ _ s l h|cases h
 |unnil l' p ih=>intro s l h;cases l' <;> first|exact ih s l h|cases h
 |onSome x f ih=>intro s l h;cases x <;> first|exact ih _ s l h|cases h
 |onRef x p ih=>intro s l h;cases x <;> first|exact ih s l h|cases h
 |onClo x p ih=>intro s l h;cases x <;> first|exact ih s l h|cases h
 |call g args k ih=>
  intro s l h;simp only[runP,Option.bind_eq_some_iff]at h;obtain⟨q,hq,h⟩:=h;refine((hE g args q hq).and (ih _ _ s l h)).mono fun m ⟨h1,h2⟩=>?_;simp only[runP,h1];exact h2
variable {P:Program}{A:Attrs}{H:Hints}
theorem opsK_cont(hE:Tends L Em){K:St->R}{Km:Nat->St->R}(hK:∀s,K s=some r->Ev fun m=>Km m s=some r)(all:List Oper):∀(ops:List Oper)(s:St),
 opsK P A L all ops s K=some r->Ev fun m=>opsK P A (Em m) all ops s (Km m)=some r
 |[],s,h=>hK s h
 |o::ops,s,h=>runP_cont hE (fun s _ h=>opsK_cont hE hK all ops s h) _ s emptyLog h
theorem opsL_cont(hE:Tends L Em){K:St->List Log->R}{Km:Nat->St->List Log->R}(hK:∀s ls,K s ls=some r->Ev fun m=>Km m s ls=some r)(all:List Oper):∀(ops:List Oper)(s:St)(ls:List Log),
 opsL P A L all ops s ls K=some r->Ev fun m=>opsL P A (Em m) all ops s ls (Km m)=some r
 |[],s,ls,h=>hK s ls h
 |o::ops,s,ls,h=>runP_cont hE (fun s l h=>opsL_cont hE hK all ops s (l::ls) h) _ s emptyLog h
theorem regionK_cont(hE:Tends L Em){K:St->R}{Km:Nat->St->R}(hK:∀s,K s=some r->Ev fun m=>Km m s=some r){ops:List Oper}{draw:Bool}{s:St}(h:regionK P A L ops draw s K=some r) :
 Ev fun m=>regionK P A (Em m) ops draw s (Km m)=some r:=by
 cases draw with
 |false=>exact opsK_cont hE (fun s h=>hK _ h) ops ops _ h
 |true=>
  refine opsL_cont hE (K:=fun s ls=>bif edgesOk 0 ops&&apartAll (ancs ops []) ls.reverse then K (settle 8 s)else none) (fun s ls h=>?_) ops ops _ [] h;obtain⟨h1,h2⟩:=ev_true h;refine(hK _ h2).mono fun m hm=>?_;show(bif edgesOk 0 ops&&apartAll (ancs ops []) ls.reverse then Km m (settle 8 s)else none)=some r;rw[h1];exact hm
theorem openK_cont{K:St->R}{Km:Nat->St->R}(hK:∀s,K s=some r->Ev fun m=>Km m s=some r):∀(os:List Opn)(s:St),openK P os s K=some r->Ev fun m=>openK P os s (Km m)=some r
 |[],s,h=>hK s h
 |o::os,s,h=>runP_cont (L:=fun _ _=>none) (Em:=fun _ _ _=>none) (fun g args q hq=>by cases hq) (fun s _ h=>openK_cont hK os s h) _ s emptyLog h
theorem loopK_cont{body:St->(Ex->St->R)->R}{bm:Nat->St->(Ex->St->R)->R}
 (hb:∀(s:St)(K:Ex->St->R)(Km:Nat->Ex->St->R),(∀e s,K e s=some r->Ev fun m=>Km m e s=some r)->body s K=some r->Ev fun m=>bm m s (Km m)=some r)
 {K:Ex->St->R} {Km:Nat->Ex->St->R} (hK:∀e s,K e s=some r->Ev fun m=>Km m e s=some r) :
 ∀(n d:Nat)(s:St),loopK body n s K=some r->Ev fun m=>loopK (bm m) (m-d) s (Km m)=some r
 |0,d,s,h=>by cases h
 |n+1,d,s,h=>by
  have h1:=hb s _ (fun m e s=>match e with
   |.normal=>loopK (bm m) (m-(d+1)) s (Km m)
   |e=>Km m e s) (fun e s h=>by
    cases e with
    |normal=>exact loopK_cont hb hK n (d+1) s h
    |exit i=>exact hK _ s h
    |ret=>exact hK _ s h) h
  refine(h1.and (Ev.ge (d+1))).mono fun m ⟨h2,h3⟩=>?_;rw[show m-d=(m-(d+1))+1 by omega];exact h2
theorem codeK_cont(hE:Tends L Em)(n:Nat):∀(cd:Code)(blk:Nat)(s:St)(K:Ex->St->R)(Km:Nat->Ex->St->R),(∀e s,K e s=some r->Ev fun m=>Km m e s=some r)->
 codeK P A H L n blk cd s K=some r->Ev fun m=>codeK P A H (Em m) m blk cd s (Km m)=some r:=by
 intro cd;induction cd with
 |skip=>intro blk s K Km hK h;exact hK _ s h
 |region id ops draw=>intro blk s K Km hK h;exact openK_cont (fun s h=>regionK_cont hE (fun s h=>hK _ s h) h) _ _ h
 |seq x y ihx ihy=>
  intro blk s K Km hK h
  refine ihx blk s _ (fun m e s=>match e with
   |.normal=>codeK P A H (Em m) m blk y s (Km m)
   |e=>Km m e s) (fun e s h=>?_) h
  cases e with
  |normal=>exact ihy blk s K Km hK h
  |exit i=>exact hK _ s h
  |ret=>exact hK _ s h
 |cond x y z ihy ihz=>
  intro blk s K Km hK h;simp only[codeK]at h ⊢;split at h
  ·rename_i b hb;cases b with
   |true=>exact ihy blk s K Km hK h
   |false=>exact ihz blk s K Km hK h
  ·cases h
 |block i x ih=>
  intro blk s K Km hK h
  refine ih i s _ (fun m e s=>match e with
   |.exit j=>bif Nat.beq i j then Km m .normal s else Km m (.exit j) s
   |e=>Km m e s) (fun e s h=>?_) h
  cases e with
  |normal=>exact hK _ s h
  |exit j=>
   simp only at h ⊢;cases hij:Nat.beq i j with
   |true=>rw[hij]at h;exact hK _ s h
   |false=>rw[hij]at h;exact hK _ s h
  |ret=>exact hK _ s h
 |loop x ih=>
  intro blk s K Km hK h
  have:=loopK_cont (r:=r) (body:=fun s K=>codeK P A H L n blk x s fun e s=>match e with
   |.normal=>K .normal (ghosts s (H.loops blk))
   |e=>K e s) (bm:=fun m s K=>codeK P A H (Em m) m blk x s fun e s=>match e with
   |.normal=>K .normal (ghosts s (H.loops blk))
   |e=>K e s)
   (fun s K Km hK h=>ih blk _ _ (fun m e s=>match e with
    |.normal=>Km m .normal (ghosts s (H.loops blk))
    |e=>Km m e s) (fun e s h=>by cases e <;> exact hK _ _ h) h) hK n 0 (ghosts s (H.loops blk)) h
  exact this
 |exit i=>intro blk s K Km hK h;exact hK _ s h
 |ret=>intro blk s K Km hK h;exact hK _ s h
 |_=>intro blk s K Km hK h;cases h
end
section
variable {P:Program}{A:Attrs}{H:FuncId->Hints}{X:Ext}
theorem callK_cont{L:Env}{Em:Nat->Env}(hE:Tends L Em){n:Nat}{f:FuncId}{args:List T}{r:T×List T}(h:callK P A H L n f args=some r):Ev fun m=>callK P A H (Em m) m f args=some r:=by
 unfold callK at h;split at h
 case h_2=>cases h
 rename_i fn hf;split at h
 case h_2=>cases h
 rename_i body hb;split at h
 case h_2=>cases h
 rename_i vs os ha;obtain⟨h1,h2⟩:=ev_true h
 refine(codeK_cont hE n body 0 _ _ (fun m e s=>match e with
  |.exit _=>none
  |_=>endK P A f fn s) (fun e s h=>Ev.of fun _=>h) h2).mono fun m hm=>?_
 unfold callK;simp only[hf,hb,ha];rw[h1];exact hm
noncomputable def lim(P:Program)(A:Attrs)(H:FuncId->Hints)(X:Ext):Env:=fun f args=>
 open Classical in if h:∃r,Ev fun m=>callN P A H X m f args=some r then some h.choose else none
theorem lim_iff{f:FuncId}{args:List T}{r:T×List T}:lim P A H X f args=some r<->Ev fun m=>callN P A H X m f args=some r:=by
 unfold lim;constructor
 ·intro h;split at h
  ·rename_i hex;cases h;exact hex.choose_spec
  ·cases h
 ·intro h;have hex:∃r,Ev fun m=>callN P A H X m f args=some r:=⟨r,h⟩;rw[dif_pos hex];obtain⟨m0,hm⟩:=hex.choose_spec.and h;obtain⟨e1,e2⟩:=hm m0 (Nat.le_refl _);rw[e1]at e2;exact e2
theorem lim_tends:Tends (lim P A H X) (callN P A H X):=fun _ _ _ h=>lim_iff.1 h
theorem lim_of{f:FuncId}{args:List T}{r:T×List T}(hx:X f=none)(n:Nat)(h:callK P A H (lim P A H X) n f args=some r):lim P A H X f args=some r:=by
 refine lim_iff.2 ?_;obtain⟨m0,hm⟩:=callK_cont lim_tends h;refine⟨m0+1,fun m hle=>?_⟩;obtain⟨k,rfl⟩:∃k,m=k+1:=⟨m-1,by omega⟩;rw[callN];simp only[hx];exact hm k (by omega)
theorem lim_ext{f:FuncId}{e:Env->List T->R}{args:List T}{r:T×List T}(hx:X f=some e)(h:Ev fun m=>e (callN P A H X m) args=some r):lim P A H X f args=some r:=by
 refine lim_iff.2 ?_;obtain⟨m0,hm⟩:=h;refine⟨m0+1,fun m hle=>?_⟩;obtain⟨k,rfl⟩:∃k,m=k+1:=⟨m-1,by omega⟩;rw[callN];simp only[hx];exact hm k (by omega)
theorem lim_sound(hm:P.follows .mixedOrders=true)
 (hX:∀f e,X f=some e->∀E,(∀g args r,E g args=some r->Meets P (A g) g args r)->∀args r,e E args=some r->Meets P (A f) f args r) {f:FuncId} {args:List T} {r:T×List T} (h:lim P A H X f args=some r):Meets P (A f) f args r:=by
 obtain⟨m0,hm0⟩:=lim_iff.1 h;exact callN_sound hm hX m0 f args r (hm0 m0 (Nat.le_refl _))
end
end Ev
end
section
namespace Ev
open Go
inductive Sh where
 |int (k:IntKind)
 |bool
 |str
 |sl (e:Sh)
 |pair (a b:Sh)
 |unit
def Sh.size:Sh->Nat
 |.int _|.bool|.str|.sl _=>1
 |.pair a b=>a.size+b.size
 |.unit=>0
@[reducible] def Sh.Val:Sh->Type
 |.int _=>Int
 |.bool=>Bool
 |.str=>ByteArray
 |.sl e=>List e.Val
 |.pair a b=>a.Val×b.Val
 |.unit=>Unit
def Sh.enc:(s:Sh)->s.Val->List T
 |.int k,n=>[.int k n]
 |.bool,b=>[.bool b]
 |.str,s=>[.str s]
 |.sl e,l=>[.sl e.size (l.flatMap e.enc)]
 |.pair a b,x=>a.enc x.1++b.enc x.2
 |.unit,_=>[]
def Sh.wf:(s:Sh)->s.Val->Prop
 |.int k,n=>(Lit.int k n).wf=true
 |.bool,_=>True
 |.str,s=>s.size<=maxLen
 |.sl e,l=>l.length<=maxLen/\∀x,x∈l->e.wf x
 |.pair a b,x=>a.wf x.1/\b.wf x.2
 |.unit,_=>True
theorem Sh.enc_length:∀(s:Sh)(x:s.Val),(s.enc x).length=s.size
 |.int _,_=>rfl
 |.bool,_=>rfl
 |.str,_=>rfl
 |.sl _,_=>rfl
 |.pair a b,x=>by rw[Sh.enc,List.length_append,a.enc_length,b.enc_length];rfl
 |.unit,_=>rfl
mutual
def okT(P:Program):Sh->TypeId->Bool
 |.int k,t=>match P.underlying t with|some (.int k')=>decide (k'=k)|_=>false
 |.bool,t=>match P.underlying t with|some .bool=>true|_=>false
 |.str,t=>match P.underlying t with|some .string=>true|_=>false
 |.sl e,t=>match P.underlying t with|some (.slice te)=>okT P e te&&Nat.beq (P.cellsOf te) e.size&&Nat.blt 0 e.size|_=>false
 |.pair a b,t=>match P.underlying t with
  |some (.struct fs)=>(match fs.toList with
   |f::r=>Nat.beq f.offset 0&&Nat.beq (P.cellsOf f.type) a.size&&okT P a f.type&&okF P b r a.size
   |[]=>false)&&Nat.beq (P.cellsOf t) (a.size+b.size)
  |_=>false
 |.unit,t=>match P.underlying t with
  |some (.struct fs)=>Nat.beq fs.toList.length 0&&Nat.beq (P.cellsOf t) 0
  |_=>false
def okF(P:Program):Sh->List Field->Nat->Bool
 |.pair a b,f::r,off=>Nat.beq f.offset off&&Nat.beq (P.cellsOf f.type) a.size&&okT P a f.type&&okF P b r (off+a.size)
 |.unit,[],_=>true
 |_,_,_=>false
end
theorem flatMap_get{α:Type}{f:α->List T}{n:Nat}(hn:0<n)(hf:∀x,(f x).length=n):∀(l:List α)(i:Nat),(l.flatMap f)[i]?=(l[i/n]?).bind fun x=>(f x)[i % n]?
 |[],i=>by simp
 |x::l,i=>by
  rw[List.flatMap_cons,List.getElem?_append,hf x];split
  ·rename_i h;rw[Nat.div_eq_of_lt h,Nat.mod_eq_of_lt h];rfl
  ·rename_i h;rw[flatMap_get hn hf l (i-n)]
   have h1:i/n=(i-n)/n+1:=by
    have:=Nat.div_eq_sub_div hn (show n<=i by omega);omega
   have h2:i % n=(i-n) % n:=Nat.mod_eq_sub_mod (by omega);rw[h1,h2];rfl
theorem flatMap_len{α:Type}{f:α->List T}{n:Nat}(hf:∀x,(f x).length=n):∀(l:List α),(l.flatMap f).length=l.length*n
 |[]=>by simp
 |x::l=>by rw[List.flatMap_cons,List.length_append,hf x,flatMap_len hf l,List.length_cons,Nat.add_mul];omega
theorem choose_list{α:Type}{p:Nat->α->Prop}:∀(n:Nat),(∀i,i<n->∃x,p i x)->∃l:List α,l.length=n/\∀i x,l[i]?=some x->p i x
 |0,_=>⟨[],rfl,by simp⟩
 |n+1,h=>by
  obtain⟨l,h1,h2⟩:=choose_list n fun i hi=>h i (by omega);obtain⟨x,hx⟩:=h n (by omega);refine⟨l++[x],by simp[h1],fun i y hy=>?_⟩;rw[List.getElem?_append]at hy;split at hy
  ·exact h2 i y hy
  ·rename_i hi
   have hi':i=n:=by
    have:=(List.getElem?_eq_some_iff.1 hy).1;simp at this;omega
   subst hi';have:i-l.length=0:=by omega
   rw[this]at hy;simp at hy;subst hy;exact hx
section
variable {H:Type}{enc:TypeId×Value->H}{P:Program}{w:World}{spare:Nat->Bool}{held:Bool}
def Here(w:World)(b:Nat):Prop:=b<w.heap.size
theorem cells_get{base:Nat}{a:Addr}{n:Nat}{cs:List Value}(h:w.cells? base a n=some cs):cs.length=n/\∀j,j<n->w.cell? (a.add j)=cs[j]?:=by
 unfold World.cells? at h;split at h
 ·refine⟨by simpa using mapM_some_length h,fun j hj=>mapM_some_get h j j (by simp[hj])⟩
 ·cases h
def Opens(P:Program)(w:World)(s:Sh)(cs:List Value):Prop:=∃x:s.Val,s.wf x/\(s.enc x).length=cs.length/\∀(i:Nat)(y:T)(v:Value),(s.enc x)[i]?=some y->cs[i]?=some v->RB w (Here w) (Here w) y v
theorem open_both:∀(s:Sh),(∀(t:TypeId)(fuel:Nat)(cs:List Value)(x:DataW H×List MemPlace),okT P s t=true->DataW.trod enc P w 0 spare held fuel t cs=some x->Opens P w s cs)/\
 (∀(fs:List Field)(off fuel:Nat)(cs:List Value),okF P s fs off=true->cs.length=off+s.size->(∀f,f∈fs->∃x,DataW.trod enc P w 0 spare held fuel f.type ((cs.drop f.offset).take (P.cellsOf f.type))=some x)->Opens P w s (cs.drop off)):=by
 intro s;induction s with
 |int k=>
  refine⟨fun t fuel cs x hok h=>?_,fun fs off fuel cs hok _ _=>by cases fs <;> cases hok⟩;rw[okT]at hok;split at hok
  ·rename_i k' hu;have hk:k'=k:=of_decide_eq_true hok;subst hk;cases fuel with
   |zero=>simp[DataW.trod]at h
   |succ n=>
    unfold DataW.trod at h;rw[hu]at h
    have hex:∃n:Int,(Lit.int k' n).wf=true/\cs=[.int k' n]:=by
     split at h <;> simp_all
    obtain⟨n',hwf',hcs⟩:=hex;subst hcs;refine⟨n',hwf',rfl,fun i y v hy hv=>?_⟩;cases i with
    |zero=>simp[Sh.enc]at hy hv;subst hy;subst hv;exact .int _ _
    |succ i=>simp[Sh.enc]at hy
  ·cases hok
 |bool=>
  refine⟨fun t fuel cs x hok h=>?_,fun fs off fuel cs hok _ _=>by cases fs <;> cases hok⟩;rw[okT]at hok;split at hok
  ·rename_i hu;cases fuel with
   |zero=>simp[DataW.trod]at h
   |succ n=>
    unfold DataW.trod at h;rw[hu]at h;split at h <;> simp_all;refine⟨(by assumption:Bool),trivial,rfl,fun i y v hy hv=>?_⟩;cases i with
    |zero=>simp[Sh.enc]at hy hv;subst hy;subst hv;exact .bool _
    |succ i=>simp[Sh.enc]at hy
  ·cases hok
 |str=>
  refine⟨fun t fuel cs x hok h=>?_,fun fs off fuel cs hok _ _=>by cases fs <;> cases hok⟩;rw[okT]at hok;split at hok
  ·rename_i hu;cases fuel with
   |zero=>simp[DataW.trod]at h
   |succ n=>
    unfold DataW.trod at h;rw[hu]at h
    have hex:∃b:ByteArray,b.size<=maxLen/\cs=[.string b]:=by
     split at h <;> simp_all
    obtain⟨b,hb,hcs⟩:=hex;subst hcs;refine⟨b,hb,rfl,fun i y v hy hv=>?_⟩;cases i with
    |zero=>simp[Sh.enc]at hy hv;subst hy;subst hv;exact .str _
    |succ i=>simp[Sh.enc]at hy
  ·cases hok
 |sl e ih=>
  refine⟨fun t fuel cs x hok h=>?_,fun fs off fuel cs hok _ _=>by cases fs <;> cases hok⟩;rw[okT]at hok;split at hok
  ·rename_i te hu;simp only[Bool.and_eq_true]at hok;obtain⟨⟨h1,h2⟩,h3⟩:=hok;have h2:P.cellsOf te=e.size:=Nat.eq_of_beq_eq_true h2;have h3:=blt_pos h3;rcases DataW.trod_slice hu h with⟨rfl,_⟩|⟨a,len,cap,elems,rest,n,_,rfl,_,_,hle,hmax,_,hel,_⟩
   ·refine⟨[],⟨Nat.zero_le _,by simp⟩,rfl,fun i y v hy hv=>?_⟩;cases i with
    |zero=>
     simp[Sh.enc]at hy hv;subst hy;subst hv;exact .sl (fun _=>undef) h3 (by simp) (Nat.le_refl _) (fun h=>absurd rfl h) (by simp)
    |succ i=>simp[Sh.enc]at hy
   ·have each:∀i,i<len->∃x:e.Val,e.wf x/\∀(j:Nat)(y:T),(e.enc x)[j]?=some y->∃v,w.cell? ((a.add (i*e.size)).add j)=some v/\RB w (Here w) (Here w) y v:=by
     intro i hi;have hi':=hel i hi
     have hex:elems[i]?=some elems[i]:=by
      rw[List.getElem?_eq_getElem]
     rw[hex,Option.bind_eq_some_iff]at hi';obtain⟨ci,hci,htr⟩:=hi';obtain⟨c1,c2⟩:=cells_get hci;obtain⟨x,w1,w2,w3⟩:=ih.1 te _ ci _ h1 htr;refine⟨x,w1,fun j y hy=>?_⟩;have hj:j<e.size:=by rw[<- e.enc_length x];exact(List.getElem?_eq_some_iff.1 hy).1
     have hj':j<ci.length:=by omega
     have:=c2 j (by omega);rw[List.getElem?_eq_getElem hj',h2]at this;exact⟨_,this,w3 j y _ hy (List.getElem?_eq_getElem hj')⟩
    obtain⟨l,l1,l2⟩:=choose_list len each;have hml:len<=maxLen:=Nat.le_trans hle hmax;refine⟨l,⟨by rw[l1];exact hml,fun x hx=>by obtain⟨i,hi⟩:=List.mem_iff_getElem?.1 hx;exact(l2 i x hi).1⟩,rfl,fun i y v hy hv=>?_⟩;cases i with
    |succ i=>simp[Sh.enc]at hy
    |zero=>
     simp[Sh.enc]at hy hv;subst hy;subst hv;have hlen:=flatMap_len (e.enc_length) l
     have cell:∀q y,(l.flatMap e.enc)[q]?=some y->∃v,w.cell? ((a.add (q/e.size*e.size)).add (q % e.size))=some v/\RB w (Here w) (Here w) y v:=by
      intro q y hy;rw[flatMap_get h3 e.enc_length,Option.bind_eq_some_iff]at hy;obtain⟨x,hx,hy⟩:=hy;exact(l2 _ x hx).2 _ y hy
     have plain:l.flatMap e.enc≠[]->∃b o,a=⟨b,o,none⟩:=fun hne=>by
      obtain⟨v,hv,_⟩:=cell 0 _ (List.getElem?_eq_getElem (List.length_pos_iff.2 hne));obtain⟨b,off,spot⟩:=a;have hspot:spot=none:=by simpa[Addr.add]using World.cell?_spot hv
      exact⟨b,off,by rw[hspot]⟩
     have addr:∀{b o:Nat}(q:Nat),((⟨b,o,none⟩:Addr).add (q/e.size*e.size)).add (q % e.size)=⟨b,o+q,none⟩:=fun {b o} q=>by
      rw[add_at,add_at,Nat.add_assoc,Nat.mul_comm,Nat.div_add_mod]
     have cell':∀(b o:Nat),a=⟨b,o,none⟩->∀q y,(l.flatMap e.enc)[q]?=some y->∃v,w.cell? ⟨b,o+q,none⟩=some v/\RB w (Here w) (Here w) y v:=fun b o hab q y hy=>by
      obtain⟨v,hv,hr⟩:=cell q y hy;rw[hab,addr]at hv;exact⟨v,hv,hr⟩
     by_cases hne:l.flatMap e.enc=[]
     ·refine .sl (fun _=>undef) h3 (by rw[hlen,l1]) hle (fun h=>absurd hne h) (fun i x hx=>by rw[hne]at hx;simp at hx)
     ·obtain⟨b,o,hab⟩:=plain hne;refine .sl (fun q=>(w.cell? ⟨b,o+q,none⟩).getD undef) h3 (by rw[hlen,l1]) hle (fun _=>⟨b,o,by rw[hab],?_,fun q hq=>?_⟩) (fun q y hy=>?_)
      ·obtain⟨v,hv,_⟩:=cell' b o hab 0 _ (List.getElem?_eq_getElem (List.length_pos_iff.2 hne));exact World.block_lt_of_cell? w _ hv
      ·obtain⟨v,hv,_⟩:=cell' b o hab q _ (List.getElem?_eq_getElem hq);rw[hv];rfl
      ·obtain⟨v,hv,hr⟩:=cell' b o hab q y hy;rw[hv];exact hr
  ·cases hok
 |pair a b iha ihb=>
  have fields:∀(f:Field)(r:List Field)(off fuel:Nat)(cs:List Value),f.offset=off->P.cellsOf f.type=a.size->okT P a f.type=true->okF P b r (off+a.size)=true->cs.length=off+(a.size+b.size)->
   (∀g,g∈f::r->∃x,DataW.trod enc P w 0 spare held fuel g.type ((cs.drop g.offset).take (P.cellsOf g.type))=some x)->Opens P w (.pair a b) (cs.drop off):=by
   intro f r off fuel cs h1 h2 h3 h4 hlen hf;obtain⟨x,hx⟩:=hf f (by simp);obtain⟨u,u1,u2,u3⟩:=iha.1 f.type fuel _ x h3 hx;obtain⟨v,v1,v2,v3⟩:=ihb.2 r (off+a.size) fuel cs h4 (by omega) (fun g hg=>hf g (by simp[hg]));refine⟨(u,v),⟨u1,v1⟩,?_,fun i y z hy hz=>?_⟩
   ·rw[Sh.enc_length];show a.size+b.size=_;rw[List.length_drop];omega
   ·have he:(Sh.pair a b).enc (u,v)=a.enc u++b.enc v:=rfl;rw[he,List.getElem?_append,a.enc_length]at hy;split at hy
    ·rename_i hi;refine u3 i y z hy ?_;rw[h1,h2,List.getElem?_take,if_pos hi];exact hz
    ·rename_i hi;refine v3 (i-a.size) y z hy ?_;rw[List.getElem?_drop]at hz ⊢;rw[show off+a.size+(i-a.size)=off+i by omega];exact hz
  refine⟨fun t fuel cs x hok h=>?_,fun fs off fuel cs hok hlen hf=>?_⟩
  ·rw[okT]at hok;split at hok
   ·rename_i fs hu;rw[Bool.and_eq_true]at hok;obtain⟨hok,hsz⟩:=hok;have hsz:P.cellsOf t=a.size+b.size:=Nat.eq_of_beq_eq_true hsz;obtain⟨xs,n,_,_,hl,hxl,hx⟩:=DataW.trod_struct hu h
    have hall:∀g,g∈fs.toList->∃x,DataW.trod enc P w 0 spare held n g.type ((cs.drop g.offset).take (P.cellsOf g.type))=some x:=fun g hg=>by
     obtain⟨i,hi⟩:=List.mem_iff_getElem?.1 hg;have hi':fs[i]?=some g:=by simpa using hi
     have hix:i<xs.length:=by rw[hxl];exact(Array.getElem?_eq_some_iff.1 hi').1
     exact⟨xs[i],by rw[hx i g hi'];simp[hix]⟩
    split at hok
    ·rename_i f r hfs;simp only[Bool.and_eq_true]at hok;obtain⟨⟨⟨q1,q2⟩,q3⟩,q4⟩:=hok;have:=fields f r 0 n cs (Nat.eq_of_beq_eq_true q1) (Nat.eq_of_beq_eq_true q2) q3 (by rw[Nat.zero_add];exact q4) (by rw[hl,hsz];omega) (fun g hg=>hall g (by rw[hfs];exact hg));simpa using this
    ·cases hok
   ·cases hok
  ·cases fs with
   |nil=>cases hok
   |cons f r=>
    rw[okF]at hok;simp only[Bool.and_eq_true]at hok;obtain⟨⟨⟨q1,q2⟩,q3⟩,q4⟩:=hok;exact fields f r off fuel cs (Nat.eq_of_beq_eq_true q1) (Nat.eq_of_beq_eq_true q2) q3 q4 hlen hf
 |unit=>
  refine⟨fun t fuel cs x hok h=>?_,fun fs off fuel cs hok hlen _=>?_⟩
  ·rw[okT]at hok;split at hok
   ·rename_i fs hu;rw[Bool.and_eq_true]at hok;obtain⟨xs,n,_,_,hl,_⟩:=DataW.trod_struct hu h;have hsz:P.cellsOf t=0:=Nat.eq_of_beq_eq_true hok.2;exact⟨(),trivial,by rw[hl,hsz];rfl,fun i y v hy=>by simp[Sh.enc]at hy⟩
   ·cases hok
  ·refine⟨(),trivial,?_,fun i y v hy=>by simp[Sh.enc]at hy⟩;rw[List.length_drop,hlen];show 0=_;have:Sh.size .unit=0:=rfl;omega
end
end Ev
end
section
namespace Ev
open Go Go.WideShapes Go.RowKit
def argOf:(s:Sh)->s.Val->T
 |.pair a b,x=>.agg (a.enc x.1++b.enc x.2)
 |.unit,_=>.agg []
 |.int k,n=>.int k n
 |.bool,b=>.bool b
 |.str,x=>.str x
 |.sl e,l=>.sl e.size (l.flatMap e.enc)
section
variable {H:Type}{enc:TypeId×Value->H}{P:Program}{W:World}{sp:Nat->Bool}{held:Bool}
theorem open_arg{s:Sh}{t:TypeId}{v:Value}{d:DataW H}{ps:List MemPlace}{r:Reach}{b0:Nat}(hok:okT P s t=true)(hval:Value.okWide P W r b0 t v)(h:DataW.Trod enc P W 0 sp held t v d ps) :
 ∃x:s.Val,s.wf x/\ResV W (Here W) (Here W) false (argOf s x) v []:=by
 obtain⟨fuel,hf⟩:=h;obtain⟨x,h1,h2,h3⟩:=(open_both (enc:=enc) (spare:=sp) (held:=held) s).1 t fuel _ _ hok hf;refine⟨x,h1,?_⟩;have one:∀{y:T},v.cells.toList=[v]->s.enc x=[y]->RB W (Here W) (Here W) y v:=fun {y} e1 e2=>h3 0 y v (by rw[e2];rfl) (by rw[e1];rfl);cases s with
 |int k=>
  rw[okT]at hok;split at hok
  ·rename_i k' hu;obtain⟨n,rfl⟩:=okWide_int hu hval;exact RB.notAgg (one rfl rfl)
  ·cases hok
 |bool=>
  rw[okT]at hok;split at hok
  ·rename_i hu;obtain⟨n,rfl⟩:=okWide_bool hu hval;exact RB.notAgg (one rfl rfl)
  ·cases hok
 |str=>
  rw[okT]at hok;split at hok
  ·rename_i hu;obtain⟨n,rfl⟩:=okWide_string hu hval;exact RB.notAgg (one rfl rfl)
  ·cases hok
 |sl e=>
  rw[okT]at hok;split at hok
  ·rename_i te hu;obtain⟨a,len,cap,rfl⟩:=okWide_slice hu hval;exact RB.notAgg (one rfl rfl)
  ·cases hok
 |pair a b=>
  rw[okT]at hok;split at hok
  ·rename_i fs hu;obtain⟨cs,rfl,_⟩:=okWide_struct hu hval;exact⟨cs,fun _=>[],rfl,by simpa[Value.cells,Sh.enc]using h2,ND.nil _,by simp[flat],fun i y u hy hu=>⟨h3 i y u hy (by simpa[Value.cells]using hu),rfl⟩⟩
  ·cases hok
 |unit=>
  rw[okT]at hok;split at hok
  ·rename_i fs hu;obtain⟨cs,rfl,_⟩:=okWide_struct hu hval;exact⟨cs,fun _=>[],rfl,by simpa[Value.cells,Sh.enc]using h2,ND.nil _,by simp[flat],fun i y u hy=>by simp at hy⟩
  ·cases hok
theorem calls_of_does{f:FuncId}{fn:Func}{vs:Array Value}{R:Value->World->Prop}(hf:P.funcs[f]?=some fn)(hb:fn.body.isSome=true)(hname:(fn.name=="runtime.NumGoroutine")=false) (h:Does P f vs W R) :
 Calls P f vs W fun e w'=>∃v,e=.returned v/\R v w':=by
 obtain⟨body,hbody⟩:=Option.isSome_iff_exists.1 hb
 have hcall:(callFunc f vs).run P W=.ok (.enter f vs) W:=by
  have hne:¬ fn.name="runtime.NumGoroutine":=by simpa using hname
  simp[callFunc,hf,hne,hbody]
 unfold Does at h;rw[hcall]at h;exact h
theorem law_calls{at_:Attr}{f:FuncId}{fn:Func}{args:List T}{vs:Array Value}(hat:at_.turn=none)(hf:P.funcs[f]?=some fn)(hb:fn.body.isSome=true)(hname:(fn.name=="runtime.NumGoroutine")=false)
 (hm:Meets P at_ f args (.bool true,[])) (hl:vs.size=args.length) (hv:∀(i:Nat)(x:T)(v:Value),args[i]?=some x->vs[i]?=some v->ResV W (Here W) (Here W) false x v []) :
 Calls P f vs W fun e w'=>e=.returned (.bool true)/\Below W.heap.size W w':=by
 have hp:Pre at_ args W (Here W) (Here W) vs []:=⟨fun _ h=>h,hl,fun i x v _ _=>hv i x v,fun i hi=>(by rw[hat]at hi;cases hi),fun _=>rfl,by simp,fun _ h=>h⟩;refine Calls.mono (calls_of_does hf hb hname (hm W _ _ vs [] hp)) ?_;rintro e w' ⟨v,rfl,Fr,Fo,hd⟩
 have hres:v=.bool true:=by
  have:El w' (aftI (Here W) W w' [] Fr Fo) (aftI (Here W) W w' [] Fr Fo) at_.own (.bool true) v Fr:=hd.res;unfold El at this;split at this
  ·cases this;rfl
  ·exact RB.bool_inv this.1
 exact⟨by rw[hres],hd.kp.os,hd.kp.tape,hd.kp.output,hd.kp.size,fun k hk=>hd.kp.block k hk (by simp)⟩
end
end Ev
namespace Ev
open Go
def bodyOf(P:Program)(f:FuncId):Code:=match P.funcs[f]? with
 |some fn=>match fn.body with
  |some c=>c
  |none=>.skip
 |none=>.skip
def subCode:List Nat->Code->Code
 |[],c=>c
 |0::p,.seq a _=>subCode p a
 |_::p,.seq _ b=>subCode p b
 |0::p,.cond _ a _=>subCode p a
 |_::p,.cond _ _ b=>subCode p b
 |_::p,.block _ c=>subCode p c
 |_::p,.loop c=>subCode p c
 |_,c=>c
inductive Ct where
 |seq (blk:Nat) (b:Code)
 |block (i:Nat)
section
variable (P:Program)(A:Attrs)(H:Hints)(E:Env)(n:Nat)
def ctxK:List Ct->(Ex->St->R)->Ex->St->R
 |[],K=>K
 |.seq blk b::r,K=>fun e s=>match e with
  |.normal=>codeK P A H E n blk b s (ctxK r K)
  |e=>ctxK r K e s
 |.block i::r,K=>fun e s=>match e with
  |.exit j=>bif Nat.beq i j then ctxK r K .normal s else ctxK r K (.exit j) s
  |e=>ctxK r K e s
def backK(blk:Nat)(K:Ex->St->R)(L:St->R):Ex->St->R:=fun e s=>match e with
 |.normal=>L (ghosts s (H.loops blk))
 |e=>K e s
def roundK(blk:Nat)(c:Code)(K:Ex->St->R)(L:St->R)(s:St):R:=codeK P A H E n blk c s (backK H blk K L)
def loopAt(blk:Nat)(c:Code)(K:Ex->St->R)(m:Nat)(s:St):R:=
 loopK (fun s K=>codeK P A H E n blk c s fun e s=>match e with
  |.normal=>K .normal (ghosts s (H.loops blk))
  |e=>K e s) m s K
theorem loopAt_succ(blk:Nat)(c:Code)(K:Ex->St->R)(m:Nat)(s:St):loopAt P A H E n blk c K (m+1) s=roundK P A H E n blk c K (loopAt P A H E n blk c K m) s:=by
 unfold roundK;show codeK P A H E n blk c s _=codeK P A H E n blk c s _;congr 1;funext e s;cases e <;> rfl
end
def endOf(P:Program)(A:Attrs)(f:FuncId):Ex->St->R:=fun e s=>match P.funcs[f]? with
 |some fn=>match e with
  |.exit _=>none
  |_=>endK P A f fn s
 |none=>none
end Ev
namespace Ev
open Go Go.WideShapes Go.RowKit
theorem meets_plain{P:Program}{f:FuncId}{fn:Func}{args:List T}{x:T}{v:Value}(hf:P.funcs[f]?=some fn)(hb:fn.body.isSome=true)(hname:(fn.name=="runtime.NumGoroutine")=false)
 (hx:∀w,RO w x v []) (hnt:∀w I J,ResT w I J true x v []<->RO w x v [])
 (hc:∀(w:World)(vs:Array Value)(I J:Nat->Prop),vs.size=args.length->(∀b,J b->b<w.heap.size)->(∀(i:Nat)(y:T)(u:Value),args[i]?=some y->vs[i]?=some u->ResV w I J false y u [])->
  Calls P f vs w fun e w'=>e=.returned v/\Below w.heap.size w w'):Meets P ⟨none,.sl,true,false,false⟩ f args (x,[]):=by
 intro w I J vs F hp;obtain rfl:F=[]:=hp.none rfl;obtain⟨body,hbody⟩:=Option.isSome_iff_exists.1 hb
 have hcall:(callFunc f vs).run P w=.ok (.enter f vs) w:=by
  have hne:¬ fn.name="runtime.NumGoroutine":=by simpa using hname
  simp[callFunc,hf,hne,hbody]
 unfold Does;rw[hcall];refine Calls.mono (hc w vs I J hp.len hp.lt fun i y u hy hu=>hp.vals i y u (fun h=>by cases h) (fun h=>by cases h) hy hu) ?_;rintro e w' ⟨rfl,hbel⟩;refine⟨v,rfl,[],[],⟨hbel.os,hbel.tape,hbel.output,hbel.size,fun b hb _=>hbel.block b hb⟩,by simp,by simp,?_,.inl ⟨rfl,rfl,rfl⟩⟩;exact(hnt _ _ _).2 (hx w')
theorem resV_str{w:World}{I J:Nat->Prop}{s:ByteArray}{v:Value}(h:ResV w I J false (.str s) v []):v=.string s:=by
 have h:El w I J false (.str s) v []:=h;unfold El at h;rw[if_neg (by simp)]at h;cases h.1;rfl
theorem does_calls{P:Program}{f:FuncId}{fn:Func}{vs:Array Value}{w:World}{R:Value->World->Prop}(hf:P.funcs[f]?=some fn)(hb:fn.body.isSome=true)(hname:(fn.name=="runtime.NumGoroutine")=false)
 (hc:Calls P f vs w fun e w'=>∃v,e=.returned v/\R v w'):Does P f vs w R:=by
 obtain⟨body,hbody⟩:=Option.isSome_iff_exists.1 hb
 have hcall:(callFunc f vs).run P w=.ok (.enter f vs) w:=by
  have hne:¬ fn.name="runtime.NumGoroutine":=by simpa using hname
  simp[callFunc,hf,hne,hbody]
 unfold Does;rw[hcall];exact hc
abbrev bI(r:T×List T)(g:Int->R):R:=(oNil r.2).bind fun _=>(oInt .i64 r.1).bind g
abbrev bB(r:T×List T)(g:Bool->R):R:=(oNil r.2).bind fun _=>(oBool r.1).bind g
abbrev bL(r:T×List T)(g:List T->R):R:=(oNil r.2).bind fun _=>(oSl 1 r.1).bind g
abbrev bM(r:T×List T)(g:List T->R):R:=(oNil r.2).bind fun _=>(oSl 2 r.1).bind g
abbrev bS(r:T×List T)(g:List T->Int->R):R:=(oCons r.2).bind fun p=>(oNil p.2).bind fun _=>(oAgg p.1).bind fun c=>(oCons c).bind fun p=>(oSl 1 p.1).bind fun c=>(oCons p.2).bind fun p=>(oInt .i64 p.1).bind fun n=>(oNil p.2).bind fun _=>g c n
end Ev
end
section
namespace Ev
open Go Go.Shelf Go.RowKit Go.Lib Go.Proofs
variable {P:Program}{ρ:Ren}
structure InsL.n22(P:Program)(ρ:Ren):Prop where
 mixed:P.follows .mixedOrders=true
 f22:Bears P (ρ.f 22) (Body2.n22 ρ)
 t0:P.underlying (ρ.t 0)=some (TypeDesc.tuple #[])
 a0:∀w,(isAgg (ρ.t 0)).run P w=.ok false w
 z0:∀w,(Go.sizeOf (ρ.t 0)).run P w=.ok 1 w
 v0:∀w,(zeroValue (ρ.t 0)).run P w=.ok (Value.tuple #[]) w
 t3:P.underlying (ρ.t 3)=some (TypeDesc.int IntKind.i64)
 a3:∀w,(isAgg (ρ.t 3)).run P w=.ok false w
 z3:∀w,(Go.sizeOf (ρ.t 3)).run P w=.ok 1 w
 v3:∀w,(zeroValue (ρ.t 3)).run P w=.ok (Value.int IntKind.i64 0) w
 t4:P.underlying (ρ.t 4)=some (TypeDesc.bool)
 a4:∀w,(isAgg (ρ.t 4)).run P w=.ok false w
 z4:∀w,(Go.sizeOf (ρ.t 4)).run P w=.ok 1 w
 v4:∀w,(zeroValue (ρ.t 4)).run P w=.ok (Value.bool false) w
 z9:∀w,(Go.sizeOf (ρ.t 9)).run P w=.ok 1 w
 t24:P.underlying (ρ.t 24)=some (TypeDesc.slice (ρ.t 9))
 a24:∀w,(isAgg (ρ.t 24)).run P w=.ok false w
 z24:∀w,(Go.sizeOf (ρ.t 24)).run P w=.ok 1 w
 v24:∀w,(zeroValue (ρ.t 24)).run P w=.ok (Value.slice none 0 0) w
def OvL(P:Program)(ρ:Ren):Prop:=∃fn:Func,P.funcs[ρ.f 29]?=some fn/\(fn.name=="runtime.NumGoroutine")=false/\fn.body.isNone=true/\Extern.findNext fn=none/\Extern.find fn=some (Extern.SlicesOverlaps.overlaps #[(ρ.t 24),(ρ.t 24)] #[(ρ.t 4)])
set_option maxHeartbeats 4000000 in
set_option maxRecDepth 100000 in
theorem insert_shift{z:Value}{B:Nat}(L:InsL.n22 P ρ)(h29:OvL P ρ)(hi9:(P.info? (ρ.t 9)).map (fun i=>(i.zero,i.size,i.bytes))=some (some z,1,B))(hz1c:z.cells = #[z])(hB:0<B)(b off n c i vb voff m vc:Nat)(cs vs:List Value)(w:World)(hi:i<n)(hm:0<m)(hroom:n+m<=c)(hc63:c<=9223372036854775807)(hvb:vb≠b)
 (hcl:cs.length=n) (hvl:vs.length=m)
 (hcs:∀j v,cs[j]?=some v->w.cell? ⟨b,off+j,none⟩=some v) (hsp:∀j,j<n+m->(w.cell? ⟨b,off+j,none⟩).isSome=true) (hfz:∀j,j<n+m->w.frozen? ⟨b,off+j,none⟩=false)
 (hvs:∀j v,vs[j]?=some v->w.cell? ⟨vb,voff+j,none⟩=some v) (h1c:∀v∈cs,v.oneCell'=true) (h1v:∀v∈vs,v.oneCell'=true)
 (tA tB:TypeId) (kA kB:Nat) (hsa:w.shape? vb=some (tA,kA)) (hsb:w.shape? b=some (tB,kB)) (hkB:kB≠0) (hfa:w.frozen? ⟨vb,voff,none⟩=false) (hfe:w.frozen? ⟨vb,kA,none⟩=false) :
 Calls P (ρ.f 22) #[.slice (some ⟨b,off,none⟩) n c,.int .i64 i,.slice (some ⟨vb,voff,none⟩) m vc] w fun e w'=>
  e=.returned (.slice (some ⟨b,off,none⟩) (n+m) c)/\w'=(w.drew.setCells b (off+(i+m)) (cs.drop i)).setCells b (off+i) vs:=by
 have t0:=L.t0;have a0:=L.a0;have z0:=L.z0;have v0:=L.v0;have t3:=L.t3;have a3:=L.a3;have z3:=L.z3;have v3:=L.v3;have t4:=L.t4;have a4:=L.a4;have z4:=L.z4;have v4:=L.v4;have z9:=L.z9;have t24:=L.t24;have a24:=L.a24;have z24:=L.z24;have v24:=L.v24;have u0:=run_underlying L.t0;have u3:=run_underlying L.t3;have u4:=run_underlying L.t4;have u24:=run_underlying L.t24;have hz1:¬((m:Int)=0):=by omega
 have hz2:¬((i:Int)=(n:Int)):=by omega
 have hsz:(P.info? (ρ.t 9)).map (·.size)=some 1:=by
  obtain⟨i0,hi0,h0,h1,h2⟩:=info_parts hi9;rw[hi0];simp[h1]
 have hov:∀lb cb,(callFunc (ρ.f 29) #[.slice (some ⟨vb,voff,none⟩) m vc,.slice (some ⟨b,off+(i+m),none⟩) lb cb]).run P w=.ok (.value (.bool false)) w:=fun lb cb=>by
  obtain⟨fn,g1,g2,g3,g4,g5⟩:=h29
  rw[run_callFunc_extern g1 g2 g3 g4 (e:=Extern.SlicesOverlaps.overlaps #[(ρ.t 24),(ρ.t 24)] #[(ρ.t 4)]) g5,
   Lib.run_overlaps_apart w (ρ.t 24) (ρ.t 4) (ρ.t 9) L.t24 1 L.z9 ⟨vb,voff,none⟩ ⟨b,off+(i+m),none⟩ m vc lb cb hvb tA tB kA kB hsa hsb hkB hfa hfe]
  rfl
 have hdl:(cs.drop i).length=n-i:=by rw[List.length_drop,hcl]
 have mixed:=L.mixed;have hw1:IntKind.i64.wrap ((i:Int)+(m:Int))=(i:Int)+(m:Int):=by rw[IntKind.wrap_i64];omega
 have hb1:(0:Int)<=(i:Int)+(m:Int):=by omega
 have hin:i<=n:=by omega
 have htn:((i:Int)+(m:Int)).toNat=i+m:=by omega
 have hb2:¬(c=i+m):=by omega
 have hb3:(i:Int)<=(n:Int)+(m:Int):=by omega
 have hb4:¬(c=i):=by omega
 have hcp1:∀ty dc sc,(Builtin.copy_ #[(ρ.t 24),(ρ.t 24)] ty #[.slice (some ⟨b,off+(i+m),none⟩) (n+m-(i+m)) dc,.slice (some ⟨b,off+i,none⟩) (n+m-i) sc]).run P w.drew=.ok (goInt (cs.drop i).length) (w.drew.setCells b (off+(i+m)) (cs.drop i)):=fun ty dc sc=>
  run_copy_cells w.drew _ _ ty (ρ.t 9) b (off+(i+m)) (n+m-(i+m)) dc ⟨b,off+i,none⟩ (n+m-i) sc (cs.drop i) L.t24 hsz (by rw[hdl];simp only[Nat.min_def];split <;> omega)
   (fun j v hj=>by rw[Addr.add_lit,Nat.add_assoc];exact hcs (i+j) v (by rwa[List.getElem?_drop]at hj))
   (fun j hj=>by rw[Nat.add_assoc];exact hsp _ (by omega)) (fun j hj=>by rw[Nat.add_assoc];exact hfz _ (by omega)) (fun v hv=>h1c v (List.mem_of_mem_drop hv))
 obtain⟨W1,hW1⟩:∃W1,W1=w.drew.setCells b (off+(i+m)) (cs.drop i):=⟨_,rfl⟩
 have hsp1:∀k,k<n+m->(W1.cell? ⟨b,off+k,none⟩).isSome=true:=fun k hk=>by
  rw[hW1];exact isSome_setCells b _ _ _ (fun j hj=>by rw[Nat.add_assoc];exact hsp _ (by omega)) _ (hsp k hk)
 have hcp2:∀(W:World),(∀x,W.cell? x=W1.cell? x)->(∀x,W.frozen? x=W1.frozen? x)->∀ty dc,(Builtin.copy_ #[(ρ.t 24),(ρ.t 24)] ty #[.slice (some ⟨b,off+i,none⟩) (n+m-i) dc,.slice (some ⟨vb,voff,none⟩) m vc]).run P W=.ok (goInt vs.length) (W.setCells b (off+i) vs):=fun W hWc hWf ty dc=>
  run_copy_cells W _ _ ty (ρ.t 9) b (off+i) (n+m-i) dc ⟨vb,voff,none⟩ m vc vs L.t24 hsz (by rw[hvl];simp only[Nat.min_def];split <;> omega)
   (fun j v hj=>by
    rw[Addr.add_lit,hWc,hW1,World.cell?_setCells_out b _ _ _ _ (fun h _=>absurd h hvb)];exact hvs j v hj)
   (fun j hj=>by rw[hWc,Nat.add_assoc];exact hsp1 _ (by omega)) (fun j hj=>by rw[hWf,hW1,World.frozen?_setCells,Nat.add_assoc];exact hfz _ (by omega)) h1v
 rw[<- hW1]at hcp1;clear hz1c;obtain⟨_,_,FG⟩:=L.f22
 go_enter FG,Body2.n22_ntmps ρ
 go_wp2_with (simp only[hov])
 go_region_law_o (refine step_copy_runI rfl _ _ (ρ.t 24) (ρ.t 24) rfl _ _ (by simp[Act.eval,Act.put]) (by simp[Act.eval,Act.put]) (hcp1 _ _ _) ?_)
 go_wp2_with (at_builtin;refine wpList_copy_runI _ rfl _ _ (ρ.t 24) (ρ.t 24) rfl _ _ rfl rfl (hcp2 _ (fun _=>rfl) (fun _=>rfl) _ _) ?_)
 go_ret
 first|exact⟨rfl,rfl⟩|exact⟨rfl,by rw[hW1]⟩
set_option maxHeartbeats 4000000 in
set_option maxRecDepth 100000 in
theorem insert_end_room{z:Value}{B:Nat}(L:InsL.n22 P ρ)(h29:OvL P ρ)(hi9:(P.info? (ρ.t 9)).map (fun i=>(i.zero,i.size,i.bytes))=some (some z,1,B))(hz1c:z.cells = #[z])(hB:0<B)(b off n c vb voff m vc:Nat)(vs:List Value)(w:World)(hm:0<m)(hroom:n+m<=c)(hc63:c<=9223372036854775807)
 (hvl:vs.length=m) (hsp:∀j,j<m->(w.cell? ⟨b,off+n+j,none⟩).isSome=true) (hfz:∀j,j<m->w.frozen? ⟨b,off+n+j,none⟩=false)
 (hvs:∀j v,vs[j]?=some v->w.cell? ⟨vb,voff+j,none⟩=some v) (h1v:∀v∈vs,v.oneCell'=true) :
 Calls P (ρ.f 22) #[.slice (some ⟨b,off,none⟩) n c,.int .i64 n,.slice (some ⟨vb,voff,none⟩) m vc] w fun e w'=>
  e=.returned (.slice (some ⟨b,off,none⟩) (n+m) c)/\w'=w.setCells b (off+n) vs:=by
 have t0:=L.t0;have a0:=L.a0;have z0:=L.z0;have v0:=L.v0;have t3:=L.t3;have a3:=L.a3;have z3:=L.z3;have v3:=L.v3;have t4:=L.t4;have a4:=L.a4;have z4:=L.z4;have v4:=L.v4;have z9:=L.z9;have t24:=L.t24;have a24:=L.a24;have z24:=L.z24;have v24:=L.v24;have u0:=run_underlying L.t0;have u3:=run_underlying L.t3;have u4:=run_underlying L.t4;have u24:=run_underlying L.t24;have mixed:=L.mixed;have hz1:¬((m:Int)=0):=by omega
 have hsrc:Src P 1 (ρ.t 24) (.slice (some ⟨vb,voff,none⟩) m vc) m vs w:=Src.ofSlice w L.t24 ⟨vb,voff,none⟩ m vc vs (by omega) (fun j u hj=>by rw[Addr.add_lit];exact hvs j u hj) h1v;clear hz1c;obtain⟨_,_,FG⟩:=L.f22
 go_enter FG,Body2.n22_ntmps ρ
 go_wp2_with (at_builtin;refine wpList_append_room1 _ rfl _ _ (ρ.t 24) (ρ.t 24) rfl (ρ.t 9) _ _ L.t24 hi9 b off n c rfl _ rfl m vs hsrc hroom (by rw[hvl];exact hsp) (by rw[hvl];exact hfz) ?_)
 go_ret
 exact⟨rfl,rfl⟩
set_option maxHeartbeats 4000000 in
set_option maxRecDepth 100000 in
theorem insert_end_grow{z:Value}{B:Nat}(L:InsL.n22 P ρ)(h29:OvL P ρ)(hi9:(P.info? (ρ.t 9)).map (fun i=>(i.zero,i.size,i.bytes))=some (some z,1,B))(hz1c:z.cells = #[z])(hB:0<B)(base:Option Addr)(n c vb voff m vc:Nat)(cs vs:List Value)(w:World)(hm:0<m)(hnc:n<=c)(hroom:c<n+m)(hbig:(n+m)*B<=140737488355328)
 (hcl:cs.length=n) (hvl:vs.length=m) (hnil:base=none->n=0)
 (hcs:∀a,base=some a->∀j v,cs[j]?=some v->w.cell? (a.add j)=some v)
 (hvs:∀j v,vs[j]?=some v->w.cell? ⟨vb,voff+j,none⟩=some v) (h1v:∀v∈vs,v.oneCell'=true) :
 Calls P (ρ.f 22) #[.slice base n c,.int .i64 n,.slice (some ⟨vb,voff,none⟩) m vc] w fun e w'=>
  e=.returned (.slice (some ⟨w.heap.size,0,none⟩) (n+m) (grownCap w (n+m) c (ρ.t 9)))/\
  w'=w.drew.alloc (.cells ((cs++vs).toArray++Builtin.zeroCells z.cells (grownCap w (n+m) c (ρ.t 9)-(n+m))) (ρ.t 9)):=by
 have t0:=L.t0;have a0:=L.a0;have z0:=L.z0;have v0:=L.v0;have t3:=L.t3;have a3:=L.a3;have z3:=L.z3;have v3:=L.v3;have t4:=L.t4;have a4:=L.a4;have z4:=L.z4;have v4:=L.v4;have z9:=L.z9;have t24:=L.t24;have a24:=L.a24;have z24:=L.z24;have v24:=L.v24;have u0:=run_underlying L.t0;have u3:=run_underlying L.t3;have u4:=run_underlying L.t4;have u24:=run_underlying L.t24;have mixed:=L.mixed;have hnm:n+m<=140737488355328:=Nat.le_trans (Nat.le_mul_of_pos_right _ hB) hbig;obtain⟨i0,hi0,hz0,hzs,hzb⟩:=info_parts hi9;have hz1:¬((m:Int)=0):=by omega
 have hsrc:Src P i0.size (ρ.t 24) (.slice (some ⟨vb,voff,none⟩) m vc) m vs w:=by
  rw[hzs];exact Src.ofSlice w L.t24 ⟨vb,voff,none⟩ m vc vs (by omega) (fun j u hj=>by rw[Addr.add_lit];exact hvs j u hj) h1v
 have hold:(Builtin.firstCells i0.size n (.slice base n c)).run P w.drew=.ok cs.toArray w.drew:=by
  rw[hzs];cases base with
  |none=>
   have h0:=hnil rfl;subst h0;rw[List.length_eq_zero_iff.1 hcl];exact run_firstCells_none w.drew 1 0 0 c
  |some a=>exact run_firstCells_some w.drew 1 n a n c cs (by omega) (fun j v hj=>hcs a rfl j v hj)
 have hrun:∀ty,(Builtin.append_ #[(ρ.t 24),(ρ.t 24)] ty #[.slice base n c,.slice (some ⟨vb,voff,none⟩) m vc]).run P w=_:=fun ty=>
  run_append_grow_src w (ρ.t 24) (ρ.t 24) ty (ρ.t 9) i0 _ L.t24 hi0 hz0 base n c cs hold _ m vs hsrc hroom (by omega) (by rw[hzb];exact growslice_fits hroom hbig)
 clear hz1c;obtain⟨_,_,FG⟩:=L.f22
 go_enter FG,Body2.n22_ntmps ρ
 cases base with
 |none=>
  have h0:=hnil rfl;subst h0
  go_wp2_with (at_builtin;refine Lib.wpList_append_run _ rfl _ _ _ _ rfl _ _ rfl rfl _ _ (hrun _) ?_)
  all_goals (go_ret;exact⟨rfl,rfl⟩)
 |some a=>
  obtain⟨ab,ao,asp⟩:=a
  go_wp2_with (at_builtin;refine Lib.wpList_append_run _ rfl _ _ _ _ rfl _ _ rfl rfl _ _ (hrun _) ?_)
  all_goals (go_ret;exact⟨rfl,rfl⟩)
set_option maxHeartbeats 4000000 in
set_option maxRecDepth 100000 in
theorem insert_grow{z:Value}{B:Nat}(L:InsL.n22 P ρ)(h29:OvL P ρ)(hi9:(P.info? (ρ.t 9)).map (fun i=>(i.zero,i.size,i.bytes))=some (some z,1,B))(hz1c:z.cells = #[z])(hB:0<B)(b off n c i vb voff m vc:Nat)(cs vs:List Value)(w:World)(hi:i<n)(hm:0<m)(hnc:n<=c)(hroom:c<n+m)(hbig:(n+m)*B<=140737488355328)
 (hcl:cs.length=n) (hvl:vs.length=m)
 (hcs:∀j v,cs[j]?=some v->w.cell? ⟨b,off+j,none⟩=some v)
 (hvs:∀j v,vs[j]?=some v->w.cell? ⟨vb,voff+j,none⟩=some v) (h1c:∀v∈cs,v.oneCell'=true) (h1v:∀v∈vs,v.oneCell'=true) :
 Calls P (ρ.f 22) #[.slice (some ⟨b,off,none⟩) n c,.int .i64 i,.slice (some ⟨vb,voff,none⟩) m vc] w fun e w'=>
  e=.returned (.slice (some ⟨w.heap.size,0,none⟩) (n+m) (grownCap w (n+m) c (ρ.t 9)))/\
  w'=(((w.alloc (.cells ((cs.take i).toArray++Builtin.zeroCells z.cells (n+m-i)++Builtin.zeroCells z.cells (grownCap w (n+m) c (ρ.t 9)-(n+m))) (ρ.t 9))).drew.setCells w.heap.size i vs).drew).setCells w.heap.size (i+m) (cs.drop i):=by
 have t0:=L.t0;have a0:=L.a0;have z0:=L.z0;have v0:=L.v0;have t3:=L.t3;have a3:=L.a3;have z3:=L.z3;have v3:=L.v3;have t4:=L.t4;have a4:=L.a4;have z4:=L.z4;have v4:=L.v4;have z9:=L.z9;have t24:=L.t24;have a24:=L.a24;have z24:=L.z24;have v24:=L.v24;have u0:=run_underlying L.t0;have u3:=run_underlying L.t3;have u4:=run_underlying L.t4;have u24:=run_underlying L.t24;have mixed:=L.mixed;have hnm:n+m<=140737488355328:=Nat.le_trans (Nat.le_mul_of_pos_right _ hB) hbig;obtain⟨i0,hi0,hz0,hzs,hzb⟩:=info_parts hi9;have hz1:¬((m:Int)=0):=by omega
 have hz2:¬((i:Int)=(n:Int)):=by omega
 have hz3:(c:Int)<(n:Int)+(m:Int):=by omega
 have hsz:(P.info? (ρ.t 9)).map (·.size)=some 1:=by rw[hi0];simp[hzs]
 have hbw:b<w.heap.size:=block_lt_of_cell (hcs 0 _ (List.getElem?_eq_getElem (by omega)));have hvw:vb<w.heap.size:=block_lt_of_cell (hvs 0 _ (List.getElem?_eq_getElem (by omega)));have hkk:(n:Int)+(m:Int)-(i:Int)=((n+m-i:Nat):Int):=by omega
 have hik:i+(n+m-i)=n+m:=by omega
 have hold:(Builtin.firstCells i0.size i (.slice (some ⟨b,off,none⟩) i c)).run P w.drew=.ok (cs.take i).toArray w.drew:=by
  rw[hzs]
  exact run_firstCells_some w.drew 1 i ⟨b,off,none⟩ i c (cs.take i) (by rw[List.length_take];omega) (fun j v hj=>by
   rw[Addr.add_lit];rw[List.getElem?_take]at hj;split at hj
   ·exact hcs j v hj
   ·cases hj)
 have hrz:∀ty,(Builtin.append_ #[(ρ.t 24),(ρ.t 3)] ty #[.slice (some ⟨b,off,none⟩) i c,.int .i64 ((n:Int)+(m:Int)-(i:Int))]).run P w=
  .ok (.slice (some ⟨w.heap.size,0,none⟩) (n+m) (grownCap w (n+m) c (ρ.t 9))) (w.drew.alloc (.cells ((cs.take i).toArray++Builtin.zeroCells z.cells (n+m-i)++Builtin.zeroCells z.cells (grownCap w (n+m) c (ρ.t 9)-(n+m))) (ρ.t 9))):=fun ty=>by
  have h:=Lib.run_append_grow_zeros w (ρ.t 24) (ρ.t 3) ty (ρ.t 9) i0 _ .i64 .i64 L.t24 L.t3 hi0 hz0 (some ⟨b,off,none⟩) i c (cs.take i) hold (n+m-i) (by omega) (by omega) (by omega) (by omega) (by rw[hzb];exact Nat.le_trans (Nat.mul_le_mul_right _ (by omega)) (Nat.le_trans hbig (by decide))) (by rw[hzb,hik];exact growslice_fits hroom hbig);rw[hik]at h;rw[hkk];exact h
 obtain⟨G,hG⟩:∃G,G=grownCap w (n+m) c (ρ.t 9):=⟨_,rfl⟩;obtain⟨ROW,hROW⟩:∃ROW:Array Value,ROW=(cs.take i).toArray++Builtin.zeroCells z.cells (n+m-i)++Builtin.zeroCells z.cells (G-(n+m)):=⟨_,rfl⟩;rw[<- hG]at hrz ⊢;rw[<- hROW]at hrz ⊢
 have hRl:n+m<=ROW.size:=by
  rw[hROW];simp[Builtin.zeroCells,hz1c];omega
 obtain⟨W1,hW1⟩:∃W1,W1=w.drew.alloc (.cells ROW (ρ.t 9)):=⟨_,rfl⟩;rw[<- hW1]at hrz
 have hN:∀j,j<n+m->(W1.cell? ⟨w.heap.size,j,none⟩).isSome=true:=fun j hj=>by
  rw[hW1,World.cell?_alloc_at (w:=w.drew) ROW _ w.heap.size j rfl,Array.getElem?_eq_getElem (by omega)];rfl
 have hNf:∀j,W1.frozen? ⟨w.heap.size,j,none⟩=false:=fun j=>by rw[hW1];exact World.frozen?_alloc_at (w:=w.drew) ROW _ w.heap.size j rfl
 have hOb:∀j v,w.cell? ⟨b,j,none⟩=some v->W1.cell? ⟨b,j,none⟩=some v:=fun j v h=>by rw[hW1,World.cell?_alloc_past (w:=w.drew) _ b j hbw];exact h
 have hOv:∀j v,w.cell? ⟨vb,j,none⟩=some v->W1.cell? ⟨vb,j,none⟩=some v:=fun j v h=>by rw[hW1,World.cell?_alloc_past (w:=w.drew) _ vb j hvw];exact h
 have hcpA:∀(W:World),(∀x,W.cell? x=W1.cell? x)->(∀x,W.frozen? x=W1.frozen? x)->∀ty dc,(Builtin.copy_ #[(ρ.t 24),(ρ.t 24)] ty #[.slice (some ⟨w.heap.size,i,none⟩) (n+m-i) dc,.slice (some ⟨vb,voff,none⟩) m vc]).run P W=.ok (goInt vs.length) (W.setCells w.heap.size i vs):=fun W hWc hWf ty dc=>
  run_copy_cells W _ _ ty (ρ.t 9) w.heap.size i (n+m-i) dc ⟨vb,voff,none⟩ m vc vs L.t24 hsz (by rw[hvl];simp only[Nat.min_def];split <;> omega)
   (fun j v hj=>by rw[Addr.add_lit,hWc];exact hOv _ v (hvs j v hj))
   (fun j hj=>by rw[hWc];exact hN _ (by omega)) (fun j hj=>by rw[hWf];exact hNf _) h1v
 have hGn:n+m<=G:=by rw[hG];exact grownCap_ge w _ _ _
 have hG63:G<=9223372036854775807:=by
  have:=grownCap_le_maxLen w (n+m) c (ρ.t 9) (by unfold maxLen;omega);rw[<- hG]at this;unfold maxLen at this;omega
 have hGi:¬(G=i):=by omega
 have hGim:¬(G=i+m):=by omega
 have hci:¬(c=i):=by omega
 have hbN:b≠w.heap.size:=by omega
 have hdl:(cs.drop i).length=n-i:=by rw[List.length_drop,hcl]
 have hcpB:∀(W:World),(∀x,W.cell? x=(W1.setCells w.heap.size i vs).cell? x)->(∀x,W.frozen? x=(W1.setCells w.heap.size i vs).frozen? x)->∀ty dc sc,(Builtin.copy_ #[(ρ.t 24),(ρ.t 24)] ty #[.slice (some ⟨w.heap.size,i+m,none⟩) (n+m-(i+m)) dc,.slice (some ⟨b,off+i,none⟩) (n-i) sc]).run P W=.ok (goInt (cs.drop i).length) (W.setCells w.heap.size (i+m) (cs.drop i)):=fun W hWc hWf ty dc sc=>
  run_copy_cells W _ _ ty (ρ.t 9) w.heap.size (i+m) (n+m-(i+m)) dc ⟨b,off+i,none⟩ (n-i) sc (cs.drop i) L.t24 hsz (by rw[hdl];simp only[Nat.min_def];split <;> omega)
   (fun j v hj=>by
    rw[Addr.add_lit,hWc,World.cell?_setCells_out _ _ _ _ _ (fun h _=>absurd h hbN),Nat.add_assoc];exact hOb _ v (hcs (i+j) v (by rwa[List.getElem?_drop]at hj)))
   (fun j hj=>by rw[hWc];exact isSome_setCells _ _ _ _ (fun t ht=>hN _ (by omega)) _ (hN _ (by omega)))
   (fun j hj=>by rw[hWf,World.frozen?_setCells];exact hNf _) (fun v hv=>h1c v (List.mem_of_mem_drop hv))
 subst hW1;have hE1:∀x,((w.alloc (.cells ROW (ρ.t 9))).drew).cell? x=(w.drew.alloc (.cells ROW (ρ.t 9))).cell? x:=fun x=>rfl;have hE2:∀x,((w.alloc (.cells ROW (ρ.t 9))).drew).frozen? x=(w.drew.alloc (.cells ROW (ρ.t 9))).frozen? x:=fun x=>rfl;have hF1:∀x,(((w.alloc (.cells ROW (ρ.t 9))).drew.setCells w.heap.size i vs).drew).cell? x=((w.drew.alloc (.cells ROW (ρ.t 9))).setCells w.heap.size i vs).cell? x:=fun x=>rfl;have hF2:∀x,(((w.alloc (.cells ROW (ρ.t 9))).drew.setCells w.heap.size i vs).drew).frozen? x=((w.drew.alloc (.cells ROW (ρ.t 9))).setCells w.heap.size i vs).frozen? x:=fun x=>rfl;have hw1:IntKind.i64.wrap ((i:Int)+(m:Int))=(i:Int)+(m:Int):=by rw[IntKind.wrap_i64];omega
 have hb1:(0:Int)<=(i:Int)+(m:Int):=by omega
 have hin:i<=n:=by omega
 have htn:((i:Int)+(m:Int)).toNat=i+m:=by omega
 have hb3:(i:Int)<=(n:Int):=by omega
 clear hkk hik hold hROW hG hRl hz1c;obtain⟨_,_,FG⟩:=L.f22
 go_enter FG,Body2.n22_ntmps ρ
 go_wp2_with (first
  |(at_builtin;refine Lib.wpList_append_run _ rfl _ _ _ _ rfl _ _ rfl rfl _ _ (hrz _) ?_)
  |(at_builtin;refine wpList_copy_runI _ rfl _ _ (ρ.t 24) (ρ.t 24) rfl _ _ rfl rfl (hcpA _ hE1 hE2 _ _) ?_)
  |(at_builtin;refine wpList_copy_runI _ rfl _ _ (ρ.t 24) (ρ.t 24) rfl _ _ rfl rfl (hcpB _ (fun _=>rfl) (fun _=>rfl) _ _ _) ?_))
 go_region_law_o (refine step_copy_runI rfl _ _ (ρ.t 24) (ρ.t 24) rfl (.slice (some ⟨w.heap.size,i+m,none⟩) (n+m-(i+m)) (G-(i+m))) (.slice (some ⟨b,off+i,none⟩) (n-i) (c-i)) (by simp[Act.eval,Act.put]) (by simp[Act.eval,Act.put]) (hcpB _ hF1 hF2 (ρ.t 3) (G-(i+m)) (c-i)) ?_)
 go_wp2
 go_ret
 exact⟨rfl,rfl⟩
def insE(B:Nat):Env->List T->R:=fun _ args=>match args with
 |[.sl 1 cs,.int .i64 i,.sl 1 [y]]=>bif decide (0<=i)&&Nat.ble i.toNat cs.length&&decide ((cs.length+1)*B<=140737488355328)&&decide (cs.length<4294967296)
  then some (.sl 1 (cs.take i.toNat++y::cs.drop i.toNat),[])else none
 |_=>none
theorem ins_get{α:Type}(l:List α)(y:α)(i:Nat)(hi:i<=l.length)(j:Nat):(l.take i++y::l.drop i)[j]?=if j<i then l[j]? else if j=i then some y else l[j-1]?:=by
 rw[List.getElem?_append,List.length_take,Nat.min_eq_left hi];by_cases h1:j<i
 ·rw[if_pos h1,if_pos h1,List.getElem?_take,if_pos h1]
 ·rw[if_neg h1,if_neg h1];by_cases h2:j=i
  ·subst h2;simp
  ·rw[if_neg h2];obtain⟨k,rfl⟩:∃k,j=i+(k+1):=⟨j-i-1,by omega⟩;rw[show i+(k+1)-i=k+1 by omega,List.getElem?_cons_succ,List.getElem?_drop];congr 1
theorem wset_heap(b:Nat):∀(vs:List Value)(o:Nat)(w:World)(cur:Array Value)(e:TypeId),w.heap[b]?=some (.cells cur e (0,0))->
 (w.setCells b o vs).heap[b]?=some (.cells (setCells cur.toList o vs).toArray e (0,0))/\(∀k,k≠b->(w.setCells b o vs).heap[k]?=w.heap[k]?)/\(w.setCells b o vs).heap.size=w.heap.size/\
  (w.setCells b o vs).os=w.os/\(w.setCells b o vs).tape=w.tape/\(w.setCells b o vs).output=w.output
 |[],o,w,cur,e,hg=>by simp[World.setCells,setCells,hg]
 |v::r,o,w,cur,e,hg=>by
  have h1:(w.setCell ⟨b,o,none⟩ v).heap[b]?=some (.cells (cur.setIfInBounds o v) e (0,0)):=by
   simp[World.setCell,Array.getElem?_modify,hg]
  obtain⟨q1,q2,q3,q4,q5,q6⟩:=wset_heap b r (o+1) (w.setCell ⟨b,o,none⟩ v) _ e h1;rw[World.setCells];refine⟨by rw[q1];simp[setCells],fun k hk=>by rw[q2 k hk];simp[World.setCell,Array.getElem?_modify,Ne.symm hk],by rw[q3];simp[World.setCell],q4,q5,q6⟩
theorem ro_inv1{w:World}{cells:List T}{v:Value}{F:List Nat}(h:RO w (.sl 1 cells) v F) :
 (cells=[]/\F=[]/\∃a,v=.slice a 0 0)\/∃g cap cur e,∃(us:Nat->Value)(fs:Nat->List Nat),v=.slice (some ⟨g,0,none⟩) cells.length cap/\F=g::flat cells.length fs/\w.heap[g]?=some (.cells cur e (0,0))/\cells.length<=cap/\cap<=maxLen/\cur.size=cap/\
  (∀i,i<cells.length->cur[i]?=some (us i))/\(∀i x,cells[i]?=some x->RO w x (us i) (fs i))/\g∉flat cells.length fs/\ND cells.length fs:=by
 generalize hx:T.sl 1 cells=x at h;cases h with
 |int=>cases hx
 |bool=>cases hx
 |str=>cases hx
 |hole=>cases hx
 |mp=>cases hx
 |nil hsz=>
  injection hx with h1 h2;exact .inl ⟨h2,rfl,_,rfl⟩
 |sl vs fs hsz hg hlen hcap hmax hcur hv hc hnd=>
  rename_i sz cells' g len cap cur e;injection hx with h1 h2;subst h1;subst h2;rw[Nat.mul_one]at hlen hcur;subst hlen;rw[List.nodup_cons]at hnd;exact .inr ⟨g,cap,cur,e,vs,fs,rfl,rfl,hg,hcap,hmax,hcur,hv,hc,hnd.1,(nodup_flat _ _).1 hnd.2⟩
theorem ins_done{w w':World}{I J:Nat->Prop}{vs:Array Value}{F1 F2:List Nat}{cs:List T}{y:T}{i g' cap' n:Nat}{cur':Array Value}{e':TypeId}{us:Nat->Value}{fs:Nat->List Nat}{u0:Value}{f0:List Nat}
 (hn:cs.length=n) (hi:i<=n) (hlt:∀b,b∈F1++F2->b<w.heap.size) (hsub:∀b,b∈flat n fs->b∈F1) (hsub2:∀b,b∈f0->b∈F2) (hap:∀b,b∈F1->b∉F2)
 (hnd:ND n fs) (hnd2:f0.Nodup) (hg0:g'∉flat n fs) (hg1:g'∉f0) (hg2:g'∈F1\/w.heap.size<=g')
 (hr:∀j x,cs[j]?=some x->RO w x (us j) (fs j)) (hr2:RO w y u0 f0)
 (hos:w'.os=w.os) (htape:w'.tape=w.tape) (hout:w'.output=w.output) (hsize:w.heap.size<=w'.heap.size) (hsame:∀b,b<w.heap.size->b≠g'->w'.heap[b]?=w.heap[b]?)
 (hg:w'.heap[g']?=some (.cells cur' e' (0,0))) (hcap:n+1<=cap') (hmax:cap'<=maxLen) (hcur:cur'.size=cap')
 (hv:∀j,j<n+1->cur'[j]?=some (if j<i then us j else if j=i then u0 else us (j-1))) :
 ∃Fr Fo,Done ⟨some 0,.two 2,true,true,false⟩ w I J vs (F1++F2) (.sl 1 (cs.take i++y::cs.drop i),[]) (.slice (some ⟨g',0,none⟩) (n+1) cap') w' Fr Fo:=by
 have hl:(cs.take i++y::cs.drop i).length=n+1:=by simp;omega
 let us':Nat->Value:=fun j=>if j<i then us j else if j=i then u0 else us (j-1)
 let fs':Nat->List Nat:=fun j=>if j<i then fs j else if j=i then f0 else fs (j-1)
 have cases3:∀j,j<n+1->(j<i/\fs' j=fs j)\/(j=i/\fs' j=f0)\/(i<j/\j-1<n/\fs' j=fs (j-1)):=fun j hj=>by
  by_cases h1:j<i
  ·exact .inl ⟨h1,if_pos h1⟩
  ·by_cases h2:j=i
   ·exact .inr (.inl ⟨h2,by show(if j<i then _ else if j=i then _ else _)=_;rw[if_neg h1,if_pos h2]⟩)
   ·exact .inr (.inr ⟨by omega,by omega,by show(if j<i then _ else if j=i then _ else _)=_;rw[if_neg h1,if_neg h2]⟩)
 have hold:∀j,j<n->∀b,b∈fs j->b∈flat n fs:=fun j hj b hb=>mem_flat.2 ⟨j,hj,hb⟩
 have hin:∀b,b∈flat (n+1) fs'->b∈flat n fs\/b∈f0:=fun b hb=>by
  obtain⟨j,hj,hb⟩:=mem_flat.1 hb;rcases cases3 j hj with⟨h1,e⟩|⟨_,e⟩|⟨_,h1,e⟩ <;> rw[e]at hb
  ·exact .inl (hold j (by omega) b hb)
  ·exact .inr hb
  ·exact .inl (hold _ h1 b hb)
 have cross:∀b,b∈flat n fs->b∉f0:=fun b hb hb2=>hap b (hsub b hb) (hsub2 b hb2)
 have hnd':ND (n+1) fs':=by
  refine⟨fun j hj=>?_,fun j k hj hk hne b hb hb'=>?_⟩
  ·rcases cases3 j hj with⟨h1,e⟩|⟨_,e⟩|⟨_,h1,e⟩ <;> rw[e]
   ·exact hnd.1 j (by omega)
   ·exact hnd2
   ·exact hnd.1 _ h1
  ·rcases cases3 j hj with⟨h1,e⟩|⟨h1,e⟩|⟨h1,h2,e⟩ <;> rw[e]at hb <;> rcases cases3 k hk with⟨k1,e'⟩|⟨k1,e'⟩|⟨k1,k2,e'⟩ <;> rw[e']at hb'
   ·exact hnd.2 j k (by omega) (by omega) hne b hb hb'
   ·exact cross b (hold j (by omega) b hb) hb'
   ·exact hnd.2 j (k-1) (by omega) k2 (by omega) b hb hb'
   ·exact cross b (hold k (by omega) b hb') hb
   ·exact hne (by omega)
   ·exact cross b (hold _ k2 b hb') hb
   ·exact hnd.2 (j-1) k h2 (by omega) (by omega) b hb hb'
   ·exact cross b (hold _ h2 b hb) hb'
   ·exact hnd.2 (j-1) (k-1) h2 k2 (by omega) b hb hb'
 have hgn:g'∉flat (n+1) fs':=fun h=>by
  rcases hin _ h with h|h
  ·exact hg0 h
  ·exact hg1 h
 have hmem:∀b,b∈flat (n+1) fs'->b∈F1++F2:=fun b hb=>by
  rcases hin b hb with h|h
  ·exact List.mem_append_left _ (hsub b h)
  ·exact List.mem_append_right _ (hsub2 b h)
 have hkeep:∀b,b∈flat (n+1) fs'->w'.heap[b]?=w.heap[b]?:=fun b hb=>hsame b (hlt b (hmem b hb)) fun e=>hgn (e▸hb);refine⟨g'::flat (n+1) fs',[],⟨hos,htape,hout,hsize,fun b hb hn=>hsame b hb fun e=>?_⟩,fun b hb=>?_,by simp,?_,.inr (.inr ⟨rfl,rfl,rfl⟩)⟩
 ·subst e;rcases hg2 with h|h
  ·exact hn (List.mem_append_left _ h)
  ·omega
 ·rcases hb with hb|hb
  ·rcases List.mem_cons.1 hb with rfl|hb
   ·rcases hg2 with h|h
    ·exact .inl (List.mem_append_left _ h)
    ·exact .inr h
   ·exact .inl (hmem b hb)
  ·cases hb
 ·have h:=RO.sl (w:=w') (sz:=1) (cells:=cs.take i++y::cs.drop i) (g:=g') (len:=n+1) (cap:=cap') (cur:=cur') (e:=e') us' fs' Nat.one_pos hg (by rw[hl,Nat.mul_one]) hcap hmax (by rw[hcur,Nat.mul_one]) (fun j hj=>hv j (by omega))
   (fun j x hx=>by
    have hj:j<n+1:=by rw[<- hl];exact(List.getElem?_eq_some_iff.1 hx).1
    rw[ins_get cs y i (by omega)]at hx;have mv:∀{x:T}{v:Value},RO w x v (fs' j)->RO w' x v (fs' j):=fun h=>RO.move h fun b hb=>hkeep b (mem_flat.2 ⟨j,hj,hb⟩);by_cases h1:j<i
    ·rw[if_pos h1]at hx;have e1:us' j=us j:=if_pos h1;have e2:fs' j=fs j:=if_pos h1;rw[e1];apply mv;rw[e2];exact hr j x hx
    ·rw[if_neg h1]at hx;by_cases h2:j=i
     ·rw[if_pos h2]at hx;cases hx;have e1:us' j=u0:=by show(if j<i then _ else if j=i then _ else _)=_;rw[if_neg h1,if_pos h2]
      have e2:fs' j=f0:=by show(if j<i then _ else if j=i then _ else _)=_;rw[if_neg h1,if_pos h2]
      rw[e1];apply mv;rw[e2];exact hr2
     ·rw[if_neg h2]at hx;have e1:us' j=us (j-1):=by show(if j<i then _ else if j=i then _ else _)=_;rw[if_neg h1,if_neg h2]
      have e2:fs' j=fs (j-1):=by show(if j<i then _ else if j=i then _ else _)=_;rw[if_neg h1,if_neg h2]
      rw[e1];apply mv;rw[e2];exact hr _ x hx)
   (by rw[hl];exact List.nodup_cons.2 ⟨hgn,(nodup_flat _ _).2 hnd'⟩)
  rw[hl]at h;exact h
theorem push_new(w:World)(o:Obj):(w.heap.push o)[w.heap.size]?=some o:=by simp
theorem push_old{w:World}{o:Obj}{b:Nat}(h:b<w.heap.size):(w.heap.push o)[b]?=w.heap[b]?:=by
 rw[Array.getElem?_push,if_neg (by omega)]
theorem row_get{n:Nat}{us:Nat->Value}{j:Nat}(h:j<n):((List.range n).map us)[j]?=some (us j):=by
 rw[List.getElem?_map,List.getElem?_range h];rfl
theorem insert_sound{z:Value}{B:Nat}(L:InsL.n22 P ρ)(h29:OvL P ρ)(hi9:(P.info? (ρ.t 9)).map (fun i=>(i.zero,i.size,i.bytes))=some (some z,1,B))(hz1c:z.cells = #[z])(hB:0<B){fn:Func}(hf:P.funcs[ρ.f 22]?=some fn)(hb:fn.body.isSome=true)(hname:(fn.name=="runtime.NumGoroutine")=false)
 {E:Env} {args:List T} {r:T×List T} (h:insE B E args=some r):Meets P ⟨some 0,.two 2,true,true,false⟩ (ρ.f 22) args r:=by
 unfold insE at h;split at h
 case h_2=>cases h
 rename_i cs i y;replace h:=ev_true h;obtain⟨hok,h⟩:=h;cases h;simp only[Bool.and_eq_true,decide_eq_true_eq]at hok;obtain⟨⟨⟨hi0,hil⟩,hbig⟩,hsmall⟩:=hok;have hil:i.toNat<=cs.length:=Nat.le_of_ble_eq_true hil;obtain⟨k,rfl⟩:∃k:Nat,i=k:=⟨i.toNat,by omega⟩;rw[Int.toNat_natCast]at hil ⊢;intro w I J vs F hp;obtain⟨x,v,F1,hx,hv,ha,hmore⟩:=hp.turned 0 rfl;obtain⟨y',u,F2,hy,hu,_,hro2,rfl,hap⟩:=hmore;have hx:T.sl 1 cs=x:=by simpa using hx
 subst hx;have hy:T.sl 1 [y]=y':=by simpa using hy
 subst hy;have hro1:RO w (.sl 1 cs) v F1:=ha.2;have hl3:vs.size=3:=hp.len
 have h1:vs[1]?=some (.int .i64 k):=by
  have hlt:1<vs.size:=by omega
  have hres:=hp.vals 1 (.int .i64 k) vs[1] (fun h=>by cases h) (fun h=>by cases h) rfl (by simp[hlt]);have hrb:RB w I J (.int .i64 k) vs[1]:=hres.1
  have:vs[1]=.int .i64 k:=by
   generalize vs[1]=q at hrb;cases hrb;rfl
  simp[hlt,this]
 have hvs:vs = #[v,.int .i64 k,u]:=by
  apply Array.ext
  ·rw[hl3];rfl
  ·intro j h2 h3;have:j<3:=by omega
   match j,this with
   |0,_=>simpa[h2]using hv
   |1,_=>simpa[h2]using h1
   |2,_=>simpa[h2]using hu
 subst hvs;refine does_calls hf hb hname ?_;rcases ro_inv1 hro2 with⟨h,_⟩|⟨vb,vc,cur2,e2,us2,fs2,rfl,rfl,hg2,hcap2,hmax2,hcur2,hv2,hc2,hn2,hd2⟩
 ·cases h
 have hy2:RO w y (us2 0) (fs2 0):=hc2 0 y rfl;have hu2:cur2[0]?=some (us2 0):=hv2 0 (by simp);have hf2:flat [y].length fs2=fs2 0:=by simp[flat]
 have hlt2:∀b,b∈vb::flat [y].length fs2->b<w.heap.size:=fun b hb=>RO.lt hro2 b hb
 have hvbcell:∀j q,[us2 0][j]?=some q->w.cell? ⟨vb,0+j,none⟩=some q:=fun j q hj=>by
  cases j with
  |zero=>cases hj;simp[World.cell?,hg2,hu2]
  |succ j=>simp at hj
 have hone2:∀q∈[us2 0],q.oneCell'=true:=fun q hq=>by rw[List.mem_singleton.1 hq];exact hy2.one
 have hsub2:∀b,b∈fs2 0->b∈vb::flat [y].length fs2:=fun b hb=>List.mem_cons_of_mem _ (by rw[hf2];exact hb);have hnd2:(fs2 0).Nodup:=hy2.nodup
 have row:∀(n c:Nat)(U:List Value)(R:Array Value),U.length=n->n+1<=4294967296->(U++[us2 0]).length<=grownCap w (n+1) c (ρ.t 9):=fun n c U R hU _=>by
  rw[List.length_append,hU];exact grownCap_ge w _ _ _
 have capmax:∀c,grownCap w (cs.length+1) c (ρ.t 9)<=maxLen:=fun c=>grownCap_le_maxLen w _ c _ (by unfold maxLen;omega);have capge:∀c,cs.length+1<=grownCap w (cs.length+1) c (ρ.t 9):=fun c=>grownCap_ge w _ _ _
 have fresh:∀(us:Nat->Value)(fs:Nat->List Nat)(cur':Array Value)(w':World)(c:Nat),(∀b,b∈flat cs.length fs->b∈F1)->ND cs.length fs->(∀j x,cs[j]?=some x->RO w x (us j) (fs j))->
  w'.os=w.os->w'.tape=w.tape->w'.output=w.output->w'.heap.size=w.heap.size+1->(∀b,b<w.heap.size->w'.heap[b]?=w.heap[b]?)->w'.heap[w.heap.size]?=some (.cells cur' (ρ.t 9) (0,0))->
  cur'.size=grownCap w (cs.length+1) c (ρ.t 9)->(∀j,j<cs.length+1->cur'[j]?=some (if j<k then us j else if j=k then us2 0 else us (j-1)))->
  ∃Fr Fo,Done ⟨some 0,.two 2,true,true,false⟩ w I J #[v,.int .i64 k,.slice (some ⟨vb,0,none⟩) [y].length vc] (F1++vb::flat [y].length fs2) (.sl 1 (cs.take k++y::cs.drop k),[]) (.slice (some ⟨w.heap.size,0,none⟩) (cs.length+1) (grownCap w (cs.length+1) c (ρ.t 9))) w' Fr Fo:=
  fun us fs cur' w' c hsub hnd hr q1 q2 q3 q4 q5 q6 q7 q8=>by
   have hlt:∀b,b∈F1++vb::flat [y].length fs2->b<w.heap.size:=fun b hb=>by
    rcases List.mem_append.1 hb with hb|hb
    ·exact RO.lt hro1 b hb
    ·exact hlt2 b hb
   exact ins_done (F1:=F1) rfl hil hlt hsub hsub2 hap hnd hnd2 (fun h=>by have:=RO.lt hro1 _ (hsub _ h);omega) (fun h=>by have:=hlt2 _ (hsub2 _ h);omega) (.inr (Nat.le_refl _)) hr hy2
    q1 q2 q3 (by omega) (fun b hb _=>q5 b hb) q6 (capge c) (capmax c) q7 q8
 have zlen:∀q,(Builtin.zeroCells z.cells q).size=q:=fun q=>by simp[Builtin.zeroCells,hz1c]
 rcases ro_inv1 hro1 with⟨hcs,rfl,a,rfl⟩|⟨g,cap,cur,e,us,fs,rfl,rfl,hg,hcap,hmax,hcur,hvv,hcc,hgn,hd⟩
 ·-- nothing was there
  subst hcs;have hk:k=0:=by simpa using hil
  subst hk;refine Calls.mono (insert_end_grow L h29 hi9 hz1c hB a 0 0 vb 0 1 vc [] [us2 0] w Nat.one_pos (Nat.le_refl _) (by omega) (by simpa using hbig) rfl rfl (fun _=>rfl) (fun a' _ j q hj=>by simp at hj) hvbcell hone2) ?_;rintro _ _ ⟨rfl,rfl⟩;refine⟨_,rfl,fresh (fun _=>undef) (fun _=>[]) _ _ 0 (by simp[flat]) (ND.nil _) (fun j x hx=>by simp at hx) rfl rfl rfl (Array.size_push _) (fun b hb=>push_old hb) (push_new _ _) ?_ fun j hj=>?_⟩
  ·have h:0+1<=grownCap w (0+1) 0 (ρ.t 9):=capge 0;rw[Array.size_append,zlen];show 1+(grownCap w (0+1) 0 (ρ.t 9)-(0+1))=grownCap w (0+1) 0 (ρ.t 9);omega
  ·have:j=0:=by simpa using hj
   subst this;rw[Array.getElem?_append_left (by simp)];rfl
 ·have U:((List.range cs.length).map us).length=cs.length:=by simp
  have hcells:∀j q,((List.range cs.length).map us)[j]?=some q->w.cell? ⟨g,0+j,none⟩=some q:=fun j q hj=>by
   have hj':j<cs.length:=by have:=(List.getElem?_eq_some_iff.1 hj).1;simpa using this
   rw[row_get hj']at hj;cases hj;simp[World.cell?,hg,hvv j hj']
  have hone:∀q∈(List.range cs.length).map us,q.oneCell'=true:=fun q hq=>by
   obtain⟨j,hj,rfl⟩:=List.mem_map.1 hq;have hj:=List.mem_range.1 hj;exact(hcc j _ (List.getElem?_eq_getElem hj)).one
  have hgl:g<w.heap.size:=(Array.getElem?_eq_some_iff.1 hg).1;have hvl:vb<w.heap.size:=(Array.getElem?_eq_some_iff.1 hg2).1;have hne:vb≠g:=fun e=>hap g (by simp) (by simp[e]);have hsub:∀b,b∈flat cs.length fs->b∈g::flat cs.length fs:=fun b hb=>List.mem_cons_of_mem _ hb
  have hsome:∀j,j<cap->(w.cell? ⟨g,0+j,none⟩).isSome=true:=fun j hj=>by
   simp[World.cell?,hg];omega
  have hfz:∀j,w.frozen? ⟨g,j,none⟩=false:=fun j=>by simp[World.frozen?,hg]
  have hfz2:∀j,w.frozen? ⟨vb,j,none⟩=false:=fun j=>by simp[World.frozen?,hg2]
  have hlt:∀b,b∈(g::flat cs.length fs)++vb::flat [y].length fs2->b<w.heap.size:=fun b hb=>by
   rcases List.mem_append.1 hb with hb|hb
   ·exact RO.lt hro1 b hb
   ·exact hlt2 b hb
  have hc63:cap<=9223372036854775807:=by unfold maxLen at hmax;omega
  have place:∀(cur':Array Value)(w':World),w'.os=w.os->w'.tape=w.tape->w'.output=w.output->w'.heap.size=w.heap.size->(∀b,b≠g->w'.heap[b]?=w.heap[b]?)->w'.heap[g]?=some (.cells cur' e (0,0))->cs.length+1<=cap->
   cur'.size=cap->(∀j,j<cs.length+1->cur'[j]?=some (if j<k then us j else if j=k then us2 0 else us (j-1)))->
   ∃Fr Fo,Done ⟨some 0,.two 2,true,true,false⟩ w I J #[.slice (some ⟨g,0,none⟩) cs.length cap,.int .i64 k,.slice (some ⟨vb,0,none⟩) [y].length vc] ((g::flat cs.length fs)++vb::flat [y].length fs2) (.sl 1 (cs.take k++y::cs.drop k),[]) (.slice (some ⟨g,0,none⟩) (cs.length+1) cap) w' Fr Fo:=
   fun cur' w' q1 q2 q3 q4 q5 q6 q7 q8 q9=>
    ins_done rfl hil hlt hsub hsub2 hap hd hnd2 hgn (fun h=>hap g (by simp) (hsub2 _ h)) (.inl (by simp)) hcc hy2 q1 q2 q3 (by omega) (fun b _ hb=>q5 b hb) q6 q7 hmax q8 q9
  by_cases hk:k=cs.length
  ·subst hk
   have hval:∀j,j<cs.length+1->(if j<cs.length then us j else if j=cs.length then us2 0 else us (j-1))=if j<cs.length then us j else us2 0:=fun j hj=>by
    split
    ·rfl
    ·rw[if_pos (by omega)]
   by_cases hroom:cs.length+1<=cap
   ·refine Calls.mono (insert_end_room L h29 hi9 hz1c hB g 0 cs.length cap vb 0 1 vc [us2 0] w Nat.one_pos hroom hc63 rfl (fun j hj=>by rw[Nat.add_assoc];exact hsome _ (by omega)) (fun j hj=>hfz _) hvbcell hone2) ?_;rintro _ _ ⟨rfl,rfl⟩;obtain⟨q1,q2,q3,q4,q5,q6⟩:=wset_heap g [us2 0] (0+cs.length) w cur e hg;refine⟨_,rfl,place _ _ q4 q5 q6 q3 q2 q1 hroom (by simp[setCells_len,hcur]) fun j hj=>?_⟩;rw[hval j hj,Nat.zero_add,List.getElem?_toArray,setCells_get _ _ _ _ (by simp;omega)];by_cases h1:j<cs.length
    ·rw[if_neg (by omega),if_pos h1];simpa using hvv j h1
    ·have:j=cs.length:=by omega
     subst this;simp
   ·refine Calls.mono (insert_end_grow L h29 hi9 hz1c hB (some ⟨g,0,none⟩) cs.length cap vb 0 1 vc ((List.range cs.length).map us) [us2 0] w Nat.one_pos hcap (by omega) hbig U rfl (fun h=>by cases h) (fun a' ha' j q hj=>by cases ha';rw[Addr.add_lit];exact hcells j q hj) hvbcell hone2) ?_;rintro _ _ ⟨rfl,rfl⟩;refine⟨_,rfl,fresh us fs _ _ cap hsub hd hcc rfl rfl rfl (Array.size_push _) (fun b hb=>push_old hb) (push_new _ _) ?_ fun j hj=>?_⟩
    ·have:=capge cap;simp[zlen];omega
    ·rw[hval j hj,Array.getElem?_append_left (by simp;omega),List.getElem?_toArray,List.getElem?_append,U];by_cases h1:j<cs.length
     ·rw[if_pos h1,if_pos h1,row_get h1]
     ·have:j=cs.length:=by omega
      subst this;simp
  ·have hk':k<cs.length:=by omega
   have hdl:(((List.range cs.length).map us).drop k).length=cs.length-k:=by simp
   have hdg:∀j,k+1<=j->j<cs.length+1->(((List.range cs.length).map us).drop k)[j-(k+1)]?=some (us (j-1)):=fun j h1 h2=>by
    rw[List.getElem?_drop,show k+(j-(k+1))=j-1 by omega,row_get (by omega)]
   by_cases hroom:cs.length+1<=cap
   ·refine Calls.mono (insert_shift L h29 hi9 hz1c hB g 0 cs.length cap k vb 0 1 vc ((List.range cs.length).map us) [us2 0] w hk' Nat.one_pos hroom hc63 hne U rfl hcells (fun j hj=>hsome j (by omega)) (fun j hj=>hfz _) hvbcell hone hone2
     e2 e cur2.size cur.size (by simp[World.shape?,hg2]) (by simp[World.shape?,hg]) (by omega) (hfz2 _) (hfz2 _)) ?_
    rintro _ _ ⟨rfl,rfl⟩;obtain⟨q1,q2,q3,q4,q5,q6⟩:=wset_heap g (((List.range cs.length).map us).drop k) (0+(k+1)) w.drew cur e hg;obtain⟨p1,p2,p3,p4,p5,p6⟩:=wset_heap g [us2 0] (0+k) _ _ e q1;refine⟨_,rfl,place _ _ (p4.trans q4) (p5.trans q5) (p6.trans q6) (p3.trans q3) (fun b hb=>(p2 b hb).trans (q2 b hb)) p1 hroom (by simp[setCells_len,hcur]) fun j hj=>?_⟩;rw[List.getElem?_toArray,List.toList_toArray,setCells_get _ _ _ _ (by simp[setCells_len];omega),setCells_get _ _ _ _ (by rw[hdl];simp;omega),hdl];simp only[Nat.zero_add,List.length_singleton];by_cases h1:j<k
    ·rw[if_neg (by omega),if_neg (by omega),if_pos h1];simpa using hvv j (by omega)
    ·by_cases h2:j=k
     ·subst h2;rw[if_pos (by omega),if_neg h1,if_pos rfl];simp
     ·rw[if_neg (by omega),if_pos (by omega),if_neg h1,if_neg h2,hdg j (by omega) hj]
   ·refine Calls.mono (insert_grow L h29 hi9 hz1c hB g 0 cs.length cap k vb 0 1 vc ((List.range cs.length).map us) [us2 0] w hk' Nat.one_pos hcap (by omega) hbig U rfl hcells hvbcell hone hone2) ?_;rintro _ _ ⟨rfl,rfl⟩;have hnew:((w.alloc (.cells ((((List.range cs.length).map us).take k).toArray++Builtin.zeroCells z.cells (cs.length+1-k)++Builtin.zeroCells z.cells (grownCap w (cs.length+1) cap (ρ.t 9)-(cs.length+1))) (ρ.t 9))).drew).heap[w.heap.size]?=some (.cells ((((List.range cs.length).map us).take k).toArray++Builtin.zeroCells z.cells (cs.length+1-k)++Builtin.zeroCells z.cells (grownCap w (cs.length+1) cap (ρ.t 9)-(cs.length+1))) (ρ.t 9) (0,0)):=push_new _ _;obtain⟨q1,q2,q3,q4,q5,q6⟩:=wset_heap w.heap.size [us2 0] k _ _ _ hnew;obtain⟨p1,p2,p3,p4,p5,p6⟩:=wset_heap w.heap.size (((List.range cs.length).map us).drop k) (k+1) ((w.alloc (.cells ((((List.range cs.length).map us).take k).toArray++Builtin.zeroCells z.cells (cs.length+1-k)++Builtin.zeroCells z.cells (grownCap w (cs.length+1) cap (ρ.t 9)-(cs.length+1))) (ρ.t 9))).drew.setCells w.heap.size k [us2 0]).drew _ _ q1;have hge:=capge cap
    have hsz:((((List.range cs.length).map us).take k).toArray++Builtin.zeroCells z.cells (cs.length+1-k)++Builtin.zeroCells z.cells (grownCap w (cs.length+1) cap (ρ.t 9)-(cs.length+1))).size=grownCap w (cs.length+1) cap (ρ.t 9):=by
     simp[zlen];omega
    have hszl:=(Array.length_toList (xs:=(((List.range cs.length).map us).take k).toArray++Builtin.zeroCells z.cells (cs.length+1-k)++Builtin.zeroCells z.cells (grownCap w (cs.length+1) cap (ρ.t 9)-(cs.length+1)))).trans hsz;refine⟨_,rfl,fresh us fs _ _ cap hsub hd hcc (p4.trans q4) (p5.trans q5) (p6.trans q6) (p3.trans (q3.trans (Array.size_push _))) (fun b hb=>(p2 b (by omega)).trans ((q2 b (by omega)).trans ?_)) p1 ?_ fun j hj=>?_⟩
    ·exact push_old hb
    ·rw[List.size_toArray,setCells_len,List.toList_toArray,setCells_len];exact hszl
    ·rw[List.getElem?_toArray,List.toList_toArray,setCells_get _ _ _ _ (by rw[hdl,setCells_len,hszl];omega),setCells_get _ _ _ _ (by rw[hszl];simp;omega),hdl];simp only[List.length_singleton];by_cases h1:j<k
     ·rw[if_neg (by omega),if_neg (by omega),if_pos h1,Array.getElem?_toList,Array.append_assoc,Array.getElem?_append_left (by simp;omega),List.getElem?_toArray,List.getElem?_take,if_pos h1,row_get (by omega)]
     ·by_cases h2:j=k
      ·subst h2;rw[if_neg (by omega),if_pos (by omega),if_neg h1,if_pos rfl];simp
      ·rw[if_pos (by omega),if_neg h1,if_neg h2,hdg j (by omega) hj]
end Ev
end
section
namespace Ev
open Go Go.Sort Go.RowKit
def intsOf:List T->Option (List Int)
 |[]=>some []
 |x::r=>match x with
  |.int .i64 n=>(intsOf r).map (n :: ·)
  |_=>none
def intsT(zs:List Int):List T:=zs.map (T.int .i64)
theorem intsOf_intsT:∀zs:List Int,intsOf (intsT zs)=some zs
 |[]=>rfl
 |z::zs=>by
  show(intsOf (intsT zs)).map (z :: ·)=some (z::zs);rw[intsOf_intsT zs];rfl
theorem intsOf_eq:∀{cs:List T}{zs:List Int},intsOf cs=some zs->cs=intsT zs
 |[],zs,h=>by
  have:some []=some zs:=h;cases this;rfl
 |x::r,zs,h=>by
  unfold intsOf at h;split at h
  ·rename_i n;rw[Option.map_eq_some_iff]at h;obtain⟨zs',h1,rfl⟩:=h;rw[intsOf_eq h1];rfl
  ·cases h
theorem get_intsT{zs:List Int}{i:Nat}{x:T}(h:(intsT zs)[i]?=some x):x=.int .i64 zs[i]! := by
 unfold intsT at h;rw[List.getElem?_map,Option.map_eq_some_iff]at h;obtain⟨n,hn,rfl⟩:=h;have:=List.getElem?_eq_some_iff.1 hn;obtain⟨hi,hn⟩:=this;rw[getElem!_pos zs i hi,hn]
theorem ro_ints{w:World}{g cap:Nat}{cur:Array Value}{e:TypeId}{zs:List Int}(hg:w.heap[g]?=some (.cells cur e (0,0)))(hcap:zs.length<=cap)(hmax:cap<=maxLen)(hcur:cur.size=cap)
 (hv:∀i,i<zs.length->cur[i]?=some (.int .i64 zs[i]!)):RO w (.sl 1 (intsT zs)) (.slice (some ⟨g,0,none⟩) zs.length cap) [g]:=by
 have hF:(List.range (intsT zs).length).flatMap (fun _:Nat=>([]:List Nat))=[]:=by
  simp
 have h:=RO.sl (w:=w) (sz:=1) (cells:=intsT zs) (g:=g) (len:=zs.length) (cap:=cap) (cur:=cur) (e:=e) (fun i=>.int .i64 zs[i]!) (fun _=>[]) (Nat.one_pos) hg
  (by simp[intsT]) hcap hmax (by rw[hcur,Nat.mul_one]) (fun i hi=>hv i (by simpa[intsT]using hi)) (fun i x hi=>by rw[get_intsT hi];exact .int _ _) (by rw[hF];simp)
 rw[hF]at h;exact h
theorem ro_ints_inv{w:World}{zs:List Int}{v:Value}{F:List Nat}(h:RO w (.sl 1 (intsT zs)) v F) :
 (zs=[]/\F=[]/\∃a,v=.slice a 0 0)\/∃g cap cur e,v=.slice (some ⟨g,0,none⟩) zs.length cap/\F=[g]/\w.heap[g]?=some (.cells cur e (0,0))/\zs.length<=cap/\cap<=maxLen/\cur.size=cap/\
  ∀i,i<zs.length->cur[i]?=some (.int .i64 zs[i]!):=by
 generalize hx:T.sl 1 (intsT zs)=x at h;cases h with
 |int=>cases hx
 |bool=>cases hx
 |str=>cases hx
 |hole=>cases hx
 |mp=>cases hx
 |nil hsz=>
  rename_i sz a;injection hx with h1 h2
  have:zs=[]:=by
   cases zs with
   |nil=>rfl
   |cons=>simp[intsT]at h2
  exact .inl ⟨this,rfl,_,rfl⟩
 |sl vs fs hsz hg hlen hcap hmax hcur hv hc hnd=>
  rename_i sz cells g len cap cur e;injection hx with h1 h2;subst h1;subst h2;have hl:len=zs.length:=by simpa[intsT]using hlen.symm
  subst hl
  have each:∀i,i<zs.length->vs i=.int .i64 zs[i]! /\ fs i=[]:=fun i hi=>by
   have hi':i<(intsT zs).length:=by simpa[intsT]using hi
   have h3:=hc i _ (List.getElem?_eq_getElem hi');rw[get_intsT (List.getElem?_eq_getElem hi')]at h3;generalize vs i=u at h3;generalize fs i=G at h3;cases h3;exact⟨rfl,rfl⟩
  have hF:(List.range (intsT zs).length).flatMap fs=[]:=by
   rw[List.flatMap_eq_nil_iff];intro i hi;exact(each i (by simpa[intsT]using hi)).2
  rw[hF];exact .inr ⟨g,cap,cur,e,rfl,rfl,hg,hcap,hmax,by simpa using hcur,fun i hi=>by rw[hv i (by simpa[intsT]using hi),(each i hi).1]⟩
theorem holds_ints{w:World}{g:Nat}{cur:Array Value}{e:TypeId}{zs:List Int}(hg:w.heap[g]?=some (.cells cur e (0,0)))(hv:∀i,i<zs.length->cur[i]?=some (.int .i64 zs[i]!)) :
 Holds (Value.int .i64) w g 0 zs.toArray:=fun j hj=>by
 have hj':j<zs.length:=by simpa using hj
 refine⟨?_,?_⟩
 ·rw[Nat.zero_add,cell_of_cells hg,hv j hj'];simp[hj']
 ·simp[World.frozen?,hg]
theorem after_row{w:World}{g n:Nat}{cur:Array Value}{e:TypeId}{d:Array Int}{os:Array Obj}(hg:w.heap[g]?=some (.cells cur e (0,0))) :
 Kp (· ∈ [g]) w (grow (putRow (Value.int .i64) (Sort.ahead w n) g 0 d) os)/\
 (grow (putRow (Value.int .i64) (Sort.ahead w n) g 0 d) os).heap[g]?=some (.cells (putCells (Value.int .i64) 0 d cur) e (0,0)):=by
 have hlt:=heap_lt hg;have hs:(putRow (Value.int .i64) (Sort.ahead w n) g 0 d).heap.size=w.heap.size:=by rw[size_putRow];rfl
 refine⟨⟨rfl,rfl,rfl,?_,fun b hb hn=>?_⟩,?_⟩
 ·show w.heap.size<=((putRow (Value.int .i64) (Sort.ahead w n) g 0 d).heap++os).size;rw[Array.size_append,hs];omega
 ·show((putRow (Value.int .i64) (Sort.ahead w n) g 0 d).heap++os)[b]?=_;rw[Array.getElem?_append_left (by rw[hs];exact hb)];have hne:g≠b:=fun e=>hn (by simp[e]);simp[putRow,mapBlock,Array.getElem?_modify,hne,Sort.ahead]
 ·show((putRow (Value.int .i64) (Sort.ahead w n) g 0 d).heap++os)[g]?=_;rw[Array.getElem?_append_left (by rw[hs];exact hlt)];simp[putRow,mapBlock,Array.getElem?_modify,Sort.ahead,hg,onCells]
theorem put_get{d:Array Int}{cur:Array Value}{i:Nat}(hd:d.size<=cur.size)(hi:i<d.size):(putCells (Value.int .i64) 0 d cur)[i]?=some (.int .i64 d[i]!):=by
 have:i<cur.size:=by omega
 simp[putCells,Array.getElem?_mapIdx,this,hi]
def sortE:Env->List T->R:=fun _ args=>match args with
 |[.sl 1 cs]=>(intsOf cs).bind fun zs=>bif decide (zs.length<4611686018427387904)then some (.tup [],[.sl 1 (intsT (zs.mergeSort fun x y=>decide (x<=y)))])else none
 |_=>none
theorem sort_sound{P:Program}{f:FuncId}{fn:Func}(hf:P.funcs[f]?=some fn)(hb:fn.body.isSome=true)(hname:(fn.name=="runtime.NumGoroutine")=false)
 (h1:∀(blk off cap:Nat)(zs:List Int)(w:World),Holds (Value.int .i64) w blk off zs.toArray->blk<w.heap.size->zs.length<4611686018427387904->
  Calls P f #[.slice (some ⟨blk,off,none⟩) zs.length cap] w fun e w'=>e=.returned (.tuple #[])/\∃n os,w'=grow (putRow (Value.int .i64) (Sort.ahead w n) blk off (zs.mergeSort fun x y=>decide (x<=y)).toArray) os)
 (h0:∀(p:Option Addr)(cap:Nat)(w:World),Calls P f #[.slice p 0 cap] w fun e w'=>e=.returned (.tuple #[])/\w'=w)
 {E:Env} {args:List T} {r:T×List T} (h:sortE E args=some r):Meets P ⟨some 0,.sl,false,false,false⟩ f args r:=by
 unfold sortE at h;split at h
 case h_2=>cases h
 rename_i cs;rw[Option.bind_eq_some_iff]at h;obtain⟨zs,hcs,h⟩:=h;replace h:=ev_true h;obtain⟨hlen,h⟩:=h;have hlen:zs.length<4611686018427387904:=by simpa using hlen
 cases h;have:=intsOf_eq hcs;subst this;intro w I J vs F hp;obtain⟨x,v,F1,hx,hv,ha,hmore⟩:=hp.turned 0 rfl;obtain rfl:F=F1:=hmore.symm;have hx:T.sl 1 (intsT zs)=x:=by simpa using hx
 subst hx
 have hvs:vs = #[v]:=by
  have hl:vs.size=1:=hp.len;apply Array.ext
  ·rw[hl];rfl
  ·intro i h2 h3;have:i=0:=by rw[hl]at h2;omega
   subst this;have:=Array.getElem?_eq_some_iff.1 hv;obtain⟨_,h4⟩:=this;simpa using h4
 subst hvs;have hro:RO w (.sl 1 (intsT zs)) v F:=ha.2;refine does_calls hf hb hname ?_;have hres:∀(w':World)(I' J':Nat->Prop),ResT w' I' J' false (.tup []) (.tuple #[]) []:=fun w' I' J'=>⟨#[],fun _=>[],rfl,rfl,by simp[ND,flat],rfl,by simp⟩;rcases ro_ints_inv hro with⟨rfl,rfl,a,rfl⟩|⟨g,cap,cur,e,rfl,rfl,hg,hcap,hmax,hcur,hcells⟩
 ·refine Calls.mono (h0 a 0 w) ?_;rintro _ _ ⟨rfl,rfl⟩;refine⟨_,rfl,[],[],Kp.refl _ _,by simp,by simp,hres _ _ _,.inr (.inl ⟨0,_,_,rfl,rfl,rfl,hv,⟨_,_,rfl⟩,?_⟩)⟩;have:(([]:List Int).mergeSort fun x y=>decide (x<=y))=[]:=List.mergeSort_nil;rw[this];exact .nil Nat.one_pos
 ·refine Calls.mono (h1 g 0 cap zs w (holds_ints hg hcells) (heap_lt hg) hlen) ?_;rintro _ _ ⟨rfl,n,os,rfl⟩;obtain⟨q1,q2⟩:=after_row (n:=n) (d:=(zs.mergeSort fun x y=>decide (x<=y)).toArray) (os:=os) hg;refine⟨_,rfl,[],[g],q1,fun b hb=>.inl (by simpa using hb),by simp,hres _ _ _,.inr (.inl ⟨0,_,_,rfl,rfl,rfl,hv,⟨_,_,rfl⟩,?_⟩)⟩;have hl:(zs.mergeSort fun x y=>decide (x<=y)).length=zs.length:=List.length_mergeSort _
  have h5:=ro_ints (zs:=zs.mergeSort fun x y=>decide (x<=y)) (cap:=cap) q2 (by rw[hl];exact hcap) hmax (by simpa[putCells]using hcur) (fun i hi=>by
   rw[put_get (by simp;omega) (by simpa using hi)];simp[hi])
  rw[hl]at h5;exact h5
def compactE:Env->List T->R:=fun _ args=>match args with
 |[.sl 1 cs]=>(intsOf cs).bind fun zs=>bif decide (zs.length<4611686018427387904)then some (.sl 1 (intsT (Lib.compact zs)),[])else none
 |_=>none
theorem compact_len(zs:List Int):(Lib.compact zs).length<=zs.length:=by
 unfold Lib.compact Lib.compactUpTo;rw[List.length_map];exact Nat.le_trans (List.length_filter_le _ _) (by simp)
theorem compact_sound{P:Program}{f:FuncId}{fn:Func}(hf:P.funcs[f]?=some fn)(hb:fn.body.isSome=true)(hname:(fn.name=="runtime.NumGoroutine")=false)
 (h1:∀(blk off cap:Nat)(zs:List Int)(w:World),Holds (Value.int .i64) w blk off zs.toArray->zs.length<=9223372036854775807->zs.length<=cap->
  Calls P f #[.slice (some ⟨blk,off,none⟩) zs.length cap] w fun e w'=>e=.returned (.slice (some ⟨blk,off,none⟩) (Lib.compact zs).length cap)/\
   ∃q,w'=putRow (Value.int .i64) (Sort.ahead w q) blk off (Lib.compact zs++List.replicate (zs.length-(Lib.compact zs).length) 0).toArray)
 (h0:∀(p:Option Addr)(cap:Nat)(w:World),Calls P f #[.slice p 0 cap] w fun e w'=>e=.returned (.slice p 0 cap)/\w'=w)
 {E:Env} {args:List T} {r:T×List T} (h:compactE E args=some r):Meets P ⟨some 0,.sl,true,true,false⟩ f args r:=by
 unfold compactE at h;split at h
 case h_2=>cases h
 rename_i cs;rw[Option.bind_eq_some_iff]at h;obtain⟨zs,hcs,h⟩:=h;replace h:=ev_true h;obtain⟨hlen,h⟩:=h;have hlen:zs.length<4611686018427387904:=by simpa using hlen
 cases h;have:=intsOf_eq hcs;subst this;intro w I J vs F hp;obtain⟨x,v,F1,hx,hv,ha,hmore⟩:=hp.turned 0 rfl;obtain rfl:F=F1:=hmore.symm;have hx:T.sl 1 (intsT zs)=x:=by simpa using hx
 subst hx
 have hvs:vs = #[v]:=by
  have hl:vs.size=1:=hp.len;apply Array.ext
  ·rw[hl];rfl
  ·intro i h2 h3;have:i=0:=by rw[hl]at h2;omega
   subst this;have:=Array.getElem?_eq_some_iff.1 hv;obtain⟨_,h4⟩:=this;simpa using h4
 subst hvs;have hro:RO w (.sl 1 (intsT zs)) v F:=ha.2;refine does_calls hf hb hname ?_;rcases ro_ints_inv hro with⟨rfl,rfl,a,rfl⟩|⟨g,cap,cur,e,rfl,rfl,hg,hcap,hmax,hcur,hcells⟩
 ·refine Calls.mono (h0 a 0 w) ?_;rintro _ _ ⟨rfl,rfl⟩;refine⟨_,rfl,[],[],Kp.refl _ _,by simp,by simp,?_,.inr (.inr ⟨rfl,rfl,rfl⟩)⟩;exact RO.nil Nat.one_pos
 ·refine Calls.mono (h1 g 0 cap zs w (holds_ints hg hcells) (by omega) hcap) ?_;rintro _ _ ⟨rfl,n,rfl⟩;obtain⟨q1,q2⟩:=after_row (n:=n) (d:=(Lib.compact zs++List.replicate (zs.length-(Lib.compact zs).length) 0).toArray) (os := #[]) hg;rw[grow_empty]at q1 q2;refine⟨_,rfl,[g],[],q1,fun b hb=>.inl (by simpa using hb),by simp,?_,.inr (.inr ⟨rfl,rfl,rfl⟩)⟩;have hl:=compact_len zs;have hds:(Lib.compact zs++List.replicate (zs.length-(Lib.compact zs).length) 0).length=zs.length:=by simp;omega
  exact ro_ints (zs:=Lib.compact zs) (cap:=cap) q2 (by omega) hmax (by simpa[putCells]using hcur) (fun i hi=>by
   rw[put_get (by rw[List.size_toArray,hds];omega) (by rw[List.size_toArray,hds];omega)];rw[getElem!_pos _ i (by rw[List.size_toArray,hds];omega),List.getElem_toArray,List.getElem_append_left hi,getElem!_pos _ i hi])
def cloneE:Env->List T->R:=fun _ args=>match args with
 |[.sl 1 cs]=>(intsOf cs).bind fun zs=>bif decide (zs.length*8<=140737488355328)then some (.sl 1 (intsT zs),[])else none
 |_=>none
theorem clone_sound{P:Program}{f:FuncId}{fn:Func}{el:TypeId}(hf:P.funcs[f]?=some fn)(hb:fn.body.isSome=true)(hname:(fn.name=="runtime.NumGoroutine")=false)
 (h1:∀(b off n c:Nat)(zs:List Int)(w:World),n<=zs.length->n*8<=140737488355328->(∀j,j<zs.length->w.cell? ⟨b,off+j,none⟩=some (.int .i64 (zs.getD j 0)))->
  Calls P f #[.slice (some ⟨b,off,none⟩) n c] w fun e w'=>∃v',e=.returned v'/\w'.ownsRow w.heap.size el 1 v' n ((zs.take n).map (Value.int .i64))/\v' ≠ .slice none 0 0/\Below w.heap.size w w')
 (h00:∀(a:Addr)(c:Nat)(w:World),Calls P f #[.slice (some a) 0 c] w fun e w'=>∃v',e=.returned v'/\w'.ownsRow w.heap.size el 1 v' 0 []/\v' ≠ .slice none 0 0/\Below w.heap.size w w')
 (h0:∀(n c:Nat)(w:World),Calls P f #[.slice none n c] w fun e w'=>e=.returned (.slice none 0 0)/\w'=w)
 {E:Env} {args:List T} {r:T×List T} (h:cloneE E args=some r):Meets P ⟨none,.sl,true,false,false⟩ f args r:=by
 unfold cloneE at h;split at h
 case h_2=>cases h
 rename_i cs;rw[Option.bind_eq_some_iff]at h;obtain⟨zs,hcs,h⟩:=h;replace h:=ev_true h;obtain⟨hbig,h⟩:=h;have hbig:zs.length*8<=140737488355328:=by simpa using hbig
 cases h;have:=intsOf_eq hcs;subst this;intro w I J vs F hp;obtain rfl:F=[]:=hp.none rfl;have hl:vs.size=1:=hp.len
 obtain⟨v,rfl⟩:∃v,vs = #[v]:=⟨vs[0],by
  apply Array.ext
  ·simp[hl]
  ·intro i h2 h3;have:i=0:=by rw[hl]at h2;omega
   subst this;rfl⟩
 have hv:=hp.vals 0 (.sl 1 (intsT zs)) v (fun h=>by cases h) (fun h=>by cases h) rfl rfl;have hrb:RB w I J (.sl 1 (intsT zs)) v:=hv.1;refine does_calls hf hb hname ?_;have hil:(intsT zs).length=zs.length:=by simp[intsT]
 have fin:∀(v':Value)(w':World),w'.ownsRow w.heap.size el 1 v' zs.length (zs.map (Value.int .i64))->Below w.heap.size w w'->
  ∃Fr Fo,Done ⟨none,.sl,true,false,false⟩ w I J #[v] [] (.sl 1 (intsT zs),[]) v' w' Fr Fo:=fun v' w' ho hbel=>by
  have hkp:Kp (· ∈ ([]:List Nat)) w w':=⟨hbel.os,hbel.tape,hbel.output,hbel.size,fun b hb _=>hbel.block b hb⟩;obtain⟨_,⟨rfl,hn⟩|⟨g,cap,cur,rfl,hbase,hg,hcap,hcm,hcur,htake⟩⟩:=ho
  ·have:zs=[]:=List.eq_nil_of_length_eq_zero hn;subst this;exact⟨[],[],hkp,by simp,by simp,RO.nil Nat.one_pos,.inl ⟨rfl,rfl,rfl⟩⟩
  ·refine⟨[g],[],hkp,fun b hb=>.inr (by simp at hb;omega),by simp,ro_ints hg hcap hcm (by simpa using hcur) fun i hi=>?_,.inl ⟨rfl,rfl,rfl⟩⟩
   have h3:(zs.map (Value.int .i64))[i]?=cur.toList[i]?:=by
    rw[<- htake,List.getElem?_take,if_pos (by omega)]
   rw[List.getElem?_map,List.getElem?_eq_getElem hi]at h3;rw[getElem!_pos zs i hi,<- Array.getElem?_toList,<- h3];rfl
 generalize hx:T.sl 1 (intsT zs)=x at hrb;cases hrb with
 |sl us hs' hlen hcap ha hcs'=>
  rename_i sz' cells a len cap;injection hx with e1 e2;subst e1;subst e2;have hlen:zs.length=len:=by rw[hil,Nat.mul_one]at hlen;exact hlen
  subst hlen;by_cases h0c:zs=[]
  ·subst h0c;cases a with
   |none=>
    refine Calls.mono (h0 0 cap w) ?_;rintro _ _ ⟨rfl,rfl⟩;exact⟨_,rfl,[],[],Kp.refl _ _,by simp,by simp,RO.nil Nat.one_pos,.inl ⟨rfl,rfl,rfl⟩⟩
   |some a=>
    refine Calls.mono (h00 a cap w) ?_;rintro _ w' ⟨v',rfl,ho,_,hbel⟩;exact⟨v',rfl,fin v' w' ho hbel⟩
  ·obtain⟨b,o,rfl,_,hcell⟩:=ha (by intro h;apply h0c;cases zs with|nil=>rfl|cons=>simp[intsT]at h);refine Calls.mono (h1 b o zs.length cap zs w (Nat.le_refl _) hbig fun j hj=>?_) ?_
   ·rw[hcell j (by rw[hil];exact hj)];have hj':j<(intsT zs).length:=by rw[hil];exact hj
    have h5:=hcs' j _ (List.getElem?_eq_getElem hj');rw[get_intsT (List.getElem?_eq_getElem hj')]at h5;generalize us j=u at h5;cases h5;rw[getElem!_pos zs j hj,List.getD_eq_getElem?_getD,List.getElem?_eq_getElem hj];rfl
   ·rintro _ w' ⟨v',rfl,ho,_,hbel⟩;rw[List.take_length]at ho;exact⟨v',rfl,fin v' w' ho hbel⟩
 |_=>cases hx
end Ev
end
section
namespace Ev
open Go Go.WideShapes Go.RowKit Go.Proofs Go.Shelf
def trimE:Env->List T->R:=fun _ args=>match args with
 |[.str s,.str c]=>bif decide (s.size<=9223372036854775807)&&decide (c.size<4294967281)&&c.data.toList.all (fun b=>decide (b.toNat<128))
  then some (.str ⟨(Lib.trimS s.data.toList c.data.toList).toArray⟩,[])else none
 |_=>none
theorem trim_sound{P:Program}{ρ:Ren}(L:Lays.n160 P ρ)(h116:(P.info? (ρ.t 116)).map (fun i=>(i.zero,i.size))=some (some (.agg (Array.replicate 256 (.bool false))),256))
 {fn:Func} (hf:P.funcs[ρ.f 160]?=some fn) (hb:fn.body.isSome=true) (hname:(fn.name=="runtime.NumGoroutine")=false) {E:Env} {args:List T} {r:T×List T} (h:trimE E args=some r) :
 Meets P ⟨none,.sl,true,false,false⟩ (ρ.f 160) args r:=by
 unfold trimE at h;split at h
 case h_2=>cases h
 rename_i s c;cases hd:decide (s.size<=9223372036854775807)&&decide (c.size<4294967281)&&c.data.toList.all (fun b=>decide (b.toNat<128))with
 |false=>rw[hd]at h;cases h
 |true=>
  rw[hd]at h;cases h;simp only[Bool.and_eq_true,decide_eq_true_eq]at hd;refine meets_plain (v:=.string ⟨(Lib.trimS s.data.toList c.data.toList).toArray⟩) hf hb hname (fun w=>.str _) (fun w I J=>Iff.rfl) fun w vs I J hl _ hv=>?_
  have h0:vs[0]?=some (.string s):=by
   have hlt:0<vs.size:=by rw[hl];simp
   have:=resV_str (hv 0 (.str s) vs[0] rfl (by simp[hlt]));simp[hlt,this]
  have h1:vs[1]?=some (.string c):=by
   have hlt:1<vs.size:=by rw[hl];simp
   have:=resV_str (hv 1 (.str c) vs[1] rfl (by simp[hlt]));simp[hlt,this]
  have hvs:vs = #[.string s,.string c]:=by
   apply Array.ext
   ·rw[hl];rfl
   ·intro i h2 h3;have:i<2:=by rw[hl]at h2;exact h2
    match i,this with
    |0,_=>simpa[h2]using h0
    |1,_=>simpa[h2]using h1
  rw[hvs];exact Any.strings_Trim_laid L h116 s c w hd.1.1 hd.1.2 (ascii_of_all hd.2)
end Ev
end
section
namespace Go.Proofs
open Go Go.Shelf
set_option maxRecDepth 1000000
def Tryz.laysLaysn160_ren:Go.Shelf.Ren:=⟨fun|160=>133|232=>161|231=>160|227=>162|234=>164|233=>163|236=>166|235=>165|228=>187|271=>190|151=>189|197=>188|120=>205|152=>204|260=>203|137=>214|119=>215|224=>216|225=>217|217=>224|266=>227|n=>n,fun|9=>9|4=>4|3=>3|5=>5|117=>194|116=>193|0=>0|124=>197|21=>21|105=>219|46=>167|119=>247|139=>250|138=>249|n=>n,fun|3=>0|4=>1|n=>n⟩
theorem Tryz.laysLaysn160:Go.Proofs.Lays.n160 Tryz.prog Tryz.laysLaysn160_ren where
 mixed:=by kernel_rfl
 f119:=Tryz.func215.trans (congrArg some (by kernel_rfl))
 f120:=Tryz.func205.trans (congrArg some (by kernel_rfl))
 f137:=Tryz.func214.trans (congrArg some (by kernel_rfl))
 f151:=Tryz.func189.trans (congrArg some (by kernel_rfl))
 f152:=Tryz.func204.trans (congrArg some (by kernel_rfl))
 f160:=Tryz.func133.trans (congrArg some (by kernel_rfl))
 f197:=Tryz.func188.trans (congrArg some (by kernel_rfl))
 f217:=Tryz.func224.trans (congrArg some (by kernel_rfl))
 f224:=Tryz.func216.trans (congrArg some (by kernel_rfl))
 f225:=Tryz.func217.trans (congrArg some (by kernel_rfl))
 f227:=Tryz.func162.trans (congrArg some (by kernel_rfl))
 f228:=Tryz.func187.trans (congrArg some (by kernel_rfl))
 f231:=Tryz.func160.trans (congrArg some (by kernel_rfl))
 f232:=Tryz.func161.trans (congrArg some (by kernel_rfl))
 f233:=Tryz.func163.trans (congrArg some (by kernel_rfl))
 f234:=Tryz.func164.trans (congrArg some (by kernel_rfl))
 f235:=Tryz.func165.trans (congrArg some (by kernel_rfl))
 f236:=Tryz.func166.trans (congrArg some (by kernel_rfl))
 f260:=Tryz.func203.trans (congrArg some (by kernel_rfl))
 f266:=Tryz.func227.trans (congrArg some (by kernel_rfl))
 f271:=Tryz.func190.trans (congrArg some (by kernel_rfl))
 t0:=Tryz.underlying0
 a0:=Tryz.isAgg0
 z0:=Tryz.sizeOf0
 v0:=Tryz.zeroValue0
 t3:=Tryz.underlying3
 a3:=Tryz.isAgg3
 z3:=Tryz.sizeOf3
 v3:=Tryz.zeroValue3
 t4:=Tryz.underlying4
 a4:=Tryz.isAgg4
 z4:=Tryz.sizeOf4
 v4:=Tryz.zeroValue4
 t5:=Tryz.underlying5
 a5:=Tryz.isAgg5
 z5:=Tryz.sizeOf5
 v5:=Tryz.zeroValue5
 t9:=Tryz.underlying9
 a9:=Tryz.isAgg9
 z9:=Tryz.sizeOf9
 v9:=Tryz.zeroValue9
 t21:=Tryz.underlying21
 a21:=Tryz.isAgg21
 z21:=Tryz.sizeOf21
 v21:=Tryz.zeroValue21
 t46:=Tryz.underlying167
 a46:=Tryz.isAgg167
 z46:=Tryz.sizeOf167
 v46:=Tryz.zeroValue167
 t105:=Tryz.underlying219
 a105:=Tryz.isAgg219
 z105:=Tryz.sizeOf219
 v105:=Tryz.zeroValue219
 t116:=Tryz.underlying193
 a116:=Tryz.isAgg193
 z116:=Tryz.sizeOf193
 t117:=Tryz.underlying194
 a117:=Tryz.isAgg194
 z117:=Tryz.sizeOf194
 v117:=Tryz.zeroValue194
 t119:=Tryz.underlying247
 a119:=Tryz.isAgg247
 z119:=Tryz.sizeOf247
 t124:=Tryz.underlying197
 a124:=Tryz.isAgg197
 z124:=Tryz.sizeOf197
 v124:=Tryz.zeroValue197
 t138:=Tryz.underlying249
 a138:=Tryz.isAgg249
 z138:=Tryz.sizeOf249
 v138:=Tryz.zeroValue249
 t139:=Tryz.underlying250
 a139:=Tryz.isAgg250
 z139:=Tryz.sizeOf250
 v139:=Tryz.zeroValue250
 g3:=by kernel_rfl
 g4:=by kernel_rfl
theorem trim_sound_here:∀{E:Ev.Env}(args:List Ev.T)(r:Ev.T×List Ev.T),Ev.trimE E args=some r->Ev.Meets Tryz.prog ⟨none,.sl,true,false,false⟩ 133 args r:=
 fun _ _ h=>Ev.trim_sound Tryz.laysLaysn160 (by kernel_rfl) Tryz.func133 (by kernel_rfl) (by kernel_rfl) h
def Tryz.laysSlLaysMn5_ren:Go.Shelf.Ren:=⟨fun|5=>87|8=>129|7=>128|19=>158|20=>159|10=>149|11=>150|12=>151|13=>152|14=>153|15=>154|16=>155|17=>156|18=>157|30=>181|31=>182|32=>183|33=>184|34=>185|35=>186|40=>202|n=>n,fun|23=>30|25=>2|3=>3|32=>167|22=>30|0=>0|44=>188|46=>190|4=>4|36=>180|35=>179|41=>185|5=>5|9=>9|53=>212|57=>216|63=>233|64=>234|n=>n,fun|n=>n⟩
theorem Tryz.laysSlLaysMn5:Go.Proofs.SlLaysM.n5 Tryz.prog Tryz.laysSlLaysMn5_ren where
 mixed:=by kernel_rfl
 f5:=⟨Tryz.f87.name,by decide,Tryz.func87.trans (congrArg some (by kernel_rfl))⟩
 f7:=⟨Tryz.f128.name,by decide,Tryz.func128.trans (congrArg some (by kernel_rfl))⟩
 f8:=Tryz.func129.trans (congrArg some (by kernel_rfl))
 f10:=⟨Tryz.f149.name,by decide,Tryz.func149.trans (congrArg some (by kernel_rfl))⟩
 f11:=⟨Tryz.f150.name,by decide,Tryz.func150.trans (congrArg some (by kernel_rfl))⟩
 f12:=⟨Tryz.f151.name,by decide,Tryz.func151.trans (congrArg some (by kernel_rfl))⟩
 f13:=⟨Tryz.f152.name,by decide,Tryz.func152.trans (congrArg some (by kernel_rfl))⟩
 f14:=⟨Tryz.f153.name,by decide,Tryz.func153.trans (congrArg some (by kernel_rfl))⟩
 f15:=⟨Tryz.f154.name,by decide,Tryz.func154.trans (congrArg some (by kernel_rfl))⟩
 f16:=⟨Tryz.f155.name,by decide,Tryz.func155.trans (congrArg some (by kernel_rfl))⟩
 f17:=⟨Tryz.f156.name,by decide,Tryz.func156.trans (congrArg some (by kernel_rfl))⟩
 f18:=⟨Tryz.f157.name,by decide,Tryz.func157.trans (congrArg some (by kernel_rfl))⟩
 f19:=Tryz.func158.trans (congrArg some (by kernel_rfl))
 f20:=Tryz.func159.trans (congrArg some (by kernel_rfl))
 f30:=⟨Tryz.f181.name,by decide,Tryz.func181.trans (congrArg some (by kernel_rfl))⟩
 f31:=Tryz.func182.trans (congrArg some (by kernel_rfl))
 f32:=Tryz.func183.trans (congrArg some (by kernel_rfl))
 f33:=⟨Tryz.f184.name,by decide,Tryz.func184.trans (congrArg some (by kernel_rfl))⟩
 f34:=⟨Tryz.f185.name,by decide,Tryz.func185.trans (congrArg some (by kernel_rfl))⟩
 f35:=⟨Tryz.f186.name,by decide,Tryz.func186.trans (congrArg some (by kernel_rfl))⟩
 f40:=⟨Tryz.f202.name,by decide,Tryz.func202.trans (congrArg some (by kernel_rfl))⟩
 t0:=Tryz.underlying0
 a0:=Tryz.isAgg0
 z0:=Tryz.sizeOf0
 v0:=Tryz.zeroValue0
 t3:=Tryz.underlying3
 a3:=Tryz.isAgg3
 z3:=Tryz.sizeOf3
 v3:=Tryz.zeroValue3
 t4:=Tryz.underlying4
 a4:=Tryz.isAgg4
 z4:=Tryz.sizeOf4
 v4:=Tryz.zeroValue4
 t5:=Tryz.underlying5
 a5:=Tryz.isAgg5
 z5:=Tryz.sizeOf5
 v5:=Tryz.zeroValue5
 t9:=Tryz.underlying9
 a9:=Tryz.isAgg9
 z9:=Tryz.sizeOf9
 v9:=Tryz.zeroValue9
 t22:=Tryz.underlying30
 a22:=Tryz.isAgg30
 z22:=Tryz.sizeOf30
 v22:=Tryz.zeroValue30
 t23:=Tryz.underlying30
 a23:=Tryz.isAgg30
 z23:=Tryz.sizeOf30
 v23:=Tryz.zeroValue30
 t25:=Tryz.underlying2
 a25:=Tryz.isAgg2
 z25:=Tryz.sizeOf2
 v25:=Tryz.zeroValue2
 t32:=Tryz.underlying167
 a32:=Tryz.isAgg167
 z32:=Tryz.sizeOf167
 v32:=Tryz.zeroValue167
 t35:=Tryz.underlying179
 a35:=Tryz.isAgg179
 z35:=Tryz.sizeOf179
 v35:=Tryz.zeroValue179
 t36:=Tryz.underlying180
 a36:=Tryz.isAgg180
 z36:=Tryz.sizeOf180
 v36:=Tryz.zeroValue180
 t41:=Tryz.underlying185
 a41:=Tryz.isAgg185
 z41:=Tryz.sizeOf185
 v41:=Tryz.zeroValue185
 t44:=Tryz.underlying188
 a44:=Tryz.isAgg188
 z44:=Tryz.sizeOf188
 v44:=Tryz.zeroValue188
 t46:=Tryz.underlying190
 a46:=Tryz.isAgg190
 z46:=Tryz.sizeOf190
 v46:=Tryz.zeroValue190
 t53:=Tryz.underlying212
 a53:=Tryz.isAgg212
 z53:=Tryz.sizeOf212
 v53:=Tryz.zeroValue212
 t57:=Tryz.underlying216
 a57:=Tryz.isAgg216
 z57:=Tryz.sizeOf216
 v57:=Tryz.zeroValue216
 t63:=Tryz.underlying233
 a63:=Tryz.isAgg233
 z63:=Tryz.sizeOf233
 v63:=Tryz.zeroValue233
 t64:=Tryz.underlying234
 a64:=Tryz.isAgg234
 z64:=Tryz.sizeOf234
 v64:=Tryz.zeroValue234
theorem sort_sound_here:∀{E:Ev.Env}(args:List Ev.T)(r:Ev.T×List Ev.T),Ev.sortE E args=some r->Ev.Meets Tryz.prog ⟨some 0,.sl,false,false,false⟩ 87 args r:=
 fun _ _ h=>Ev.sort_sound Tryz.func87 (by kernel_rfl) (by kernel_rfl) (fun blk off cap zs w h1 h2 h3=>AnyM.slices_Sort_int Tryz.laysSlLaysMn5 blk off cap zs w h1 h2 h3) (fun p cap w=>AnyM.slices_Sort_int_none Tryz.laysSlLaysMn5 p cap w) h
def Tryz.laysSlLaysNn43_ren:Go.Shelf.Ren:=⟨fun|43=>88|n=>n,fun|22=>30|23=>2|3=>3|4=>4|0=>0|n=>n,fun|n=>n⟩
theorem Tryz.laysSlLaysNn43:Go.Proofs.SlLaysN.n43 Tryz.prog Tryz.laysSlLaysNn43_ren where
 mixed:=by kernel_rfl
 f43:=⟨Tryz.f88.name,by decide,Tryz.func88.trans (congrArg some (by kernel_rfl))⟩
 t0:=Tryz.underlying0
 a0:=Tryz.isAgg0
 z0:=Tryz.sizeOf0
 v0:=Tryz.zeroValue0
 t3:=Tryz.underlying3
 a3:=Tryz.isAgg3
 z3:=Tryz.sizeOf3
 v3:=Tryz.zeroValue3
 t4:=Tryz.underlying4
 a4:=Tryz.isAgg4
 z4:=Tryz.sizeOf4
 v4:=Tryz.zeroValue4
 t22:=Tryz.underlying30
 a22:=Tryz.isAgg30
 z22:=Tryz.sizeOf30
 v22:=Tryz.zeroValue30
 t23:=Tryz.underlying2
 a23:=Tryz.isAgg2
 z23:=Tryz.sizeOf2
 v23:=Tryz.zeroValue2
 i23:=by kernel_rfl
theorem compact_sound_here:∀{E:Ev.Env}(args:List Ev.T)(r:Ev.T×List Ev.T),Ev.compactE E args=some r->Ev.Meets Tryz.prog ⟨some 0,.sl,true,true,false⟩ 88 args r:=
 fun _ _ h=>Ev.compact_sound Tryz.func88 (by kernel_rfl) (by kernel_rfl) (fun blk off cap zs w h1 h2 h3=>AnyG.slices_Compact_int Tryz.laysSlLaysNn43 blk off cap zs w h1 h2 h3) (fun p cap w=>AnyG.slices_Compact_int_empty Tryz.laysSlLaysNn43 p cap w) h
def Tryz.laysSlLaysNn41_ren:Go.Shelf.Ren:=⟨fun|41=>139|n=>n,fun|22=>30|23=>2|4=>4|n=>n,fun|n=>n⟩
theorem Tryz.laysSlLaysNn41:Go.Proofs.SlLaysN.n41 Tryz.prog Tryz.laysSlLaysNn41_ren where
 mixed:=by kernel_rfl
 f41:=⟨Tryz.f139.name,by decide,Tryz.func139.trans (congrArg some (by kernel_rfl))⟩
 t4:=Tryz.underlying4
 a4:=Tryz.isAgg4
 z4:=Tryz.sizeOf4
 v4:=Tryz.zeroValue4
 t22:=Tryz.underlying30
 a22:=Tryz.isAgg30
 z22:=Tryz.sizeOf30
 v22:=Tryz.zeroValue30
 t23:=Tryz.underlying2
 a23:=Tryz.isAgg2
 z23:=Tryz.sizeOf2
 v23:=Tryz.zeroValue2
 i23:=by kernel_rfl
theorem clone_sound_here:∀{E:Ev.Env}(args:List Ev.T)(r:Ev.T×List Ev.T),Ev.cloneE E args=some r->Ev.Meets Tryz.prog ⟨none,.sl,true,false,false⟩ 139 args r:=
 fun _ _ h=>Ev.clone_sound Tryz.func139 (by kernel_rfl) (by kernel_rfl) (fun b off n c zs w h1 h2 h3=>AnyG.slices_Clone_int Tryz.laysSlLaysNn41 b off n c zs w h1 h2 h3) (fun a c w=>AnyG.slices_Clone_int_zero Tryz.laysSlLaysNn41 a c w) (fun n c w=>AnyG.slices_Clone_int_nil Tryz.laysSlLaysNn41 n c w) h
def Tryz.laysEvInsLn22_ren:Go.Shelf.Ren:=⟨fun|22=>208|29=>219|30=>220|36=>225|17=>228|n=>n,fun|24=>30|9=>2|3=>3|4=>4|0=>0|n=>n,fun|n=>n⟩
theorem Tryz.laysEvInsLn22:Ev.InsL.n22 Tryz.prog Tryz.laysEvInsLn22_ren where
 mixed:=by kernel_rfl
 f22:=⟨Tryz.f208.name,by decide,Tryz.func208.trans (congrArg some (by kernel_rfl))⟩
 t0:=Tryz.underlying0
 a0:=Tryz.isAgg0
 z0:=Tryz.sizeOf0
 v0:=Tryz.zeroValue0
 t3:=Tryz.underlying3
 a3:=Tryz.isAgg3
 z3:=Tryz.sizeOf3
 v3:=Tryz.zeroValue3
 t4:=Tryz.underlying4
 a4:=Tryz.isAgg4
 z4:=Tryz.sizeOf4
 v4:=Tryz.zeroValue4
 z9:=Tryz.sizeOf2
 t24:=Tryz.underlying30
 a24:=Tryz.isAgg30
 z24:=Tryz.sizeOf30
 v24:=Tryz.zeroValue30
theorem insert_sound_here:∀{E:Ev.Env}(args:List Ev.T)(r:Ev.T×List Ev.T),Ev.insE 8 E args=some r->Ev.Meets Tryz.prog ⟨some 0,.two 2,true,true,false⟩ 208 args r:=
 fun _ _ h=>Ev.insert_sound Tryz.laysEvInsLn22 ⟨_,Tryz.func219,by kernel_rfl,by kernel_rfl,by kernel_rfl,by kernel_rfl⟩ (z:=.int .i64 0) (by kernel_rfl) rfl (by decide) Tryz.func208 (by kernel_rfl) (by kernel_rfl) h
def Tryz.laysEvInsLn22l_ren:Go.Shelf.Ren:=⟨fun|22=>209|29=>221|30=>222|36=>226|17=>229|n=>n,fun|24=>27|9=>30|3=>3|4=>4|0=>0|n=>n,fun|n=>n⟩
theorem Tryz.laysEvInsLn22l:Ev.InsL.n22 Tryz.prog Tryz.laysEvInsLn22l_ren where
 mixed:=by kernel_rfl
 f22:=⟨Tryz.f209.name,by decide,Tryz.func209.trans (congrArg some (by kernel_rfl))⟩
 t0:=Tryz.underlying0
 a0:=Tryz.isAgg0
 z0:=Tryz.sizeOf0
 v0:=Tryz.zeroValue0
 t3:=Tryz.underlying3
 a3:=Tryz.isAgg3
 z3:=Tryz.sizeOf3
 v3:=Tryz.zeroValue3
 t4:=Tryz.underlying4
 a4:=Tryz.isAgg4
 z4:=Tryz.sizeOf4
 v4:=Tryz.zeroValue4
 z9:=Tryz.sizeOf30
 t24:=Tryz.underlying27
 a24:=Tryz.isAgg27
 z24:=Tryz.sizeOf27
 v24:=Tryz.zeroValue27
theorem insertl_sound_here:∀{E:Ev.Env}(args:List Ev.T)(r:Ev.T×List Ev.T),Ev.insE 24 E args=some r->Ev.Meets Tryz.prog ⟨some 0,.two 2,true,true,false⟩ 209 args r:=
 fun _ _ h=>Ev.insert_sound Tryz.laysEvInsLn22l ⟨_,Tryz.func221,by kernel_rfl,by kernel_rfl,by kernel_rfl,by kernel_rfl⟩ (z:=.slice none 0 0) (by kernel_rfl) rfl (by decide) Tryz.func209 (by kernel_rfl) (by kernel_rfl) h
end Go.Proofs
end
section
open Go Go.Proofs
set_option maxRecDepth 100000
namespace Ev
abbrev F.laws_FnAlgebras:FuncId:=3
abbrev F.laws_lwBig:FuncId:=6
abbrev F.spec_DrawEvalTerm:FuncId:=7
abbrev F.impl_EvalTerm:FuncId:=8
abbrev F.spec_EvalTerm:FuncId:=9
abbrev F.impl_AlgebraFault:FuncId:=10
abbrev F.spec_AlgebraFault:FuncId:=11
abbrev F.spec_DrawHolds:FuncId:=12
abbrev F.impl_Holds:FuncId:=13
abbrev F.spec_Holds:FuncId:=14
abbrev F.impl_AllHold:FuncId:=15
abbrev F.spec_DrawApplyBinding:FuncId:=16
abbrev F.impl_ApplyBinding:FuncId:=17
abbrev F.spec_ApplyBinding:FuncId:=18
abbrev F.laws_lwCopy:FuncId:=19
abbrev F.spec_l1Source:FuncId:=33
abbrev F.spec_l2Bent:FuncId:=34
abbrev F.spec_l10Bent:FuncId:=35
abbrev F.spec_l1Next:FuncId:=36
abbrev F.spec_l1Pick:FuncId:=37
abbrev F.spec_l1Chance:FuncId:=38
abbrev F.spec_l3BentTerm:FuncId:=39
abbrev F.impl_firstCode:FuncId:=40
abbrev F.impl_TermFault:FuncId:=41
abbrev F.slices_ContainsFunc_Sint64:FuncId:=42
abbrev F.impl_EvalTerm_1:FuncId:=43
abbrev F.impl_within:FuncId:=44
abbrev F.slices_Min_Sint64:FuncId:=45
abbrev F.impl_Algebra_eval:FuncId:=46
abbrev F.spec_l3Fault:FuncId:=47
abbrev F.spec_l1In:FuncId:=48
abbrev F.spec_l4Low:FuncId:=49
abbrev F.spec_l10Eval:FuncId:=50
abbrev F.impl_SignatureFault:FuncId:=51
abbrev F.impl_power:FuncId:=52
abbrev F.impl_AlgebraFault_1:FuncId:=53
abbrev F.spec_SignatureFault:FuncId:=54
abbrev F.spec_l10Pow:FuncId:=55
abbrev F.spec_l4BentEquation:FuncId:=56
abbrev F.spec_l4Copy:FuncId:=57
abbrev F.impl_EquationFault:FuncId:=58
abbrev F.impl_truth:FuncId:=59
abbrev F.impl_Algebra_holds:FuncId:=60
abbrev F.spec_l4Fault:FuncId:=61
abbrev F.spec_l10Bit:FuncId:=62
abbrev F.spec_l10Holds:FuncId:=63
abbrev F.impl_EquationsFault:FuncId:=64
abbrev F.slices_ContainsFunc_SEquation:FuncId:=65
abbrev F.impl_AllHold_1:FuncId:=66
abbrev F.spec_l6Bent:FuncId:=67
abbrev F.impl_BindingFault:FuncId:=68
abbrev F.impl_fitting:FuncId:=69
abbrev F.impl_Binding_applied:FuncId:=70
abbrev F.spec_BindingFault:FuncId:=71
abbrev F.spec_l6Apply:FuncId:=72
abbrev F.spec_l10Make:FuncId:=85
abbrev F.slices_Sort_Sint64:FuncId:=87
abbrev F.slices_Compact_Sint64:FuncId:=88
abbrev F.spec_l5Fault:FuncId:=90
abbrev F.spec_l10All:FuncId:=91
abbrev F.spec_l2Sig:FuncId:=92
abbrev F.spec_l10Draw:FuncId:=93
abbrev F.spec_l3Draw:FuncId:=94
abbrev F.cmp_Or_int64:FuncId:=95
abbrev F.impl_TermFault_1:FuncId:=96
abbrev F.impl_isNode:FuncId:=97
abbrev F.impl_endOf:FuncId:=98
abbrev F.slices_IndexFunc_Sint64:FuncId:=99
abbrev F.impl_Algebra_evalAt:FuncId:=100
abbrev F.spec_l3Node:FuncId:=101
abbrev F.spec_l3End:FuncId:=102
abbrev F.impl_isName:FuncId:=103
abbrev F.impl_symbolIndex:FuncId:=104
abbrev F.slices_ContainsFunc_SSymbol:FuncId:=105
abbrev F.impl_SignatureFault_1:FuncId:=106
abbrev F.spec_l2Name:FuncId:=107
abbrev F.spec_l4Draw:FuncId:=108
abbrev F.spec_l1Ints:FuncId:=109
abbrev F.impl_varsOf:FuncId:=110
abbrev F.impl_EquationFault_1:FuncId:=111
abbrev F.slices_IndexFunc_SEquation:FuncId:=112
abbrev F.spec_l6Draw:FuncId:=113
abbrev F.impl_Binding_of:FuncId:=114
abbrev F.spec_l6Fault:FuncId:=115
abbrev F.spec_l6Term:FuncId:=116
abbrev F.impl_isSymbol:FuncId:=130
abbrev F.impl_arityOf:FuncId:=131
abbrev F.spec_l2Symbol:FuncId:=132
abbrev F.strings_Trim:FuncId:=133
abbrev F.slices_IndexFunc_SSymbol:FuncId:=134
abbrev F.impl_symbolIndex_1:FuncId:=135
abbrev F.spec_l4Pool:FuncId:=136
abbrev F.slices_Index_Sint64:FuncId:=137
abbrev F.spec_l1Rise:FuncId:=138
abbrev F.spec_ReadEquation:FuncId:=167
abbrev F.spec_l1Cut:FuncId:=191
abbrev F.spec_l4Read:FuncId:=192
abbrev F.spec_l4Nodes:FuncId:=206
abbrev F.spec_l4Text:FuncId:=207
abbrev F.spec_l2Find:FuncId:=218
noncomputable abbrev prog:Program:=Tryz.prog
def A:Attrs:=fun f=>match f with
 |7=>⟨none,.sl,false,false,false⟩
 |12=>⟨none,.sl,false,false,false⟩
 |16=>⟨none,.sl,false,false,false⟩
 |34=>⟨(some 0),.src,true,false,false⟩
 |35=>⟨(some 0),.src,false,false,false⟩
 |36=>⟨(some 0),.src,true,false,false⟩
 |37=>⟨(some 0),.src,true,false,false⟩
 |38=>⟨(some 0),.src,true,false,false⟩
 |39=>⟨(some 0),.src,true,false,false⟩
 |56=>⟨(some 0),.src,true,false,false⟩
 |67=>⟨(some 0),.src,false,false,false⟩
 |69=>⟨(some 0),.sl,true,true,false⟩
 |73=>⟨(some 0),.src,true,false,false⟩
 |74=>⟨(some 0),.src,true,false,false⟩
 |77=>⟨none,.sl,false,false,false⟩
 |87=>⟨(some 0),.sl,false,false,false⟩
 |88=>⟨(some 0),.sl,true,true,false⟩
 |92=>⟨(some 0),.src,true,false,false⟩
 |93=>⟨(some 0),.src,true,false,false⟩
 |94=>⟨(some 0),.src,true,false,false⟩
 |108=>⟨(some 0),.src,true,false,false⟩
 |113=>⟨(some 0),.src,true,false,false⟩
 |114=>⟨none,.sl,false,false,true⟩
 |116=>⟨none,.sl,false,false,true⟩
 |117=>⟨(some 0),.src,true,false,false⟩
 |119=>⟨(some 0),.src,true,false,false⟩
 |136=>⟨(some 0),.src,true,false,false⟩
 |169=>⟨none,.sl,false,false,false⟩
 |193=>⟨(some 0),.ptr [true,true],true,false,false⟩
 |208=>⟨(some 0),.two 2,true,true,false⟩
 |209=>⟨(some 0),.two 2,true,true,false⟩
 |_=>⟨none,.sl,true,false,false⟩
def H:FuncId->Hints:=fun f=>match f with
 |3=>⟨fun b=>look [] [(0,[.keepT [3,4,5,6,13,15,16,17],.keepO [192,256,832,960,5953,6784]])] b,fun r=>look [] [(15,[.freezeB 960])] r,fun r=>[]⟩
 |7=>⟨fun b=>look [] [(0,[.keepT [2,3,6,7,8,9,10],.keepO [128,192,512,768,1088]])] b,fun r=>look [] [(10,[.freezeT 9]),(3,[.freezeB 448,.meltO 448 0 2,.meltP 7])] r,fun r=>[]⟩
 |9=>⟨fun b=>look [] [(0,[.keepT [2,3,4,5,8,11],.keepO [256,320,512]])] b,fun r=>look [] [] r,fun r=>[]⟩
 |10=>⟨fun b=>look [] [(0,[.keepT [2,3,25,26,27],.keepO [128,192]])] b,fun r=>look [] [] r,fun r=>[]⟩
 |11=>⟨fun b=>look [] [(0,[.keepT [2,3,6],.keepO [128,192]]),(2,[.keepT [2,3,6,7],.keepO [128,192]])] b,fun r=>look [] [] r,fun r=>[]⟩
 |12=>⟨fun b=>look [] [] b,fun r=>look [] [(4,[.freezeB 384,.meltO 384 0 2,.meltP 6])] r,fun r=>[]⟩
 |16=>⟨fun b=>look [] [] b,fun r=>look [] [(3,[.freezeB 384,.meltO 384 0 2,.meltP 6])] r,fun r=>[]⟩
 |34=>⟨fun b=>look [] [(3,[.keepT [0,2,3,4,5],.keepO [128,192,448,1000000]]),(1,[.keepT [0,2,3],.orderO [1000000,128,448,192],.keepO [128,192,448,1000000]])] b,fun r=>look [] [] r,fun r=>[]⟩
 |35=>⟨fun b=>look [] [] b,fun r=>look [] [(12,[.freezeB 448]),(15,[.pack 1537])] r,fun r=>[]⟩
 |39=>⟨fun b=>look [] [(1,[.keepT [0,10,11],.keepO [4224,1000000]])] b,fun r=>look [] [] r,fun r=>[]⟩
 |45=>⟨fun b=>look [] [(0,[.keepT [0,3,4],.keepO []])] b,fun r=>look [] [] r,fun r=>[]⟩
 |47=>⟨fun b=>look [] [(0,[.keepT [0,1,5],.keepO []])] b,fun r=>look [] [] r,fun r=>[]⟩
 |49=>⟨fun b=>look [] [(0,[.keepT [0,3],.keepO []])] b,fun r=>look [] [] r,fun r=>[]⟩
 |50=>⟨fun b=>look [] [(0,[.keepT [0,1,2,3,4,11,12,13],.keepO []])] b,fun r=>look [] [] r,fun r=>[]⟩
 |51=>⟨fun b=>look [] [(0,[.keepT [1,18,19,20],.keepO [64]]),(2,[.keepT [1,34,35,36],.keepO [64]])] b,fun r=>look [] [] r,fun r=>[]⟩
 |52=>⟨fun b=>look [] [(0,[.keepT [0,5,6,7],.keepO []])] b,fun r=>look [] [] r,fun r=>[]⟩
 |54=>⟨fun b=>look [] [(0,[.keepT [1,3,4],.keepO [64]]),(2,[.keepT [1,3,5],.keepO [64]]),(4,[.keepT [1,3,5,6],.keepO [64]]),(6,[.keepT [1,3,7],.keepO [64]])] b,fun r=>look [] [] r,fun r=>[]⟩
 |60=>⟨fun b=>look [] [(0,[.keepT [3,4,5,7,12,13],.keepO [192,256,320,576]]),(2,[.keepT [3,4,5,7,12,13,29,30],.keepO [192,256,320,576]])] b,fun r=>look [] [] r,fun r=>[]⟩
 |63=>⟨fun b=>look [] [(0,[.keepT [0,1,2,7],.keepO []]),(2,[.keepT [0,1,2,7,8,9,10],.keepO [1280]])] b,fun r=>look [] [] r,fun r=>[]⟩
 |64=>⟨fun b=>look [] [(0,[.keepT [2,17,18,19],.keepO [128]])] b,fun r=>look [] [] r,fun r=>[]⟩
 |67=>⟨fun b=>look [] [] b,fun r=>look [] [(10,[.freezeB 320])] r,fun r=>[]⟩
 |68=>⟨fun b=>look [] [(0,[.keepT [2,3,29,30,31],.keepO [128,192]]),(2,[.keepT [3,9],.keepO [192]])] b,fun r=>look [] [] r,fun r=>[]⟩
 |70=>⟨fun b=>look [] [(0,[.keepT [2,5,11,12,13],.keepO [128,640]])] b,fun r=>look [] [] r,fun r=>[]⟩
 |72=>⟨fun b=>look [] [(0,[.keepT [0,1,5,6],.keepO [512]])] b,fun r=>look [] [] r,fun r=>[]⟩
 |85=>⟨fun b=>look [] [(0,[.keepT [0,1,2,6,7,8],.adoptO 448 1 517169 1,.keepO [384,448,517169]]),(2,[.keepT [0,1,2,6,7,8,9,10],.keepO [384,448,1408,517169]])] b,fun r=>look [] [] r,fun r=>[]⟩
 |90=>⟨fun b=>look [] [(0,[.keepT [0,1,5],.keepO []])] b,fun r=>look [] [] r,fun r=>[]⟩
 |91=>⟨fun b=>look [] [(0,[.keepT [0,1,2,7],.keepO []])] b,fun r=>look [] [] r,fun r=>[]⟩
 |93=>⟨fun b=>look [] [(0,[.keepT [0,1,2,6,7,8,9],.keepO [384,1000000]])] b,fun r=>look [] [] r,fun r=>[]⟩
 |94=>⟨fun b=>look [] [(0,[.keepT [0,1,2,3,9,10,11],.keepO [1000000]]),(2,[.keepT [0,1,2,3,9,10,12],.keepO [1000000]])] b,fun r=>look [] [] r,fun r=>[]⟩
 |95=>⟨fun b=>look [] [(0,[.keepT [3,6,7,8],.keepO []])] b,fun r=>look [] [] r,fun r=>[]⟩
 |98=>⟨fun b=>look [] [(0,[.keepT [1,2,3,7],.keepO [192]])] b,fun r=>look [] [] r,fun r=>[]⟩
 |99=>⟨fun b=>look [] [(0,[.keepT [0,1,7,8],.keepO []])] b,fun r=>look [] [] r,fun r=>[]⟩
 |100=>⟨fun b=>look [] [(0,[.keepT [2,3,4,5,6,12,13,35,36],.keepO [320,384]])] b,fun r=>look [] [] r,fun r=>[]⟩
 |102=>⟨fun b=>look [] [(0,[.keepT [0,1,2,7,8],.keepO []])] b,fun r=>look [] [] r,fun r=>[]⟩
 |107=>⟨fun b=>look [] [(0,[.keepT [0,3],.keepO []])] b,fun r=>look [] [] r,fun r=>[]⟩
 |110=>⟨fun b=>look [] [(0,[.keepT [3,9,10,11],.keepO [512]]),(2,[.keepT [3,9,10,11,15,16,17],.keepO [512]])] b,fun r=>look [] [] r,fun r=>[]⟩
 |112=>⟨fun b=>look [] [(0,[.keepT [0,1,7,8],.keepO []])] b,fun r=>look [] [] r,fun r=>[]⟩
 |113=>⟨fun b=>look [] [(0,[.keepT [0,1,2,6,7,8],.adoptO 448 0 517168 1,.adoptO 448 1 517169 1,.keepO [384,448,517168,517169,1000000]])] b,fun r=>look [] [] r,fun r=>[]⟩
 |115=>⟨fun b=>look [] [(0,[.keepT [0,1,5],.keepO []])] b,fun r=>look [] [] r,fun r=>[]⟩
 |116=>⟨fun b=>look [] [(0,[.keepT [0,1,5],.keepO []])] b,fun r=>look [] [] r,fun r=>[]⟩
 |134=>⟨fun b=>look [] [(0,[.keepT [0,1,7,8],.keepO []])] b,fun r=>look [] [] r,fun r=>[]⟩
 |136=>⟨fun b=>look [] [(0,[.keepT [0,1,4,5,6,7,8],.keepO [256,640,1000000]])] b,fun r=>look [] [] r,fun r=>[]⟩
 |137=>⟨fun b=>look [] [(0,[.keepT [0,1,7,8],.keepO []])] b,fun r=>look [] [] r,fun r=>[]⟩
 |138=>⟨fun b=>look [] [(0,[.keepT [0,3],.keepO []])] b,fun r=>look [] [] r,fun r=>[]⟩
 |191=>⟨fun b=>look [] [(0,[.keepT [0,1,5,6,7],.keepO [512]])] b,fun r=>look [] [] r,fun r=>[]⟩
 |206=>⟨fun b=>look [] [(0,[.keepT [0,1,6,7],.keepO [704]]),(3,[.keepT [0,1,6,7,9],.keepO [704]])] b,fun r=>look [] [] r,fun r=>[]⟩
 |207=>⟨fun b=>look [] [(0,[.keepT [0,1,7,8,9,10],.keepO [448]])] b,fun r=>look [] [] r,fun r=>[]⟩
 |218=>⟨fun b=>look [] [(0,[.keepT [0,1,5],.keepO []])] b,fun r=>look [] [] r,fun r=>[]⟩
 |_=>⟨fun _=>[],fun _=>[],fun _=>[]⟩
def X:Ext:=fun f=>match f with
 |87=>some sortE
 |88=>some compactE
 |133=>some trimE
 |_=>none
theorem X_sound:∀f e,X f=some e->∀E,(∀g args r,E g args=some r->Meets prog (A g) g args r)->∀args r,e E args=some r->Meets prog (A f) f args r:=by
 intro f e h E hE args r hr;unfold X at h;split at h
 ·cases h;exact sort_sound_here args r hr
 ·cases h;exact compact_sound_here args r hr
 ·cases h;exact trim_sound_here args r hr
 ·cases h
noncomputable def LIM:Env:=lim prog A H X
def oi(x:Int):V:=.one (.t (.int .i64 x))
def ol(k:Nat)(c:List T):V:=.one (.t (.sl k c))
noncomputable abbrev cx(f:FuncId)(p:List Nat):Code:=subCode p (bodyOf prog f)
noncomputable abbrev kx(f:FuncId)(n:Nat)(fr:List Ct)(K:Ex->St->R):Ex->St->R:=ctxK prog A (H f) LIM n fr K
noncomputable abbrev bx(f:FuncId)(b:Nat)(K:Ex->St->R)(L:St->R):Ex->St->R:=backK (H f) b K L
noncomputable abbrev lx(f:FuncId)(n b:Nat)(p:List Nat)(K:Ex->St->R)(m:Nat)(s:St):R:=loopAt prog A (H f) LIM n b (subCode p (bodyOf prog f)) K m s
noncomputable abbrev rx(f:FuncId)(n b:Nat)(p:List Nat)(K:Ex->St->R)(L:St->R)(s:St):R:=roundK prog A (H f) LIM n b (subCode p (bodyOf prog f)) K L s
theorem nx(f:FuncId)(n b:Nat)(p:List Nat)(K:Ex->St->R)(m:Nat)(s:St):lx f n b p K (m+1) s=rx f n b p K (lx f n b p K m) s:=loopAt_succ _ _ _ _ _ _ _ _ _ _
end Ev
end
section
namespace Ev.Ty
open Go Ev
class Enc(α:Type) where
 sz:Nat
 pos:0<sz
 enc:α->List T
 len:∀x,(enc x).length=sz
open Enc (enc)
def cells{α:Type}[Enc α](l:List α):List T:=l.flatMap enc
def slc{α:Type}[Enc α](l:List α):T:=.sl (Enc.sz α) (cells l)
instance:Enc Int:=⟨1,by decide,fun n=>[.int .i64 n],fun _=>rfl⟩
@[simp] theorem sz_int:Enc.sz Int=1:=rfl
instance:Enc UInt8:=⟨1,by decide,fun n=>[.int .u8 n.toNat],fun _=>rfl⟩
instance:Enc Bool:=⟨1,by decide,fun b=>[.bool b],fun _=>rfl⟩
instance:Enc ByteArray:=⟨1,by decide,fun b=>[.str b],fun _=>rfl⟩
@[simp] theorem sz_u8:Enc.sz UInt8=1:=rfl
instance {α:Type}[Enc α]:Enc (List α):=⟨1,by decide,fun l=>[.sl (Enc.sz α) (cells l)],fun _=>rfl⟩
@[simp] theorem sz_list{α:Type}[Enc α]:Enc.sz (List α)=1:=rfl
@[simp] theorem enc_int(n:Int):enc n=[.int .i64 n]:=rfl
@[simp] theorem enc_u8(n:UInt8):enc n=[.int .u8 n.toNat]:=rfl
@[simp] theorem enc_list{α:Type}[Enc α](l:List α):enc l=[slc l]:=rfl
@[simp] theorem oSl_slc{α:Type}[Enc α]{k:Nat}(l:List α)(h:Enc.sz α=k):oSl k (slc l)=some (cells l):=by subst h;simp[slc,oSl]
section
variable {α:Type}[Enc α]
@[simp] theorem cells_nil:cells ([]:List α)=[]:=rfl
theorem cells_cons(x:α)(l:List α):cells (x::l)=enc x++cells l:=List.flatMap_cons
@[simp] theorem cells_append(l r:List α):cells (l++r)=cells l++cells r:=List.flatMap_append
theorem cells_length:∀l:List α,(cells l).length=l.length*Enc.sz α
 |[]=>by simp
 |x::l=>by rw[cells_cons,List.length_append,Enc.len,cells_length l,List.length_cons,Nat.succ_mul,Nat.add_comm]
theorem cells_div{l:List α}{k:Nat}(h:Enc.sz α=k):(cells l).length/k=l.length:=by
 subst h;rw[cells_length,Nat.mul_div_cancel _ Enc.pos]
theorem cells_get(l:List α)(k i j:Nat)(h:Enc.sz α=k)(hj:j<k):(cells l)[i*k+j]?=(l[i]?).bind fun x=>(enc x)[j]?:=by
 subst h;rw[cells,flatMap_get Enc.pos Enc.len]
 have e1:(i*Enc.sz α+j)/Enc.sz α=i:=by
  rw[Nat.mul_comm,Nat.mul_add_div Enc.pos,Nat.div_eq_of_lt hj,Nat.add_zero]
 have e2:(i*Enc.sz α+j) % Enc.sz α=j:=by
  rw[Nat.mul_comm,Nat.mul_add_mod,Nat.mod_eq_of_lt hj]
 rw[e1,e2]
theorem get0{l:List α}{k i:Nat}(h:Enc.sz α=k):(cells l)[i*k]?=(l[i]?).bind fun x=>(enc x)[0]?:=
 cells_get l k i 0 h (h▸Enc.pos)
theorem get1{l:List α}{k i:Nat}(h:Enc.sz α=k)(hj:1<k):(cells l)[i*k+1]?=(l[i]?).bind fun x=>(enc x)[1]?:=
 cells_get l k i 1 h hj
theorem get2{l:List α}{k i:Nat}(h:Enc.sz α=k)(hj:2<k):(cells l)[i*k+1+1]?=(l[i]?).bind fun x=>(enc x)[2]?:=
 cells_get l k i 2 h hj
theorem get3{l:List α}{k i:Nat}(h:Enc.sz α=k)(hj:3<k):(cells l)[i*k+1+1+1]?=(l[i]?).bind fun x=>(enc x)[3]?:=
 cells_get l k i 3 h hj
theorem get4{l:List α}{k i:Nat}(h:Enc.sz α=k)(hj:4<k):(cells l)[i*k+1+1+1+1]?=(l[i]?).bind fun x=>(enc x)[4]?:=
 cells_get l k i 4 h hj
theorem get5{l:List α}{k i:Nat}(h:Enc.sz α=k)(hj:5<k):(cells l)[i*k+1+1+1+1+1]?=(l[i]?).bind fun x=>(enc x)[5]?:=
 cells_get l k i 5 h hj
theorem get6{l:List α}{k i:Nat}(h:Enc.sz α=k)(hj:6<k):(cells l)[i*k+1+1+1+1+1+1]?=(l[i]?).bind fun x=>(enc x)[6]?:=
 cells_get l k i 6 h hj
theorem get7{l:List α}{k i:Nat}(h:Enc.sz α=k)(hj:7<k):(cells l)[i*k+1+1+1+1+1+1+1]?=(l[i]?).bind fun x=>(enc x)[7]?:=
 cells_get l k i 7 h hj
theorem get8{l:List α}{k i:Nat}(h:Enc.sz α=k)(hj:8<k):(cells l)[i*k+1+1+1+1+1+1+1+1]?=(l[i]?).bind fun x=>(enc x)[8]?:=
 cells_get l k i 8 h hj
theorem cells_window{l:List α}{k i:Nat}(h:Enc.sz α=k){x:α}(hx:l[i]?=some x):((cells l).drop (i*k)).take k=enc x:=by
 subst h;refine List.ext_getElem? fun j=>?_;rw[List.getElem?_take];split
 ·rename_i hj;rw[List.getElem?_drop,cells_get l _ i j rfl hj,hx];rfl
 ·rename_i hj;rw[List.getElem?_eq_none (by rw[Enc.len];omega)]
theorem cells_take(l:List α)(k i:Nat)(h:Enc.sz α=k):(cells l).take (i*k)=cells (l.take i):=by
 subst h;induction i generalizing l with
 |zero=>simp
 |succ i ih=>
  cases l with
  |nil=>simp
  |cons x l=>
   rw[List.take_succ_cons,cells_cons,cells_cons,Nat.succ_mul,Nat.add_comm,List.take_append,Enc.len];rw[List.take_of_length_le (by rw[Enc.len];omega),Nat.add_sub_cancel_left,ih]
theorem cells_drop(l:List α)(k i:Nat)(h:Enc.sz α=k):(cells l).drop (i*k)=cells (l.drop i):=by
 subst h;induction i generalizing l with
 |zero=>simp
 |succ i ih=>
  cases l with
  |nil=>simp
  |cons x l=>
   rw[List.drop_succ_cons,cells_cons,Nat.succ_mul,Nat.add_comm,List.drop_append,Enc.len];rw[List.drop_of_length_le (by rw[Enc.len];omega),Nat.add_sub_cancel_left,ih,List.nil_append]
theorem cells_set(l:List α)(k i:Nat)(h:Enc.sz α=k)(x:α)(hi:i<l.length):setCells (cells l) (i*k) (enc x)=cells (l.set i x):=by
 subst h;refine List.ext_getElem? fun j=>?_
 have hle:i*Enc.sz α+Enc.sz α<=l.length*Enc.sz α:=by
  rw[<- Nat.succ_mul];exact Nat.mul_le_mul_right _ hi
 rw[setCells_get _ _ _ _ (by rw[Enc.len,cells_length];exact hle),Enc.len];have hp:0<Enc.sz α:=Enc.pos;have hj:j=j/Enc.sz α*Enc.sz α+j % Enc.sz α:=by rw[Nat.mul_comm];exact(Nat.div_add_mod j _).symm
 have hm:j % Enc.sz α<Enc.sz α:=Nat.mod_lt _ hp
 have hset:(cells (l.set i x))[j]?=((l.set i x)[j/Enc.sz α]?).bind fun y=>(enc y)[j % Enc.sz α]?:=by
  conv=>lhs;rw[hj]
  exact cells_get _ _ _ _ rfl hm
 have hl:(cells l)[j]?=(l[j/Enc.sz α]?).bind fun y=>(enc y)[j % Enc.sz α]?:=by
  conv=>lhs;rw[hj]
  exact cells_get _ _ _ _ rfl hm
 rw[hset,hl];by_cases hij:i=j/Enc.sz α
 ·have h1:i*Enc.sz α<=j:=by rw[hij];exact Nat.div_mul_le_self _ _
  have h2:j<i*Enc.sz α+Enc.sz α:=by rw[hij];omega
  rw[if_pos ⟨h1,h2⟩,<- hij,List.getElem?_set_self hi];have:j-i*Enc.sz α=j % Enc.sz α:=by rw[hij];omega
  rw[this];rfl
 ·rw[if_neg,List.getElem?_set_ne hij];rintro⟨h1,h2⟩;apply hij;refine(Nat.div_eq_of_lt_le ?_ ?_).symm
  ·exact h1
  ·rw[Nat.succ_mul];exact h2
theorem enc_cells_one(x:α):cells [x]=enc x:=by simp[cells]
end
@[simp] theorem oInt_int(k:IntKind)(n:Int):oInt k (.int k n)=some n:=by simp[oInt]
@[simp] theorem oBool_bool(b:Bool):oBool (.bool b)=some b:=Eq.trans rfl rfl
@[simp] theorem oStr_str(b:ByteArray):oStr (.str b)=some b:=Eq.trans rfl rfl
@[simp] theorem oSl_sl(k:Nat)(c:List T):oSl k (.sl k c)=some c:=by simp[oSl]
@[simp] theorem oAgg_agg(c:List T):oAgg (.agg c)=some c:=Eq.trans rfl rfl
@[simp] theorem oTup_tup(c:List T):oTup (.tup c)=some c:=Eq.trans rfl rfl
@[simp] theorem oCons_cons(x:T)(c:List T):oCons (x::c)=some (x,c):=Eq.trans rfl rfl
@[simp] theorem oNil_nil:oNil []=some ():=Eq.trans rfl rfl
theorem bind_of{α β:Type}{x:α}{f:α->Option β}:(Option.bind (some x) f)=f x:=Eq.trans rfl rfl
theorem inB_nat(i n:Nat):inB (i:Int) n=decide (i<n):=by
 unfold inB;rw[Bool.eq_iff_iff];simp
theorem wrap64{x:Int}(h : -9223372036854775808<=x/\x<9223372036854775808):IntKind.wrap .i64 x=x:=by
 unfold IntKind.wrap;simp[IntKind.signed,IntKind.bits];omega
theorem wrap_succ{k:Nat}(h:k<9223372036854775807):IntKind.wrap .i64 ((k:Int)+1)=((k+1:Nat):Int):=by
 rw[wrap64 (by omega)];rfl
def Call(g:FuncId)(args:List T)(r:T):Prop:=LIM g args=some (r,[])
theorem Call.eq{g:FuncId}{args:List T}{r:T}(h:Call g args r):LIM g args=some (r,[]):=h
theorem call_of{g:FuncId}{args:List T}{r:T}(hx:X g=none)(n:Nat)(h:callK prog A H LIM n g args=some (r,[])):Call g args r:=lim_of hx n h
class Sm(α:Type) where
 sm:Nat->α->Prop
 mono:∀{n m:Nat}{x:α},n<=m->sm n x->sm m x
open Sm (sm)
theorem sm_mono{α:Type}[Sm α]{n m:Nat}{x:α}(h:n<=m)(hx:sm n x):sm m x:=Sm.mono h hx
instance:Sm Int:=⟨fun _ _=>True,fun _ h=>h⟩
instance:Sm Bool:=⟨fun _ _=>True,fun _ h=>h⟩
instance:Sm UInt8:=⟨fun _ _=>True,fun _ h=>h⟩
instance:Sm ByteArray:=⟨fun n x=>x.size<=n,fun h hx=>Nat.le_trans hx h⟩
instance {α:Type}[Sm α]:Sm (List α):=⟨fun n l=>l.length<=n/\∀x,x∈l->sm n x,fun h hx=>⟨Nat.le_trans hx.1 h,fun x hm=>sm_mono h (hx.2 x hm)⟩⟩
theorem sl_cells{α:Type}[Enc α]{k:Nat}{l:List α}(h:Enc.sz α=k):T.sl k (cells l)=slc l:=by subst h;rfl
theorem set_Int{l:List Int}{i:Nat}(h:i<l.length)(v:Int):setCells (cells l) (i*1) [.int .i64 v]=cells (l.set i v):=cells_set l 1 i rfl v h
theorem cond_pos{α:Type}{c:Bool}{a b:α}(h:c=true):(bif c then a else b)=a:=by rw[h];rfl
theorem cond_dec{β:Type}{p:Prop}[Decidable p]{x y:β}:(bif decide p then x else y)=if p then x else y:=by
 by_cases h:p <;> simp[h]
theorem beq_dec{α:Type}[BEq α][LawfulBEq α][DecidableEq α]{a b:α}:(a==b)=decide (a=b):=by
 by_cases h:a=b <;> simp[h]
theorem bne_dec{α:Type}[BEq α][LawfulBEq α][DecidableEq α]{a b:α}:(a != b) = !decide (a=b):=by
 by_cases h:a=b <;> simp[h]
theorem cond_nt{β:Type}{b:Bool}{x y:β}:(bif !b then x else y)=bif b then y else x:=by cases b <;> rfl
theorem u8_inj{a b:UInt8}:((a.toNat:Int)=(b.toNat:Int))=(a=b):=by
 rw[eq_iff_iff,Int.ofNat_inj,UInt8.toNat_inj]
theorem str_inj{a b:ByteArray}:(a.toList=b.toList)=(a=b):=by
 rw[eq_iff_iff,Lib.toList_data,Lib.toList_data];constructor
 ·intro h;have:=Array.toList_inj.1 h;cases a;cases b;simp_all
 ·rintro rfl;rfl
end Ev.Ty
end
