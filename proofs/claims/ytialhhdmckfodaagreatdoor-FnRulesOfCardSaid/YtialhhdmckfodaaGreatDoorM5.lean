/- Steps on the way to RowRulesOf: TyEqs, TySame, TyBind, TyRules, TyCmp, TyWalk, TyMatchP, TySortP, TyLpoP, TyLpo, TyDraw, TyDrawT, TyPigeon, TyOrd, TyTheory, TyAlgOf, TyDrawG, TyLpoS, TyPartP, TyRead, TyPool, TyDrawB, TyNormP, TyMatch, TyNorm, TyNormL, TyHasVar, TyHolds, TyAllHold, TyEntries, TySortT, TySortQ, TyGreat. -/
import Derived.Test.YtialhhdmckfodaaGreatDoorM4
set_option linter.unusedSectionVars false
set_option linter.unusedVariables false
set_option linter.unusedSimpArgs false
section
namespace Ev.Ty
open Go Ev
open Enc (enc)
open Sm (sm)
def low6(t:List Int):Bool := !t.any fun n=>decide (n < -6)
theorem qdp{t:List Int}:low6 t=true<->∀n∈t,-6<=n:=by
 unfold low6;rw[Bool.not_eq_true',List.any_eq_false];constructor
 ·intro h n hn;have:=h n hn;simpa using this
 ·intro h n hn;simpa using h n hn
def q4m(l:List Symbol)(e:Equation):Int:=
 if q57 l e.left≠0 then q57 l e.left else if q57 l e.right≠0 then q57 l e.right else if low6 e.left=true then(if low6 e.right=true then 0 else 3)else 3
def q6d(l:List Symbol)(es:List Equation):Int:=
 if 12<es.length then 2 else(es.findSome? fun e=>if q4m l e≠0 then some (q4m l e)else none).getD 0
def qcv(e:Equation):Bool:=decide (0<=e.left.headD 0) && !e.right.any fun n=>decide (n<0/\n∉e.left)
def qb2(l:List Symbol)(es:List Equation):Int:=if q6d l es≠0 then q6d l es else if(es.any fun e=>!qcv e)=true then 1 else 0
def q5b(s:Signature)(es:List Equation):Int:=if q43 s≠0 then q43 s else qb2 s.symbols es
structure EqOk(l:List Symbol)(e:Equation):Prop where
 left:TermOk l e.left
 right:TermOk l e.right
 lowL:∀n∈e.left,-6<=n
 lowR:∀n∈e.right,-6<=n
theorem qku{l:List Symbol}{e:Equation}:q4m l e=0<->EqOk l e:=by
 unfold q4m;constructor
 ·intro h;by_cases h1:q57 l e.left=0
  ·by_cases h2:q57 l e.right=0
   ·by_cases h3:low6 e.left=true
    ·by_cases h4:low6 e.right=true
     ·exact⟨(q90 _ _).1 h1,(q90 _ _).1 h2,qdp.1 h3,qdp.1 h4⟩
     ·simp[h1,h2,h3,h4]at h
    ·simp[h1,h2,h3]at h
   ·simp[h1,h2]at h
  ·simp[h1]at h
 ·intro h;simp[(q90 _ _).2 h.left,(q90 _ _).2 h.right,qdp.2 h.lowL,qdp.2 h.lowR]
theorem q9x{l:List Symbol}{es:List Equation}:q6d l es=0<->es.length<=12/\∀e∈es,EqOk l e:=by
 unfold q6d;by_cases h:12<es.length
 ·rw[if_pos h];constructor
  ·intro h;cases h
  ·intro h';omega
 ·rw[if_neg h]
  have:(es.findSome? fun e=>if q4m l e≠0 then some (q4m l e)else none).getD 0=0<->∀e∈es,q4m l e=0:=by
   cases hf:es.findSome? fun e=>if q4m l e≠0 then some (q4m l e)else none with
   |none=>
    rw[qak]at hf;refine⟨fun _ e he=>?_,fun _=>rfl⟩;have:=hf e he;by_cases h:q4m l e=0
    ·exact h
    ·simp[h]at this
   |some c=>
    obtain⟨e,he,h1⟩:=List.exists_of_findSome?_eq_some hf;by_cases h:q4m l e=0
    ·simp[h]at h1
    ·simp[h]at h1;subst h1;exact⟨fun h'=>absurd h' h,fun h'=>absurd (h' e he) h⟩
  rw[this];constructor
  ·intro h';exact⟨by omega,fun e he=>qku.1 (h' e he)⟩
  ·intro h' e he;exact qku.2 (h'.2 e he)
theorem TermOk.ge{l:List Symbol}{t:List Int}(h:TermOk l t):∀n∈t,-12<=n:=fun n hn=>by
 rcases q5n.1 (h.node n hn)with h|h <;> omega
theorem q1p(l:List Int)(x:Int)(hl:l.length<=4294967296):Call F.q1p [slc l,.int .i64 x] (.bool (decide (x∈l))):=by
 have hi:Call F.q0f [slc l,.int .i64 x] (.int .i64 (idx (fun y=>decide (x=y)) l)):=by
  refine q0v rfl (l.length+1) ((q0f.ev _ _ _).trans ?_);simp only[evz,Nat.reduceLT];refine q94 (S:=fun m k=>q0f.at0 (l.length+1) m (q0f.st0 (cells l) x l.length (k:Nat))) (fun m k h=>?_) (fun m=>?_) (gAR _)
  ·have hlk:l[k]?=some l[k]:=gA h;simp only[q0f.next0,q0f.round0,evz,Nat.reduceLT,h,hlk,q1l];rw[q0n (by omega)];by_cases e:x=l[k] <;> simp[e]
  ·simp only[q0f.next0,q0f.round0,evz,Nat.reduceLT,gAK]
 refine q0v rfl 0 ((q1p.ev _ _ _).trans ?_);simp only[evz,Nat.reduceLT,hi.eq,q95]
 have:(l.any fun y=>decide (x=y))=decide (x∈l):=by
  rw[Bool.eq_iff_iff,List.any_eq_true,gS];constructor
  ·rintro⟨y,hy,h⟩;rw[gS]at h;rw[h];exact hy
  ·intro h;exact⟨x,h,by simp⟩
 rw[this]
theorem q47(t:List Int)(hs:t.length<=4294967296) :
 Call F.q21 [slc t,.clo F.q3q []] (.bool (t.any fun n=>decide (n>=6))):=by
 have hi:Call F.q0l [slc t,.clo F.q3q []] (.int .i64 (idx (fun n=>decide (n>=6)) t)):=by
  refine q0v rfl (t.length+1) ((q09.ev _ _).trans ?_);refine q94 (S:=fun m k=>q09.at0 (t.length+1) m (q09.st0 (cells t) _ (k:Nat))) (fun m k h=>?_) (fun m=>?_) (gAR _)
  ·have hlk:t[k]?=some t[k]:=gA h;have hc:Call F.q3q [.int .i64 t[k]] (.bool (decide (t[k]>=6))):=q0v rfl 0 (q3q.ev _ _);simp only[q09.next0,q09.round0,evz,Nat.reduceLT,h,hlk,q1l,hc.eq];rw[q0n (by omega)];by_cases e:t[k]>=6 <;> simp[e]
  ·simp only[q09.next0,q09.round0,evz,Nat.reduceLT,gAK]
 refine q0v rfl 0 ((q47.ev _ _).trans ?_);simp only[evz,Nat.reduceLT,hi.eq,q95]
theorem q5r(l:List Symbol)(hs:l.length<=4294967296)(a b:List Int)(ha:a.length<=4294967296)(hb:b.length<=4294967296) :
 Call F.q5r [.agg [slc l],.agg [slc a,slc b]] (.int .i64 (if q43 ⟨l⟩≠0 then q43 ⟨l⟩else q4m l ⟨a,b⟩)):=by
 refine q0v rfl 0 ((q5r.ev _ _ _ _).trans ?_);simp only[evz,Nat.reduceLT,(q4v l hs a ha).eq,(q4v l hs b hb).eq,(qd1 _ _).eq,qbq,q4m];by_cases h1:q43 ⟨l⟩=0
 case neg=>simp only[h1,evz,Nat.reduceLT,ne_eq,gX]
 simp only[h1,evz,Nat.reduceLT,ne_eq,gW];by_cases h2:q57 l a=0
 case neg=>simp only[h2,evz,Nat.reduceLT,gX]
 by_cases h3:q57 l b=0
 case neg=>simp only[h2,h3,evz,Nat.reduceLT,gW,gX]
 have ta:=(q90 l a).1 h2;have tb:=(q90 l b).1 h3;have hal:=ta.le;have hbl:=tb.le
 have hv:=q11 [a,b] (by simp) (fun t ht=>by
  simp only[gK,List.not_mem_nil,or_false]at ht;rcases ht with rfl|rfl
  ·exact⟨ha,ta.ge⟩
  ·exact⟨hb,tb.ge⟩) (by simp;omega)
 have hvl:=qem [a,b];have hc:=q47 (qbs [a,b]) (by simp at hvl;omega);simp only[h2,h3,evz,Nat.reduceLT,gW,show LIM F.q11 [.sl 1 [slc a,slc b]]=_ from hv,hc.eq]
 have e1:((qbs [a,b]).any fun n=>decide (n>=6)) = !(low6 a&&low6 b):=by
  rw[Bool.eq_iff_iff,List.any_eq_true,Bool.not_eq_true',Bool.eq_false_iff,ne_eq,gC,qdp,qdp];constructor
  ·rintro⟨v,hv,h6⟩ ⟨q1,q2⟩;rw[gS]at h6;obtain⟨_,t,ht,hm⟩:=q9z.1 hv;simp only[gK,List.not_mem_nil,or_false]at ht;rcases ht with rfl|rfl
   ·have:=q1 _ hm;omega
   ·have:=q2 _ hm;omega
  ·intro h;by_cases q1:∀n∈a,-6<=n
   ·have q2:¬ ∀n∈b,-6<=n:=fun q2=>h ⟨q1,q2⟩;simp only[Classical.not_forall]at q2;obtain⟨n,hn,hlt⟩:=q2;exact⟨-1-n,q9z.2 ⟨by omega,b,by simp,by rw[show -1-(-1-n)=n by omega];exact hn⟩,by simp;omega⟩
   ·simp only[Classical.not_forall]at q1;obtain⟨n,hn,hlt⟩:=q1;exact⟨-1-n,q9z.2 ⟨by omega,a,by simp,by rw[show -1-(-1-n)=n by omega];exact hn⟩,by simp;omega⟩
 rw[e1];cases low6 a <;> cases low6 b <;> rfl
theorem q6s(l:List Symbol)(ok:SigOk ⟨l⟩)(a b:List Int)(ha:a.length<=4294967296)(hb:b.length<=4294967296) :
 Call F.q6s [.rref [slc l] 0,.rref [slc a,slc b] 0] (.int .i64 (q4m l ⟨a,b⟩)):=by
 have la:Call F.q3e [slc a] (.bool (low6 a)):=q3e a ha;have lb:Call F.q3e [slc b] (.bool (low6 b)):=q3e b hb;refine q0v rfl 0 ((q6s.ev _ _ _ _).trans ?_);simp only[evz,Nat.reduceLT,(q1n l ok a ha).eq,(q1n l ok b hb).eq,la.eq,lb.eq,q4m];by_cases h2:q57 l a=0
 case neg=>simp only[h2,evz,Nat.reduceLT,ne_eq,gX]
 by_cases h3:q57 l b=0
 case neg=>simp only[h2,h3,evz,Nat.reduceLT,ne_eq,gW,gX]
 simp only[h2,h3,evz,Nat.reduceLT,ne_eq,gW];cases low6 a <;> cases low6 b <;> rfl
theorem qwl{es:List Equation}{k:Nat}(he:sm 4294967296 es)(h:k<es.length):es[k].left.length<=4294967296/\es[k].right.length<=4294967296:=by
 have:=he.2 es[k] (gG h);exact⟨this.1.1,this.2.1⟩
theorem q0x(l:List Symbol)(hs:l.length<=4294967296)(es:List Equation)(he:sm 4294967296 es) :
 Call F.q0x [.agg [slc l],slc es] (.int .i64 (if q43 ⟨l⟩≠0 then q43 ⟨l⟩else q6d l es)):=by
 refine q0v rfl (es.length+1) ((q0x.ev _ _ _).trans ?_);simp only[evz,Nat.reduceLT,(q08 l hs).eq,q6d,gt_iff_lt];by_cases h1:q43 ⟨l⟩=0
 case neg=>simp only[h1,evz,Nat.reduceLT,ne_eq,gX]
 by_cases h2:12<es.length
 ·have h2':(12:Int)<es.length:=by omega
  simp only[h1,h2,h2',evz,Nat.reduceLT,ne_eq,gW]
 have h2':¬(12:Int)<es.length:=by omega
 simp only[h1,h2,h2',evz,Nat.reduceLT,ne_eq,gW]
 refine(qas (l:=es) (g:=fun e=>if q4m l e≠0 then some (some (.int .i64 (q4m l e),[]))else none) (z:=some (.int .i64 0,[])) (S:=fun m k=>q0x.at0 (es.length+1) m (q0x.st0 (cells es) es.length (k:Nat) (cells l)))
  (fun m k h=>?_) (fun m=>?_) (gAR _)).trans ?_
 ·have hlk:es[k]?=some es[k]:=gA h;obtain⟨q1,q2⟩:=qwl he h;have hc:=q5r l hs es[k].left es[k].right q1 q2;rw[if_neg (by simpa using h1)]at hc;simp only[q0x.next0,q0x.round0,evz,Nat.reduceLT,h,hlk,q4f,hc.eq];rw[q0n (by omega)];by_cases e:q4m l es[k]=0
  ·simp[e]
  ·simp[e]
 ·simp only[q0x.next0,q0x.round0,evz,Nat.reduceLT,gAK]
 ·have:=q9r (fun e=>if q4m l e≠0 then some (q4m l e)else none) (fun n=>(some (T.int .i64 n,[]):R)) es;rw[show(fun e=>(if q4m l e≠0 then some (q4m l e)else none).map fun n=>(some (T.int .i64 n,[]):R))=fun e=>if q4m l e≠0 then some (some (T.int .i64 (q4m l e),[]))else none from funext fun e=>by by_cases h:q4m l e=0 <;> simp[h]]at this;rw[this];cases es.findSome? fun e=>if q4m l e≠0 then some (q4m l e)else none <;> rfl
theorem q2e(l:List Symbol)(ok:SigOk ⟨l⟩)(es:List Equation)(he:sm 4294967296 es):Call F.q2e [.rref [slc l] 0,slc es] (.int .i64 (q6d l es)):=by
 refine q0v rfl (es.length+1) ((q2e.ev _ _ _).trans ?_);simp only[evz,Nat.reduceLT,q6d,gt_iff_lt];by_cases h2:12<es.length
 ·have h2':(12:Int)<es.length:=by omega
  simp only[h2,h2',evz,Nat.reduceLT]
 have h2':¬(12:Int)<es.length:=by omega
 simp only[h2,h2',evz,Nat.reduceLT]
 refine(qas (l:=es) (g:=fun e=>if q4m l e≠0 then some (some (.int .i64 (q4m l e),[]))else none) (z:=some (.int .i64 0,[])) (S:=fun m k=>q2e.at0 (es.length+1) m (q2e.st0 (cells l) (cells es) (k:Nat)))
  (fun m k h=>?_) (fun m=>?_) (gAR _)).trans ?_
 ·have hlk:es[k]?=some es[k]:=gA h;obtain⟨q1,q2⟩:=qwl he h;have hc:=q6s l ok es[k].left es[k].right q1 q2;simp only[q2e.next0,q2e.round0,evz,Nat.reduceLT,h,hlk,q53 q46 hlk,q4f,hc.eq];rw[q0n (by omega)];by_cases e:q4m l es[k]=0
  ·simp[e]
  ·simp[e]
 ·simp only[q2e.next0,q2e.round0,evz,Nat.reduceLT,gAK]
 ·have:=q9r (fun e=>if q4m l e≠0 then some (q4m l e)else none) (fun n=>(some (T.int .i64 n,[]):R)) es;rw[show(fun e=>(if q4m l e≠0 then some (q4m l e)else none).map fun n=>(some (T.int .i64 n,[]):R))=fun e=>if q4m l e≠0 then some (some (T.int .i64 (q4m l e),[]))else none from funext fun e=>by by_cases h:q4m l e=0 <;> simp[h]]at this;rw[this];cases es.findSome? fun e=>if q4m l e≠0 then some (q4m l e)else none <;> rfl
theorem q1r(l r:List Int)(hs:sm 4294967296 l):Call F.q1r [slc l,slc r] (.bool (decide (l=r))):=by
 refine q0v rfl (l.length+1) ((q1r.ev _ _ _).trans ?_);simp only[q5m,q3n];by_cases hl:l.length=r.length
 ·have loop:=qsb hl (S:=fun m k=>q1r.at0 (l.length+1) m (q1r.st0 (cells l) (cells r) (k:Nat)))
   (fun m k h h'=>by
    have hlk:l[k]?=some l[k]:=gA h;have hrk:r[k]?=some r[k]:=gA h';simp only[q1r.next0,q1r.round0,evz,Nat.reduceLT,h,h',hlk,hrk,q53 (l:=l) q3n hlk,q53 (l:=r) q3n hrk,q1l,qm7];rw[q0n (by have:=hs.1;omega)])
   (fun m=>by
    simp only[q1r.next0,q1r.round0,evz,Nat.reduceLT,gAK])
  rw[qcf (by rw[hl];exact bne_self_eq_false _)];exact loop
 ·rw[q1k (by simp;omega)];simp only[show(l=r)=False from eq_false fun e=>hl (e▸rfl),decide_false]
theorem q0t(l r:List Int)(hs:sm 4294967296 l):Call F.q0t [slc l,slc r] (.bool (decide (l=r))):=by
 refine q0v rfl (l.length+1) ((q0t.ev _ _ _).trans ?_);simp only[q5m,q3n];by_cases hl:l.length=r.length
 ·have loop:=qsb hl (S:=fun m k=>q0t.at0 (l.length+1) m (q0t.st0 (cells l) (cells r) l.length (k:Nat)))
   (fun m k h h'=>by
    have hlk:l[k]?=some l[k]:=gA h;have hrk:r[k]?=some r[k]:=gA h';simp only[q0t.next0,q0t.round0,evz,Nat.reduceLT,h,h',hlk,hrk,q53 (l:=l) q3n hlk,q53 (l:=r) q3n hrk,q1l,qm7];rw[q0n (by have:=hs.1;omega)])
   (fun m=>by
    simp only[q0t.next0,q0t.round0,evz,Nat.reduceLT,gAK])
  rw[qcf (by rw[hl];exact bne_self_eq_false _)];exact loop
 ·rw[q1k (by simp;omega)];simp only[show(l=r)=False from eq_false fun e=>hl (e▸rfl),decide_false]
theorem q5x(v_left:List Int)(v_right:List Int)(w_left:List Int)(w_right:List Int)(hs:sm 4294967296 (Equation.mk v_left v_right)):Call F.q5x [.agg [slc v_left,slc v_right],.agg [slc w_left,slc w_right]] (.bool (decide ((Equation.mk v_left v_right)=(Equation.mk w_left w_right)))):=by
 refine q0v rfl 0 ((q5x.ev _ _ _ _ _ ).trans ?_);simp only[evz,Nat.reduceLT,(q0t _ _ hs.1).eq,(q0t _ _ hs.2).eq,Equation.mk.injEq];by_cases h0:v_left=w_left
 case neg=>simp only[h0,  beq_self_eq_true,decide_eq_false,gX,if_true,if_false,decide_false,decide_true,cond_false,cond_true,false_and,and_false,↓reduceIte]
 by_cases h1:v_right=w_right
 case neg=>simp only[h1,h0,  beq_self_eq_true,decide_eq_false,gX,if_true,if_false,decide_false,decide_true,cond_false,cond_true,false_and,and_false,↓reduceIte]
 simp only[h0,h1,if_true,decide_true,cond_true,and_true,and_self,beq_self_eq_true]
theorem q88(v_left:List Int)(v_right:List Int)(w_left:List Int)(w_right:List Int)(hs:sm 4294967296 (Equation.mk v_left v_right)):Call F.q88 [.rref [slc v_left,slc v_right] 0,.rref [slc w_left,slc w_right] 0] (.bool (decide ((Equation.mk v_left v_right)=(Equation.mk w_left w_right)))):=by
 refine q0v rfl 0 ((q88.ev _ _ _ _ _ ).trans ?_);simp only[evz,Nat.reduceLT,(q1r _ _ hs.1).eq,(q1r _ _ hs.2).eq,Equation.mk.injEq];by_cases h0:v_left=w_left
 case neg=>simp only[h0,  beq_self_eq_true,decide_eq_false,gX,if_true,if_false,decide_false,decide_true,cond_false,cond_true,false_and,and_false,↓reduceIte]
 by_cases h1:v_right=w_right
 case neg=>simp only[h1,h0,  beq_self_eq_true,decide_eq_false,gX,if_true,if_false,decide_false,decide_true,cond_false,cond_true,false_and,and_false,↓reduceIte]
 simp only[h0,h1,if_true,decide_true,cond_true,and_true,and_self,beq_self_eq_true]
theorem q3f(a b c d e:Int)(l r:List Int):Call F.q3f [.agg [.int .i64 a,.int .i64 b,.int .i64 c,.int .i64 d,.int .i64 e,slc l,slc r]] (.agg [slc l,slc r]):=
 q0v rfl 0 ((q3f.ev _ _ _ _ _ _ _ _).trans rfl)
theorem qfv(a b:Int):Call F.q67 [.sl 1 [.int .i64 a,.int .i64 b]] (.int .i64 (if a=0 then b else a)):=qd1 a b
theorem qdu{a:Int->Nat}:∀{t r:List Int}{k p:Nat},skip a k t=some r->p+r.length<t.length->∃q,skip a 1 (t.drop p)=some q
 |[],r,k,p,h,hp=>by simp at hp
 |n::t,r,0,p,h,hp=>by
  rw[q4n]at h;cases h;omega
 |n::t,r,k+1,0,h,hp=>by
  rw[show k+1=1+k by omega,qb8]at h;cases h1:skip a 1 (n::t)with
  |none=>rw[h1]at h;cases h
  |some q=>exact⟨q,by simpa using h1⟩
 |n::t,r,k+1,p+1,h,hp=>by
  rw[skip]at h;obtain⟨q,hq⟩:=qdu (p:=p) h (by simp at hp;omega);exact⟨q,by simpa using hq⟩
def q5k(l:List Symbol)(t:List Int)(p:Nat):Nat:=match skip (ar l) 1 (t.drop p)with
 |some r=>t.length-r.length
 |none=>t.length
theorem q50{l:List Symbol}{t:List Int}(ok:TermOk l t){p:Nat}(hp:p<t.length) :
 p<q5k l t p/\q5k l t p<=t.length/\∀z,qah z t (skip (ar l) 1 (t.drop p))=(q5k l t p:Nat):=by
 obtain⟨q,hq⟩:=qdu (p:=p) ok.skip (by simpa using hp);have h:=qls hq;unfold q5k;rw[hq];refine⟨?_,by simp only;omega,fun z=>rfl⟩;have:=h.2.2 (by omega);simp only;omega
section
variable {l:List Symbol}(ok:SigOk ⟨l⟩)
include ok
theorem qlx{t:List Int}(ht:TermOk l t){p:Nat}(hp:p<t.length):Call F.q3d [.agg [slc l],slc t,.int .i64 p] (.int .i64 (q5k l t p:Nat)):=by
 have h:=q3d ok t ht.node (by have:=ht.le;omega) p (Nat.le_of_lt hp);rwa[(q50 ht hp).2.2]at h
theorem qa4{t:List Int}(ht:TermOk l t){p:Nat}(hp:p<t.length):Call F.q2q [.rref [slc l] 0,slc t,.int .i64 p] (.int .i64 (q5k l t p:Nat)):=by
 have h:=q2q ok t ht.node (by have:=ht.le;omega) p (Nat.le_of_lt hp);rwa[(q50 ht hp).2.2]at h
end
theorem qi1(t:List Int)(i j:Nat):((cells t).take (j*1)).drop (i*1)=cells ((t.take j).drop i):=by
 rw[q8k t 1 j rfl,qa1 _ 1 i rfl]
def q37(l:List Symbol)(t:List Int)(p:Nat):List Int:=(t.take (q5k l t p)).drop p
theorem qc8(t:List Int)(i j:Nat):T.sl 1 (((cells t).take (j*1)).drop (i*1))=slc ((t.take j).drop i):=by rw[qi1];rfl
theorem q4o (l:List Int)(h:l.length<=4294967296):Call F.q2u [slc l] (slc l):=by
 refine q0v rfl 0 ((q2u.ev _ _).trans ?_);rw[q5a,q1k rfl,q1k (q44 (by rw[q0p,q3n];omega))];rfl
theorem q2c(l:List Int)(h:l.length<=4294967296):Call F.q2c [slc l] (slc l):=by
 refine qed (e:=cloneE) rfl (Ev.of fun m=>?_);show(qdg (cells l)).bind _=_;rw[<- q8z,qb7];show(bif _ then _ else _)=_;rw[q1k (by rw[decide_eq_true_iff];omega),q8z];rfl
section
variable {l:List Symbol}(ok:SigOk ⟨l⟩)
include ok
theorem q3t{t:List Int}(ht:TermOk l t){p:Nat}(hp:p<t.length):Call F.q3t [.agg [slc l],slc t,.int .i64 p] (slc (q37 l t p)):=by
 refine q0v rfl 0 ((q3t.ev _ _ _ _).trans ?_);obtain⟨h1,h2,_⟩:=q50 ht hp;simp only[evz,Nat.reduceLT,(qlx ok ht hp).eq];rw[q1k (by simp;omega),qc8];rfl
theorem q6w{t:List Int}(ht:TermOk l t){p:Nat}(hp:p<t.length):Call F.q6w [.rref [slc l] 0,slc t,.int .i64 p] (slc (q37 l t p)):=by
 refine q0v rfl 0 ((q6w.ev _ _ _ _).trans ?_);obtain⟨h1,h2,_⟩:=q50 ht hp;have hle:=ht.le;simp only[evz,Nat.reduceLT,(qa4 ok ht hp).eq];rw[q1k (by simp;omega),qc8,(q4o _ (by simp;omega)).eq];simp only[evz,Nat.reduceLT];rfl
def q5v(l:List Symbol)(t:List Int)(p:Nat)(by_:List Int):List Int:=(t.take p++by_)++t.drop (q5k l t p)
theorem q6m{t:List Int}(ht:TermOk l t){p:Nat}(hp:p<t.length)(by_:List Int)(hb:by_.length<=1048576):Call F.q6m [.agg [slc l],slc t,.int .i64 p,slc by_] (slc (q5v l t p by_)):=by
 refine q0v rfl 0 ((q6m.ev _ _ _ _ _).trans ?_);obtain⟨h1,h2,_⟩:=q50 ht hp;have hle:=ht.le;simp only[q5m,q3n,gR];rw[q1k (by simp;omega),qc8,(q2c _ (by simp;omega)).eq];simp only[evz,Nat.reduceLT,q5a,(qlx ok ht hp).eq,qi1,<- q3c,q5m,q3n,gR];rw[q1k (q44 (by rw[q0p,q0p,q3n];simp;omega)),q1k (by simp;omega),q1k (q44 (by rw[q0p,q0p,q3n];simp;omega))];simp[q5v,slc]
theorem q68{t:List Int}(ht:TermOk l t){p:Nat}(hp:p<t.length)(by_:List Int)(hb:by_.length<=1048576):Call F.q68 [.rref [slc l] 0,slc t,.int .i64 p,slc by_] (slc (q5v l t p by_)):=by
 refine q0v rfl 0 ((q68.ev _ _ _ _ _).trans ?_);obtain⟨h1,h2,_⟩:=q50 ht hp;have hle:=ht.le;simp only[q5m,q3n,gR];rw[q1k (by simp;omega),qc8,(q4o _ (by simp;omega)).eq];simp only[evz,Nat.reduceLT,q5a,(qa4 ok ht hp).eq,qi1,<- q3c,q5m,q3n,gR];rw[q1k (q44 (by rw[q0p,q0p,q3n];simp;omega)),q1k (by simp;omega),q1k (q44 (by rw[q0p,q0p,q3n];simp;omega))];simp[q5v,slc]
end
theorem qfl{l:List Symbol}{t:List Int}{p:Nat}{by_:List Int}:(q5v l t p by_).length<=t.length+by_.length+t.length:=by simp[q5v];omega
def q6p(vs:List Int)(ts:List (List Int))(v:Int):Option (List Int):=if idx (fun x=>decide (x=v)) vs<0 then none else ts[(idx (fun x=>decide (x=v)) vs).toNat]?
theorem q0f(l:List Int)(x:Int)(hl:l.length<=4294967296):Call F.q0f [slc l,.int .i64 x] (.int .i64 (idx (fun y=>decide (y=x)) l)):=by
 refine q0v rfl (l.length+1) ((q0f.ev _ _ _).trans ?_);simp only[evz,Nat.reduceLT];refine q94 (S:=fun m k=>q0f.at0 (l.length+1) m (q0f.st0 (cells l) x l.length (k:Nat))) (fun m k h=>?_) (fun m=>?_) (gAR _)
 ·have hlk:l[k]?=some l[k]:=gA h;simp only[q0f.next0,q0f.round0,evz,Nat.reduceLT,h,hlk,q1l];rw[q0n (by omega)];by_cases e:x=l[k]
  ·simp[e]
  ·have e':¬ l[k]=x:=fun h=>e h.symm;simp[e,e']
 ·simp only[q0f.next0,q0f.round0,evz,Nat.reduceLT,gAK]
def ofT:Option (List Int)->T
 |some t=>.tup [slc t,.bool true]
 |none=>.tup [slc ([]:List Int),.bool false]
theorem q5p(vs:List Int)(ts:List (List Int))(v:Int)(hl:vs.length=ts.length)(hs:vs.length<=4294967296):Call F.q5p [.agg [slc vs,slc ts],.int .i64 v] (ofT (q6p vs ts v)):=by
 refine q0v rfl 0 ((q5p.ev _ _ _ _).trans ?_);simp only[evz,Nat.reduceLT,(q0f vs v hs).eq,q6p];rcases q8s (fun x:Int=>decide (x=v)) vs with⟨h,_⟩|⟨i,hi,h,_,_⟩
 ·simp only[h,evz,Nat.reduceLT,ofT,q4s,show((-1:Int)<0)=True from by simp]
 ·have hn:¬((i:Nat):Int)<0:=by omega
  have hit:i<ts.length:=by omega
  simp only[h,hn,evz,Nat.reduceLT,hit,gA,qc2,ofT]
theorem q31(vs:List Int)(ts:List (List Int))(v:Int)(hl:vs.length=ts.length)(hs:vs.length<=4294967296):Call F.q31 [.rref [slc vs,slc ts] 0,.int .i64 v] (slc ((q6p vs ts v).getD [])):=by
 refine q0v rfl (vs.length+1) ((q31.ev _ _ _ _).trans ?_)
 have loop:=qas (l:=List.range vs.length) (g:=fun k=>if vs[k]?=some v then some (some (slc (ts[k]?.getD []),[]))else none) (z:=some (slc ([]:List Int),[]))
  (S:=fun m k=>q31.at0 (vs.length+1) m (q31.st0 (cells vs) (cells ts) v (k:Nat))) (fun m k h=>?_) (fun m=>?_) (f:=vs.length+1) (by simp)
 ·refine loop.trans ?_;unfold q6p;rcases q8s (fun x:Int=>decide (x=v)) vs with⟨h,hno⟩|⟨i,hi,h,hyes,hno⟩
  ·rw[h,if_pos (by omega)]
   have:(List.range vs.length).findSome? (fun k=>if vs[k]?=some v then some ((some (slc (ts[k]?.getD []),[]):R))else none)=none:=by
    rw[List.findSome?_eq_none_iff];intro k hk;rw[List.mem_range]at hk;rw[if_neg];rw[gA hk];intro e;have:=hno _ (gG hk);simp at this e;exact this e
   rw[this];rfl
  ·rw[h,if_neg (by omega)];have hit:i<ts.length:=by omega
   have:(List.range vs.length).findSome? (fun k=>if vs[k]?=some v then some ((some (slc (ts[k]?.getD []),[]):R))else none)=some (some (slc ts[i],[])):=by
    rw[List.findSome?_eq_some_iff];refine⟨List.range i,i,(List.range' (i+1) (vs.length-i-1)),?_,?_,?_⟩
    ·rw[List.range_eq_range',List.range_eq_range',<- List.range'_succ,show vs.length-i-1+1=vs.length-i by omega];have:=List.range'_append (s:=0) (m:=i) (n:=vs.length-i) (step:=1);simp only[Nat.one_mul,gAJ]at this;rw[this,Nat.add_sub_cancel' (Nat.le_of_lt hi)]
    ·have e1:vs[i]?=some v:=(gA hi).trans (congrArg some (gAH hyes));have e2:ts[i]?=some ts[i]:=gA hit;simp only[e1,e2,if_true,Option.getD_some]
    ·intro k hk;rw[List.mem_range]at hk;rw[if_neg];rw[gA (by omega)];intro e;have:=hno k hk;simp at this e;exact this e
   rw[this,gR,gA hit];rfl
 ·rw[List.length_range]at h;have hlk:vs[k]?=some vs[k]:=gA h;have hkt:k<ts.length:=by omega
  simp only[q31.next0,q31.round0,evz,Nat.reduceLT,h,hkt,hlk,gA,q1l,qc2,List.getElem_range,Option.getD_some,Option.some.injEq];rw[q0n (by omega)];by_cases e:vs[k]=v <;> simp[e]
 ·rw[List.length_range];simp only[q31.next0,q31.round0,evz,Nat.reduceLT,gAK,q4s]
def q0k(vs:List Int)(ts:List (List Int))(t:List Int):List Int:=t.flatMap fun n=>(q6p vs ts (-1-n)).getD [n]
structure BindOk(vs:List Int)(ts:List (List Int)):Prop where
 len:vs.length=ts.length
 le:vs.length<=1000
 nn:∀v∈vs,0<=v
 tm:∀t∈ts,1<=t.length/\t.length<=4096
theorem qkd{vs:List Int}{ts:List (List Int)}(ok:BindOk vs ts){v:Int}(hv:v<0):q6p vs ts v=none:=by
 unfold q6p;rcases q8s (fun x:Int=>decide (x=v)) vs with⟨h,_⟩|⟨i,hi,h,hy,_⟩
 ·rw[if_pos (by omega)]
 ·have:=ok.nn _ (gG hi);simp at hy;omega
theorem q8o{vs:List Int}{ts:List (List Int)}{v:Int}{t:List Int}(h:q6p vs ts v=some t):t∈ts:=by
 unfold q6p at h;split at h
 ·cases h
 ·exact List.mem_of_getElem? h
def qbn(vs:List Int)(ts:List (List Int))(o:List Int)(n:Int):List Int:=o++(q6p vs ts (-1-n)).getD [n]
theorem qh7(vs:List Int)(ts:List (List Int)):∀(t o:List Int),t.foldl (qbn vs ts) o=o++q0k vs ts t
 |[],o=>by simp[q0k]
 |n::t,o=>by
  rw[List.foldl_cons,qh7 vs ts t];simp[qbn,q0k]
def appI(k:Nat)(o:List Int):Prop:=o.length<=k*4096
theorem qhc{vs:List Int}{ts:List (List Int)}(ok:BindOk vs ts){k:Nat}{o:List Int}{n:Int}(h:appI k o):appI (k+1) (qbn vs ts o n):=by
 unfold appI qbn at *;rw[gM];cases hb:q6p vs ts (-1-n)with
 |none=>simp;omega
 |some t=>have:=(ok.tm t (q8o hb)).2;simp;omega
theorem q8m{vs:List Int}{ts:List (List Int)}(ok:BindOk vs ts)(t:List Int):(q0k vs ts t).length<=t.length*4096:=by
 have:=qvm (l:=t) (g:=qbn vs ts) appI (fun k o _ h=>qhc ok h) [] (by simp[appI]);rw[qh7]at this;simpa[appI]using this
theorem q0o(vs:List Int)(ts:List (List Int))(ok:BindOk vs ts)(t:List Int)(ht:t.length<=4096)(hr:∀n∈t,-4611686018427387904<=n/\n<=4611686018427387904):Call F.q0o [.agg [slc vs,slc ts],slc t] (slc (q0k vs ts t)):=by
 have hle:=ok.le;refine q0v rfl (t.length+1) ((q0o.ev _ _ _ _).trans ?_);simp only[q5m,q3n]
 have key:=qmf (l:=t) (f:=t.length+1) (S:=fun m k (o:List Int)=>q0o.at0 (t.length+1) m (q0o.st0 (cells t) t.length (k:Nat) (cells vs) (cells ts) (cells o))) (g:=qbn vs ts) (z:=fun(o:List Int)=>some (slc o,[])) appI
  (fun m k o h ho=>?_) (fun k o h ho=>qhc ok ho) (fun m o ho=>?_) [] (by simp[appI]) (by omega)
 ·rw[qh7]at key;exact key
 ·have hn:=hr _ (gG h);have ho:o.length<=k*4096:=ho;simp only[q0o.next0,q0o.round0,evz,Nat.reduceLT,h,gA,q1l,q3g (x := -1-t[k]) (by omega),(q5p vs ts (-1-t[k]) ok.len (by omega)).eq,qbn];cases hb:q6p vs ts (-1-t[k])with
  |none=>
   simp only[ofT,evz,Nat.reduceLT,q5a,Option.getD_none,<- q3c];rw[q1k (q44 (by rw[q0p,q3n];omega)),q2f,q0n (by omega)]
  |some x=>
   have hx:=(ok.tm x (q8o hb)).2;simp only[ofT,evz,Nat.reduceLT,q5a,Option.getD_some,<- q3c];rw[q1k (q44 (by rw[q0p,q0p,q3n];omega)),q0n (by omega)]
 ·simp only[q0o.next0,q0o.round0,evz,Nat.reduceLT,gAK]
theorem q1f(vs:List Int)(ts:List (List Int))(ok:BindOk vs ts)(t:List Int)(ht:t.length<=4096)(hr:∀n∈t,-4611686018427387904<=n/\n<=4611686018427387904):Call F.q1f [.rref [slc vs,slc ts] 0,slc t] (slc (q0k vs ts t)):=by
 have hle:=ok.le;refine q0v rfl (t.length+1) ((q1f.ev _ _ _ _).trans ?_)
 have key:=qmf (l:=t) (f:=t.length+1) (S:=fun m k (o:List Int)=>q1f.at0 (t.length+1) m (q1f.st0 (cells vs) (cells ts) (cells t) (k:Nat) (cells o))) (g:=qbn vs ts) (z:=fun(o:List Int)=>some (slc o,[])) appI
  (fun m k o h ho=>?_) (fun k o h ho=>qhc ok ho) (fun m o ho=>?_) [] (by simp[appI]) (by omega)
 ·rw[qh7]at key;exact key
 ·have hn:=hr _ (gG h);have ho:o.length<=k*4096:=ho;by_cases hneg:t[k]<0
  ·simp only[q1f.next0,q1f.round0,evz,Nat.reduceLT,h,gA,q1l,hneg,q3g (x := -1-t[k]) (by omega),(q31 vs ts (-1-t[k]) ok.len (by omega)).eq,qbn];cases hb:q6p vs ts (-1-t[k])with
   |none=>
    simp only[q4s,evz,Nat.reduceLT,List.all_nil,Option.getD_none,qdd,List.length_nil,<- q3c,Int.natCast_zero,Nat.zero_div,Int.ofNat_zero];rw[q1k (q44 (by rw[q0p,q3n];omega)),q2f,q0n (by omega)]
   |some x=>
    have hx:=ok.tm x (q8o hb);have hx0:¬((x.length:Int)=0):=by omega
    simp only[evz,Nat.reduceLT,q5a,Option.getD_some,hx0,<- q3c];rw[q1k (q44 (by rw[q0p,q0p,q3n];omega)),q0n (by omega)]
  ·simp only[q1f.next0,q1f.round0,evz,Nat.reduceLT,h,gA,q1l,hneg,qbn,qkd ok (v := -1-t[k]) (by omega),Option.getD_none];rw[q1k (q44 (by rw[q0p,q3n];omega)),q2f,q0n (by omega)]
 ·simp only[q1f.next0,q1f.round0,evz,Nat.reduceLT,gAK]
theorem q7w{vs:List Int}{k:Nat}(h:k<vs.length):vs.getD k 0=vs[k]:=by rw[gI,gA h];rfl
theorem q4l(t v:List Int)(hs:t.length<=4294967296)(hv:v.length<=4294967296) :
 Call F.q21 [slc t,.clo F.q5h [.rref [slc v] 0]] (.bool (t.any fun n=>decide (n∉v))):=by
 have hi:Call F.q0l [slc t,.clo F.q5h [.rref [slc v] 0]] (.int .i64 (idx (fun n=>decide (n∉v)) t)):=by
  refine q0v rfl (t.length+1) ((q0g.ev _ _ _).trans ?_);refine q94 (S:=fun m k=>q0g.at0 (t.length+1) m (q0g.st0 (cells t) _ _ (k:Nat))) (fun m k h=>?_) (fun m=>?_) (gAR _)
  ·have hlk:t[k]?=some t[k]:=gA h
   have hc:Call F.q5h [.int .i64 t[k],.rref [slc v] 0] (.bool (decide (t[k]∉v))):=by
    refine q0v rfl 0 ((q5h.ev _ _ _).trans ?_);simp only[evz,Nat.reduceLT,(q1p v t[k] hv).eq,decide_not]
   simp only[q0g.next0,q0g.round0,evz,Nat.reduceLT,h,hlk,q1l,hc.eq];rw[q0n (by omega)];by_cases e:t[k]∈v <;> simp[e]
  ·simp only[q0g.next0,q0g.round0,evz,Nat.reduceLT,gAK]
 refine q0v rfl 0 ((q4l.ev _ _ _).trans ?_);simp only[evz,Nat.reduceLT,hi.eq,q95]
theorem qi5{l:List Symbol}{t:List Int}(h:TermOk l t):Call F.q11 [.sl 1 [slc t]] (slc (qbs [t]))/\(qbs [t]).length<=24:=by
 have hle:=h.le;have hvl:=qem [t];refine⟨q11 [t] (by simp) (fun x hx=>?_) (by simp;omega),by simp at hvl;omega⟩;simp only[gK,List.not_mem_nil,or_false]at hx;subst hx;exact⟨by omega,h.ge⟩
theorem qy7{l:List Symbol}{t:List Int}(h:TermOk l t):t[0]?=some (t.headD 0):=by
 have:=h.pos;cases t with
 |nil=>simp at this
 |cons x r=>rfl
theorem q9l{l:List Symbol}{a b:List Int}(ha:TermOk l a)(hb:TermOk l b):Call F.q9l [.agg [slc a,slc b]] (.bool (qcv ⟨a,b⟩)):=by
 refine q0v rfl 0 ((q9l.ev _ _ _).trans ?_);obtain⟨ca,la⟩:=qi5 ha;obtain⟨cb,lb⟩:=qi5 hb
 have h0:(cells a)[0]?=some (.int .i64 (a.headD 0)):=by
  have:=get0 (l:=a) (k:=1) (i:=0) q3n;rw[Nat.zero_mul]at this;rw[this,qy7 ha];rfl
 have hin:inB 0 ((cells a).length/1)=true:=by
  rw[q5m q3n];have:=q7a 0 a.length;have hp:=ha.pos;rw[show(0:Int)=((0:Nat):Int)from rfl,this];exact decide_eq_true hp
 have hc:=q4l (qbs [b]) (qbs [a]) (by omega) (by omega);rw[hin,cond_true,h0];simp only[evz,Nat.reduceLT,qcv]
 have e:((qbs [b]).any fun n=>decide (n∉qbs [a]))=b.any fun n=>decide (n<0/\n∉a):=by
  rw[Bool.eq_iff_iff,List.any_eq_true,List.any_eq_true];constructor
  ·rintro⟨v,hv,h⟩;rw[gS]at h;obtain⟨v0,t,ht,hm⟩:=q9z.1 hv;simp only[gK,List.not_mem_nil,or_false]at ht;subst ht;refine⟨-1-v,hm,?_⟩;rw[gS];exact⟨by omega,fun hn=>h (q9z.2 ⟨v0,a,by simp,hn⟩)⟩
  ·rintro⟨n,hn,h⟩;rw[gS]at h;refine⟨-1-n,q9z.2 ⟨by omega,b,by simp,by rw[show -1-(-1-n)=n by omega];exact hn⟩,?_⟩;rw[gS];intro hm;obtain⟨_,t,ht,hm'⟩:=q9z.1 hm;simp only[gK,List.not_mem_nil,or_false]at ht;subst ht;rw[show -1-(-1-n)=n by omega]at hm';exact h.2 hm'
 by_cases h1:a.headD 0<0
 ·have h2:¬ 0<=a.headD 0:=by omega
  simp only[h1,h2,evz,Nat.reduceLT,Bool.false_and]
 ·have h2:0<=a.headD 0:=by omega
  simp only[h1,h2,evz,Nat.reduceLT,ca.eq,cb.eq,hc.eq,e,Bool.true_and]
theorem q5d(l:List Symbol)(hs:l.length<=4294967296)(es:List Equation)(he:sm 4294967296 es):Call F.q5d [.agg [slc l],slc es] (.int .i64 (q5b ⟨l⟩ es)):=by
 refine q0v rfl 0 ((q5d.ev _ _ _).trans ?_);simp only[evz,Nat.reduceLT,(q0x l hs es he).eq,q5b,qb2];by_cases h1:q43 ⟨l⟩=0
 case neg=>simp only[h1,evz,Nat.reduceLT,ne_eq,gX]
 simp only[h1,evz,Nat.reduceLT,ne_eq,gW];by_cases h2:q6d l es=0
 case neg=>simp only[h2,evz,Nat.reduceLT,gX]
 obtain⟨hlen,hok⟩:=q9x.1 h2
 have hi:Call F.q1u [slc es,.clo F.q4c []] (.int .i64 (idx (fun e=>!qcv e) es)):=by
  refine q0v rfl (es.length+1) ((q0a.ev _ _).trans ?_);simp only[evz,Nat.reduceLT];refine q94 (S:=fun m k=>q0a.at0 (es.length+1) m (q0a.st0 (cells es) es.length (k:Nat))) (fun m k h=>?_) (fun m=>?_) (gAR _)
  ·have hlk:es[k]?=some es[k]:=gA h;have ho:=hok es[k] (gG h)
   have hc:Call F.q4c [.agg [slc es[k].left,slc es[k].right]] (.bool (!qcv es[k])):=by
    refine q0v rfl 0 ((q4c.ev _ _ _).trans ?_);simp only[evz,Nat.reduceLT,(q9l ho.left ho.right).eq]
   simp only[q0a.next0,q0a.round0,evz,Nat.reduceLT,h,hlk,q4f,hc.eq];rw[q0n (by omega)];cases qcv es[k] <;> rfl
  ·simp only[q0a.next0,q0a.round0,evz,Nat.reduceLT,gAK]
 have hc:Call F.q4d [slc es,.clo F.q4c []] (.bool (es.any fun e=>!qcv e)):=by
  refine q0v rfl 0 ((q6x.ev _ _).trans ?_);simp only[evz,Nat.reduceLT,hi.eq,q95]
 simp only[h2,evz,Nat.reduceLT,gW,hc.eq];cases es.any fun e=>!qcv e <;> rfl
theorem q22(t:List Int)(x:Int)(hl:t.length<=4294967296):Call F.q22 [slc t,.int .i64 x] (.int .i64 (t.count x:Nat)):=by
 have loop:∀m k (c:Nat),k<=t.length->t.length<m+k->c<=k->
  q22.at0 (t.length+1) m (q22.st0 (cells t) x (c:Nat) (k:Nat))=some (.int .i64 ((c+(t.drop k).count x:Nat):Int),[]):=by
  intro m;induction m with
  |zero=>intros;omega
  |succ m ih=>
   intro k c hk hm hc;by_cases h:k<t.length
   ·have hlk:t[k]?=some t[k]:=gA h;simp only[q22.next0,q22.round0,evz,Nat.reduceLT,h,hlk,q1l];rw[q0n (by omega),q0n (by omega),gH h,List.count_cons];by_cases e:t[k]=x
    ·simp only[e,evz,Nat.reduceLT];rw[ih (k+1) (c+1) (by omega) (by omega) (by omega)];simp;omega
    ·simp only[e,evz,Nat.reduceLT];rw[ih (k+1) c (by omega) (by omega) (by omega)];simp[e]
   ·obtain rfl:k=t.length:=by omega
    simp only[q22.next0,q22.round0,evz,Nat.reduceLT,gAK,List.drop_length,List.count_nil,Nat.add_zero]
 refine q0v rfl (t.length+1) ((q22.ev _ _ _).trans ?_);have:=loop (t.length+1) 0 0 (by omega) (by omega) (by omega);rw[List.drop_zero,gAJ]at this;exact this
theorem q0y(l:List Symbol)(ok:SigOk ⟨l⟩)(es:List Equation)(he:sm 4294967296 es):Call F.q0y [.rref [slc l] 0,slc es] (.int .i64 (qb2 l es)):=by
 refine q0v rfl 25 ((q0y.ev _ _ _).trans ?_);simp only[evz,Nat.reduceLT,(q2e l ok es he).eq,qb2];by_cases h2:q6d l es=0
 case neg=>simp only[h2,evz,Nat.reduceLT,ne_eq,gX]
 obtain⟨hlen,hok⟩:=q9x.1 h2;simp only[h2,evz,Nat.reduceLT,ne_eq,gW]
 have inner:∀(L0:St->R)(k:Nat)(h:k<es.length),
  q0y.at2 25 L0 25 (q0y.st2 (cells es) (k:Nat) ((0:Nat):Int))=if(es[k].right.any fun n=>decide (n<0/\n∉es[k].left))=true then some (.int .i64 1,[])else L0 (q0y.st0 (cells es) ((k+1:Nat):Int)):=fun L0 k h=>by
  have hlk:es[k]?=some es[k]:=gA h;have ho:=hok es[k] (gG h);have hle:=ho.right.le;have hle':=ho.left.le;refine q9c (l:=es[k].right) (p:=fun n=>decide (n<0/\n∉es[k].left)) (r:=some (.int .i64 1,[])) (S:=fun m j=>q0y.at2 25 L0 m (q0y.st2 (cells es) (k:Nat) (j:Nat))) (fun m j hj=>?_) (fun m=>?_) (by omega)
  ·have hlj:es[k].right[j]?=some es[k].right[j]:=gA hj;simp only[q0y.next2,q0y.round2,evz,Nat.reduceLT,h,hlk,hj,hlj,q4f,q1l,(q22 es[k].left es[k].right[j] (by omega)).eq];rw[q0n (by omega)];by_cases q1:es[k].right[j]<0
   ·by_cases q2:es[k].right[j]∈es[k].left
    ·have q3:0<es[k].left.count es[k].right[j]:=List.count_pos_iff.2 q2;have q4:¬((es[k].left.count es[k].right[j]:Nat):Int)=0:=by omega
     simp only[q1,q2,q4,evz,Nat.reduceLT,gW,and_false,Bool.false_eq_true]
    ·have q3:es[k].left.count es[k].right[j]=0:=List.count_eq_zero.2 q2;simp only[q1,q2,q3,evz,Nat.reduceLT,gX,and_true,Int.natCast_zero]
   ·simp only[q1,evz,Nat.reduceLT,false_and,Bool.false_eq_true]
  ·simp only[q0y.next2,q0y.round2,evz,Nat.reduceLT,h,hlk,q4f,gAK];rw[q0n (by omega)]
 refine(q9c (l:=es) (p:=fun e=>!qcv e) (r:=some (.int .i64 1,[])) (z:=some (.int .i64 0,[])) (S:=fun m k=>q0y.at0 25 m (q0y.st0 (cells es) (k:Nat))) (fun m k h=>?_) (fun m=>?_) (show es.length<25 by omega)).trans ?_
 ·have hlk:es[k]?=some es[k]:=gA h;have ho:=hok es[k] (gG h)
  have h0:(cells es[k].left)[0]?=some (.int .i64 (es[k].left.headD 0)):=by
   have:=get0 (l:=es[k].left) (k:=1) (i:=0) q3n;rw[Nat.zero_mul]at this;rw[this,qy7 ho.left];rfl
  have hin:inB 0 es[k].left.length=true:=by
   have:=q7a 0 es[k].left.length;have hp:=ho.left.pos;rw[show(0:Int)=((0:Nat):Int)from rfl,this];exact decide_eq_true hp
  simp only[q0y.next0,q0y.round0,evz,Nat.reduceLT,h,hlk,q4f,hin,h0,qcv];by_cases q1:es[k].left.headD 0<0
  ·have q2:¬ 0<=es[k].left.headD 0:=by omega
   simp only[q1,q2,evz,Nat.reduceLT,Bool.false_and,Bool.not_false]
  ·have q2:0<=es[k].left.headD 0:=by omega
   simp only[q1,q2,evz,Nat.reduceLT,Bool.true_and,Bool.not_not];exact inner _ k h
 ·simp only[q0y.next0,q0y.round0,evz,Nat.reduceLT,gAK]
 ·cases es.any fun e=>!qcv e <;> rfl
theorem q5f(l:List Symbol)(hs:l.length<=4294967296)(es:List Equation)(he:sm 4294967296 es):Call F.q5f [.agg [slc l],slc es] (.int .i64 (q5b ⟨l⟩ es)):=by
 refine q0v rfl 0 ((q5f.ev _ _ _).trans ?_);simp only[evz,Nat.reduceLT,(q02 l hs).eq,q5b];by_cases h1:q43 ⟨l⟩=0
 case neg=>simp only[h1,evz,Nat.reduceLT,ne_eq,gX]
 have ok:=(q8h _).1 h1;simp only[h1,evz,Nat.reduceLT,ne_eq,gW,(q0y l ok es he).eq]
def q7x(l:List Symbol)(t:List Int):Nat->Nat->List Nat
 |0,_=>[]
 |n+1,p=>p::q7x l t n (q5k l t p)
def q3x(l:List Symbol)(t:List Int)(p:Nat):List Nat:=q7x l t (ar l (t.getD p 0)) (p+1)
theorem q6q(l:List Symbol)(t:List Int):∀n p,(q7x l t n p).length=n
 |0,_=>rfl
 |n+1,p=>by rw[q7x,gAB,q6q l t n]
theorem qdr{l:List Symbol}{t:List Int}{p n:Nat}{r:List Int}(h:skip (ar l) (n+1) (t.drop p)=some r):p<t.length/\skip (ar l) n (t.drop (q5k l t p))=some r/\p<q5k l t p/\q5k l t p<=t.length:=by
 have hp:p<t.length:=by
  rcases Nat.lt_or_ge p t.length with h1|h1
  ·exact h1
  ·rw[gU h1]at h;cases h
 rw[show n+1=1+n by omega,qb8]at h;cases h1:skip (ar l) 1 (t.drop p)with
 |none=>rw[h1]at h;cases h
 |some q=>
  rw[h1]at h;have h2:=qls h1;have e:q5k l t p=t.length-q.length:=by unfold q5k;rw[h1]
  have h3:=h2.2.2 (by omega);refine⟨hp,?_,by rw[e];omega,by rw[e];omega⟩;rw[e,<- h2.1];exact h
theorem qjf{l:List Symbol}{t:List Int}:∀{n p:Nat}{r:List Int},skip (ar l) n (t.drop p)=some r->∀q∈q7x l t n p,p<=q/\q<t.length
 |0,p,r,h,q,hq=>by cases hq
 |n+1,p,r,h,q,hq=>by
  obtain⟨h1,h2,h3,h4⟩:=qdr h;rcases gK.1 hq with rfl|hq
  ·exact⟨gAI _,h1⟩
  ·have:=qjf h2 q hq;exact⟨by omega,this.2⟩
theorem qbx{l:List Symbol}{t:List Int}(ok:TermOk l t){p:Nat}(hp:p<t.length):∃r,skip (ar l) (ar l t[p]) (t.drop (p+1))=some r:=by
 obtain⟨q,hq⟩:=qdu (p:=p) ok.skip (by simpa using hp);rw[gH hp,skip]at hq;exact⟨q,by simpa using hq⟩
theorem q6g{l:List Symbol}{t:List Int}(ok:TermOk l t){p:Nat}(hp:p<t.length){q:Nat}(hq:q∈q3x l t p):p<q/\q<t.length:=by
 obtain⟨r,hr⟩:=qbx ok hp;have hd:t.getD p 0=t[p]:=q7w hp;unfold q3x at hq;rw[hd]at hq;have:=qjf hr q hq;exact⟨by omega,this.2⟩
def rank(o:List Int)(n:Int):Int:=idx (fun x=>decide (x=n)) o
def cell(l:List Symbol)(o a b:List Int)(qny:Nat->Nat->Bool)(i j:Nat):Bool:=
 if b.getD j 0<0 then decide (0<=a.getD i 0)&&decide (b.getD j 0∈q37 l a i)
 else if a.getD i 0<0 then false
 else if(q3x l a i).any (fun p=>decide (q37 l a p=q37 l b j)||qny p j)then true
 else if rank o (a.getD i 0)<rank o (b.getD j 0)then false
 else if(q3x l b j).any (fun q=>!qny i q)then false
 else if rank o (b.getD j 0)<rank o (a.getD i 0)then true
 else match ((q3x l a i).zip (q3x l b j)).find? fun x=>!decide (q37 l a x.1=q37 l b x.2)with
  |some x=>qny x.1 x.2
  |none=>false
theorem qg2{l:List Symbol}{o a b:List Int}(ha:TermOk l a)(hb:TermOk l b){f g:Nat->Nat->Bool}{i j:Nat}(hi:i<a.length)(hj:j<b.length)
 (h:∀p q,i<=p->j<=q->p<a.length->q<b.length->(i<p\/j<q)->f p q=g p q):cell l o a b f i j=cell l o a b g i j:=by
 have h1:(q3x l a i).any (fun p=>decide (q37 l a p=q37 l b j)||f p j)=(q3x l a i).any (fun p=>decide (q37 l a p=q37 l b j)||g p j):=by
  rw[Bool.eq_iff_iff,List.any_eq_true,List.any_eq_true];constructor
  ·rintro⟨p,hp,h1⟩;have:=q6g ha hi hp;exact⟨p,hp,by rw[<- h p j (by omega) (gAI _) this.2 hj (.inl this.1)];exact h1⟩
  ·rintro⟨p,hp,h1⟩;have:=q6g ha hi hp;exact⟨p,hp,by rw[h p j (by omega) (gAI _) this.2 hj (.inl this.1)];exact h1⟩
 have h2:(q3x l b j).any (fun q=>!f i q)=(q3x l b j).any (fun q=>!g i q):=by
  rw[Bool.eq_iff_iff,List.any_eq_true,List.any_eq_true];constructor
  ·rintro⟨p,hp,h1⟩;have:=q6g hb hj hp;exact⟨p,hp,by rw[<- h i p (gAI _) (by omega) hi this.2 (.inr this.1)];exact h1⟩
  ·rintro⟨p,hp,h1⟩;have:=q6g hb hj hp;exact⟨p,hp,by rw[h i p (gAI _) (by omega) hi this.2 (.inr this.1)];exact h1⟩
 unfold cell;rw[h1,h2];cases hf:((q3x l a i).zip (q3x l b j)).find? fun x=>!decide (q37 l a x.1=q37 l b x.2)with
 |none=>rfl
 |some x=>
  have hm:=List.mem_of_find?_eq_some hf;have hm1:=q6g ha hi (List.of_mem_zip hm).1;have hm2:=q6g hb hj (List.of_mem_zip hm).2;simp only[h x.1 x.2 (by omega) (by omega) hm1.2 hm2.2 (.inl hm1.1)]
def gtN(l:List Symbol)(o a b:List Int):Nat->Nat->Nat->Bool
 |0,_,_=>false
 |n+1,i,j=>cell l o a b (gtN l o a b n) i j
def gt(l:List Symbol)(o a b:List Int)(i j:Nat):Bool:=gtN l o a b (a.length+b.length+1) i j
theorem qre{l:List Symbol}{o a b:List Int}(ha:TermOk l a)(hb:TermOk l b):∀(d n m i j:Nat),i<a.length->j<b.length->(a.length-i)+(b.length-j)<=d->d<n->d<m->gtN l o a b n i j=gtN l o a b m i j:=by
 intro d;induction d with
 |zero=>intros;omega
 |succ d ih=>
  intro n m i j hi hj hd hn hm;obtain⟨n,rfl⟩:∃q,n=q+1:=⟨n-1,by omega⟩;obtain⟨m,rfl⟩:∃q,m=q+1:=⟨m-1,by omega⟩;rw[gtN,gtN];exact qg2 ha hb hi hj fun p q h1 h2 h3 h4 h5=>ih n m p q h3 h4 (by omega) (by omega) (by omega)
theorem qyq{l:List Symbol}{o a b:List Int}(ha:TermOk l a)(hb:TermOk l b){i j:Nat}(hi:i<a.length)(hj:j<b.length):gt l o a b i j=cell l o a b (gt l o a b) i j:=by
 show gtN l o a b (a.length+b.length+1) i j=_;rw[gtN];exact qg2 ha hb hi hj fun p q h1 h2 h3 h4 h5=>qre ha hb ((a.length-p)+(b.length-q)) _ _ p q h3 h4 (gAI _) (by omega) (by omega)
def ints(l:List Nat):List Int:=l.map fun(n:Nat)=>(n:Int)
section
variable {l:List Symbol}(ok:SigOk ⟨l⟩)
include ok
theorem q0z{t:List Int}(ht:TermOk l t){p:Nat}(hp:p<t.length):Call F.q0z [.agg [slc l],slc t,.int .i64 p] (slc (ints (q3x l t p))):=by
 have hle:=ht.le;have har:=qpw (l:=l) ok t[p];refine q0v rfl 4 ((q0z.ev _ _ _ _).trans ?_);simp only[evz,Nat.reduceLT,hp,gA,q1l,(q7e ok t[p] (ht.node _ (gG hp))).eq];rw[q0n (by omega)]
 have loop:∀n k q f (out:List Int) r,k+n=ar l t[p]->n<f->skip (ar l) n (t.drop q)=some r->out.length=k->
  q0z.at0 4 f (q0z.st0 (cells t) (q:Nat) (ar l t[p]:Nat) (k:Nat) (cells l) (cells out))=some (slc (out++ints (q7x l t n q)),[]):=by
  intro n;induction n with
  |zero=>
   intro k q f out r hk hf hs ho;obtain⟨f,rfl⟩:∃x,f=x+1:=⟨f-1,by omega⟩;have:¬ k<ar l t[p]:=by omega
   simp only[q0z.next0,q0z.round0,evz,Nat.reduceLT,this,q7x,ints,List.map_nil,gAD]
  |succ n ih=>
   intro k q f out r hk hf hs ho;obtain⟨f,rfl⟩:∃x,f=x+1:=⟨f-1,by omega⟩;obtain⟨h1,h2,h3,h4⟩:=qdr hs;have hlt:k<ar l t[p]:=by omega
   simp only[q0z.next0,q0z.round0,evz,Nat.reduceLT,hlt,(qlx ok ht h1).eq,q2f];rw[q1k (q44 (by rw[q0p,q3n];omega)),q0n (by omega)];by_cases hn:n=0
   ·subst hn;obtain⟨f,rfl⟩:∃x,f=x+1:=⟨f-1,by omega⟩;have:¬ k+1<ar l t[p]:=by omega
    simp only[q0z.next0,q0z.round0,evz,Nat.reduceLT,this,q7x,ints,List.map_nil,List.map_cons]
   ·rw[ih (k+1) (q5k l t q) f (out++[(q:Int)]) r (by omega) (by omega) h2 (by simp[ho])];simp[q7x,ints]
 obtain⟨r,hr⟩:=qbx ht hp;have hd:t.getD p 0=t[p]:=q7w hp;have:=loop (ar l t[p]) 0 (p+1) 4 [] r (by omega) (by omega) hr (by simp);unfold q3x;rw[hd];simpa using this
end
theorem qq9:∀(l:List (Int×Int×Bool))(a b:Int)(i j:Nat),(mpAt l a b i).map (·.2)=(mpAt l a b j).map (·.2)
 |[],_,_,_,_=>rfl
 |(x,y,v)::r,a,b,i,j=>by
  rw[mpAt,mpAt];cases (a==x&&b==y)with
  |true=>rfl
  |false=>exact qq9 r a b (i+1) (j+1)
theorem qb3(x y:Int)(v:Bool)(r:List (Int×Int×Bool))(a b:Int):qa7 ((x,y,v)::r) a b=bif a==x&&b==y then some v else qa7 r a b:=by
 unfold qa7;rw[mpAt];cases (a==x&&b==y)with
 |true=>rfl
 |false=>exact qq9 r a b 1 0
theorem qjs:∀(l:List (Int×Int×Bool))(x y:Int)(v:Bool)(a b:Int),qa7 (qez l x y v) a b=bif a==x&&b==y then some v else qa7 l a b
 |[],x,y,v,a,b=>by rw[qez,qb3]
 |(x',y',v')::r,x,y,v,a,b=>by
  rw[qez];cases h:(x==x'&&y==y')with
  |true=>
   simp only[gC,beq_iff_eq]at h;obtain⟨rfl,rfl⟩:=h;rw[cond_true,qb3,qb3];cases (a==x&&b==y) <;> rfl
  |false=>
   rw[cond_false,qb3,qb3,qjs r];cases h1:(a==x'&&b==y')with
   |false=>rfl
   |true=>
    cases h2:(a==x&&b==y)with
    |false=>rfl
    |true=>
     simp only[gC,beq_iff_eq]at h1 h2;obtain⟨rfl,rfl⟩:=h1;obtain⟨rfl,rfl⟩:=h2;simp at h
def Good(l:List Symbol)(o a b:List Int)(m:List (Int×Int×Bool)):Prop:=∀(p q:Nat)(v:Bool),qa7 m p q=some v->v=gt l o a b p q
theorem Good.put{l:List Symbol}{o a b:List Int}{m:List (Int×Int×Bool)}(h:Good l o a b m)(i j:Nat):Good l o a b (qez m i j (gt l o a b i j)):=fun p q v hv=>by
 rw[qjs]at hv;cases hc:(((p:Int)==(i:Int))&&((q:Int)==(j:Int)))with
 |true=>
  rw[hc,cond_true]at hv;simp only[gC,beq_iff_eq,Int.ofNat_inj]at hc;obtain⟨rfl,rfl⟩:=hc;exact(Option.some.inj hv).symm
 |false=>rw[hc,cond_false]at hv;exact h p q v hv
abbrev boxI(l:List Symbol)(o a b:List Int)(m:List (Int×Int×Bool)):T:=.rref [slc l,slc o,slc a,slc b,.mp m] 0
abbrev boxO(l:List Symbol)(o a b:List Int)(m:List (Int×Int×Bool)):T:=.agg [slc l,slc o,slc a,slc b,.mp m]
theorem qbf(l:List Symbol)(t:List Int)(p:Nat):(q37 l t p).length<=t.length:=by simp[q37];omega
section
variable {l:List Symbol}(ok:SigOk ⟨l⟩){o a b:List Int}(ha:TermOk l a)(hb:TermOk l b)
include ok ha hb
theorem q4y(m:List (Int×Int×Bool)){p q:Nat}(hp:p<a.length)(hq:q<b.length) :
 LIM F.q4y [boxI l o a b m,.int .i64 p,.int .i64 q]=some (.bool (decide (q37 l a p=q37 l b q)),[boxO l o a b m]):=by
 refine q61 rfl 0 ((q4y.ev _ _ _ _ _ _ _ _).trans ?_);have h1:=qbf l a p;have h2:=ha.le;simp only[evz,Nat.reduceLT,(q3t ok ha hp).eq,(q3t ok hb hq).eq,(q0t (q37 l a p) (q37 l b q) (⟨by omega,fun _ _=>trivial⟩)).eq]
omit ok ha hb in
theorem qm6(p:Int->Bool)(l:List Int) : -1<=idx p l/\idx p l<=l.length:=by
 rcases q8s p l with⟨h,_⟩|⟨i,hi,h,_⟩ <;> omega
def qtw(l:List Symbol)(o a b:List Int)(i j:Nat):Prop:=∀m,Good l o a b m->∃m',Good l o a b m'/\
 LIM F.q40 [boxI l o a b m,.int .i64 i,.int .i64 j]=some (.bool (gt l o a b i j),[boxO l o a b m'])
omit ok ha hb in
theorem q8t{A:List Nat}{k:Nat}(h:k<A.length):(ints A)[k]?=some ((A[k]:Nat):Int):=by simp[ints,h]
omit ok ha hb in
theorem q4g(A:List Nat):(ints A).length=A.length:=by simp[ints]
theorem qz1{A B:List Nat}(hA:∀p∈A,p<a.length)(hB:∀q∈B,q<b.length)(hAB:A.length=B.length)(hle:A.length<=2)(ih:∀p∈A,∀q∈B,qtw l o a b p q) :
 ∀n k f m,k+n=A.length->n<f->Good l o a b m->∃m',Good l o a b m'/\
  q01.at4 8 f (q01.st4 (A.length:Nat) (k:Nat) (cells l) (cells o) (cells a) (cells b) m (cells (ints A)) (cells (ints B)))=
   some (.bool (match ((A.drop k).zip (B.drop k)).find? fun x=>!decide (q37 l a x.1=q37 l b x.2)with|some x=>gt l o a b x.1 x.2|none=>false),[boxO l o a b m']):=by
 intro n;induction n with
 |zero=>
  intro k f m hk hf hm;obtain⟨f,rfl⟩:∃x,f=x+1:=⟨f-1,by omega⟩;have:¬ k<A.length:=by omega
  refine⟨m,hm,?_⟩;simp only[q01.next4,q01.round4,evz,Nat.reduceLT,this,gU (show A.length<=k by omega),List.zip_nil_left,List.find?_nil]
 |succ n ihn=>
  intro k f m hk hf hm;obtain⟨f,rfl⟩:∃x,f=x+1:=⟨f-1,by omega⟩;have hkA:k<A.length:=by omega
  have hkB:k<B.length:=by omega
  have hs:=q4y ok ha hb (o:=o) m (hA _ (gG hkA)) (hB _ (gG hkB));rw[gH hkA,gH hkB,List.zip_cons_cons,List.find?_cons];by_cases e:q37 l a A[k]=q37 l b B[k]
  ·obtain⟨m',hm',h'⟩:=ihn (k+1) f m (by omega) (by omega) hm;refine⟨m',hm',?_⟩;simp only[q01.next4,q01.round4,evz,Nat.reduceLT,hkA,hkB,q8t,q4g,q1l,hs,e,T.isMp,T.mpL,Bool.not_true];rw[q0n (by omega)];exact h'
  ·obtain⟨m',hm',h'⟩:=ih _ (gG hkA) _ (gG hkB) m hm;refine⟨m',hm',?_⟩;simp only[q01.next4,q01.round4,evz,Nat.reduceLT,hkA,hkB,q8t,q4g,q1l,hs,e,T.isMp,T.mpL,Bool.not_false,h']
omit ok ha hb in
theorem qzb{i:Nat}{A B:List Nat}{qny:Int}{Rest:List (Int×Int×Bool)->R}(hle:B.length<=2)(ih:∀q∈B,qtw l o a b i q)
 (hrest:∀f m,q01.at2 8 (f+1) (q01.st2 (i:Nat) qny (B.length:Nat) (B.length:Nat) (cells l) (cells o) (cells a) (cells b) m (cells (ints A)) (cells (ints B)))=Rest m) :
 ∀n k f m,k+n=B.length->n<f->Good l o a b m->∃m',Good l o a b m'/\
  q01.at2 8 f (q01.st2 (i:Nat) qny (B.length:Nat) (k:Nat) (cells l) (cells o) (cells a) (cells b) m (cells (ints A)) (cells (ints B)))=
   if(B.drop k).any (fun q=>!gt l o a b i q)then some (.bool false,[boxO l o a b m'])else Rest m':=by
 intro n;induction n with
 |zero=>
  intro k f m hk hf hm;obtain⟨f,rfl⟩:∃x,f=x+1:=⟨f-1,by omega⟩;obtain rfl:k=B.length:=by omega
  refine⟨m,hm,?_⟩;rw[hrest,gU (gAI _)];rfl
 |succ n ihn=>
  intro k f m hk hf hm;obtain⟨f,rfl⟩:∃x,f=x+1:=⟨f-1,by omega⟩;have hkB:k<B.length:=by omega
  obtain⟨m1,hm1,h1⟩:=ih _ (gG hkB) m hm;rw[gH hkB,List.any_cons];cases e:gt l o a b i B[k]with
  |false=>
   refine⟨m1,hm1,?_⟩;simp only[q01.next2,q01.round2,evz,Nat.reduceLT,hkB,q8t,q4g,q1l,h1,e,T.isMp,T.mpL,Bool.not_false,Bool.true_or]
  |true=>
   obtain⟨m',hm',h'⟩:=ihn (k+1) f m1 (by omega) (by omega) hm1;refine⟨m',hm',?_⟩;simp only[q01.next2,q01.round2,evz,Nat.reduceLT,hkB,q8t,q4g,q1l,h1,e,T.isMp,T.mpL,Bool.not_true,Bool.false_or];rw[q0n (by omega)];exact h'
theorem qz8{i j:Nat}{x y:Int}{A B:List Nat}{Rest:List (Int×Int×Bool)->R}(hj:j<b.length)(hA:∀p∈A,p<a.length)(hle:A.length<=2)(ih:∀p∈A,qtw l o a b p j)
 (hrest:∀f m,q01.at0 8 (f+1) (q01.st0 (i:Nat) (j:Nat) x y (A.length:Nat) (A.length:Nat) (cells l) (cells o) (cells a) (cells b) m (cells (ints A)) (cells (ints B)))=Rest m) :
 ∀n k f m,k+n=A.length->n<f->Good l o a b m->∃m',Good l o a b m'/\
  q01.at0 8 f (q01.st0 (i:Nat) (j:Nat) x y (A.length:Nat) (k:Nat) (cells l) (cells o) (cells a) (cells b) m (cells (ints A)) (cells (ints B)))=
   if(A.drop k).any (fun p=>decide (q37 l a p=q37 l b j)||gt l o a b p j)then some (.bool true,[boxO l o a b m'])else Rest m':=by
 intro n;induction n with
 |zero=>
  intro k f m hk hf hm;obtain⟨f,rfl⟩:∃x,f=x+1:=⟨f-1,by omega⟩;obtain rfl:k=A.length:=by omega
  refine⟨m,hm,?_⟩;rw[hrest,gU (gAI _)];rfl
 |succ n ihn=>
  intro k f m hk hf hm;obtain⟨f,rfl⟩:∃x,f=x+1:=⟨f-1,by omega⟩;have hkA:k<A.length:=by omega
  have hs:=q4y ok ha hb (o:=o) m (hA _ (gG hkA)) hj;rw[gH hkA,List.any_cons];by_cases e:q37 l a A[k]=q37 l b j
  ·refine⟨m,hm,?_⟩;simp only[q01.next0,q01.round0,evz,Nat.reduceLT,hkA,q8t,q4g,q1l,hs,e,T.isMp,T.mpL,Bool.true_or]
  ·obtain⟨m1,hm1,h1⟩:=ih _ (gG hkA) m hm;cases e2:gt l o a b A[k] j with
   |true=>
    refine⟨m1,hm1,?_⟩;simp only[q01.next0,q01.round0,evz,Nat.reduceLT,hkA,q8t,q4g,q1l,hs,e,h1,e2,T.isMp,T.mpL,Bool.true_or,Bool.or_true]
   |false=>
    obtain⟨m',hm',h'⟩:=ihn (k+1) f m1 (by omega) (by omega) hm1;refine⟨m',hm',?_⟩;simp only[q01.next0,q01.round0,evz,Nat.reduceLT,hkA,q8t,q4g,q1l,hs,e,h1,e2,T.isMp,T.mpL,Bool.false_or,Bool.or_false];rw[q0n (by omega)];exact h'
omit ok ha hb in
theorem qqo{x y:Int}(hx:x∈o)(h:rank o x=rank o y):x=y:=by
 unfold rank at h;rcases q8s (fun z:Int=>decide (z=x)) o with⟨h1,hno⟩|⟨i,hi,h1,hy1,_⟩
 ·have:=hno x hx;simp at this
 ·rcases q8s (fun z:Int=>decide (z=y)) o with⟨h2,_⟩|⟨i',hi',h2,hy2,_⟩
  ·omega
  ·have:i=i':=by omega
   subst this;simp at hy1 hy2;rw[<- hy1,<- hy2]
omit ok ha hb in
theorem qbw(ok:SigOk ⟨l⟩)(t:List Int)(p:Nat):(q3x l t p).length<=2:=by
 unfold q3x;rw[q6q];exact qpw ok _
theorem q01(hol:o.length<=1048576)(ho:∀n:Int,0<=n->n<l.length->n∈o){i j:Nat}(hi:i<a.length)(hj:j<b.length)
 (ih:∀p q,i<=p->j<=q->p<a.length->q<b.length->(i<p\/j<q)->qtw l o a b p q) (m:List (Int×Int×Bool)) (hm:Good l o a b m):∃m',Good l o a b m'/\
  LIM F.q01 [boxI l o a b m,.int .i64 i,.int .i64 j]=some (.bool (cell l o a b (gt l o a b) i j),[boxO l o a b m']):=by
 have hai:a.getD i 0=a[i]:=q7w hi;have hbj:b.getD j 0=b[j]:=q7w hj;have hla:=ha.le;have hlb:=hb.le;have hsl:=qbf l a i;unfold cell;rw[hai,hbj];by_cases hy:b[j]<0
 ·refine⟨m,hm,q61 rfl 8 ((q01.ev _ _ _ _ _ _ _ _).trans ?_)⟩;by_cases hx:0<=a[i]
  ·have hx':a[i]>=0:=hx;simp only[evz,Nat.reduceLT,hi,hj,gA,q1l,hy,hx',hx,(q3t ok ha hi).eq,(q1p (q37 l a i) b[j] (by omega)).eq,Bool.true_and]
  ·have hx':¬ a[i]>=0:=hx;simp only[evz,Nat.reduceLT,hi,hj,gA,q1l,hy,hx',hx,Bool.false_and]
 by_cases hx:a[i]<0
 ·refine⟨m,hm,q61 rfl 8 ((q01.ev _ _ _ _ _ _ _ _).trans ?_)⟩;simp only[evz,Nat.reduceLT,hi,hj,gA,q1l,hy,hx]
 have hA:∀p∈q3x l a i,i<p/\p<a.length:=fun p hp=>q6g ha hi hp;have hB:∀q∈q3x l b j,j<q/\q<b.length:=fun q hq=>q6g hb hj hq;have hAl:=qbw ok a i;have hBl:=qbw ok b j;have rx : -1<=rank o a[i]/\rank o a[i]<=o.length:=qm6 _ o;have ry : -1<=rank o b[j]/\rank o b[j]<=o.length:=qm6 _ o;have ix:Call F.q0f [slc o,.int .i64 a[i]] (.int .i64 (rank o a[i])):=q0f o a[i] (by omega);have iy:Call F.q0f [slc o,.int .i64 b[j]] (.int .i64 (rank o b[j])):=q0f o b[j] (by omega);have hw:IntKind.wrap .i64 (rank o a[i]-rank o b[j])=rank o a[i]-rank o b[j]:=q3g (by omega);generalize hAA:q3x l a i=A at hA hAl;generalize hBB:q3x l b j=B at hB hBl
 let Rest2:List (Int×Int×Bool)->R:=fun m=>if rank o b[j]<rank o a[i]then some (.bool true,[boxO l o a b m])else
  q01.at4 8 8 (q01.st4 (A.length:Nat) 0 (cells l) (cells o) (cells a) (cells b) m (cells (ints A)) (cells (ints B)))
 let Rest0:List (Int×Int×Bool)->R:=fun m=>if rank o a[i]<rank o b[j]then some (.bool false,[boxO l o a b m])else
  q01.at2 8 8 (q01.st2 (i:Nat) (rank o a[i]-rank o b[j]) (B.length:Nat) 0 (cells l) (cells o) (cells a) (cells b) m (cells (ints A)) (cells (ints B)))
 obtain⟨m0,hm0,e0⟩:=qz8 ok ha hb (o:=o) (i:=i) (j:=j) (x:=a[i]) (y:=b[j]) (A:=A) (B:=B) (Rest:=Rest0) hj (fun p hp=>(hA p hp).2) hAl
  (fun p hp=>ih p j (by have:=hA p hp;omega) (gAI _) (hA p hp).2 hj (.inl (hA p hp).1)) (fun f m=>by
   simp only[q01.next0,q01.round0,evz,Nat.reduceLT,gAK,ix.eq,iy.eq,hw,q4g,Rest0];by_cases hr:rank o a[i]<rank o b[j]
   ·rw[if_pos (by omega),if_pos hr]
   ·rw[if_neg (by omega),if_neg hr]) A.length 0 8 m (by omega) (by omega) hm
 have hmain:q1b prog Ev.A H LIM 8 F.q01 [boxI l o a b m,.int .i64 i,.int .i64 j]=if A.any (fun p=>decide (q37 l a p=q37 l b j)||gt l o a b p j)=true then some (.bool true,[boxO l o a b m0])else Rest0 m0:=by
  refine(q01.ev _ _ _ _ _ _ _ _).trans ?_;simp only[evz,Nat.reduceLT,hi,hj,gA,q1l,hy,hx,(q0z ok ha hi).eq,(q0z ok hb hj).eq,hAA,hBB,q4g];simpa using e0
 by_cases c1:A.any (fun p=>decide (q37 l a p=q37 l b j)||gt l o a b p j)=true
 ·refine⟨m0,hm0,q61 rfl 8 (hmain.trans ?_)⟩;simp only[c1,hy,hx,if_true,if_false]
 rw[if_neg c1]at hmain;by_cases c2:rank o a[i]<rank o b[j]
 ·refine⟨m0,hm0,q61 rfl 8 (hmain.trans ?_)⟩;simp only[Rest0,c1,c2,hy,hx,if_true,if_false];rfl
 obtain⟨m2,hm2,e2⟩:=qzb (o:=o) (a:=a) (b:=b) (l:=l) (i:=i) (A:=A) (B:=B) (qny:=rank o a[i]-rank o b[j]) (Rest:=Rest2) hBl
  (fun q hq=>ih i q (gAI _) (by have:=hB q hq;omega) hi (hB q hq).2 (.inr (hB q hq).1)) (fun f m=>by
   simp only[q01.next2,q01.round2,evz,Nat.reduceLT,gAK,q4g,Rest2];by_cases hr:rank o b[j]<rank o a[i]
   ·rw[if_pos (by omega),if_pos hr]
   ·rw[if_neg (by omega),if_neg hr]) B.length 0 8 m0 (by omega) (by omega) hm0
 have hmain2:q1b prog Ev.A H LIM 8 F.q01 [boxI l o a b m,.int .i64 i,.int .i64 j]=if B.any (fun q=>!gt l o a b i q)=true then some (.bool false,[boxO l o a b m2])else Rest2 m2:=by
  rw[hmain];simp only[Rest0,if_neg c2];simpa using e2
 by_cases c3:B.any (fun q=>!gt l o a b i q)=true
 ·refine⟨m2,hm2,q61 rfl 8 (hmain2.trans ?_)⟩;simp only[c1,c2,c3,hy,hx,if_true,if_false];rfl
 rw[if_neg c3]at hmain2;by_cases c4:rank o b[j]<rank o a[i]
 ·refine⟨m2,hm2,q61 rfl 8 (hmain2.trans ?_)⟩;simp only[Rest2,c1,c2,c3,c4,hy,hx,if_true,if_false];rfl
 have hxy:a[i]=b[j]:=by
  have n1:=q5n.1 (ha.node _ (gG hi));have n2:=q5n.1 (hb.node _ (gG hj));exact qqo (ho _ (by omega) (by omega)) (by omega)
 have hAB:A.length=B.length:=by
  rw[<- hAA,<- hBB];unfold q3x;rw[q6q,q6q,hai,hbj,hxy]
 obtain⟨m4,hm4,e4⟩:=qz1 ok ha hb (o:=o) (A:=A) (B:=B) (fun p hp=>(hA p hp).2) (fun q hq=>(hB q hq).2) hAB hAl
  (fun p hp q hq=>ih p q (by have:=hA p hp;omega) (by have:=hB q hq;omega) (hA p hp).2 (hB q hq).2 (.inl (hA p hp).1)) A.length 0 8 m2 (by omega) (by omega) hm2
 refine⟨m4,hm4,q61 rfl 8 (hmain2.trans ?_)⟩;simp only[Rest2,c1,c2,c3,c4,hy,hx,if_true,if_false];simpa using e4
theorem qz2(hol:o.length<=1048576)(ho:∀n:Int,0<=n->n<l.length->n∈o):∀(d i j:Nat),i<a.length->j<b.length->(a.length-i)+(b.length-j)<=d->qtw l o a b i j:=by
 intro d;induction d with
 |zero=>intros;omega
 |succ d ihd=>
  intro i j hi hj hd m hm;cases hf:qa7 m (i:Int) (j:Int)with
  |some v=>
   refine⟨m,hm,q61 rfl 0 ((q40.ev _ _ _ _ _ _ _ _).trans ?_)⟩;have:=hm i j v hf;simp only[hf,Option.isSome_some,Option.getD_some,cond_true,this,qcd,qso,q3n]
  |none=>
   obtain⟨m',hm',h'⟩:=q01 ok ha hb hol ho hi hj (fun p q h1 h2 h3 h4 h5=>ihd p q h3 h4 (by omega)) m hm;rw[<- qyq ha hb hi hj]at h';refine⟨_,hm'.put i j,q61 rfl 0 ((q40.ev _ _ _ _ _ _ _ _).trans ?_)⟩;simp only[evz,Nat.reduceLT,hf,Option.isSome_none,h',T.isMp,T.mpL]
theorem q7l(hol:o.length<=1048576)(ho:∀n:Int,0<=n->n<l.length->n∈o):Call F.q7l [.agg [slc l],slc o,slc a,slc b] (.bool (gt l o a b 0 0)):=by
 have h1:=ha.pos;have h2:=hb.pos;obtain⟨m',_,h'⟩:=qz2 ok ha hb hol ho (a.length+b.length) 0 0 (by omega) (by omega) (by omega) [] (fun p q v hv=>by simp[qa7,mpAt]at hv);refine q0v rfl 0 ((q7l.ev _ _ _ _ _).trans ?_);have h':LIM F.q40 [boxI l o a b [],.int .i64 0,.int .i64 0]=some (.bool (gt l o a b 0 0),[boxO l o a b m']):=h';simp only[evz,Nat.reduceLT,h',T.isMp,T.mpL]
end
theorem q2t(o:List Int)(x:Int)(hl:o.length<=4294967296):Call F.q2t [slc o,.int .i64 x] (.int .i64 (rank o x)):=by
 refine q0v rfl (o.length+1) ((q2t.ev _ _ _).trans ?_);refine q94 (S:=fun m k=>q2t.at0 (o.length+1) m (q2t.st0 (cells o) x (k:Nat))) (fun m k h=>?_) (fun m=>?_) (gAR _)
 ·have hlk:o[k]?=some o[k]:=gA h;simp only[q2t.next0,q2t.round0,evz,Nat.reduceLT,h,hlk,q1l,gS];rw[q0n (by omega)]
 ·simp only[q2t.next0,q2t.round0,evz,Nat.reduceLT,gAK]
section
variable {l:List Symbol}(ok:SigOk ⟨l⟩)
include ok
theorem q20{t:List Int}(ht:TermOk l t){p:Nat}(hp:p<t.length)(hn:0<=t[p]):Call F.q20 [.rref [slc l] 0,slc t,.int .i64 p] (slc (ints (q3x l t p))):=by
 have hle:=ht.le;have har:=qpw (l:=l) ok t[p];have hnode:=q5n.1 (ht.node _ (gG hp));have hls:l.length<=6:=ok.le;obtain⟨u,hu⟩:∃u:Nat,t[p]=u:=⟨t[p].toNat,by omega⟩;have hul:u<l.length:=by omega
 have hare:(l[u]).arity=(ar l t[p]:Nat):=by
  have:=qtp ok (n:=t[p]) hn (by rw[hu];simpa using hul);simpa[hu]using this
 refine q0v rfl 4 ((q20.ev _ _ _ _).trans ?_);rw[q0n (by omega)]
 have loop:∀n k q f (out:List Int) r,k+n=ar l t[p]->n<f->skip (ar l) n (t.drop q)=some r->out.length=k->
  q20.at0 4 f (q20.st0 (cells l) (cells t) (p:Nat) (q:Nat) (k:Nat) (cells out))=some (slc (out++ints (q7x l t n q)),[]):=by
  intro n;induction n with
  |zero=>
   intro k q f out r hk hf hs ho;obtain⟨f,rfl⟩:∃x,f=x+1:=⟨f-1,by omega⟩;have:¬ k<ar l t[p]:=by omega
   simp only[q20.next0,q20.round0,evz,Nat.reduceLT,hp,gA,q1l,hu,hul,q4b,hare,q7x,ints,List.map_nil,gAD];rw[<- hu,if_neg this]
  |succ n ih=>
   intro k q f out r hk hf hs ho;obtain⟨f,rfl⟩:∃x,f=x+1:=⟨f-1,by omega⟩;obtain⟨h1,h2,h3,h4⟩:=qdr hs;have hlt:k<ar l t[p]:=by omega
   simp only[q20.next0,q20.round0,evz,Nat.reduceLT,hp,gA,q1l,hu,hul,q4b,hare,(qa4 ok ht h1).eq,q2f];rw[<- hu,if_pos hlt,q1k (q44 (by rw[q0p,q3n];omega)),q0n (by omega),ih (k+1) (q5k l t q) f (out++[(q:Int)]) r (by omega) (by omega) h2 (by simp[ho])];simp[q7x,ints]
 obtain⟨r,hr⟩:=qbx ht hp;have hd:t.getD p 0=t[p]:=q7w hp;have:=loop (ar l t[p]) 0 (p+1) 4 [] r (by omega) (by omega) hr (by simp);unfold q3x;rw[hd];simpa using this
theorem q7g{a b:List Int}(ha:TermOk l a)(hb:TermOk l b){i j:Nat}(hi:i<a.length)(hj:j<b.length):Call F.q7g [.rref [slc l] 0,slc a,.int .i64 i,slc b,.int .i64 j] (.bool (decide (q37 l a i=q37 l b j))):=by
 refine q0v rfl 0 ((q7g.ev _ _ _ _ _ _).trans ?_);obtain⟨h1,h2,_⟩:=q50 ha hi;obtain⟨h3,h4,_⟩:=q50 hb hj;have h5:=qbf l a i;have h6:=ha.le;have hs:=(q1r (q37 l a i) (q37 l b j) ⟨by omega,fun _ _=>trivial⟩).eq;simp only[evz,Nat.reduceLT,(qa4 ok ha hi).eq,(qa4 ok hb hj).eq];rw[q1k (by simp;omega),q1k (by simp;omega),qc8,qc8];unfold q37 at hs ⊢;simp only[hs,evz,Nat.reduceLT]
omit ok in
theorem qfn:Enc.sz Bool=1:=rfl
omit ok in
theorem qkx(b:Bool):enc b=[.bool b]:=rfl
omit ok in
theorem bget{T:List Bool}{k:Nat}(h:k<T.length):(cells T)[k*1]?=some (.bool (T.getD k false)):=by
 rw[get0 (l:=T) (k:=1) (i:=k) rfl,gA h,gI,gA h];rfl
omit ok in
theorem qx1{T:List Bool}{k:Nat}(h:k<T.length):T[k]?=some (T.getD k false):=by
 rw[gA h,gI,gA h];rfl
omit ok in
theorem qcm{i j la lb:Nat}(hi:i<la)(hj:j<lb):i*lb+j<la*lb:=by
 have:i*lb+lb<=la*lb:=by rw[<- Nat.succ_mul];exact gAO _ hi
 omega
omit ok in
theorem qlc{i j la lb:Nat}(hi:i<la)(hj:j<lb)(ha:la<=24)(hb:lb<=24):IntKind.wrap .i64 (IntKind.wrap .i64 ((i:Int)*(lb:Int))+(j:Int))=((i*lb+j:Nat):Int):=by
 have h1:=qcm hi hj;have h2:la*lb<=24*24:=Nat.mul_le_mul ha hb;have e1:IntKind.wrap .i64 ((i:Int)*(lb:Int))=((i*lb:Nat):Int):=by rw[<- Int.natCast_mul];exact q3g (by omega)
 rw[e1,<- Int.natCast_add];exact q3g (by omega)
section
variable {o a b:List Int}(ha:TermOk l a)(hb:TermOk l b){T:List Bool}(hT:T.length=a.length*b.length)
include ha hb hT
theorem qzf{A B:List Nat}(hAl:A.length<=2)(hA:∀p∈A,p<a.length)(hB:∀q∈B,q<b.length) :
 ∀n k f,k+n=A.length->n<f->
  q0q.at4 8 f (q0q.st4 (cells l) (cells a) (cells b) (cells T) (b.length:Nat) (k:Nat) (cells (ints A)) (cells (ints B)))=
   some (.bool (match ((A.drop k).zip (B.drop k)).find? fun x=>!decide (q37 l a x.1=q37 l b x.2)with|some x=>T.getD (x.1*b.length+x.2) false|none=>false),[]):=by
 have hla:=ha.le;have hlb:=hb.le;intro n;induction n with
 |zero=>
  intro k f hk hf;obtain⟨f,rfl⟩:∃x,f=x+1:=⟨f-1,by omega⟩;have:¬ k<A.length:=by omega
  simp only[q0q.next4,q0q.round4,evz,Nat.reduceLT,q4g,this,gU (show A.length<=k by omega),List.zip_nil_left,List.find?_nil]
 |succ n ihn=>
  intro k f hk hf;obtain⟨f,rfl⟩:∃x,f=x+1:=⟨f-1,by omega⟩;have hkA:k<A.length:=by omega
  by_cases hkB:k<B.length
  ·have hp:=hA _ (gG hkA);have hq:=hB _ (gG hkB);have hs:=(q7g ok ha hb hp hq).eq;rw[gH hkA,gH hkB,List.zip_cons_cons,List.find?_cons];by_cases e:q37 l a A[k]=q37 l b B[k]
   ·have:=ihn (k+1) f (by omega) (by omega);simp only[q0q.next4,q0q.round4,evz,Nat.reduceLT,hkA,hkB,q8t,q4g,q1l,hs,e,Bool.not_true];rw[q0n (by omega)];exact this
   ·have hin:A[k]*b.length+B[k]<T.length:=by rw[hT];exact qcm hp hq
    simp only[q0q.next4,q0q.round4,evz,Nat.reduceLT,hkA,hkB,q8t,q4g,q1l,hs,e,Bool.not_false,qlc hp hq hla hlb,hin,qx1 hin,qkx,qfn]
  ·simp only[q0q.next4,q0q.round4,evz,Nat.reduceLT,hkA,hkB,q8t,q4g,gU (show B.length<=k by omega),List.zip_nil_right,List.find?_nil]
omit ok in
theorem qze{i j:Nat}{A B:List Nat}{Rest:R}(hi:i<a.length)(hB:∀q∈B,q<b.length)(hBl:B.length<=2)
 (hrest:∀f,q0q.at2 8 (f+1) (q0q.st2 (cells l) (cells a) (cells b) (i:Nat) (j:Nat) (cells T) (b.length:Nat) (B.length:Nat) (cells (ints A)) (cells (ints B)))=Rest) :
 ∀n k f,k+n=B.length->n<f->
  q0q.at2 8 f (q0q.st2 (cells l) (cells a) (cells b) (i:Nat) (j:Nat) (cells T) (b.length:Nat) (k:Nat) (cells (ints A)) (cells (ints B)))=
   if(B.drop k).any (fun q=>!T.getD (i*b.length+q) false)then some (.bool false,[])else Rest:=by
 have hla:=ha.le;have hlb:=hb.le;intro n;induction n with
 |zero=>
  intro k f hk hf;obtain⟨f,rfl⟩:∃x,f=x+1:=⟨f-1,by omega⟩;obtain rfl:k=B.length:=by omega
  rw[hrest,gU (gAI _)];rfl
 |succ n ihn=>
  intro k f hk hf;obtain⟨f,rfl⟩:∃x,f=x+1:=⟨f-1,by omega⟩;have hkB:k<B.length:=by omega
  have hq:=hB _ (gG hkB);have hin:i*b.length+B[k]<T.length:=by rw[hT];exact qcm hi hq
  have:=ihn (k+1) f (by omega) (by omega);rw[gH hkB,List.any_cons];simp only[q0q.next2,q0q.round2,evz,Nat.reduceLT,hkB,q8t,q4g,q1l,qlc hi hq hla hlb,hin,qx1 hin,qkx,qfn];cases T.getD (i*b.length+B[k]) false with
  |false=>simp
  |true=>
   rw[q0n (by omega)];simp only[evz,Nat.reduceLT,Bool.not_true,Bool.false_or];exact this
theorem qz9{o:List Int}{i j:Nat}{A:List Nat}{Rest:R}(hj:j<b.length)(hA:∀p∈A,p<a.length)(hAl:A.length<=2)
 (hrest:∀f,q0q.at0 8 (f+1) (q0q.st0 (cells l) (cells o) (cells a) (cells b) (i:Nat) (j:Nat) (cells T) (b.length:Nat) (A.length:Nat) (cells (ints A)))=Rest) :
 ∀n k f,k+n=A.length->n<f->
  q0q.at0 8 f (q0q.st0 (cells l) (cells o) (cells a) (cells b) (i:Nat) (j:Nat) (cells T) (b.length:Nat) (k:Nat) (cells (ints A)))=
   if(A.drop k).any (fun p=>decide (q37 l a p=q37 l b j)||T.getD (p*b.length+j) false)then some (.bool true,[])else Rest:=by
 have hla:=ha.le;have hlb:=hb.le;intro n;induction n with
 |zero=>
  intro k f hk hf;obtain⟨f,rfl⟩:∃x,f=x+1:=⟨f-1,by omega⟩;obtain rfl:k=A.length:=by omega
  rw[hrest,gU (gAI _)];rfl
 |succ n ihn=>
  intro k f hk hf;obtain⟨f,rfl⟩:∃x,f=x+1:=⟨f-1,by omega⟩;have hkA:k<A.length:=by omega
  have hp:=hA _ (gG hkA);have hin:A[k]*b.length+j<T.length:=by rw[hT];exact qcm hp hj
  have:=ihn (k+1) f (by omega) (by omega);rw[gH hkA,List.any_cons];simp only[q0q.next0,q0q.round0,evz,Nat.reduceLT,hkA,q8t,q4g,q1l,qlc hp hj hla hlb,hin,qx1 hin,qkx,qfn,(q7g ok ha hb hp hj).eq];cases T.getD (A[k]*b.length+j) false with
  |true=>simp
  |false=>
   by_cases e:q37 l a A[k]=q37 l b j
   ·simp[e]
   ·rw[q0n (by omega)];simp only[evz,Nat.reduceLT,e,Bool.or_false,Bool.false_or];exact this
theorem q0q(hol:o.length<=1048576)(ho:∀n:Int,0<=n->n<l.length->n∈o){i j:Nat}(hi:i<a.length)(hj:j<b.length) :
 Call F.q0q [.rref [slc l] 0,slc o,slc a,slc b,.int .i64 i,.int .i64 j,slc T] (.bool (cell l o a b (fun p q=>T.getD (p*b.length+q) false) i j)):=by
 have hai:a.getD i 0=a[i]:=q7w hi;have hbj:b.getD j 0=b[j]:=q7w hj;have hla:=ha.le;have hlb:=hb.le;have hsl:=qbf l a i;obtain⟨h1,h2,_⟩:=q50 ha hi;unfold cell;rw[hai,hbj];refine q0v rfl 8 ((q0q.ev _ _ _ _ _ _ _ _).trans ?_);by_cases hy:b[j]<0
 ·by_cases hx:0<=a[i]
  ·have hx':a[i]>=0:=hx;have hc:=(q22 (q37 l a i) b[j] (by omega)).eq
   have hm:decide (((List.count b[j] (q37 l a i):Nat):Int)>0)=decide (b[j]∈q37 l a i):=by
    rw[decide_eq_decide,<- List.count_pos_iff];omega
   simp only[evz,Nat.reduceLT,hi,hj,gA,q1l,hy,hx',hx,(qa4 ok ha hi).eq,Bool.true_and];rw[q1k (by simp;omega),qc8];unfold q37 at hc hm ⊢;simp only[hc,evz,Nat.reduceLT,hm]
  ·have hx':¬ a[i]>=0:=hx;simp only[evz,Nat.reduceLT,hi,hj,gA,q1l,hy,hx',hx,Bool.false_and]
 by_cases hx:a[i]<0
 ·simp only[evz,Nat.reduceLT,hi,hj,gA,q1l,hy,hx]
 have hA:∀p∈q3x l a i,i<p/\p<a.length:=fun p hp=>q6g ha hi hp;have hB:∀q∈q3x l b j,j<q/\q<b.length:=fun q hq=>q6g hb hj hq;have hAl:=qbw ok a i;have hBl:=qbw ok b j;have ix:=(q2t o a[i] (by omega)).eq;have iy:=(q2t o b[j] (by omega)).eq;have sa:=(q20 ok ha hi (by omega)).eq;have sb:=(q20 ok hb hj (by omega)).eq
 have hne:(rank o b[j]<rank o a[i])<->(¬ rank o a[i]<rank o b[j])/\a[i]≠b[j]:=by
  have n1:=q5n.1 (ha.node _ (gG hi));constructor
  ·intro h;refine⟨by omega,fun e=>?_⟩;rw[e]at h;omega
  ·rintro⟨h1,h2⟩;rcases Int.lt_or_le (rank o b[j]) (rank o a[i])with h|h
   ·exact h
   ·exact absurd (qqo (ho _ (by omega) (by omega)) (by omega)) h2
 generalize hAA:q3x l a i=A at hA hAl sa;generalize hBB:q3x l b j=B at hB hBl sb;have e4:=qzf ok ha hb hT (A:=A) (B:=B) hAl (fun p hp=>(hA p hp).2) (fun q hq=>(hB q hq).2) A.length 0 8 (by omega) (by omega);let Rest2:R:=if a[i]≠b[j]then some (.bool true,[])else some (.bool (match ((A.drop 0).zip (B.drop 0)).find? fun x=>!decide (q37 l a x.1=q37 l b x.2)with|some x=>T.getD (x.1*b.length+x.2) false|none=>false),[])
 have e2:=qze (l:=l) ha hb hT (i:=i) (j:=j) (A:=A) (B:=B) (Rest:=Rest2) hi (fun q hq=>(hB q hq).2) hBl (fun f=>by
  simp only[q0q.next2,q0q.round2,evz,Nat.reduceLT,gAK,q4g,hi,hj,gA,q1l,Rest2];by_cases e:a[i]=b[j]
  ·simp only[e,evz,Nat.reduceLT];rw[if_neg (fun h=>h rfl)];exact e4
  ·simp[e]) B.length 0 8 (by omega) (by omega)
 let Rest0:R:=if rank o a[i]<rank o b[j]then some (.bool false,[])else if(B.drop 0).any (fun q=>!T.getD (i*b.length+q) false)then some (.bool false,[])else Rest2
 have e0:=qz9 ok ha hb hT (o:=o) (i:=i) (j:=j) (A:=A) (Rest:=Rest0) hj (fun p hp=>(hA p hp).2) hAl (fun f=>by
  simp only[q0q.next0,q0q.round0,evz,Nat.reduceLT,gAK,q4g,hi,hj,gA,q1l,ix,iy,sb,Rest0];by_cases hr:rank o a[i]<rank o b[j]
  ·rw[if_pos hr,if_pos hr]
  ·rw[if_neg hr,if_neg hr];exact e2) A.length 0 8 (by omega) (by omega)
 simp only[evz,Nat.reduceLT,hi,hj,gA,q1l,hy,hx,sa];refine Eq.trans e0 ?_;simp only[Rest0,Rest2,List.drop_zero];by_cases c1:A.any (fun p=>decide (q37 l a p=q37 l b j)||T.getD (p*b.length+j) false)=true
 ·rw[if_pos c1,if_pos c1]
 rw[if_neg c1,if_neg c1];by_cases c2:rank o a[i]<rank o b[j]
 ·rw[if_pos c2,if_pos c2]
 rw[if_neg c2,if_neg c2];by_cases c3:B.any (fun q=>!T.getD (i*b.length+q) false)=true
 ·rw[if_pos c3,if_pos c3]
 rw[if_neg c3,if_neg c3];by_cases c4:rank o b[j]<rank o a[i]
 ·rw[if_pos c4,if_pos (hne.1 c4).2]
 ·rw[if_neg c4,if_neg (fun h=>c4 (hne.2 ⟨c2,h⟩))]
end
omit ok in
theorem qvs{T:List Bool}{k:Nat}(h:k<T.length)(v:Bool):setCells (cells T) (k*1) [.bool v]=cells (T.set k v):=qdh T 1 k rfl v h
omit ok in
theorem qvv(n:Nat):repT n [.bool false]=cells (List.replicate n false):=qt1 n false
def Done(l:List Symbol)(o a b:List Int)(T:List Bool)(n:Nat):Prop:=
 T.length=a.length*b.length/\∀p q,p<a.length->q<b.length->n<=p*b.length+q->T.getD (p*b.length+q) false=gt l o a b p q
omit ok in
theorem qyo{n p q i j:Nat}(hq:q<n)(hj:j<n)(h:p*n+q=i*n+j):p=i/\q=j:=by
 rcases Nat.lt_trichotomy p i with h1|h1|h1
 ·have:(p+1)*n<=i*n:=gAO _ h1;rw[Nat.succ_mul]at this;omega
 ·subst h1;exact⟨rfl,by omega⟩
 ·have:(i+1)*n<=p*n:=gAO _ h1;rw[Nat.succ_mul]at this;omega
omit ok in
theorem Done.cell{o a b:List Int}(ha:TermOk l a)(hb:TermOk l b){T:List Bool}{i j:Nat}(hi:i<a.length)(hj:j<b.length)(h:Done l o a b T (i*b.length+(j+1))) :
 cell l o a b (fun p q=>T.getD (p*b.length+q) false) i j=gt l o a b i j:=by
 rw[qyq ha hb hi hj];refine qg2 ha hb hi hj fun p q h1 h2 h3 h4 h5=>h.2 p q h3 h4 ?_;have h6:i*b.length<=p*b.length:=gAO _ h1;rcases h5 with h5|h5
 ·have:(i+1)*b.length<=p*b.length:=gAO _ h5;rw[Nat.succ_mul]at this;omega
 ·omega
omit ok in
theorem Done.set{o a b:List Int}{T:List Bool}{i j:Nat}(hi:i<a.length)(hj:j<b.length)(h:Done l o a b T (i*b.length+(j+1))):Done l o a b (T.set (i*b.length+j) (gt l o a b i j)) (i*b.length+j):=by
 have hin:=qcm hi hj;refine⟨by rw[List.length_set];exact h.1,fun p q hp hq hle=>?_⟩;by_cases e:i*b.length+j=p*b.length+q
 ·obtain⟨rfl,rfl⟩:=qyo hq hj e.symm;simp[gI,h.1,hin]
 ·have:=h.2 p q hp hq (by omega);rw[<- this,gI,gI,List.getElem?_set_ne e]
theorem qye{o a b:List Int}(ha:TermOk l a)(hb:TermOk l b)(hol:o.length<=1048576)(ho:∀n:Int,0<=n->n<l.length->n∈o)(L0:St->R){i:Nat}(hi:i<a.length) :
 ∀(k f:Nat)(T:List Bool),k<=b.length->k<f->Done l o a b T (i*b.length+k)->∃T',Done l o a b T' (i*b.length)/\
  q10.at2 25 L0 f (q10.st2 (cells l) (cells o) (cells a) (cells b) (b.length:Nat) (i:Nat) ((k:Int)-1) (cells T))=
   L0 (q10.st0 (cells l) (cells o) (cells a) (cells b) (b.length:Nat) ((i:Int)-1) (cells T')):=by
 have hla:=ha.le;have hlb:=hb.le;intro k;induction k with
 |zero=>
  intro f T hk hf hd;obtain⟨f,rfl⟩:∃x,f=x+1:=⟨f-1,by omega⟩;refine⟨T,by simpa using hd,?_⟩;have h1:¬(((0:Nat):Int)-1>=0):=by omega
  simp only[q10.next2,q10.round2,qgx];rw[if_neg h1,q3g (by omega)]
 |succ k ih=>
  intro f T hk hf hd;obtain⟨f,rfl⟩:∃x,f=x+1:=⟨f-1,by omega⟩;have hj:k<b.length:=by omega
  have hin:i*b.length+k<T.length:=by rw[hd.1];exact qcm hi hj
  obtain⟨T',hd',h'⟩:=ih f (T.set (i*b.length+k) (gt l o a b i k)) (by omega) (by omega) (hd.set hi hj);refine⟨T',hd',?_⟩;have e:((k+1:Nat):Int)-1=(k:Int):=by omega
  have hc:=q0q ok ha hb hd.1 hol ho hi hj;rw[hd.cell ha hb hi hj]at hc;have h1:(k:Int)>=0:=by omega
  rw[e];simp only[q10.next2,q10.round2,evz,Nat.reduceLT,h1,hc.eq,qlc hi hj hla hlb,hin,qfn];rw[q3g (by omega),if_pos (by rw[q0p,qfn];omega),qvs hin];exact h'
theorem q10{o a b:List Int}(ha:TermOk l a)(hb:TermOk l b)(hol:o.length<=1048576)(ho:∀n:Int,0<=n->n<l.length->n∈o) :
 ∃T,Done l o a b T 0/\Call F.q10 [.rref [slc l] 0,slc o,slc a,slc b] (slc T):=by
 have hla:=ha.le;have hlb:=hb.le
 have outer:∀(m f:Nat)(T:List Bool),m<=a.length->m<f->Done l o a b T (m*b.length)->∃T',Done l o a b T' 0/\
  q10.at0 25 f (q10.st0 (cells l) (cells o) (cells a) (cells b) (b.length:Nat) ((m:Int)-1) (cells T))=some (slc T',[]):=by
  intro m;induction m with
  |zero=>
   intro f T hm hf hd;obtain⟨f,rfl⟩:∃x,f=x+1:=⟨f-1,by omega⟩;refine⟨T,by simpa using hd,?_⟩;have h1:¬(((0:Nat):Int)-1>=0):=by omega
   simp only[q10.next0,q10.round0,qgx];rw[if_neg h1];rfl
  |succ m ih=>
   intro f T hm hf hd;obtain⟨f,rfl⟩:∃x,f=x+1:=⟨f-1,by omega⟩;have e:((m+1:Nat):Int)-1=(m:Int):=by omega
   have h1:(m:Int)>=0:=by omega
   obtain⟨T1,hd1,h1'⟩:=qye ok ha hb hol ho (q10.at0 25 f) (i:=m) (by omega) b.length 25 T (gAI _) (by omega) (by rw[<- Nat.succ_mul];exact hd);obtain⟨T',hd',h'⟩:=ih f T1 (by omega) (by omega) hd1;refine⟨T',hd',?_⟩;rw[e];simp only[q10.next0,q10.round0,qgx];rw[if_pos h1,q3g (by omega),h1',h']
 have hmul:a.length*b.length<=24*24:=Nat.mul_le_mul hla hlb;obtain⟨T,hd,h⟩:=outer a.length 25 (List.replicate (a.length*b.length) false) (gAI _) (by omega) ⟨by simp,fun p q hp hq hle=>by have:=qcm hp hq;omega⟩;refine⟨T,hd,q0v rfl 25 ((q10.ev _ _ _ _ _).trans ?_)⟩;have hw:IntKind.wrap .i64 ((a.length:Int)*(b.length:Int))=((a.length*b.length:Nat):Int):=by rw[<- Int.natCast_mul];exact q3g (by omega)
 simp only[q5m,q3n,hw,gR,qvv];rw[q1k (by simp;omega),q3g (by omega)];exact h
theorem q75{o a b:List Int}(ha:TermOk l a)(hb:TermOk l b)(hol:o.length<=1048576)(ho:∀n:Int,0<=n->n<l.length->n∈o) :
 Call F.q75 [.rref [slc l] 0,slc o,slc a,slc b] (.bool (gt l o a b 0 0)):=by
 obtain⟨T,hd,h⟩:=q10 ok ha hb hol ho;have h1:=ha.pos;have h2:=hb.pos;have hT:0<T.length:=by rw[hd.1];exact Nat.mul_pos h1 h2
 have h3:=hd.2 0 0 h1 h2 (Nat.zero_le _);simp only[Nat.zero_mul,Nat.add_zero]at h3;refine q0v rfl 0 ((q75.ev _ _ _ _ _).trans ?_);have hg:=bget (T:=T) (k:=0) hT;rw[Nat.zero_mul,h3]at hg;simp only[evz,Nat.reduceLT,h.eq,qfn,hg];rw[show inB (0:Int) T.length=true from(q7a 0 T.length).trans (by simpa using hT)];rfl
end
theorem TermOk.range{l:List Symbol}(ok:SigOk ⟨l⟩){t:List Int}(h:TermOk l t):∀n∈t,-4611686018427387904<=n/\n<=4611686018427387904:=fun n hn=>by
 have:=q5n.1 (h.node n hn);have hle:l.length<=6:=ok.le;omega
theorem q5j(l:List Symbol)(hs:l.length<=4294967296)(es:List Equation)(he:sm 4294967296 es) :
 Call F.q5j [.agg [slc l],slc es] (.int .i64 (if q43 ⟨l⟩≠0 then q43 ⟨l⟩else q6d l es)):=by
 refine q0v rfl 0 ((q5j.ev _ _ _).trans ?_);simp only[evz,Nat.reduceLT,(q02 l hs).eq];by_cases h1:q43 ⟨l⟩=0
 case neg=>simp only[h1,evz,Nat.reduceLT,ne_eq,gX]
 simp only[h1,evz,Nat.reduceLT,ne_eq,gW,(q2e l ((q8h _).1 h1) es he).eq]
theorem q8y(t:List Int):Call F.q8y [slc t] (.agg (enc (if 24<t.length then(⟨2,[]⟩:TermResult)else⟨0,t⟩))):=by
 refine q0v rfl 0 ((q8y.ev _ _).trans ?_);simp only[evz,Nat.reduceLT,gt_iff_lt];by_cases h:24<t.length
 ·have h':(24:Int)<t.length:=by omega
  simp only[h,h',evz,Nat.reduceLT,q3z,q4s]
 ·have h':¬(24:Int)<t.length:=by omega
  simp only[h,h',evz,Nat.reduceLT,q3z]
theorem q7i(t:List Int)(n:Int)(hl:t.length<=4294967296):Call F.q7i [slc t,.int .i64 n] (.bool (inR n 0 (t.length-1))):=by
 refine q0v rfl 0 ((q7i.ev _ _ _).trans ?_);simp only[evz,Nat.reduceLT,q3g (x:=(t.length:Int)-1) (by omega),(q1q _ _ _).eq]
theorem getE{es:List Equation}{k:Nat}(h:k<es.length):es.getD k ⟨[],[]⟩=es[k]:=by rw[gI,gA h];rfl
theorem qch{a:Int->Nat}:∀{x r q:List Int}{k:Nat},skip a k x=some q->skip a k (x++r)=some (q++r)
 |x,r,q,0,h=>by rw[q4n]at h;cases h;rw[q4n]
 |[],r,q,k+1,h=>by cases h
 |n::x,r,q,k+1,h=>by
  rw[skip]at h;rw[List.cons_append,skip];exact qch h
theorem qqg{a:Int->Nat}:∀{x r:List Int}{k:Nat},skip a k (x++r)=some r->skip a k x=some []
 |x,r,0,h=>by
  rw[q4n]at h;have:=congrArg List.length (Option.some.inj h);rw[gM]at this;have:x=[]:=gL (by omega);subst this;rfl
 |[],r,k+1,h=>by
  obtain⟨p,hp,hk⟩:=qcg h;have h1:=congrArg List.length hp;rw[List.nil_append,gM]at h1;have h2:=hk (by omega);omega
 |n::x,r,k+1,h=>by
  rw[List.cons_append,skip]at h;rw[skip];exact qqg h
theorem qll{a:Int->Nat}{m:Nat}{r:List Int}(h:skip a m []=some r):m=0/\r=[]:=by
 cases m with
 |zero=>rw[q4n]at h;cases h;exact⟨rfl,rfl⟩
 |succ m=>cases h
theorem q74{l:List Symbol}{t:List Int}(ht:TermOk l t){p:Nat}(hp:p<t.length):t.drop p=q37 l t p++t.drop (q5k l t p)/\(q37 l t p).length=q5k l t p-p/\skip (ar l) 1 (t.drop p)=some (t.drop (q5k l t p)):=by
 obtain⟨h1,h2,_⟩:=q50 ht hp;have hl:(q37 l t p).length=q5k l t p-p:=by simp[q37];omega
 refine⟨?_,hl,?_⟩
 ·have e:t.drop (q5k l t p)=(t.drop p).drop (q5k l t p-p):=by rw[List.drop_drop];congr 1;omega
  have e2:q37 l t p=(t.drop p).take (q5k l t p-p):=by unfold q37;rw[List.drop_take]
  rw[e,e2,List.take_append_drop]
 ·obtain⟨q,hq⟩:=qdu (p:=p) ht.skip (by simpa using hp);have:=(qls hq).1;rw[hq];unfold q5k;rw[hq];exact congrArg some this
theorem q9d{l:List Symbol}{t:List Int}(ht:TermOk l t){p:Nat}(hp:p<t.length):TermOk l (q37 l t p):=by
 obtain⟨h1,h2,h3⟩:=q74 ht hp;obtain⟨h4,h5,_⟩:=q50 ht hp;have:=ht.le;refine⟨by omega,by omega,fun n hn=>ht.node n ?_,?_⟩
 ·exact List.mem_of_mem_drop (h1▸gJ _ hn)
 ·rw[h1]at h3;exact qqg h3
theorem qt9{l:List Symbol}{t:List Int}(ht:TermOk l t){p:Nat}(hp:p<t.length){i:Nat}(hi:i<(q37 l t p).length) :
 p+i<t.length/\(q37 l t p).getD i 0=t.getD (p+i) 0/\q5k l t (p+i)=p+q5k l (q37 l t p) i/\q37 l (q37 l t p) i=q37 l t (p+i):=by
 obtain⟨h1,h2,h3⟩:=q74 ht hp;obtain⟨h4,h5,_⟩:=q50 ht hp;have hu:=q9d ht hp;have hpi:p+i<t.length:=by omega
 obtain⟨h6,h7,h8⟩:=q74 hu hi;obtain⟨k1,k2,k3⟩:=q74 ht hpi;obtain⟨h9,h10,_⟩:=q50 hu hi;obtain⟨k4,k5,_⟩:=q50 ht hpi
 have hd:t.drop (p+i)=(q37 l t p).drop i++t.drop (q5k l t p):=by
  rw[<- List.drop_drop,h1,List.drop_append_of_le_length (by omega)]
 have e1:q5k l t (p+i)=p+q5k l (q37 l t p) i:=by
  have h:=qch (r:=t.drop (q5k l t p)) h8;rw[<- hd,k3]at h;have:=congrArg List.length (Option.some.inj h);simp only[gAA,gM]at this;omega
 refine⟨hpi,?_,e1,?_⟩
 ·have:=congrArg (fun x=>x[0]?) hd;simp only[gV,Nat.add_zero]at this;rw[gI,gI,this,List.getElem?_append_left (by simp;omega),gV,Nat.add_zero]
 ·have q1:q37 l t (p+i)=(t.drop (p+i)).take (q5k l t (p+i)-(p+i)):=by unfold q37;rw[List.drop_take]
  have q2:q37 l (q37 l t p) i=((q37 l t p).drop i).take (q5k l (q37 l t p) i-i):=by
   show((q37 l t p).take (q5k l (q37 l t p) i)).drop i=_;rw[List.drop_take]
  rw[q1,q2,hd,e1,List.take_append_of_le_length (by simp;omega)];congr 1;omega
abbrev Bnd:=List Int×List (List Int)
def q8v(vs:List Int)(v:Int):Nat:=(vs.takeWhile fun x=>decide (x<v)).length
def ins{α:Type}(l:List α)(i:Nat)(x:α):List α:=l.take i++x::l.drop i
def bput(b:Bnd)(v:Int)(t:List Int):Bnd:=(ins b.1 (q8v b.1 v) v,ins b.2 (q8v b.1 v) t)
theorem qh8(vs:List Int)(v:Int):q8v vs v<=vs.length:=by
 have:=(List.takeWhile_sublist (l:=vs) (p:=fun x=>decide (x<v))).length_le;exact this
theorem qks:∀(vs:List Int)(v:Int)(i:Nat)(h:i<q8v vs v)(h':i<vs.length),vs[i]<v
 |[],v,i,h,h'=>by simp at h'
 |x::vs,v,i,h,h'=>by
  unfold q8v at h;rw[List.takeWhile_cons]at h;by_cases hx:x<v
  ·rw[if_pos (by simpa using hx)]at h;cases i with
   |zero=>exact hx
   |succ i=>exact qks vs v i (by simpa[q8v]using h) (by simpa using h')
  ·rw[if_neg (by simpa using hx)]at h;simp at h
theorem qfm:∀(vs:List Int)(v:Int)(h':q8v vs v<vs.length),¬ vs[q8v vs v]<v
 |[],v,h'=>by simp at h'
 |x::vs,v,h'=>by
  by_cases hx:x<v
  ·have e:q8v (x::vs) v=q8v vs v+1:=by unfold q8v;rw[List.takeWhile_cons,if_pos (by simpa using hx)];rfl
   have:=qfm vs v (by rw[e]at h';simpa using h');simpa[e]using this
  ·have e:q8v (x::vs) v=0:=by unfold q8v;rw[List.takeWhile_cons,if_neg (by simpa using hx)];rfl
   simpa[e]using hx
theorem q8l{α:Type}(l:List α)(i:Nat)(x:α)(h:i<=l.length):(ins l i x).length=l.length+1:=by simp[ins];omega
theorem qld{α:Type}{l:List α}{i:Nat}{x y:α}(h:y∈ins l i x):y=x\/y∈l:=by
 unfold ins at h;rcases gO.1 h with h|h
 ·exact .inr (List.mem_of_mem_take h)
 ·rcases gK.1 h with h|h
  ·exact .inl h
  ·exact .inr (List.mem_of_mem_drop h)
structure MB(l:List Symbol)(b:Bnd)(k:Nat):Prop where
 len:b.1.length=b.2.length
 le:b.1.length<=k
 var:∀v∈b.1,0<=v/\v<=11
 tm:∀t∈b.2,TermOk l t
theorem MB.nil(l:List Symbol):MB l ([],[]) 0:=⟨rfl,gAI _,by simp,by simp⟩
theorem MB.up{l:List Symbol}{b:Bnd}{k k':Nat}(h:MB l b k)(hk:k<=k'):MB l b k':=⟨h.len,Nat.le_trans h.le hk,h.var,h.tm⟩
theorem MB.put{l:List Symbol}{b:Bnd}{k:Nat}(h:MB l b k){v:Int}(hv:0<=v/\v<=11){t:List Int}(ht:TermOk l t):MB l (bput b v t) (k+1):=by
 have hi:=qh8 b.1 v;have hlen:=h.len;have:=h.le;refine⟨?_,?_,fun x hx=>?_,fun x hx=>?_⟩
 ·unfold bput;rw[q8l _ _ _ hi,q8l _ _ _ (by omega)];omega
 ·unfold bput;rw[q8l _ _ _ hi];omega
 ·rcases qld hx with rfl|hx
  ·exact hv
  ·exact h.var x hx
 ·rcases qld hx with rfl|hx
  ·exact ht
  ·exact h.tm x hx
theorem MB.ok{l:List Symbol}{b:Bnd}{k:Nat}(h:MB l b k)(hk:k<=24):BindOk b.1 b.2:=
 ⟨h.len,by have:=h.le;omega,fun v hv=>(h.var v hv).1,fun t ht=>⟨(h.tm t ht).pos,by have:=(h.tm t ht).le;omega⟩⟩
theorem qip{vs:List Int}{ts:List (List Int)}(hl:vs.length=ts.length){v:Int}(h:q6p vs ts v=none):v∉vs:=fun hv=>by
 unfold q6p at h;rcases q8s (fun x:Int=>decide (x=v)) vs with⟨h1,hno⟩|⟨i,hi,h1,_,_⟩
 ·have:=hno v hv;simp at this
 ·rw[h1,if_neg (by omega),gR,gA (by omega)]at h;cases h
def mgo(l:List Symbol)(t:List Int):List Int->Bnd->Nat->Option (Bnd×Nat)
 |[],b,p=>some (b,p)
 |n::q,b,p=>
  if t.length<=p then none
  else if 0<=n then(if t.getD p 0=n then mgo l t q b (p+1)else none)
  else match q6p b.1 b.2 (-1-n)with
   |none=>mgo l t q (bput b (-1-n) (q37 l t p)) (p+(q37 l t p).length)
   |some o=>if o=q37 l t p then mgo l t q b (p+(q37 l t p).length)else none
structure Both(l:List Symbol)(t q:List Int)(p:Nat)(r:List Int):Prop where
 both:∃m,skip (ar l) m q=some []/\skip (ar l) m (t.drop p)=some r
theorem Both.start{l:List Symbol}{t q:List Int}(ht:TermOk l t)(hq:TermOk l q){p:Nat}(hp:p<t.length):Both l t q p (t.drop (q5k l t p)):=⟨1,hq.skip,(q74 ht hp).2.2⟩
theorem Both.stop{l:List Symbol}{t:List Int}{p:Nat}{r:List Int}(h:Both l t [] p r):t.drop p=r:=by
 obtain⟨m,h1,h2⟩:=h.both;obtain⟨rfl,_⟩:=qll h1;rw[q4n]at h2;exact Option.some.inj h2
theorem Both.lt{l:List Symbol}{t q:List Int}{n:Int}{p:Nat}{r:List Int}(h:Both l t (n::q) p r):p<t.length:=by
 obtain⟨m,h1,h2⟩:=h.both;cases m with
 |zero=>rw[q4n]at h1;cases h1
 |succ m=>
  rcases Nat.lt_or_ge p t.length with h|h
  ·exact h
  ·rw[gU h]at h2;cases h2
theorem Both.node{l:List Symbol}{t q:List Int}{n:Int}{p:Nat}{r:List Int}(h:Both l t (n::q) p r)(hn:t.getD p 0=n):Both l t q (p+1) r:=by
 have hp:=h.lt;obtain⟨m,h1,h2⟩:=h.both;cases m with
 |zero=>rw[q4n]at h1;cases h1
 |succ m=>
  rw[gH hp,skip,<- q7w hp,hn]at h2;rw[skip]at h1;exact⟨_,h1,h2⟩
theorem Both.var{l:List Symbol}{t q:List Int}{n:Int}{p:Nat}{r:List Int}(ht:TermOk l t)(h:Both l t (n::q) p r)(hn:n<0):Both l t q (p+(q37 l t p).length) r:=by
 have hp:=h.lt;obtain⟨h3,h4,h5⟩:=q74 ht hp;obtain⟨h6,h7,_⟩:=q50 ht hp;obtain⟨m,h1,h2⟩:=h.both;cases m with
 |zero=>rw[q4n]at h1;cases h1
 |succ m=>
  rw[skip,qcp l hn,Nat.add_zero]at h1;rw[show m+1=1+m by omega,qb8,h5]at h2;refine⟨m,h1,?_⟩;rw[h4,show p+(q5k l t p-p)=q5k l t p by omega];exact h2
theorem ql8{l:List Symbol}{t:List Int}(ht:TermOk l t){p:Nat}(hp:p<t.length):∀(q:List Int)(b:Bnd)(i:Nat),Both l (q37 l t p) q i []->
 mgo l t q b (p+i)=(mgo l (q37 l t p) q b i).map fun x=>(x.1,p+x.2)
 |[],b,i,h=>rfl
 |n::q,b,i,h=>by
  have hu:=q9d ht hp;have hi:=h.lt;obtain⟨h1,h2,h3,h4⟩:=qt9 ht hp hi;have n1:¬ t.length<=p+i:=by omega
  have n2:¬(q37 l t p).length<=i:=by omega
  rw[mgo,mgo,if_neg n1,if_neg n2,h2,h4];by_cases hn:0<=n
  ·rw[if_pos hn,if_pos hn];by_cases e:t.getD (p+i) 0=n
   ·rw[if_pos e,if_pos e];exact ql8 ht hp q b (i+1) (h.node (by rw[h2,e]))
   ·rw[if_neg e,if_neg e];rfl
  ·rw[if_neg hn,if_neg hn];have hv:=h.var hu (by omega);rw[h4]at hv;cases q6p b.1 b.2 (-1-n)with
   |none=>
    have:=ql8 ht hp q (bput b (-1-n) (q37 l t (p+i))) _ hv;rw[<- Nat.add_assoc]at this;exact this
   |some o=>
    show(if o=_ then _ else none)=Option.map _ (if o=_ then _ else none);by_cases e:o=q37 l t (p+i)
    ·rw[if_pos e,if_pos e];have:=ql8 ht hp q b _ hv;rw[<- Nat.add_assoc]at this;exact this
    ·rw[if_neg e,if_neg e];rfl
theorem qjc{l:List Symbol}{t:List Int}(ht:TermOk l t){r:List Int}:∀(q:List Int)(b:Bnd)(p k:Nat),Both l t q p r->p<=t.length->MB l b k->k+q.length<=24->(∀n∈q,q80 l n=true)->∀x,mgo l t q b p=some x->t.drop x.2=r/\x.2<=t.length/\MB l x.1 (k+q.length)
 |[],b,p,k,h,hp,hb,hk,hq,x,hx=>by
  cases hx;exact⟨h.stop,hp,by simpa using hb⟩
 |n::q,b,p,k,h,hp,hb,hk,hq,x,hx=>by
  have hlt:=h.lt;obtain⟨h6,h7,_⟩:=q50 ht hlt;have hs:=(q74 ht hlt).2.1;rw[mgo,if_neg (by omega)]at hx;rw[gAB]at hk ⊢;have e0:k+1+q.length=k+(q.length+1):=by omega
  by_cases hn:0<=n
  ·rw[if_pos hn]at hx;split at hx
   ·rename_i e;have:=qjc ht q b (p+1) (k+1) (h.node e) (by omega) (hb.up (by omega)) (by omega) (fun n hn=>hq n (gF _ hn)) x hx;rw[e0]at this;exact this
   ·cases hx
  ·rw[if_neg hn]at hx;have hnode:=q5n.1 (hq n (by simp));split at hx
   ·have:=qjc ht q _ _ (k+1) (h.var ht (by omega)) (by omega) (hb.put (v := -1-n) (by omega) (q9d ht hlt)) (by omega) (fun n hn=>hq n (gF _ hn)) x hx;rw[e0]at this;exact this
   ·split at hx
    ·have:=qjc ht q b _ (k+1) (h.var ht (by omega)) (by omega) (hb.up (by omega)) (by omega) (fun n hn=>hq n (gF _ hn)) x hx;rw[e0]at this;exact this
    ·cases hx
def q8b(l:List Symbol)(q t:List Int)(p:Nat):Option Bnd:=(mgo l t q ([],[]) p).map (·.1)
theorem qo6{l:List Symbol}{q t:List Int}(hq:TermOk l q)(ht:TermOk l t){p:Nat}(hp:p<t.length):q8b l q (q37 l t p) 0=q8b l q t p:=by
 have hu:=q9d ht hp;have hb:=Both.start hu hq (p:=0) (by have:=hu.pos;omega);have he:t.drop p=q37 l t p++t.drop (q5k l t p):=(q74 ht hp).1
 have e0:(q37 l t p).drop (q5k l (q37 l t p) 0)=[]:=by
  have:=(q74 hu (p:=0) (by have:=hu.pos;omega)).2.2;rw[List.drop_zero,hu.skip]at this;exact(Option.some.inj this).symm
 rw[e0]at hb;have:=ql8 ht hp q ([],[]) 0 hb;unfold q8b;rw[Nat.add_zero]at this;rw[this];cases mgo l (q37 l t p) q ([],[]) 0 <;> rfl
theorem qfq{l:List Symbol}{q t:List Int}(hq:TermOk l q)(ht:TermOk l t){p:Nat}(hp:p<t.length){b:Bnd}(h:q8b l q t p=some b):MB l b q.length:=by
 unfold q8b at h;rw[gP]at h;obtain⟨x,hx,rfl⟩:=h;have:=(qjc ht q ([],[]) p 0 (Both.start ht hq hp) (by omega) (MB.nil l) (by have:=hq.le;omega) hq.node x hx).2.2;simpa using this
end Ev.Ty
end
section
namespace Ev.Ty
section
variable {α:Type}(lt:α->α->Bool)
def insL(x:α):List α->List α
 |[]=>[x]
 |p::r=>if lt x p then x::p::r else p::insL x r
def insR(x:α):List α->List α
 |[]=>[x]
 |p::r=>if lt x p then p::insR x r else x::p::r
def qud(xs:List α):List α:=xs.foldl (fun o x=>insL lt x o) []
def qyg(xs:List α):List α:=(xs.foldl (fun r x=>insR lt x r) []).reverse
theorem qds{x:α}{B:List α}(hB:∀p∈B,lt x p=true):∀A:List α,(∀p∈A,lt x p=false)->insL lt x (A++B)=A++x::B
 |[],_=>by
  cases B with
  |nil=>rfl
  |cons p r=>show(if lt x p then x::p::r else p::insL lt x r)=_;rw[hB p (List.mem_cons_self ..)];rfl
 |a::A,h=>by
  show(if lt x a then x::a::(A++B)else a::insL lt x (A++B))=_;rw[h a (List.mem_cons_self ..),qds hB A fun p hp=>h p (gF _ hp)];rfl
theorem qkp{x:α}{A:List α}(hA:∀p∈A,lt x p=false):∀B:List α,(∀p∈B,lt x p=true)->insR lt x (B++A)=B++x::A
 |[],_=>by
  cases A with
  |nil=>rfl
  |cons p r=>show(if lt x p then p::insR lt x r else x::p::r)=_;rw[hA p (List.mem_cons_self ..)];rfl
 |b::B,h=>by
  show(if lt x b then b::insR lt x (B++A)else x::b::(B++A))=_;rw[h b (List.mem_cons_self ..),qkp hA B fun p hp=>h p (gF _ hp)];rfl
theorem qiq(x:α):∀l,(insL lt x l).length=l.length+1
 |[]=>rfl
 |p::r=>by
  show(if lt x p then x::p::r else p::insL lt x r).length=_;cases lt x p
  ·show(insL lt x r).length+1=_;rw[qiq x r];rfl
  ·rfl
theorem qe8(x:α):∀l,(insR lt x l).length=l.length+1
 |[]=>rfl
 |p::r=>by
  show(if lt x p then p::insR lt x r else x::p::r).length=_;cases lt x p
  ·rfl
  ·show(insR lt x r).length+1=_;rw[qe8 x r];rfl
theorem ql7{x y:α}:∀{l},y∈insR lt x l->y=x\/y∈l
 |[],h=>Or.inl (gD.1 h)
 |p::r,h=>by
  have h:y∈(if lt x p then p::insR lt x r else x::p::r):=h;cases e:lt x p <;> rw[e]at h
  ·rcases gK.1 h with h|h
   ·exact Or.inl h
   ·exact Or.inr h
  ·rcases gK.1 h with h|h
   ·exact Or.inr (h▸List.mem_cons_self ..)
   ·rcases ql7 h with h|h
    ·exact Or.inl h
    ·exact Or.inr (gF _ h)
theorem qqe{x y:α}:∀{l},y∈insL lt x l->y=x\/y∈l
 |[],h=>Or.inl (gD.1 h)
 |p::r,h=>by
  have h:y∈(if lt x p then x::p::r else p::insL lt x r):=h;cases e:lt x p <;> rw[e]at h
  ·rcases gK.1 h with h|h
   ·exact Or.inr (h▸List.mem_cons_self ..)
   ·rcases qqe h with h|h
    ·exact Or.inl h
    ·exact Or.inr (gF _ h)
  ·rcases gK.1 h with h|h
   ·exact Or.inl h
   ·exact Or.inr h
variable {lt}
theorem qlv{x:α}:∀{l:List α},l.Pairwise (fun p q=>lt x p=true->lt x q=true)->∃A B,l=A++B/\(∀p∈A,lt x p=false)/\∀p∈B,lt x p=true
 |[],_=>⟨[],[],rfl,(fun _ h=>by cases h),(fun _ h=>by cases h)⟩
 |p::r,h=>by
  obtain⟨h1,h2⟩:=List.pairwise_cons.1 h;cases e:lt x p
  ·obtain⟨A,B,rfl,hA,hB⟩:=qlv h2;refine⟨p::A,B,rfl,fun q hq=>?_,hB⟩;rcases gK.1 hq with rfl|hq
   ·exact e
   ·exact hA q hq
  ·refine⟨[],p::r,rfl,(fun _ h=>by cases h),fun q hq=>?_⟩;rcases gK.1 hq with rfl|hq
   ·exact e
   ·exact h1 q hq e
theorem qxx{S:α->Prop}(h1:∀a b c,S a->S b->S c->lt a b=true->lt b c=true->lt a c=true)(h2:∀a b c,S a->S b->S c->lt a b=true->lt c b=false->lt a c=true)
 {xs:List α} (hx:∀x∈xs,S x):qud lt xs=qyg lt xs:=by
 have main:∀(xs r:List α),(∀x∈xs,S x)->(∀x∈r,S x)->r.reverse.Pairwise (fun p q=>∀y,S y->lt y p=true->lt y q=true)->xs.foldl (fun o x=>insL lt x o) r.reverse=(xs.foldl (fun r x=>insR lt x r) r).reverse:=by
  intro xs;induction xs with
  |nil=>intro r _ _ _;rfl
  |cons x xs ih=>
   intro r hxs hr hp;have hSx:=hxs x (List.mem_cons_self ..);obtain⟨A,B,e,hA,hB⟩:=qlv (x:=x) (hp.imp fun {p q} h=>h x hSx);have er:r=B.reverse++A.reverse:=by rw[<- List.reverse_append,<- e,List.reverse_reverse]
   have hA':∀p∈A.reverse,lt x p=false:=fun p hp=>hA p (List.mem_reverse.1 hp);have hB':∀p∈B.reverse,lt x p=true:=fun p hp=>hB p (List.mem_reverse.1 hp)
   have e1:insL lt x r.reverse=(insR lt x r).reverse:=by
    rw[e,qds lt hB A hA,er,qkp lt hA' _ hB',List.reverse_append,List.reverse_cons,List.reverse_reverse,List.reverse_reverse,gZ];rfl
   have e2:(insR lt x r).reverse=A++x::B:=by rw[<- e1,e,qds lt hB A hA]
   have hSA:∀p∈A,S p:=fun p hp=>hr p (by rw[er];exact gN _ (List.mem_reverse.2 hp));have hSB:∀p∈B,S p:=fun p hp=>hr p (by rw[er];exact gJ _ (List.mem_reverse.2 hp));rw[List.foldl_cons,List.foldl_cons,e1];refine ih _ (fun y hy=>hxs y (gF _ hy)) (fun y hy=>?_) ?_
   ·rcases ql7 lt hy with rfl|hy
    ·exact hSx
    ·exact hr y hy
   ·rw[e2];rw[e]at hp;obtain⟨p1,p2,p3⟩:=List.pairwise_append.1 hp;refine List.pairwise_append.2 ⟨p1,List.pairwise_cons.2 ⟨fun q hq y hy h=>h1 y x q hy hSx (hSB q hq) h (hB q hq),p2⟩,fun p hp q hq=>?_⟩;rcases gK.1 hq with rfl|hq
    ·exact fun y hy h=>h2 y p q hy (hSA p hp) hSx h (hA p hp)
    ·exact p3 p hp q hq
 exact main xs [] hx (fun _ h=>by cases h) List.Pairwise.nil
theorem qmt{y:α}{xs:List α}(h:y∈qud lt xs):y∈xs:=by
 have:∀(xs o:List α),y∈xs.foldl (fun o x=>insL lt x o) o->y∈xs\/y∈o:=by
  intro xs;induction xs with
  |nil=>exact fun o h=>Or.inr h
  |cons x xs ih=>
   intro o h;rcases ih _ h with h|h
   ·exact Or.inl (gF _ h)
   ·rcases qqe lt h with rfl|h
    ·exact Or.inl (List.mem_cons_self ..)
    ·exact Or.inr h
 rcases this xs [] h with h|h
 ·exact h
 ·cases h
theorem qnz(xs:List α):(qud lt xs).length=xs.length:=by
 have:∀(xs o:List α),(xs.foldl (fun o x=>insL lt x o) o).length=xs.length+o.length:=by
  intro xs;induction xs with
  |nil=>intro o;simp
  |cons x xs ih=>intro o;rw[List.foldl_cons,ih,qiq,gAB];omega
 exact(this xs []).trans (by simp)
end
end Ev.Ty
end
section
namespace Ev.Ty
open Go Ev
namespace Tm
def args:Tm->List Tm
 |v _=>[]
 |k _=>[]
 |u _ x=>[x]
 |b _ x y=>[x,y]
def size:Tm->Nat
 |v _=>1
 |k _=>1
 |u _ x=>x.size+1
 |b _ x y=>x.size+y.size+1
theorem q72{p t:Tm}(h:p∈t.args):p.size<t.size:=by
 cases t with
 |v n=>cases h
 |k n=>cases h
 |u n x=>rw[gD.1 h];exact gAR _
 |b n x y=>
  rcases gK.1 h with rfl|h
  ·show p.size<p.size+y.size+1;omega
  ·rw[gD.1 h];show y.size<x.size+y.size+1;omega
def gr(a:Int->Nat):Tm->Prop
 |v _=>False
 |k n=>0<=n/\a n=0
 |u n x=>0<=n/\a n=1/\x.gr a
 |b n x y=>0<=n/\a n=2/\x.gr a/\y.gr a
variable {a:Int->Nat}
theorem gr.args{t p:Tm}(h:t.gr a)(hp:p∈t.args):p.gr a:=by
 cases t with
 |v n=>cases h
 |k n=>cases hp
 |u n x=>rw[gD.1 hp];exact h.2.2
 |b n x y=>
  rcases gK.1 hp with rfl|hp
  ·exact h.2.2.1
  ·rw[gD.1 hp];exact h.2.2.2
theorem gr.ok:∀{t:Tm},t.gr a->t.ok a
 |.v _,h=>h.elim
 |.k _,h=>h
 |.u _ _,h=>⟨h.1,h.2.1,h.2.2.ok⟩
 |.b _ _ _,h=>⟨h.1,h.2.1,h.2.2.1.ok,h.2.2.2.ok⟩
theorem gr.head{t:Tm}(h:t.gr a):0<=t.head/\t.args.length=a t.head:=by
 cases t with
 |v n=>cases h
 |k n=>exact⟨h.1,h.2.symm⟩
 |u n x=>exact⟨h.1,h.2.1.symm⟩
 |b n x y=>exact⟨h.1,h.2.1.symm⟩
theorem ok.args{t p:Tm}(h:t.ok a)(hp:p∈t.args):p.ok a:=by
 cases t with
 |v n=>cases hp
 |k n=>cases hp
 |u n x=>rw[gD.1 hp];exact h.2.2
 |b n x y=>
  rcases gK.1 hp with rfl|hp
  ·exact h.2.2.1
  ·rw[gD.1 hp];exact h.2.2.2
theorem ok.len{t:Tm}(ha:∀n,n<0->a n=0)(h:t.ok a):t.args.length=a t.head:=by
 cases t with
 |v n=>exact(ha n h).symm
 |k n=>exact h.2.symm
 |u n x=>exact h.2.1.symm
 |b n x y=>exact h.2.1.symm
theorem ok.head{t p:Tm}(h:t.ok a)(hp:p∈t.args):0<=t.head:=by
 cases t with
 |v n=>cases hp
 |k n=>cases hp
 |u n x=>exact h.1
 |b n x y=>exact h.1
theorem qmp{t p:Tm}(hp:p∈t.args){n:Int}(hn:n∈p.flat):n∈t.flat:=by
 cases t with
 |v m=>cases hp
 |k m=>cases hp
 |u m x=>rw[gD.1 hp]at hn;exact gF _ hn
 |b m x y=>
  rcases gK.1 hp with rfl|hp
  ·exact gF _ (gJ _ hn)
  ·rw[gD.1 hp]at hn;exact gF _ (gN _ hn)
end Tm
open Tm
inductive G(r:Int->Int):Tm->Tm->Prop
 |eq {s p}:p∈s.args->G r s p
 |sub {s t p}:p∈s.args->G r p t->G r s t
 |big {s t}:0<=s.head->0<=t.head->r t.head<r s.head->(∀q,q∈t.args->G r s q)->G r s t
 |lex {s t A B C x y}:0<=s.head->s.head=t.head->(∀q,q∈t.args->G r s q)->s.args=A++x::B->t.args=A++y::C->G r x y->G r s t
namespace G
variable {r:Int->Int}
theorem arg{s t q:Tm}(h:G r s t)(hq:q∈t.args):G r s q:=by
 induction h with
 |eq hp=>exact .sub hp (.eq hq)
 |sub hp _ ih=>exact .sub hp (ih hq)
 |big _ _ _ h=>exact h q hq
 |lex _ _ h _ _ _=>exact h q hq
theorem trans:∀(n:Nat){s t u:Tm},s.size+t.size+u.size<=n->G r s t->G r t u->G r s u:=by
 intro n;induction n with
 |zero=>intro s t u hn h1 h2;cases s <;> simp[Tm.size]at hn
 |succ n ih=>
  intro s t u hn h1 h2;cases h1 with
  |eq hp=>exact .sub hp h2
  |sub hp h1=>
   have:=q72 hp;exact .sub hp (ih (by omega) h1 h2)
  |big z1 z2 hr hq=>
   have h1:G r s t:=.big z1 z2 hr hq;cases h2 with
   |eq hu=>exact hq _ hu
   |sub hp h2=>
    have:=q72 hp;exact ih (by omega) (hq _ hp) h2
   |big _ z3 hr2 hq2=>exact .big z1 z3 (Int.lt_trans hr2 hr) fun w hw=>ih (by have:=q72 hw;omega) h1 (hq2 w hw)
   |lex z3 he hq2 _ _ _=>exact .big z1 (he▸z3) (he▸hr) fun w hw=>ih (by have:=q72 hw;omega) h1 (hq2 w hw)
  | @lex _ _ A B C x y z1 he hq e1 e2 hxy=>
    have h1:G r s t:=.lex z1 he hq e1 e2 hxy;cases h2 with
    |eq hu=>exact hq _ hu
    |sub hp h2=>
     have:=q72 hp;exact ih (by omega) (hq _ hp) h2
    |big _ z3 hr2 hq2=>exact .big z1 z3 (by rw[he];exact hr2) fun w hw=>ih (by have:=q72 hw;omega) h1 (hq2 w hw)
    | @lex _ _ A' B' C' x' y' z3 he2 hq2 e3 e4 hxy2=>
      have hall:∀w,w∈u.args->G r s w:=fun w hw=>ih (by have:=q72 hw;omega) h1 (hq2 w hw);have hx:x.size<s.size:=q72 (by rw[e1];simp);have hy:y.size<t.size:=q72 (by rw[e2];simp);have hy':y'.size<u.size:=q72 (by rw[e4];simp);rcases List.append_eq_append_iff.1 (e2.symm.trans e3)with⟨D,hA,hD⟩|⟨D,hA,hD⟩
      ·cases D with
       |nil=>
        rw[gAD]at hA;have hD:y=x'/\C=B':=by simpa using hD
        subst hA;refine .lex z1 (he.trans he2) hall e1 e4 (ih (by omega) hxy (hD.1▸hxy2))
       |cons d D=>
        have hD:y=d/\C=D++x'::B':=by simpa using hD
        rw[hA,gZ]at e4;rw[<- hD.1]at e4;exact .lex z1 (he.trans he2) hall e1 e4 hxy
      ·cases D with
       |nil=>
        rw[gAD]at hA;have hD:x'=y/\B'=C:=by simpa using hD
        subst hA;refine .lex z1 (he.trans he2) hall e1 e4 (ih (by omega) hxy (hD.1▸hxy2))
       |cons d D=>
        have hD:x'=d/\B'=D++y::C:=by simpa using hD
        rw[hA,gZ]at e1;rw[<- hD.1]at e1;exact .lex z1 (he.trans he2) hall e1 e4 hxy2
theorem var{a:Int->Nat}{n:Int}(hn:n<0):∀(m:Nat){x:Tm},x.size<=m->x.ok a->(G r x (.v n)<->0<=x.head/\n∈x.flat):=by
 intro m;induction m with
 |zero=>intro x hm _;cases x <;> simp[Tm.size]at hm
 |succ m ih=>
  intro x hm hx
  have up:∀p,p∈x.args->n∈p.flat->G r x (.v n):=fun p hp hnp=>by
   have hpo:=hx.args hp;by_cases h0:0<=p.head
   ·exact .sub hp ((ih (by have:=q72 hp;omega) hpo).2 ⟨h0,hnp⟩)
   ·cases p with
    |v k=>rw[gD.1 hnp];exact .eq hp
    |k k=>exact absurd hpo.1 h0
    |u k y=>exact absurd hpo.1 h0
    |b k y z=>exact absurd hpo.1 h0
  constructor
  ·intro h;cases h with
   |eq hp=>exact⟨hx.head hp,qmp hp (gD.2 rfl)⟩
   |sub hp h=>exact⟨hx.head hp,qmp hp ((ih (by have:=q72 hp;omega) (hx.args hp)).1 h).2⟩
   |big _ z _ _=>exact absurd z (by show ¬ 0<=n;omega)
   |lex z e _ _ _ _=>
    have e:x.head=n:=e;omega
  ·rintro⟨h1,h2⟩;cases x with
   |v k=>have h1:0<=k:=h1;have hx:k<0:=hx;omega
   |k k=>
    have h1:0<=k:=h1;have:=gD.1 h2;omega
   |u k y=>
    have h1:0<=k:=h1;rcases gK.1 h2 with e|h2
    ·omega
    ·exact up y (gD.2 rfl) h2
   |b k y z=>
    have h1:0<=k:=h1;rcases gK.1 h2 with e|h2
    ·omega
    ·rcases gO.1 h2 with h2|h2
     ·exact up y (List.mem_cons_self ..) h2
     ·exact up z (gF _ (gD.2 rfl)) h2
variable {a:Int->Nat}
end G
end Ev.Ty
end
section
namespace Ev.Ty
open Go Ev
open Tm
inductive F2{α β:Type}(R:α->β->Prop):List α->List β->Prop
 |nil:F2 R [] []
 |cons {a b A B}:R a b->F2 R A B->F2 R (a::A) (b::B)
theorem F2.any{α β:Type}{R:α->β->Prop}{f:α->Bool}{P:β->Prop}{A:List α}{B:List β}(h:F2 R A B)(hf:∀a b,R a b->b∈B->(f a=true<->P b)):A.any f=true<->∃b,b∈B/\P b:=by
 induction h with
 |nil=>simp
 | @cons a b A B hr _ ih=>
   rw[List.any_cons,Bool.or_eq_true,hf a b hr (List.mem_cons_self ..),ih fun a b hr hb=>hf a b hr (gF _ hb)];constructor
   ·rintro(h|⟨b',h1,h2⟩)
    ·exact⟨b,List.mem_cons_self .., h⟩
    ·exact⟨b',gF _ h1,h2⟩
   ·rintro⟨b',h1,h2⟩;rcases gK.1 h1 with rfl|h1
    ·exact .inl h2
    ·exact .inr ⟨b',h1,h2⟩
def At(l:List Symbol)(t:List Int)(i:Nat)(x:Tm):Prop:=x.ok (ar l)/\∃r,t.drop i=x.flat++r
theorem At.facts{l:List Symbol}{t:List Int}{i:Nat}{x:Tm}(h:At l t i x):i<t.length/\t.getD i 0=x.head/\q5k l t i=i+x.flat.length/\q37 l t i=x.flat:=by
 obtain⟨hx,r,h⟩:=h;obtain⟨h1,h2,h3⟩:=qwr h
 have hs:skip (ar l) 1 (t.drop i)=some r:=by
  rw[h,skip_flat (fun n hn=>qcp l hn) x r 0 hx,q4n]
 have hl:(t.drop i).length=x.flat.length+r.length:=by rw[h,gM]
 rw[gAA]at hl
 have he:q5k l t i=i+x.flat.length:=by
  unfold q5k;rw[hs];show t.length-r.length=_;omega
 refine⟨h1,?_,he,?_⟩
 ·rw[gI,h2];rfl
 ·unfold q37;rw[he,List.drop_take,Nat.add_sub_cancel_left,h,List.take_left]
theorem At.next{l:List Symbol}{t:List Int}{i:Nat}{n:Int}{x:Tm}{r:List Int}(hx:x.ok (ar l))(h:t.drop i=n::(x.flat++r)):At l t (i+1) x:=⟨hx,r,by
 rw[<- List.drop_drop,h];rfl⟩
theorem At.args{l:List Symbol}{t:List Int}{i:Nat}{x:Tm}(h:At l t i x):F2 (At l t) (q3x l t i) x.args:=by
 obtain⟨_,h2,_,_⟩:=h.facts;obtain⟨hx,r,h⟩:=h;unfold q3x;rw[h2,<- hx.len (fun n hn=>qcp l hn)];cases x with
 |v n=>exact .nil
 |k n=>exact .nil
 |u n x=>exact .cons (At.next hx.2.2 h) .nil
 |b n x y=>
  have h:t.drop i=n::(x.flat++(y.flat++r)):=by rw[h];simp[Tm.flat]
  have a1:=At.next hx.2.2.1 h;refine .cons a1 (.cons ⟨hx.2.2.2,r,?_⟩ .nil);rw[a1.facts.2.2.1,<- List.drop_drop,<- List.drop_drop,h];show(x.flat++(y.flat++r)).drop _=_;rw[List.drop_left]
section
variable {l:List Symbol}{o a b:List Int}
end
def Closed(l:List Symbol)(t:List Int):Prop:=TermOk l t/\∀n∈t,0<=n
theorem qvl{a:Int->Nat}:∀x:Tm,x.ok a->(∀n∈x.flat,0<=n)->x.gr a
 |.v n,h,h2=>by have h:n<0:=h;have:=h2 n (gD.2 rfl);omega
 |.k n,h,_=>h
 |.u n x,h,h2=>⟨h.1,h.2.1,qvl x h.2.2 fun m hm=>h2 m (gF _ hm)⟩
 |.b n x y,h,h2=>⟨h.1,h.2.1,qvl x h.2.2.1 fun m hm=>h2 m (gF _ (gJ _ hm)),qvl y h.2.2.2 fun m hm=>h2 m (gF _ (gN _ hm))⟩
theorem Closed.at{l:List Symbol}(ok:SigOk ⟨l⟩){t:List Int}(h:Closed l t):∃x,At l t 0 x/\t=x.flat/\x.gr (ar l):=by
 obtain⟨x,hx,e⟩:=h.1.tree ok;exact⟨x,⟨hx,[],by simpa using e⟩,e,qvl x hx (e▸h.2)⟩
section
variable {l:List Symbol}(ok:SigOk ⟨l⟩){o:List Int}(ho:∀n:Int,0<=n->n<l.length->n∈o)
include ok ho
end
end Ev.Ty
end
section
namespace Ev.Ty
open Go Ev
open Enc (enc)
open Sm (sm)
def Drawn(code:List UInt8)(p c:Int)(P:T->Prop)(r:R):Prop:=∃x p',r=some (x,[.agg [slc code,.int .i64 p']])/\p<=p'/\p'<=p+c/\P x
theorem q9y{code:List UInt8}{p c:Int}{P:T->Prop}{g:FuncId}{args:List T}(hx:X g=none)(n:Nat)(h:Drawn code p c P (q1b prog A H LIM n g args)):Drawn code p c P (LIM g args):=by
 obtain⟨x,p',e,h⟩:=h;exact⟨x,p',qb9 hx n e,h⟩
theorem Drawn.more{code:List UInt8}{p p1 c c1:Int}{P P1:T->Prop}{r:R}(h:Drawn code p1 c1 P1 r)(h1:p<=p1)(h2:p1+c1<=p+c)(hP:∀x,P1 x->P x):Drawn code p c P r:=by
 obtain⟨x,p',e,a,b,q⟩:=h;exact⟨x,p',e,by omega,by omega,hP x q⟩
theorem q5l{code:List UInt8}{p p' c:Int}{P:T->Prop}{x:T}(h1:p<=p'/\p'<=p+c)(h:P x):Drawn code p c P (some (x,[.agg [slc code,.int .i64 p']])):=⟨x,p',rfl,h1.1,h1.2,h⟩
theorem q7m{Q:R->Prop}{code:List UInt8}{p c:Int}{P:T->Prop}{r:R}{K:T×List T->R}(h:Drawn code p c P r)
 (k:∀x p',p<=p'->p'<=p+c->P x->Q (K (x,[.agg [slc code,.int .i64 p']]))):Q (r.bind K):=by
 obtain⟨x,p',rfl,a,b,q⟩:=h;exact k x p' a b q
theorem q9v{σ:Type}{S:Nat->σ->R}{Q:R->Prop}(I:σ->Prop)(μ:σ->Nat)(step:∀m s,I s->Q (S (m+1) s)\/∃s',S (m+1) s=S m s'/\I s'/\μ s'<μ s):∀f s,I s->μ s<f->Q (S f s):=by
 intro f;induction f with
 |zero=>intro s _ h;omega
 |succ f ih=>
  intro s hi hm;rcases step f s hi with h|⟨s',e,hi',hm'⟩
  ·exact h
  ·rw[e];exact ih s' hi' (by omega)
@[simp] theorem qwg(c:List T):oBx (.bx c)=some c:=Eq.trans rfl rfl
theorem qli{a b:Int}(ha:0<=a)(hb:0<b):0<=Int.tmod a b/\Int.tmod a b<b:=⟨Int.tmod_nonneg b ha,Int.tmod_lt_of_pos a hb⟩
abbrev src(code:List UInt8)(p:Int):T:=.rref [slc code,.int .i64 p] 0
theorem qqy(b:UInt8):(0:Int)<=(b.toNat:Int)/\(b.toNat:Int)<256:=⟨by omega,by have:=b.toNat_lt;omega⟩
section
variable {code:List UInt8}(hc:code.length<=2097152)
include hc
theorem qwj{p:Int}(hp:0<=p)(hl:0<code.length):∃i:Nat,Int.tmod p (code.length:Int)=i/\i<code.length:=by
 obtain⟨h1,h2⟩:=qli hp (show(0:Int)<(code.length:Int) by omega);exact⟨(Int.tmod p (code.length:Int)).toNat,by omega,by omega⟩
theorem q30(p n:Int)(hp:0<=p/\p<=1099511627776) :
 ∃v:Int,LIM F.q30 [.rref [slc code,.int .i64 p] 0,.int .i64 n]=some (.int .i64 v,[.agg [slc code,.int .i64 (p+1)]])/\0<=v/\(1<=n->v<n):=by
 have e1:IntKind.wrap .i64 (p+1)=p+1:=q3g (by omega);have e2:IntKind.wrap .i64 (p+1-1)=p:=by rw[q3g (by omega)];omega
 by_cases hn:n<1
 ·refine⟨0,q61 rfl 0 ((q30.ev _ _ _ _).trans ?_),by omega,by omega⟩;simp only[evz,Nat.reduceLT,hn,e1]
 rw[Int.not_lt]at hn;have hn0:¬ n=0:=by omega
 by_cases hl:code.length=0
 ·obtain⟨q1,q2⟩:=qli (a:=p*7) (b:=n) (by omega) (by omega);refine⟨Int.tmod (p*7) n,q61 rfl 0 ((q30.ev _ _ _ _).trans ?_),q1,fun _=>q2⟩;have z:((code.length:Nat):Int)=0:=by omega
  have z1:¬ n<1:=by omega
  simp only[evz,Nat.reduceLT,z1,z,hn0,e1,e2,q3g (x:=p*7) (by omega)]
 have z1:¬ n<1:=by omega
 obtain⟨i,hi,hil⟩:=qwj hc hp.1 (by omega);obtain⟨j,hj,hjl⟩:=qwj (code:=code) hc (p:=p+1) (by omega) (by omega);have b1:=qqy code[i];have b2:=qqy code[j];have hd:0<=Int.tdiv p code.length/\Int.tdiv p code.length<=p:=⟨Int.tdiv_nonneg hp.1 (by omega),Int.tdiv_le_self _ hp.1⟩;have d1:¬((code.length:Nat):Int)=0:=by omega
 generalize hk:Int.tdiv p code.length=d at hd;have w1:IntKind.wrap .i64 d=d:=q3g (by omega);have w2:IntKind.wrap .i64 (d*37)=d*37:=q3g (by omega);have w3:IntKind.wrap .i64 (code[i].toNat:Int)=(code[i].toNat:Int):=q3g (by omega);have w4:IntKind.wrap .i64 (code[j].toNat:Int)=(code[j].toNat:Int):=q3g (by omega);have w5:IntKind.wrap .i64 ((code[i].toNat:Int)+d*37)=(code[i].toNat:Int)+d*37:=q3g (by omega);have w6:IntKind.wrap .i64 (((code[i].toNat:Int)+d*37)*251)=((code[i].toNat:Int)+d*37)*251:=q3g (by omega);have w7:IntKind.wrap .i64 ((code[j].toNat:Int)*13)=(code[j].toNat:Int)*13:=q3g (by omega);have w8:IntKind.wrap .i64 (((code[i].toNat:Int)+d*37)*251+(code[j].toNat:Int)*13)=((code[i].toNat:Int)+d*37)*251+(code[j].toNat:Int)*13:=q3g (by omega);have w9:IntKind.wrap .i64 (((code[i].toNat:Int)+d*37)*251+(code[j].toNat:Int)*13+p)=((code[i].toNat:Int)+d*37)*251+(code[j].toNat:Int)*13+p:=q3g (by omega);by_cases hbig:n>200
 ·obtain⟨q1,q2⟩:=qli (a:=((code[i].toNat:Int)+d*37)*251+(code[j].toNat:Int)*13+p) (b:=n) (by omega) (by omega);refine⟨_,q61 rfl 0 ((q30.ev _ _ _ _).trans ?_),q1,fun _=>q2⟩;simp only[evz,Nat.reduceLT,z1,d1,hn0,e1,e2,hi,hil,hj,hjl,gA,qm7,hbig,hk,w1,w2,w3,w4,w5,w6,w7,w8,w9]
 ·obtain⟨q1,q2⟩:=qli (a:=(code[i].toNat:Int)+d*37) (b:=n) (by omega) (by omega);refine⟨_,q61 rfl 0 ((q30.ev _ _ _ _).trans ?_),q1,fun _=>q2⟩;simp only[evz,Nat.reduceLT,z1,d1,hn0,e1,e2,hi,hil,hj,hjl,gA,qm7,hbig,hk,w1,w2,w3,w4,w5,w6,w7,w8,w9]
theorem qco{Q:R->Prop}{p n:Int}{K:T×List T->R}(hp:0<=p/\p<=1099511627776)(k:∀v:Int,0<=v->(1<=n->v<n)->Q (K (.int .i64 v,[.agg [slc code,.int .i64 (p+1)]]))) :
 Q ((LIM F.q30 [.rref [slc code,.int .i64 p] 0,.int .i64 n]).bind K):=by
 obtain⟨v,e,h1,h2⟩:=q30 hc p n hp;rw[e];exact k v h1 h2
theorem q3u(p n:Int)(hp:0<=p/\p<=1099511627776):∃b:Bool,LIM F.q3u [.rref [slc code,.int .i64 p] 0,.int .i64 n]=some (.bool b,[.agg [slc code,.int .i64 (p+1)]]):=by
 obtain⟨v,e,_⟩:=q30 hc p n hp;exact⟨decide (v=0),q61 rfl 0 ((q3u.ev _ _ _ _).trans (by simp only[evz,Nat.reduceLT,e]))⟩
theorem qa3{Q:R->Prop}{p n:Int}{K:T×List T->R}(hp:0<=p/\p<=1099511627776)(k:∀b:Bool,Q (K (.bool b,[.agg [slc code,.int .i64 (p+1)]]))) :
 Q ((LIM F.q3u [.rref [slc code,.int .i64 p] 0,.int .i64 n]).bind K):=by
 obtain⟨b,e⟩:=q3u hc p n hp;rw[e];exact k b
theorem q45(p:Int)(l:List Int){ts:List T}(hts:cells l=ts)(hl:l≠[])(hp:0<=p/\p<=1099511627776) :
 ∃v∈l,LIM F.q45 [.rref [slc code,.int .i64 p] 0,.sl 1 ts]=some (.int .i64 v,[.agg [slc code,.int .i64 (p+1)]]):=by
 subst hts;have h0:0<l.length:=List.length_pos_iff.2 hl;have hd:(cells l).length/1=l.length:=q5m rfl;obtain⟨v,e,h1,h2⟩:=q30 hc p (l.length:Int) hp;obtain⟨i,rfl⟩:∃i:Nat,v=i:=⟨v.toNat,by omega⟩;have hi:i<l.length:=by have:=h2 (by omega);omega
 refine⟨l[i],gG hi,q61 rfl 0 ((q45.ev _ _ _ _).trans ?_)⟩;simp only[evz,Nat.reduceLT,e,hi,gA,q1l]
theorem qcn{Q:R->Prop}{p:Int}(l:List Int){ts:List T}{K:T×List T->R}(hts:cells l=ts)(hl:l≠[])(hp:0<=p/\p<=1099511627776)(k:∀v:Int,v∈l->Q (K (.int .i64 v,[.agg [slc code,.int .i64 (p+1)]]))) :
 Q ((LIM F.q45 [.rref [slc code,.int .i64 p] 0,.sl 1 ts]).bind K):=by
 obtain⟨v,hv,e⟩:=q45 hc p l hts hl hp;rw[e];exact k v hv
omit hc in
theorem q97:Call F.q97 [slc code] (.bool (decide ((code.length:Int)>1048576))):=q0v rfl 0 ((q97.ev _ _).trans (by simp only[evz,Nat.reduceLT]))
omit hc in
theorem q7j:LIM F.q7j [slc code]=some (.bx [slc code,.int .i64 0],[]):=q61 rfl 0 (q7j.ev _ _)
end
set_option maxHeartbeats 1000000
structure Grown(l:List Symbol)(m:Nat)(vars:Int)(t:List Int):Prop where
 pos:1<=t.length
 le:t.length<=m
 node:∀n∈t,(0<=n/\n<l.length)\/(-vars<=n/\n <= -1)
 tree:∃x:Tm,x.ok (ar l)/\t=x.flat
theorem Grown.ok{l:List Symbol}{m:Nat}{vars:Int}{t:List Int}(h:Grown l m vars t)(hm:m<=24)(hv:vars<=12):TermOk l t:=by
 refine⟨h.pos,Nat.le_trans h.le hm,fun n hn=>?_,?_⟩
 ·rw[q5n];rcases h.node n hn with h|h
  ·exact .inl h
  ·exact .inr (by omega)
 ·obtain⟨x,hx,rfl⟩:=h.tree;have:=Tm.skip_flat (a:=ar l) (fun n hn=>qcp l hn) x [] 0 hx;rwa[gAD]at this
section
variable {code:List UInt8}(hc:code.length<=2097152){l:List Symbol}(ok:SigOk ⟨l⟩)
def qjo(code:List UInt8)(l:List Symbol)(p:Int)(m:Nat)(vars:Int)(r:R):Prop:=∃t p',r=some (slc t,[.agg [slc code,.int .i64 p']])/\p<=p'/\p'<=p+3*(t.length:Int)/\Grown l m vars t
include hc ok
theorem qwh(p q:Int)(m:Nat)(vars:Int)(hm:1<=m)(hv:1<=vars/\vars<=12)(hp:0<=p/\p<=q/\q<=p+2/\q<=1099511627776) :
 qjo code l p m vars ((LIM F.q30 [.rref [slc code,.int .i64 q] 0,.int .i64 vars]).bind fun r=>(q0s r.2).bind fun p2=>(oNil p2.2).bind fun _=>(oAgg p2.1).bind fun c3=>(q0s c3).bind fun p4=>(oSl 1 p4.1).bind fun c5=>(q0s p4.2).bind fun p6=>(oInt .i64 p6.1).bind fun n7=>(oNil p6.2).bind fun _=>(oInt .i64 r.1).bind fun n8=>some (.sl 1 [.int .i64 (IntKind.wrap .i64 ((-1:Int)-n8))],[.agg [.sl 1 (cells code),.int .i64 n7]])):=by
 refine qco hc (by omega) fun v h1 h2=>?_;have h2:=h2 hv.1;simp only[evz,Nat.reduceLT];rw[q3g (by omega)];exact⟨[-1-v],q+1,rfl,by omega,by simp;omega,⟨by simp,by simp;omega,fun n hn=>.inr (by rw[gD.1 hn];omega),.v (-1-v),by show -1-v<0;omega,rfl⟩⟩
noncomputable def qvy(l:List Symbol)(code:List UInt8)(m vars x4 p:Int):R:=
 (bif inB x4 ((cells l).length/2)then(((cells l)[(((Int.toNat x4)*2)+1)]?).bind fun e71=>((oInt .i64 e71).bind fun n72=>(bif ((n72==(1:Int)))then((LIM F.q0h [(.rref [(.sl 1 (cells code)),(.int .i64 p)] 0),(.rref [(.sl 2 (cells l))] 0),(.int .i64 (IntKind.wrap .i64 (m-(1:Int)))),(.int .i64 vars)]).bind fun r73=>((q0s r73.2).bind fun p74=>((oNil p74.2).bind fun _=>((oAgg p74.1).bind fun c75=>((q0s c75).bind fun p76=>((oSl 1 p76.1).bind fun c77=>((q0s p76.2).bind fun p78=>((oInt .i64 p78.1).bind fun n79=>((oNil p78.2).bind fun _=>((oSl 1 r73.1).bind fun c80=>(bif (c80).all T.scalar then(bif Nat.ble ((1+(c80).length)*8) (140737488355328*1)then some ((.sl 1 ([(.int .i64 x4)]++c80:List T)),[(.agg [(.sl 1 (cells code)),(.int .i64 n79)])])else none)else none)))))))))))else(bif ((n72==(2:Int)))then((LIM F.q0h [(.rref [(.sl 1 (cells code)),(.int .i64 p)] 0),(.rref [(.sl 2 (cells l))] 0),(.int .i64 (IntKind.wrap .i64 (m-(2:Int)))),(.int .i64 vars)]).bind fun r81=>((q0s r81.2).bind fun p82=>((oNil p82.2).bind fun _=>((oAgg p82.1).bind fun c83=>((q0s c83).bind fun p84=>((oSl 1 p84.1).bind fun c85=>((q0s p84.2).bind fun p86=>((oInt .i64 p86.1).bind fun n87=>((oNil p86.2).bind fun _=>((oSl 1 r81.1).bind fun c88=>(bif (c88).all T.scalar then(bif Nat.ble ((1+(c88).length)*8) (140737488355328*1)then((LIM F.q0h [(.rref [(.sl 1 (cells code)),(.int .i64 n87)] 0),(.rref [(.sl 2 (cells l))] 0),(.int .i64 (IntKind.wrap .i64 ((IntKind.wrap .i64 (m-(1:Int)))-((((c88).length/1):Nat):Int)))),(.int .i64 vars)]).bind fun r89=>((q0s r89.2).bind fun p90=>((oNil p90.2).bind fun _=>((oAgg p90.1).bind fun c91=>((q0s c91).bind fun p92=>((oSl 1 p92.1).bind fun c93=>((q0s p92.2).bind fun p94=>((oInt .i64 p94.1).bind fun n95=>((oNil p94.2).bind fun _=>((oSl 1 r89.1).bind fun c96=>(bif (c96).all T.scalar then(bif Nat.ble (((([(.int .i64 x4)]++c88:List T)).length+(c96).length)*8) (140737488355328*1)then some ((.sl 1 (([(.int .i64 x4)]++c88:List T)++c96:List T)),[(.agg [(.sl 1 (cells code)),(.int .i64 n95)])])else none)else none)))))))))))else none)else none)))))))))))else some ((.sl 1 [(.int .i64 x4)]),[(.agg [(.sl 1 (cells code)),(.int .i64 p)])])))))else none)
theorem qym(p q:Int)(m:Nat)(vars:Int)(hm:1<=m/\m<=1000)(hv:0<=vars/\vars<=12)(hp:0<=p/\p<=q/\q<=p+3/\p+10*(m:Int)<=1099511020000)
 (ih:∀k,1<=k->k<m->∀p,0<=p/\p+10*(k:Int)<=1099511020000->qjo code l p k vars (LIM F.q0h [.rref [slc code,.int .i64 p] 0,.rref [slc l] 0,.int .i64 k,.int .i64 vars]))
 (i:Nat) (hi:i<l.length) (ha:l[i].arity<m):qjo code l p m vars (qvy l code m vars i q):=by
 obtain⟨a1,a2⟩:=ok.arity l[i] (gG hi);have har:(ar l (i:Int):Int)=l[i].arity:=(qtp ok (n:=(i:Int)) (by omega) (by simpa using hi)).symm;unfold qvy;have hn0:(0:Int)<=i/\(i:Int)<l.length:=by omega
 simp only[evz,Nat.reduceLT,hi,gA,q4b];by_cases h1:l[i].arity=1
 ·simp only[evz,Nat.reduceLT,h1];rw[q3g (by omega),show(m:Int)-1=((m-1:Nat):Int) by omega];obtain⟨t,p',e,q1,q2,g⟩:=ih (m-1) (by omega) (by omega) q (by omega);have hl:=g.le;have e2:(cells t).length=t.length:=by rw[q0p];simp
  simp only[evz,Nat.reduceLT,e,q5a];rw[q1k (q44 (by rw[e2];omega))];refine⟨(i:Int)::t,p',rfl,by omega,by simp;omega,⟨by simp,by simp;omega,fun n hn=>?_,?_⟩⟩
  ·rcases gK.1 hn with rfl|hn
   ·exact .inl hn0
   ·exact g.node n hn
  ·obtain⟨x,hx,rfl⟩:=g.tree;exact⟨.u i x,⟨by omega,by omega,hx⟩,rfl⟩
 by_cases h2:l[i].arity=2
 ·simp only[evz,Nat.reduceLT,h2,Int.reduceEq];rw[q3g (x:=(m:Int)-2) (by omega),show(m:Int)-2=((m-2:Nat):Int) by omega];obtain⟨t,p',e,q1,q2,g⟩:=ih (m-2) (by omega) (by omega) q (by omega);have hl:=g.le;have hl1:=g.pos;have e2:(cells t).length=t.length:=by rw[q0p];simp
  simp only[evz,Nat.reduceLT,e,q5a];rw[q1k (q44 (by rw[e2];omega)),q3g (x:=(m:Int)-1) (by omega),q3g (by omega),show(m:Int)-1-(t.length:Int)=((m-1-t.length:Nat):Int) by omega];obtain⟨t2,p2,e',q3,q4,g2⟩:=ih (m-1-t.length) (by omega) (by omega) p' (by omega);have hl2:=g2.le;have e3:(cells t2).length=t2.length:=by rw[q0p];simp
  simp only[evz,Nat.reduceLT,e',q5a];rw[q1k (q44 (by simp only[gM,List.length_singleton];rw[e2,e3];omega))];refine⟨(i:Int)::(t++t2),p2,by rw[gZ,<- q3c];rfl,by omega,by simp;omega,⟨by simp,by simp;omega,fun n hn=>?_,?_⟩⟩
  ·rcases gK.1 hn with rfl|hn
   ·exact .inl hn0
   ·rcases gO.1 hn with hn|hn
    ·exact g.node n hn
    ·exact g2.node n hn
  ·obtain⟨x,hx,rfl⟩:=g.tree;obtain⟨y,hy,rfl⟩:=g2.tree;exact⟨.b i x y,⟨by omega,by omega,hx,hy⟩,rfl⟩
 simp only[evz,Nat.reduceLT,h1,h2];exact⟨[(i:Int)],q,rfl,by omega,by simp;omega,⟨by simp,by simp;omega,fun n hn=>by rw[gD.1 hn];exact .inl hn0,.k i,⟨by omega,by omega⟩,rfl⟩⟩
omit hc ok in
theorem qqx{n d k c:Nat}(h:(n+(d+1)) % k=c):((n+1) % k+d) % k=c:=by
 rw[Nat.mod_add_mod,show n+1+d=n+(d+1) by omega];exact h
omit hc ok in
theorem qwi{n c k:Nat}(hn:n<k)(hc:c<k):∃d,d<k/\(n+d) % k=c:=by
 by_cases h:n<=c
 ·exact⟨c-n,by omega,by rw[show n+(c-n)=c by omega,Nat.mod_eq_of_lt hc]⟩
 ·exact⟨c+k-n,by omega,by rw[show n+(c+k-n)=c+k by omega,Nat.add_mod_right,Nat.mod_eq_of_lt hc]⟩
theorem qw1(p q:Int)(m:Nat)(vars:Int)(hm:1<=m/\m<=1000)(hv:0<=vars/\vars<=12)(hp:0<=p/\p<=q/\q<=p+3/\p+10*(m:Int)<=1099511020000)
 (ih:∀k,1<=k->k<m->∀p,0<=p/\p+10*(k:Int)<=1099511020000->qjo code l p k vars (LIM F.q0h [.rref [slc code,.int .i64 p] 0,.rref [slc l] 0,.int .i64 k,.int .i64 vars]))
 (i:Nat) (hi:i<l.length):qjo code l p m vars (q0h.at0 10 10 (q0h.st0 (cells l) m vars l.length i 0 (cells code) q)):=by
 have hle:=ok.le;simp only at hle;obtain⟨y,hy,hy0⟩:=ok.const;obtain⟨c,hcl,hcy⟩:=List.getElem_of_mem hy;have hcl:c<l.length:=hcl
 have hca:l[c].arity=0:=by
  have:l[c]=y:=hcy;rw[this];exact hy0
 have fin:=qym hc ok p q m vars hm hv hp ih
 have step2:∀i,i<l.length->qjo code l p m vars (q0h.at2 10 10 (q0h.st2 (cells l) m vars l.length (i:Nat) 0 (cells code) q)):=fun i hi=>by
  obtain⟨d,hd,hdc⟩:=qwi hi hcl;refine q9v (σ:=Nat×Nat×Nat) (S:=fun k s=>q0h.at2 10 k (q0h.st2 (cells l) m vars l.length (s.1:Nat) (s.2.1:Nat) (cells code) q)) (fun s=>s.1<l.length/\(s.1+s.2.2) % l.length=c/\s.2.1+s.2.2<l.length) (fun s=>s.2.2) (fun k s hs=>?_) _ (i,0,d) ⟨hi,hdc,by simp only;omega⟩ (by simp only;omega);obtain⟨n,j,d⟩:=s;obtain⟨h1,h2,h3⟩:=hs;simp only at h1 h2 h3 ⊢;have hj:j<l.length:=by omega
  have hl0:¬((l.length:Nat):Int)=0:=by omega
  by_cases ha:l[n].arity>0
  ·right;cases d with
   |zero=>
    rw[Nat.add_zero,Nat.mod_eq_of_lt h1]at h2;subst h2;omega
   |succ d=>
    refine⟨((n+1) % l.length,j+1,d),?_,⟨Nat.mod_lt _ (by omega),qqx h2,by simp only;omega⟩,by simp only;omega⟩;simp only[q0h.next2,q0h.round2,evz,Nat.reduceLT,hj,h1,gA,q4b,ha,hl0];rw[q0n (by omega),q0n (by omega)];congr 2
  ·left;have hf:=fin n h1 (by omega);simp only[q0h.next2,q0h.round2,evz,Nat.reduceLT,hj,h1,gA,q4b,ha];unfold qvy at hf;simp only[evz,Nat.reduceLT,h1,gA,q4b]at hf;exact hf
 obtain⟨d,hd,hdc⟩:=qwi hi hcl;refine q9v (σ:=Nat×Nat×Nat) (S:=fun k s=>q0h.at0 10 k (q0h.st0 (cells l) m vars l.length (s.1:Nat) (s.2.1:Nat) (cells code) q)) (fun s=>s.1<l.length/\(s.1+s.2.2) % l.length=c/\s.2.1+s.2.2<l.length) (fun s=>s.2.2) (fun k s hs=>?_) _ (i,0,d) ⟨hi,hdc,by simp only;omega⟩ (by simp only;omega);obtain⟨n,j,d⟩:=s;obtain⟨h1,h2,h3⟩:=hs;simp only at h1 h2 h3 ⊢;have hj:j<l.length:=by omega
 have hl0:¬((l.length:Nat):Int)=0:=by omega
 by_cases ha:l[n].arity>=m
 ·right;cases d with
  |zero=>
   rw[Nat.add_zero,Nat.mod_eq_of_lt h1]at h2;subst h2;omega
  |succ d=>
   refine⟨((n+1) % l.length,j+1,d),?_,⟨Nat.mod_lt _ (by omega),qqx h2,by simp only;omega⟩,by simp only;omega⟩;simp only[q0h.next0,q0h.round0,evz,Nat.reduceLT,hj,h1,gA,q4b,ha,hl0];rw[q0n (by omega),q0n (by omega)];congr 2
 ·left;simp only[q0h.next0,q0h.round0,evz,Nat.reduceLT,hj,h1,gA,q4b,ha];by_cases hm2:(m:Int)<2
  ·simp only[evz,Nat.reduceLT,hm2];exact step2 n h1
  ·have hf:=fin n h1 (by omega);unfold qvy at hf;simp only[evz,Nat.reduceLT,h1,gA,q4b]at hf;simp only[evz,Nat.reduceLT,hm2];exact hf
theorem qnm(vars:Int)(hv:0<=vars/\vars<=12):∀(m:Nat),1<=m->m<=1000->∀p,0<=p/\p+10*(m:Int)<=1099511020000->qjo code l p m vars (LIM F.q0h [.rref [slc code,.int .i64 p] 0,.rref [slc l] 0,.int .i64 m,.int .i64 vars]):=by
 intro m;induction m using Nat.strongRecOn with
 |ind m ih=>
  intro hm1 hm2 p hp;have hle:=ok.le;have hpos:=ok.pos;simp only at hle hpos
  suffices h:qjo code l p m vars (q1b prog A H LIM 10 F.q0h [.rref [slc code,.int .i64 p] 0,.rref [slc l] 0,.int .i64 m,.int .i64 vars]) by
   obtain⟨t,p',e,r⟩:=h;exact⟨t,p',qb9 rfl 10 e,r⟩
  rw[show q1b prog A H LIM 10 F.q0h [.rref [slc code,.int .i64 p] 0,.rref [slc l] 0,.int .i64 m,.int .i64 vars]=_ from q0h.ev _ _ _ _ _ _]
  have node:∀q,p<=q->q<=p+2->qjo code l p m vars ((LIM F.q30 [.rref [slc code,.int .i64 q] 0,.int .i64 (l.length:Int)]).bind fun r=>(q0s r.2).bind fun p2=>(oNil p2.2).bind fun _=>(oAgg p2.1).bind fun c3=>(q0s c3).bind fun p4=>(oSl 1 p4.1).bind fun c5=>(q0s p4.2).bind fun p6=>(oInt .i64 p6.1).bind fun n7=>(oNil p6.2).bind fun _=>(oInt .i64 r.1).bind fun n8=>q0h.at0 10 10 (q0h.st0 (cells l) m vars l.length n8 0 (cells code) n7)):=fun q q1 q2=>by
   refine qco hc (by omega) fun v h1 h2=>?_;have h2:=h2 (by omega);obtain⟨i,rfl⟩:∃i:Nat,v=i:=⟨v.toNat,by omega⟩;simp only[evz,Nat.reduceLT];exact qw1 hc ok p (q+1) m vars ⟨hm1,hm2⟩ hv (by omega) (fun k k1 k2 p hp=>ih k k2 k1 (by omega) p hp) i (by omega)
  by_cases hv0:vars>0
  ·simp only[evz,Nat.reduceLT,hv0]
   have rest:∀q,p<=q->q<=p+1->qjo code l p m vars ((LIM F.q3u [.rref [slc code,.int .i64 q] 0,.int .i64 4]).bind fun r=>(q0s r.2).bind fun p2=>(oNil p2.2).bind fun _=>(oAgg p2.1).bind fun c3=>(q0s c3).bind fun p4=>(oSl 1 p4.1).bind fun c5=>(q0s p4.2).bind fun p6=>(oInt .i64 p6.1).bind fun n7=>(oNil p6.2).bind fun _=>(q82 r.1).bind fun b8=>
    bif b8 then((LIM F.q30 [.rref [slc code,.int .i64 n7] 0,.int .i64 vars]).bind fun r=>(q0s r.2).bind fun p2=>(oNil p2.2).bind fun _=>(oAgg p2.1).bind fun c3=>(q0s c3).bind fun p4=>(oSl 1 p4.1).bind fun c5=>(q0s p4.2).bind fun p6=>(oInt .i64 p6.1).bind fun n7=>(oNil p6.2).bind fun _=>(oInt .i64 r.1).bind fun n8=>some (.sl 1 [.int .i64 (IntKind.wrap .i64 ((-1:Int)-n8))],[.agg [slc code,.int .i64 n7]]))
    else((LIM F.q30 [.rref [slc code,.int .i64 n7] 0,.int .i64 (l.length:Int)]).bind fun r=>(q0s r.2).bind fun p2=>(oNil p2.2).bind fun _=>(oAgg p2.1).bind fun c3=>(q0s c3).bind fun p4=>(oSl 1 p4.1).bind fun c5=>(q0s p4.2).bind fun p6=>(oInt .i64 p6.1).bind fun n7=>(oNil p6.2).bind fun _=>(oInt .i64 r.1).bind fun n8=>q0h.at0 10 10 (q0h.st0 (cells l) m vars l.length n8 0 (cells code) n7))):=fun q q1 q2=>by
    refine qa3 hc (by omega) fun b=>?_;simp only[evz,Nat.reduceLT];cases b with
    |true=>exact qwh hc ok p (q+1) m vars hm1 (by omega) (by omega)
    |false=>exact node (q+1) (by omega) (by omega)
   by_cases hm3:(m:Int)<2
   ·simp only[evz,Nat.reduceLT,hm3];refine qa3 hc (by omega) fun b=>?_;simp only[evz,Nat.reduceLT];cases b with
    |true=>exact qwh hc ok p (p+1) m vars hm1 (by omega) (by omega)
    |false=>exact rest (p+1) (by omega) (by omega)
   ·simp only[evz,Nat.reduceLT,hm3];exact rest p (by omega) (by omega)
  ·simp only[evz,Nat.reduceLT,hv0];exact node p (by omega) (by omega)
theorem q0h(p most vars:Int)(hm:1<=most/\most<=1000)(hv:0<=vars/\vars<=12)(hp:0<=p/\p<=1099511000000) :
 Drawn code p 3000 (fun x=>∃t,x=slc t/\Grown l most.toNat vars t) (LIM F.q0h [.rref [slc code,.int .i64 p] 0,.rref [slc l] 0,.int .i64 most,.int .i64 vars]):=by
 obtain⟨t,p',e,h1,h2,g⟩:=qnm hc ok vars hv most.toNat (by omega) (by omega) p (by omega);rw[show((most.toNat:Nat):Int)=most by omega]at e;have:=g.le;exact⟨_,p',e,h1,by omega,t,rfl,g⟩
end
end Ev.Ty
end
section
namespace Ev.Ty
theorem qqs:∀(k:Nat)(o:List Int),o.Nodup->(∀n∈o,0<=n/\n<k)->o.length<=k
 |0,o,_,h=>by
  cases o with
  |nil=>simp
  |cons x o=>have:=h x (by simp);omega
 |k+1,o,hn,h=>by
  by_cases hk:(k:Int)∈o
  ·have h1:=List.length_erase_of_mem hk
   have:=qqs k (o.erase (k:Int)) (hn.erase _) fun n hm=>by
    have hm':=(hn.mem_erase_iff).1 hm;have:=h n hm'.2;omega
   omega
  ·have:=qqs k o hn fun n hm=>by
    have:=h n hm;have:n≠(k:Int):=fun e=>hk (e▸hm);omega
   omega
end Ev.Ty
end
section
namespace Ev.Ty
open Go Ev
open Enc (enc)
open Sm (sm)
def qe4(l:List Symbol)(o:List Int):Int:=if o.length≠l.length then 2 else if(o.any fun n=>!inR n 0 (l.length-1))=true then 3 else if qdz o=true then 6 else 0
def q58(s:Signature)(o:List Int):Int:=if q43 s≠0 then q43 s else qe4 s.symbols o
theorem qtc{l:List Symbol}{o:List Int}(h:qe4 l o=0):o.length=l.length/\∀n:Int,0<=n->n<l.length->n∈o:=by
 unfold qe4 at h;split at h
 ·cases h
 rename_i h1;split at h
 ·cases h
 rename_i h2;split at h
 ·cases h
 rename_i h3;have h1:o.length=l.length:=by omega
 refine⟨h1,fun n hn hl=>Classical.byContradiction fun hno=>?_⟩
 have hnd:o.Nodup:=by
  unfold qdz at h3;simpa using h3
 have hr:∀m∈o,0<=m/\m<l.length:=fun m hm=>by
  simp only[List.any_eq_true,not_exists,not_and,Bool.not_eq_true',Bool.not_eq_false]at h2;have:=q8g.1 (h2 m hm);omega
 have:=qqs l.length (n::o) (List.nodup_cons.2 ⟨hno,hnd⟩) fun m hm=>by
  rcases gK.1 hm with rfl|hm
  ·exact⟨hn,hl⟩
  ·exact hr m hm
 simp at this;omega
theorem q65{l:List Symbol}(hs:l.length<=4294967296)(n:Int):Call F.q65 [.agg [slc l],.int .i64 n] (.bool (inR n 0 (l.length-1))):=by
 refine q0v rfl 0 ((q65.ev _ _ _).trans ?_);simp only[evz,Nat.reduceLT,q3g (x:=(l.length:Int)-1) (by omega),(q3l _ _ _).eq]
theorem q63{l:List Symbol}(hs:l.length<=4294967296)(n:Int):Call F.q63 [.rref [slc l] 0,.int .i64 n] (.bool (inR n 0 (l.length-1))):=by
 refine q0v rfl 0 ((q63.ev _ _ _).trans ?_);simp only[evz,Nat.reduceLT,q3g (x:=(l.length:Int)-1) (by omega),(q1q _ _ _).eq]
theorem qjj(o:List Int):((List.range o.length).any fun k=>o[k]?.any fun x=>decide (x∈o.take k))=qdz o:=by
 have:=qei (fun x:Int=>x) o;rw[List.map_id']at this;rw[<- this,Bool.eq_iff_iff];simp only[List.any_eq_true,List.mem_range];constructor
 ·rintro⟨k,hk,h⟩;rw[gA hk,Option.any_some,decide_eq_true_iff]at h;obtain⟨j,hj,he⟩:=List.getElem_of_mem h;rw[gAF]at hj;rw[List.getElem_take]at he;refine⟨k,hk,j,by omega,?_⟩;rw[gA hk,gA (show j<o.length by omega)];simp[he]
 ·rintro⟨i,hi,j,hj,h⟩;rw[gA hi,gA (show j<o.length by omega)]at h;refine⟨i,hi,?_⟩;rw[gA hi,Option.any_some,decide_eq_true_iff];have he:o[i]=o[j]:=by simpa using h
  rw[he];exact List.mem_take_iff_getElem.2 ⟨j,by omega,rfl⟩
theorem q1g(l:List Symbol)(hs:l.length<=4294967296)(o:List Int)(ho:o.length<=4294967296):Call F.q1g [.agg [slc l],slc o] (.int .i64 (q58 ⟨l⟩ o)):=by
 have hi:Call F.q0l [slc o,.clo F.q4a [.rref [slc l] 0]] (.int .i64 (idx (fun n=>!inR n 0 (l.length-1)) o)):=by
  refine q0v rfl (o.length+1) ((q0c.ev _ _ _).trans ?_);simp only[evz,Nat.reduceLT];refine q94 (S:=fun m k=>q0c.at0 (o.length+1) m (q0c.st0 (cells o) (cells l) o.length (k:Nat))) (fun m k h=>?_) (fun m=>?_) (gAR _)
  ·have hlk:o[k]?=some o[k]:=gA h
   have hc:Call F.q4a [.int .i64 o[k],.rref [slc l] 0] (.bool (!inR o[k] 0 (l.length-1))):=by
    refine q0v rfl 0 ((q4a.ev _ _ _).trans ?_);simp only[evz,Nat.reduceLT,(q65 hs _).eq]
   simp only[q0c.next0,q0c.round0,evz,Nat.reduceLT,h,hlk,q1l,hc.eq];rw[q0n (by omega)];cases inR o[k] 0 (l.length-1) <;> rfl
  ·simp only[q0c.next0,q0c.round0,evz,Nat.reduceLT,gAK]
 have hc:Call F.q21 [slc o,.clo F.q4a [.rref [slc l] 0]] (.bool (o.any fun n=>!inR n 0 (l.length-1))):=by
  refine q0v rfl 0 ((q7f.ev _ _ _).trans ?_);simp only[evz,Nat.reduceLT,hi.eq,q95]
 refine q0v rfl (o.length+1) ((q1g.ev _ _ _).trans ?_);simp only[evz,Nat.reduceLT,(q08 l hs).eq,q58,qe4];by_cases h1:q43 ⟨l⟩=0
 case neg=>simp only[h1,evz,Nat.reduceLT,ne_eq,gX]
 by_cases h2:o.length=l.length
 case neg=>
  have h2':¬((o.length:Int)=(l.length:Int)):=by omega
  simp only[h1,h2,h2',evz,Nat.reduceLT,ne_eq,gW,gX]
 have h2':((o.length:Int)=(l.length:Int)):=by omega
 cases h3:o.any fun n=>!inR n 0 (l.length-1)with
 |true=>
  rw[h3]at hc;simp only[h1,h2',h2,evz,Nat.reduceLT,ne_eq,gW,hc.eq]
 |false=>
  rw[h3]at hc;simp only[h1,h2',h2,evz,Nat.reduceLT,ne_eq,gW,hc.eq];rw[<- h2',<- h2]
  refine(qdq (n:=o.length) (bad:=fun k=>o[k]?.any fun x=>decide (x∈o.take k)) (r:=some (.int .i64 6,[])) (z:=some (.int .i64 0,[]))
   (S:=fun m k=>q1g.at0 (o.length+1) m (q1g.st0 (cells o) (cells o) o.length (k:Nat))) (fun m k h=>?_) (fun m=>?_) (gAR _)).trans ?_
  ·have hlk:o[k]?=some o[k]:=gA h;have hm:=(q1p (o.take k) o[k] (by simp;omega)).eq;simp only[q1g.next0,q1g.round0,evz,Nat.reduceLT,h,hlk,q1l];rw[q1k (by simp;omega),Nat.zero_mul,List.drop_zero,q8k o 1 k rfl,qcd (k:=1) (l:=o.take k) rfl,hm,q0n (by omega)];by_cases e:o[k]∈o.take k <;> simp[e,evz,Nat.reduceLT]
  ·simp only[q1g.next0,q1g.round0,evz,Nat.reduceLT,gAK]
  ·rw[qjj];cases qdz o <;> rfl
theorem q0m(l:List Symbol)(hs:l.length<=4294967296)(o:List Int)(ho:o.length<=4294967296):Call F.q0m [.rref [slc l] 0,slc o] (.int .i64 (qe4 l o)):=by
 obtain⟨n,hn⟩:∃n,n=o.length+1:=⟨_,rfl⟩;refine q0v rfl n ((q0m.ev _ _ _).trans ?_);simp only[evz,Nat.reduceLT,qe4];by_cases h2:o.length=l.length
 case neg=>
  have h2':¬((o.length:Int)=(l.length:Int)):=by omega
  simp only[h2,h2',evz,Nat.reduceLT,ne_eq,gW,gX]
 have h2':((o.length:Int)=(l.length:Int)):=by omega
 simp only[h2',h2,evz,Nat.reduceLT,ne_eq,gW]
 have two:=qdq (n:=o.length) (bad:=fun i=>(List.range i).any fun j=>o[i]?.any fun x=>o[j]?.any fun y=>decide (x=y))
  (S:=fun m i=>q0m.at2 n m (q0m.st2 (cells o) (i:Nat))) (r:=some (.int .i64 6,[])) (z:=some (.int .i64 0,[]))
  (fun m i h=>by
   have hlk:o[i]?=some o[i]:=gA h;simp only[q0m.next2,q0m.round2,evz,Nat.reduceLT,h]
   refine qdq (n:=i) (f:=n) (bad:=fun j=>o[i]?.any fun x=>o[j]?.any fun y=>decide (x=y))
    (S:=fun m' j=>q0m.at4 n (q0m.at2 n m) m' (q0m.st4 (cells o) (i:Nat) (j:Nat))) (fun m' j hj=>?_) (fun m'=>?_) (by omega)
   ·have hj':j<o.length:=by omega
    have hjk:o[j]?=some o[j]:=gA hj';simp only[q0m.next4,q0m.round4,evz,Nat.reduceLT,h,hj,hj',hlk,hjk,q1l];rw[q0n (by omega)];by_cases e:o[i]=o[j] <;> simp[e]
   ·simp only[q0m.next4,q0m.round4,evz,Nat.reduceLT,gAK];rw[q0n (by omega)])
  (fun m=>by simp only[q0m.next2,q0m.round2,evz,Nat.reduceLT,gAK]) (show o.length<n by omega)
 have tp:=qei (fun x:Int=>x) o;rw[List.map_id']at tp;rw[tp]at two;refine(q9c (l:=o) (p:=fun x=>!inR x 0 (l.length-1)) (S:=fun m k=>q0m.at0 n m (q0m.st0 (cells l) (cells o) (k:Nat))) (r:=some (.int .i64 3,[])) (z:=if qdz o=true then some (.int .i64 6,[])else some (.int .i64 0,[])) (fun m k h=>?_) (fun m=>?_) (show o.length<n by omega)).trans ?_
 ·have hlk:o[k]?=some o[k]:=gA h;simp only[q0m.next0,q0m.round0,evz,Nat.reduceLT,h,hlk,q1l,(q63 hs _).eq];rw[q0n (by omega)];cases inR o[k] 0 (l.length-1) <;> rfl
 ·simp only[q0m.next0,q0m.round0,evz,Nat.reduceLT,gAK];exact two
 ·cases o.any fun x=>!inR x 0 (l.length-1) <;> cases qdz o <;> rfl
theorem q76(l:List Symbol)(hs:l.length<=4294967296)(o:List Int)(ho:o.length<=4294967296):Call F.q76 [.agg [slc l],slc o] (.int .i64 (q58 ⟨l⟩ o)):=by
 refine q0v rfl 0 ((q76.ev _ _ _).trans ?_);simp only[evz,Nat.reduceLT,(q02 l hs).eq,(q0m l hs o ho).eq,q58];by_cases h1:q43 ⟨l⟩=0
 ·simp only[h1,evz,Nat.reduceLT,ne_eq,gW]
 ·simp only[h1,evz,Nat.reduceLT,ne_eq,gX]
def qcj(l:List Symbol)(o:List Int)(rs:List Equation):Bool := !rs.any fun e=>!gt l o e.left e.right 0 0
theorem qbe{l:List Symbol}(h:q43 ⟨l⟩=0):SigOk ⟨l⟩:=(q8h _).1 h
theorem q2r{l:List Symbol}(ok:SigOk ⟨l⟩){o:List Int}(ho:qe4 l o=0){rs:List Equation}(hr:∀e∈rs,EqOk l e)(hn:rs.length<=4294967296) :
 Call F.q2r [.rref [slc l] 0,slc o,slc rs] (.bool (qcj l o rs)):=by
 obtain⟨h1,h2⟩:=qtc ho;have hls:l.length<=6:=ok.le;refine q0v rfl (rs.length+1) ((q2r.ev _ _ _ _).trans ?_);refine(q9c (l:=rs) (p:=fun e=>!gt l o e.left e.right 0 0) (r:=some (.bool false,[])) (z:=some (.bool true,[])) (S:=fun m k=>q2r.at0 (rs.length+1) m (q2r.st0 (cells l) (cells o) (cells rs) (k:Nat))) (fun m k h=>?_) (fun m=>?_) (gAR _)).trans ?_
 ·have hlk:rs[k]?=some rs[k]:=gA h;have he:=hr _ (gG h);simp only[q2r.next0,q2r.round0,evz,Nat.reduceLT,h,hlk,q4f,(q75 ok he.left he.right (by omega) h2).eq];rw[q0n (by omega)];cases gt l o rs[k].left rs[k].right 0 0 <;> rfl
 ·simp only[q2r.next0,q2r.round0,evz,Nat.reduceLT,gAK]
 ·unfold qcj;cases rs.any fun e=>!gt l o e.left e.right 0 0 <;> rfl
theorem qc9{l:List Symbol}{o:List Int}(h:q58 ⟨l⟩ o=0):q43 ⟨l⟩=0/\qe4 l o=0:=by
 unfold q58 at h;split at h
 ·rename_i h1;exact absurd h h1
 ·rename_i h1;exact⟨by simpa using h1,h⟩
def qqw(x:Int):UInt8:=UInt8.ofNat (IntKind.wrap .u8 x).toNat
theorem qtr(x:Int):IntKind.wrap .u8 x=((qqw x).toNat:Int):=by
 have h:0<=IntKind.wrap .u8 x/\IntKind.wrap .u8 x<256:=by
  show 0<=x % 256/\x % 256<256;omega
 unfold qqw;rw[UInt8.toNat_ofNat'];omega
def qlg(n:Int):UInt8:=if n<0 then qqw (IntKind.wrap .i64 (31-n))else qqw (IntKind.wrap .i64 (n+1))
def q8i(t:List Int):List UInt8:=t.map qlg
theorem q27(t:List Int)(ht:t.length<=4294967296):Call F.q27 [slc t] (slc (q8i t)):=by
 refine q0v rfl (t.length+1) ((q27.ev _ _).trans ?_);simp only[evz,Nat.reduceLT]
 have key:=q8d (n:=t.length) (f:=t.length+1) (S:=fun m k (o:List UInt8)=>q27.at0 (t.length+1) m (q27.st0 (cells t) t.length (k:Nat) (cells o))) (st:=fun k=>q8i (t.take k)) (z:=some (slc (q8i t),[]))
  (fun m k h=>?_) (fun m=>?_) (by omega)
 ·simpa[q8i]using key
 ·have hlk:t[k]?=some t[k]:=gA h
  have e:q8i (t.take (k+1))=q8i (t.take k)++[qlg t[k]]:=by
   have hk:t.take (k+1)=t.take k++[t[k]]:=(gAP h).symm;unfold q8i;rw[hk,List.map_append];rfl
  rw[e];have hl:(cells (q8i (t.take k))).length+1<=4294967297:=by rw[q0p];simp[q8i,show Enc.sz UInt8=1 from rfl];omega
  simp only[q27.next0,q27.round0,evz,Nat.reduceLT,h,hlk,q1l,qlg];rw[q0n (by omega),qtr,qen,qtr,qen];by_cases hn:t[k]<0
  ·rw[if_pos hn,if_pos hn,q1k (q44 (by omega))]
  ·rw[if_neg hn,if_neg hn,q1k (q44 (by omega))]
 ·simp only[q27.next0,q27.round0,evz,Nat.reduceLT,gAK,List.take_length]
def rise(n:Nat):List Int:=(List.range n).map fun(i:Nat)=>(i:Int)
theorem qt4(n:Nat):rise (n+1)=rise n++[(n:Int)]:=by simp[rise,List.range_succ]
theorem qaz(n:Nat):(rise n).length=n:=by simp[rise]
theorem qth{n:Nat}{S:Nat->Nat->List Int->R}{z:List Int->R}(step:∀m k,k<n->S (m+1) k (rise k)=S m (k+1) (rise (k+1)))(stop:∀m,S (m+1) n (rise n)=z (rise n)){f:Nat}(hf:n<f) :
 S f 0 []=z (rise n):=by
 have:∀m k,k<=n->n<m+k->S m k (rise k)=z (rise n):=by
  intro m;induction m with
  |zero=>intros;omega
  |succ m ih=>
   intro k hk hm;by_cases h:k<n
   ·rw[step m k h];exact ih (k+1) (by omega) (by omega)
   ·obtain rfl:k=n:=by omega
    exact stop m
 exact this f 0 (by omega) (by omega)
theorem q39(n:Nat)(hs:n<=1048576):Call F.q39 [.int .i64 n] (slc (rise n)):=by
 refine q0v rfl (n+1) ((q39.ev _ _).trans ?_);refine qth (n:=n) (S:=fun m k o=>q39.at0 (n+1) m (q39.st0 n (k:Nat) (cells o))) (z:=fun o=>some (slc o,[])) (fun m k h=>?_) (fun m=>?_) (by omega)
 ·simp only[q39.next0,q39.round0,evz,Nat.reduceLT,h,q0p,qaz,q3n,q2f,<- qt4];rw[q0n (by omega),q1k (q44 (by omega))]
 ·simp only[q39.next0,q39.round0,evz,Nat.reduceLT,gAK]
theorem qxs{z r:Nat}(hz:z<=3)(hr:r<=2):z ^ r<=9:=Nat.le_trans (Nat.pow_le_pow_left hz r) (Nat.le_trans (Nat.pow_le_pow_right (by omega) hr) (by decide))
set_option maxHeartbeats 1000000
def ba(l:List UInt8):ByteArray:=ByteArray.mk l.toArray
def sigA:List Symbol:=[⟨ba [101],0⟩,⟨ba [105],1⟩,⟨ba [109],2⟩,⟨ba [97],0⟩]
def sigB:List Symbol:=[⟨ba [97],0⟩,⟨ba [115,117,99],1⟩,⟨ba [97,100,100],2⟩,⟨ba [98],0⟩]
def sigC:List Symbol:=[⟨ba [97],0⟩,⟨ba [102],1⟩,⟨ba [103],1⟩]
def sigD:List Symbol:=[⟨ba [97],0⟩,⟨ba [98],0⟩,⟨ba [101],0⟩,⟨ba [109],2⟩,⟨ba [105],1⟩,⟨ba [115,117,99],1⟩]
def sigE:List Symbol:=[⟨ba [97],0⟩]
theorem qx4:SigOk ⟨sigA⟩:=qbe (by decide)
theorem qwt:SigOk ⟨sigB⟩:=qbe (by decide)
theorem qxw:SigOk ⟨sigC⟩:=qbe (by decide)
theorem qxy:SigOk ⟨sigD⟩:=qbe (by decide)
theorem qxt:SigOk ⟨sigE⟩:=qbe (by decide)
theorem qjq{b:ByteArray}(h:qd4 b=true):b.size<=3:=by
 unfold qd4 at h;rw[gC,decide_eq_true_iff]at h;exact h.1.2
theorem SigOk.small{l:List Symbol}(ok:SigOk ⟨l⟩):sm 7 (Signature.mk l):=⟨Nat.le_trans ok.le (by omega),fun x hx=>Nat.le_trans (qjq (ok.name x hx)) (by omega)⟩
theorem quh(o:List Int){i:Nat}(h:i+1<o.length):((o.set i o[i+1]).set (i+1) (o[i]'(by omega))).Perm o:=by
 obtain⟨A,x,y,B,rfl,rfl⟩:∃A x y B,o=A++x::y::B/\A.length=i:=by
  refine⟨o.take i,o[i],o[i+1],o.drop (i+2),?_,by rw[gAF];omega⟩;rw[<- gH h,<- gH (by omega),List.take_append_drop]
 have e1:(A++x::y::B)[A.length+1]=y:=by simp[List.getElem_append_right]
 have e2:(A++x::y::B)[A.length]'(by simp)=x:=by simp[List.getElem_append_right]
 rw[e1,e2,List.set_append_right _ _ (gAI _),List.set_append_right _ _ (by omega)];simp only[Nat.sub_self,List.set_cons_zero,show A.length+1-A.length=1 by omega,List.set_cons_succ];exact(List.Perm.swap x y B).append_left A
def Places(l:List Symbol)(o:List Int):Prop:=o.Perm (rise l.length)
theorem Places.order{l:List Symbol}{o:List Int}(h:Places l o):qe4 l o=0:=by
 have hl:o.length=l.length:=by have:=h.length_eq;rwa[qaz]at this
 have hm:∀n∈o,0<=n/\n<l.length:=fun n hn=>by
  have:=(h.mem_iff).1 hn;unfold rise at this;obtain⟨k,hk,rfl⟩:=List.mem_map.1 this;have:=List.mem_range.1 hk;omega
 have hd:o.Nodup:=by
  refine(h.nodup_iff).2 ?_;unfold rise;rw[List.Nodup,List.pairwise_map];exact List.nodup_range.imp fun {a b} hab e=>hab (Int.ofNat_inj.1 e)
 unfold qe4;rw[if_neg (by omega),if_neg,if_neg]
 ·unfold qdz;simpa using hd
 ·rw[Bool.not_eq_true,List.any_eq_false];intro n hn;obtain⟨a,b⟩:=hm n hn;unfold inR;simp;omega
section
variable {code:List UInt8}(hc:code.length<=2097152)
include hc
theorem q9o(p:Int)(hp:0<=p/\p<=1099511000000):Drawn code p 1 (fun x=>∃l:List Symbol,x=.agg [slc l]/\SigOk ⟨l⟩) (LIM F.q9o [.rref [slc code,.int .i64 p] 0]):=by
 refine q9y rfl 0 ?_;rw[show q1b prog A H LIM 0 F.q9o [.rref [slc code,.int .i64 p] 0]=_ from q9o.ev _ _ _];refine qco hc (by omega) fun v h1 h2=>?_;simp only[evz,Nat.reduceLT];have leaf:∀l:List Symbol,SigOk ⟨l⟩->Drawn code p 1 (fun x=>∃l:List Symbol,x=.agg [slc l]/\SigOk ⟨l⟩) (some (.agg [slc l],[.agg [slc code,.int .i64 (p+1)]])):=fun l hl=>q5l (by omega) ⟨l,rfl,hl⟩
 repeat' split
 all_goals first|exact leaf sigA qx4|exact leaf sigB qwt|exact leaf sigC qxw|exact leaf sigD qxy|exact leaf sigE qxt
theorem q16(p:Int)(hp:0<=p/\p<=1099511000000)(l:List Symbol)(hl:l.length<=1000):Drawn code p 4 (fun x=>∃o,x=slc o/\Places l o) (LIM F.q16 [.rref [slc code,.int .i64 p] 0,.agg [slc l]]):=by
 refine q9y rfl 10 ?_;rw[show q1b prog A H LIM 10 F.q16 [.rref [slc code,.int .i64 p] 0,.agg [slc l]]=_ from q16.ev _ _ _ _];simp only[evz,Nat.reduceLT,(q39 l.length (by omega)).eq];refine qco hc (by omega) fun v h1 h2=>?_;simp only[evz,Nat.reduceLT];refine q9v (σ:=Int×Int×List Int) (S:=fun m s=>q16.at0 10 m (q16.st0 s.1 (cells code) s.2.1 (cells s.2.2))) (fun s=>0<=s.1/\s.1<=3/\p<=s.2.1/\s.2.1<=p+1+(3-s.1)/\Places l s.2.2) (fun s=>s.1.toNat) (fun m s hs=>?_) _ (v,p+1,rise l.length) ⟨h1,by simp only;omega,by simp only;omega,by simp only;omega,List.Perm.refl _⟩ (by simp only;omega);obtain⟨a,q,o⟩:=s;obtain⟨k1,k2,k3,k4,k5⟩:=hs;simp only at k1 k2 k3 k4 k5 ⊢;have hol:o.length=l.length:=by have:=k5.length_eq;rwa[qaz]at this
 by_cases ha:a>0
 ·by_cases ho:((o.length:Nat):Int)>1
  ·right;obtain⟨x,e,x1,x2⟩:=q30 hc q ((o.length:Int)-1) (by omega);obtain⟨i,rfl⟩:∃i:Nat,x=i:=⟨x.toNat,by omega⟩;have hi:i+1<o.length:=by have:=x2 (by omega);omega
   have hi0:i<o.length:=by omega
   refine⟨(a-1,q+1,(o.set i o[i+1]).set (i+1) o[i]),?_,⟨by simp only;omega,by simp only;omega,by simp only;omega,by simp only;omega,(quh o hi).trans k5⟩,by simp only;omega⟩;have z1:i*1+1<=o.length*1:=by omega
   have z2:(i+1)*1+1<=o.length*1:=by omega
   simp only[q16.next0,q16.round0,evz,Nat.reduceLT,ha,ho];rw[q3g (x:=(o.length:Int)-1) (by omega)];have hi':i+1<(o.set i o[i+1]).length:=by rw[List.length_set];exact hi
   simp only[evz,Nat.reduceLT,e,q0n (show i<9223372036854775807 by omega),hi,hi0,gA,q1l,qam,q3n,z1,qae hi0,List.length_set,z2,qae hi'];rw[q3g (x:=a-1) (by omega)]
  ·left;simp only[q16.next0,q16.round0,evz,Nat.reduceLT,ha,ho];exact q5l (by omega) ⟨o,rfl,k5⟩
 ·left;simp only[q16.next0,q16.round0,evz,Nat.reduceLT,ha];exact q5l (by omega) ⟨o,rfl,k5⟩
theorem q5t(p:Int)(hp:0<=p/\p<=1099511000000)(l:List Symbol)(hl:l.length<=1000):Drawn code p 10 (fun x=>∃o:List Int,x=slc o/\o.length<=l.length) (LIM F.q5t [.rref [slc code,.int .i64 p] 0,.agg [slc l]]):=by
 refine q9y rfl 10 ?_;rw[show q1b prog A H LIM 10 F.q5t [.rref [slc code,.int .i64 p] 0,.agg [slc l]]=_ from q5t.ev _ _ _ _];refine q7m (q16 hc p (by omega) l hl) ?_;rintro _ p1 a1 b1 ⟨o,rfl,ho⟩;have hol:o.length=l.length:=by have:=ho.length_eq;rwa[qaz]at this
 have leaf:∀(o:List Int)(p2:Int),p<=p2/\p2<=p+10->o.length<=l.length->Drawn code p 10 (fun x=>∃o:List Int,x=slc o/\o.length<=l.length) (some (slc o,[.agg [slc code,.int .i64 p2]])):=fun o p2 h hl=>q5l h ⟨o,rfl,hl⟩;simp only[evz,Nat.reduceLT];split
 ·exact leaf o _ (by omega) (by omega)
 rename_i hne;refine qa3 hc (by omega) fun b=>?_;simp only[evz,Nat.reduceLT];cases b with
 |false=>simp only[evz,Nat.reduceLT,Bool.not_false];exact leaf o _ (by omega) (by omega)
 |true=>
  simp only[evz,Nat.reduceLT,Bool.not_true];refine qco hc (by omega) fun v h1 h2=>?_;simp only[evz,Nat.reduceLT];have h0:0<o.length:=by omega
  have e0:inB 0 o.length=true:=(q7a 0 _).trans (by simpa using h0);have z0:0+1<=o.length*1:=by omega
  have s0:∀n:Int,setCells (cells o) 0 [.int .i64 n]=cells (o.set 0 n):=fun n=>by
   have:=qae (l:=o) h0 n;rwa[Nat.zero_mul]at this
  split
  ·have z1:(1:Int)<=(o.length:Int):=by omega
   simp only[evz,Nat.reduceLT,z1,Int.le_refl,Bool.and_self,Int.reduceLE]
   have e9:((cells o).take (o.length*1)).drop (1*1)=cells (o.drop 1):=by
    rw[q8k o 1 _ rfl,List.take_length,qa1 o 1 1 rfl]
   rw[e9];exact leaf (o.drop 1) _ (by omega) (by rw[gAA];omega)
  split
  ·refine qcn hc [6,-1] rfl (by simp) (by omega) fun y hy=>?_;simp only[evz,Nat.reduceLT,e0,qam,q3n,z0,s0];exact leaf (o.set 0 y) _ (by omega) (by rw[List.length_set];omega)
  ·rw[q3g (by omega),show(o.length:Int)-1=((o.length-1:Nat):Int) by omega];have hi:o.length-1<o.length:=by omega
   simp only[evz,Nat.reduceLT,hi,gA,q1l,e0,qam,q3n,z0,s0];exact leaf _ _ (by omega) (by rw[List.length_set];omega)
theorem q19(p most vars:Int)(l:List Symbol)(hl:l.length<=1000)(hm:1<=most/\most<=1000)(hv:0<=vars/\vars<=12)(hp:0<=p/\p<=1099510000000) :
 Drawn code p 3200 (fun x=>∃t:List Int,x=slc t/\t.length<=1001) (LIM F.q19 [.rref [slc code,.int .i64 p] 0,.rref [slc l] 0,.int .i64 most,.int .i64 vars]):=by
 have leaf:∀(t:List Int)(p2:Int),p<=p2/\p2<=p+3200->t.length<=1001->Drawn code p 3200 (fun x=>∃t:List Int,x=slc t/\t.length<=1001) (some (slc t,[.agg [slc code,.int .i64 p2]])):=fun t p2 h hl=>q5l h ⟨t,rfl,hl⟩;refine q9y rfl 30 ?_;rw[show q1b prog A H LIM 30 F.q19 [.rref [slc code,.int .i64 p] 0,.rref [slc l] 0,.int .i64 most,.int .i64 vars]=_ from q19.ev _ _ _ _ _ _];simp only[evz,Nat.reduceLT];split
 ·exact leaf [0] p (by omega) (by simp)
 simp only[(q02 l (by omega)).eq,evz,Nat.reduceLT];split
 case isFalse=>exact leaf [0] p (by omega) (by simp)
 rename_i hs;have ok:=qbe hs;refine q7m (q0h hc ok p most vars hm hv (by omega)) ?_;rintro _ p1 a1 b1 ⟨t,rfl,g⟩;have tl:=g.le;have tp:=g.pos;simp only[evz,Nat.reduceLT];refine qa3 hc (by omega) fun b=>?_;simp only[evz,Nat.reduceLT];cases b with
 |false=>simp only[evz,Nat.reduceLT,Bool.not_false];exact leaf t _ (by omega) (by omega)
 |true=>
  simp only[evz,Nat.reduceLT,Bool.not_true];refine qco hc (by omega) fun v h1 h2=>?_;simp only[evz,Nat.reduceLT];split
  ·rw[q3g (by omega),show(t.length:Int)-1=((t.length-1:Nat):Int) by omega];have z1:(0:Int)<=((t.length-1:Nat):Int):=by omega
   have z2:((t.length-1:Nat):Int)<=(t.length:Int):=by omega
   simp only[evz,Nat.reduceLT,z1,z2,Bool.and_self];rw[q8k t 1 _ rfl];exact leaf _ _ (by omega) (by rw[gAF];omega)
  split
  ·rw[q1k (q44 (by rw[q0p];simp only[q3n];omega)),q2f];exact leaf _ _ (by omega) (by simp;omega)
  split
  ·refine qco hc (by omega) fun x k1 k2=>?_;obtain⟨i,rfl⟩:∃i:Nat,x=i:=⟨x.toNat,by omega⟩;have hi:i<t.length:=by have:=k2 (by omega);omega
   simp only[evz,Nat.reduceLT];refine qcn hc [(l.length:Int),-13,-12] rfl (by simp) (by omega) fun y hy=>?_;have z:i*1+1<=t.length*1:=by omega
   simp only[evz,Nat.reduceLT,hi,qam,q3n,z,qae hi];exact leaf _ _ (by omega) (by rw[List.length_set];omega)
  refine q9v (σ:=Nat×Int×List Int) (S:=fun m s=>q19.at1 30 m (q19.st1 (s.1:Nat) (cells code) s.2.1 (cells s.2.2))) (fun s=>s.1<=25/\s.2.2.length=s.1/\p<=s.2.1/\s.2.1=p1+1+1+2*(s.1:Int)) (fun s=>25-s.1) (fun m s hs=>?_) _ (0,p1+1+1,[]) ⟨by simp,rfl,by simp only;omega,by simp⟩ (by simp);obtain⟨k,q,o⟩:=s;obtain⟨q1,q2,q3,q4⟩:=hs;simp only at q1 q2 q3 q4 ⊢;obtain⟨x,hx,e⟩:=q45 hc q [24,25] (ts:=[.int .i64 24,.int .i64 25]) rfl (by simp) (by omega);have hx':x<=25:=by simp only[gK,List.not_mem_nil,or_false]at hx;omega
  by_cases hk:(k:Int)<x
  ·right;obtain⟨y,hy,e'⟩:=q45 hc (q+1) [1,2,0] (ts:=[.int .i64 1,.int .i64 2,.int .i64 0]) rfl (by simp) (by omega);refine⟨(k+1,q+1+1,o++[y]),?_,⟨by simp only;omega,by simp[q2],by simp only;omega,by simp only;omega⟩,by simp only;omega⟩;simp only[q19.next1,q19.round1,evz,Nat.reduceLT,e,hk,e'];rw[q1k (q44 (by rw[q0p];simp only[q3n];omega)),q0n (by omega),q2f]
  ·left;simp only[q19.next1,q19.round1,evz,Nat.reduceLT,e,hk];exact leaf o _ (by omega) (by omega)
end
end Ev.Ty
end
section
namespace Ev.Ty
open Go Ev
open Tm
namespace Tm
inductive Part:Tm->Tm->Prop
 |arg {p t}:p∈t.args->Part p t
 |deep {p q t}:q∈t.args->Part p q->Part p t
end Tm
namespace G
variable {r:Int->Int}
theorem qny{t p:Tm}(h:Tm.Part p t):G r t p:=by
 induction h with
 |arg h=>exact .eq h
 |deep h _ ih=>exact .sub h ih
end G
end Ev.Ty
end
section
namespace Ev.Ty
open Go Ev
open Tm
section
variable {l:List Symbol}(ok:SigOk ⟨l⟩){o:List Int}(ho:∀n:Int,0<=n->n<l.length->n∈o)
include ok
theorem TermOk.atZero{t:List Int}(h:TermOk l t):∃x,At l t 0 x/\t=x.flat:=by
 obtain⟨x,hx,e⟩:=h.tree ok;exact⟨x,⟨hx,[],by simpa using e⟩,e⟩
include ho
end
end Ev.Ty
end
section
namespace Ev.Ty
open Go Ev
open Enc (enc)
open Sm (sm)
set_option maxHeartbeats 1000000
theorem q2k(l:List Symbol)(hl:l.length<=1000)(s:ByteArray):∃n:Int,Call F.q2k [.rref [slc l] 0,.str s] (.int .i64 n):=by
 suffices h:∃r,q1b prog A H LIM (l.length+1) F.q2k [.rref [slc l] 0,.str s]=r/\∃n:Int,r=some (.int .i64 n,[]) by
  obtain⟨_,e,n,rfl⟩:=h;exact⟨n,q0v rfl _ e⟩
 refine⟨_,q2k.ev _ _ _,?_⟩;refine q9v (Q:=fun r=>∃n:Int,r=some (.int .i64 n,[])) (σ:=Nat) (S:=fun m k=>q2k.at0 (l.length+1) m (q2k.st0 (cells l) s (k:Nat))) (fun k=>k<=l.length) (fun k=>l.length-k) (fun m k hk=>?_) _ 0 (by omega) (by omega);by_cases h:k<l.length
 ·have g0:=get0 (l:=l) (k:=2) (i:=k) rfl;have ek:l[k]?=some l[k]:=gA h;by_cases e:l[k].name=s
  ·left;exact⟨(k:Int),by simp only[q2k.next0,q2k.round0,evz,Nat.reduceLT,h,g0,ek,e,beq_self_eq_true,q4b]⟩
  ·right;refine⟨k+1,?_,by omega,by omega⟩;simp only[q2k.next0,q2k.round0,evz,Nat.reduceLT,h,g0,ek,e,q4b];rw[q0n (by omega)]
 ·left;exact⟨-1,by simp only[q2k.next0,q2k.round0,evz,Nat.reduceLT,h]⟩
def CutQ(s:ByteArray)(r:R):Prop:=∃xs:List ByteArray,r=some (.sl 1 (xs.map .str),[])/\xs.length<=s.size+1/\∀x∈xs,x.size<=s.size
theorem q34(s:ByteArray)(hs:s.size<=1000)(c:Int):∃xs:List ByteArray,Call F.q34 [.str s,.int .u8 c] (.sl 1 (xs.map .str))/\xs.length<=s.size+1/\∀x∈xs,x.size<=s.size:=by
 suffices h:∃r,q1b prog A H LIM (s.size+2) F.q34 [.str s,.int .u8 c]=r/\CutQ s r by
  obtain⟨_,e,n,rfl,h⟩:=h;exact⟨n,q0v rfl _ e,h⟩
 refine⟨_,q34.ev _ _ _,?_⟩;have z:([]:List T)=([]:List ByteArray).map .str:=rfl;rw[z];refine q9v (Q:=CutQ s) (σ:=Nat×Nat×List ByteArray) (S:=fun m q=>q34.at0 (s.size+2) m (q34.st0 s c (q.1:Nat) (q.2.1:Nat) (q.2.2.map .str))) (fun q=>q.1<=q.2.1/\q.2.1<=s.size+1/\q.2.2.length<=q.2.1/\∀x∈q.2.2,x.size<=s.size) (fun q=>s.size+1-q.2.1) (fun m q hq=>?_) _ (0,0,[]) ⟨by simp,by simp,by simp,by simp⟩ (by simp only;omega);obtain⟨a,k,xs⟩:=q;obtain⟨h1,h2,h3,h4⟩:=hq;simp only at h1 h2 h3 h4 ⊢;by_cases hk:k<=s.size
 case neg=>
  left;have hk':¬(k:Int)<=(s.size:Int):=by omega
  exact⟨xs,by simp only[q34.next0,q34.round0,evz,Nat.reduceLT,hk'],by omega,h4⟩
 right;have hk':(k:Int)<=(s.size:Int):=by omega
 have ha':(0:Int)<=(a:Int):=by omega
 have hak:(a:Int)<=(k:Int):=by omega
 have put:∀x∈xs++[s.extract a k],x.size<=s.size:=fun x hx=>by
  rcases gO.1 hx with h|h
  ·exact h4 x h
  ·rw[gD.1 h,ByteArray.size_extract];omega
 have cell:(xs.map T.str)++[.str (s.extract a k)]=(xs++[s.extract a k]).map .str:=by rw[List.map_append];rfl
 have blen:Nat.ble (((xs.map T.str).length+1)*16) (140737488355328*1)=true:=q44 (by rw[gAG];omega);by_cases e:k=s.size
 ·refine⟨(k+1,k+1,xs++[s.extract a k]),?_,⟨by simp only;omega,by simp only;omega,by simp;omega,put⟩,by simp only;omega⟩;have e':((k:Nat):Int)=(s.size:Int):=by omega
  simp only[q34.next0,q34.round0,evz,Nat.reduceLT,hk',e',beq_self_eq_true,ha',hak,Int.le_refl,decide_true,Bool.and_self,<- cell];rw[<- e]at *;simp only[evz,Nat.reduceLT,hak,decide_true,Bool.and_self,blen];rw[q0n (by omega)]
 ·have e':¬((k:Nat):Int)=(s.size:Int):=by omega
  have hlt:k<s.size:=by omega
  by_cases eb:((s.data.getD k 0).toNat:Int)=c
  ·refine⟨(k+1,k+1,xs++[s.extract a k]),?_,⟨by simp only;omega,by simp only;omega,by simp;omega,put⟩,by simp only;omega⟩;simp only[q34.next0,q34.round0,evz,Nat.reduceLT,hk',e',hlt,eb,ha',hak,decide_true,Bool.and_self,blen,<- cell];rw[q0n (by omega)]
  ·refine⟨(a,k+1,xs),?_,⟨by simp only;omega,by simp only;omega,by simp only;omega,h4⟩,by simp only;omega⟩;simp only[q34.next0,q34.round0,evz,Nat.reduceLT,hk',e',hlt,eb];rw[q0n (by omega)]
def qf2(s:ByteArray)(r:R):Prop:=∃(t:List Int)(b:Bool),r=some (.tup [slc t,.bool b],[])/\t.length<=s.size
theorem qog{l:List Symbol}(hl:l.length<=1000)(s:ByteArray)(hs:s.size<=1000)(N:Nat)(L:St->R)(a:Nat)(t:List Int)(ht:t.length<=a)(k0:Nat)(ha:a<=k0)
 (K:∀(e:Nat)(n:Int),k0<=e->e<=s.size->qf2 s (L (q0r.st0 (cells l) s (e:Nat) (cells (t++[n]))))):∀(d k f:Nat),k+d=s.size->k0<=k->d<f->
 qf2 s (q0r.at3 N L f (q0r.st3 (cells l) s (a:Nat) (k:Nat) (cells t))):=by
 intro d;induction d with
 |zero=>
  intro k f hk h0 hf;obtain⟨f,rfl⟩:∃g,f=g+1:=⟨f-1,by omega⟩;have n1:¬(k:Int)<(s.size:Int):=by omega
  have c1:(0:Int)<=(a:Int):=by omega
  have c2:(a:Int)<=(k:Int):=by omega
  have c3:(k:Int)<=(s.size:Int):=by omega
  obtain⟨n,en⟩:=q2k l hl (s.extract a k);have blen:Nat.ble (((cells t).length+1)*8) (140737488355328*1)=true:=q44 (by rw[q0p,q3n];omega);simp only[q0r.next3,q0r.round3,n1,c1,c2,c3,decide_true,decide_false,Bool.and_self,cond_true,cond_false,gR,en.eq,evz,Nat.reduceLT];by_cases hn:n<0
  ·simp only[hn,evz,Nat.reduceLT];exact⟨[],false,rfl,by simp⟩
  ·simp only[hn,evz,Nat.reduceLT,blen];rw[q2f];exact K k n h0 (by omega)
 |succ d ih=>
  intro k f hk h0 hf;obtain⟨f,rfl⟩:∃g,f=g+1:=⟨f-1,by omega⟩;have n1:(k:Int)<(s.size:Int):=by omega
  have n2:k<s.size:=by omega
  have c1:(0:Int)<=(a:Int):=by omega
  have c2:(a:Int)<=(k:Int):=by omega
  have c3:(k:Int)<=(s.size:Int):=by omega
  obtain⟨n,en⟩:=q2k l hl (s.extract a k);have blen:Nat.ble (((cells t).length+1)*8) (140737488355328*1)=true:=q44 (by rw[q0p,q3n];omega)
  have stop:qf2 s (if n<0 then some (.tup [.sl 1 [],.bool false],[])else L (q0r.st0 (cells l) s (k:Nat) (cells t++[.int .i64 n]))):=by
   by_cases hn:n<0
   ·rw[if_pos hn];exact⟨[],false,rfl,by simp⟩
   ·rw[if_neg hn,q2f];exact K k n h0 (by omega)
  have ih:=ih (k+1) f (by omega) (by omega) (by omega);simp only[q0r.next3,q0r.round3,n1,n2,c1,c2,c3,q7a,decide_true,decide_false,Bool.and_self,cond_true,cond_false,gR,en.eq,evz,Nat.reduceLT,blen,q0n (by omega:k<9223372036854775807)];split
  ·split
   ·exact ih
   ·exact stop
  ·exact stop
theorem q0r{l:List Symbol}(hl:l.length<=1000)(s:ByteArray)(hs:s.size<=1000):∃(t:List Int)(b:Bool),Call F.q0r [.rref [slc l] 0,.str s] (.tup [slc t,.bool b])/\t.length<=s.size:=by
 suffices h:∃r,q1b prog A H LIM (s.size+1) F.q0r [.rref [slc l] 0,.str s]=r/\qf2 s r by
  obtain⟨_,e,t,b,rfl,h⟩:=h;exact⟨t,b,q0v rfl _ e,h⟩
 refine⟨_,q0r.ev _ _ _,?_⟩
 have key:∀(d k f:Nat)(t:List Int),k+d=s.size->t.length<=k->d<f->qf2 s (q0r.at0 (s.size+1) f (q0r.st0 (cells l) s (k:Nat) (cells t))):=by
  intro d;induction d using Nat.strongRecOn with
  |ind d ih=>
   intro k f t hk ht hf;obtain⟨f,rfl⟩:∃g,f=g+1:=⟨f-1,by omega⟩;by_cases hk0:k<s.size
   case neg=>
    have n1:¬(k:Int)<(s.size:Int):=by omega
    simp only[q0r.next0,q0r.round0,evz,Nat.reduceLT,n1];exact⟨t,true,rfl,by omega⟩
   have n1:(k:Int)<(s.size:Int):=by omega
   have next:qf2 s (q0r.at0 (s.size+1) f (q0r.st0 (cells l) s ((k+1:Nat):Int) (cells t))):=ih (d-1) (by omega) (k+1) f t (by omega) (by omega) (by omega)
   have put:∀n:Int,qf2 s (q0r.at0 (s.size+1) f (q0r.st0 (cells l) s ((k+1:Nat):Int) (cells t++[.int .i64 n]))):=fun n=>by
    rw[q2f];exact ih (d-1) (by omega) (k+1) f _ (by omega) (by simp;omega) (by omega)
   have bad:qf2 s (some (.tup [.sl 1 [],.bool false],[])):=⟨[],false,rfl,by simp⟩;have blen:Nat.ble (((cells t).length+1)*8) (140737488355328*1)=true:=q44 (by rw[q0p,q3n];omega)
   have word:((s.data.getD k 0).toNat:Int)>=97->((s.data.getD k 0).toNat:Int)<=122->qf2 s (q0r.at3 (s.size+1) (q0r.at0 (s.size+1) f) (s.size+1) (q0r.st3 (cells l) s (k:Nat) (k:Nat) (cells t))):=fun w1 w2=>by
    have:=qog hl s hs (s.size+1) (q0r.at0 (s.size+1) f) k t ht (k+1) (by omega) (fun e n h1 h2=>ih (s.size-e) (by omega) e f _ (by omega) (by simp;omega) (by omega)) (d-1) (k+1) s.size (by omega) (by omega) (by omega);simp only[q0r.next3,q0r.round3,n1,hk0,q7a,decide_true,cond_true,gR,w1,w2,q0n (by omega:k<9223372036854775807)];exact this
   simp only[q0r.next0,q0r.round0,n1,hk0,q7a,decide_true,cond_true,gR,evz,Nat.reduceLT,blen,q0n (by omega:k<9223372036854775807)]
   repeat' split
   all_goals first|with_reducible exact next|with_reducible exact bad|with_reducible exact put _|(with_reducible apply word <;> assumption)
 exact key s.size 0 (s.size+1) [] (by omega) (by simp) (by omega)
section
variable {l:List Symbol}(ok:SigOk ⟨l⟩)
include ok
theorem qlk{t:List Int}(ht:TermOk l t){i:Nat}(hi:i<t.length)(h0:0<=t[i]):∃k:Nat,t[i]=k/\∃h:k<l.length,ar l t[i]=l[k].arity.toNat/\0<=l[k].arity/\l[k].arity<=2/\l[k].name.size<=3:=by
 have hn:=ht.node _ (gG hi);unfold q80 inR at hn;simp only[Bool.or_eq_true,gC,gS]at hn;have hk:t[i].toNat<l.length:=by omega
 refine⟨t[i].toNat,by omega,hk,?_,(ok.arity _ (gG hk)).1,(ok.arity _ (gG hk)).2,qjq (ok.name _ (gG hk))⟩;unfold ar;rw[if_neg (by omega),gA hk];rfl
def qzc(c:Nat)(r:R):Prop:=∃s:ByteArray,r=some (.str s,[])/\s.size<=c
theorem qlf{t:List Int}(ht:TermOk l t):∀(x:Tm)(i:Nat),At l t i x->qzc (6*x.flat.length) (LIM F.q2w [.rref [slc l] 0,slc t,.int .i64 i]):=by
 have lb:(ByteArray.mk #[40]).size=1:=rfl;have rb:(ByteArray.mk #[41]).size=1:=rfl;have cm:(ByteArray.mk #[44]).size=1:=rfl;have hle:=ht.le;intro x;induction x with
 |v n=>
  intro i h;obtain⟨h1,h2,_,_⟩:=h.facts;have hn:n<0:=h.1;have e:t[i]=n:=by rw[gI,gA h1]at h2;exact h2
  have ei:t[i]?=some n:=by rw[gA h1,e]
  have ev:=q2w.ev 0 (cells l) (cells t) i;simp only[evz,Nat.reduceLT,h1,ei,q1l,hn]at ev;refine⟨_,qb9 rfl 0 ev,?_⟩;show ByteArray.size (ByteArray.push ByteArray.empty _)<=6*[n].length;rw[ByteArray.size_push];show 0+1<=6*1;decide
 |k n=>
  intro i h;obtain⟨h1,h2,_,_⟩:=h.facts;have hn:0<=n/\ar l n=0:=h.1;have e:t[i]=n:=by rw[gI,gA h1]at h2;exact h2
  subst e;obtain⟨q,eq,hq,q1,q2,q3,q4⟩:=qlk ok ht h1 hn.1;have ei:t[i]?=some (q:Int):=by rw[gA h1,eq]
  have e0:l[q].arity=0:=by omega
  have hn':¬(q:Int)<0:=by omega
  have ek:l[q]?=some l[q]:=gA hq;refine⟨l[q].name,qb9 rfl 0 ((q2w.ev _ _ _ _).trans ?_),by show _<=6*1;omega⟩;simp only[evz,Nat.reduceLT,h1,ei,q1l,hn',hq,get0 (l:=l) (k:=2) rfl,get1 (l:=l) (k:=2) rfl,ek,q4b,e0]
 |u n y ihy=>
  intro i h;obtain⟨h1,h2,_,_⟩:=h.facts;have hn:0<=n/\ar l n=1:=⟨h.1.1,h.1.2.1⟩;have e:t[i]=n:=by rw[gI,gA h1]at h2;exact h2
  have hy:At l t (i+1) y:=by
   obtain⟨hx,r,hr⟩:=h;exact At.next hx.2.2 hr
  obtain⟨y1,_,y3,_⟩:=hy.facts
  have yl:y.flat.length<=24:=by
   have:=(q50 ht y1).2.1;omega
  subst e;obtain⟨q,eq,hq,q1,q2,q3,q4⟩:=qlk ok ht h1 hn.1;have ei:t[i]?=some (q:Int):=by rw[gA h1,eq]
  have e0:l[q].arity=1:=by omega
  have hn':¬(q:Int)<0:=by omega
  have ek:l[q]?=some l[q]:=gA hq;obtain⟨s,es,hs⟩:=ihy (i+1) hy;have b1:l[q].name.size+1<=9223372036854775807:=by omega
  have ee:=(qa4 ok ht y1).eq;refine⟨(l[q].name++ByteArray.mk #[40])++s++ByteArray.mk #[41],qb9 rfl 2 ((q2w.ev _ _ _ _).trans ?_),?_⟩
  ·simp only[evz,Nat.reduceLT,h1,ei,q1l,hn',hq,get0 (l:=l) (k:=2) rfl,get1 (l:=l) (k:=2) rfl,ek,q4b,e0,lb,b1,q0n (by omega:i<9223372036854775807)];have c1:(l[q].name++ByteArray.mk #[40]).size+s.size<=9223372036854775807:=by rw[gY,lb];omega
   have c2:((l[q].name++ByteArray.mk #[40])++s).size+1<=9223372036854775807:=by rw[gY,gY,lb];omega
   simp only[q2w.next0,q2w.round0,evz,Nat.reduceLT,es,c1,ee,rb,c2];rfl
  ·rw[gY,gY,gY,lb,rb];show _<=6*(t[i]::y.flat).length;rw[gAB];omega
 |b n y z ihy ihz=>
  intro i h;obtain⟨h1,h2,_,_⟩:=h.facts;have hn:0<=n/\ar l n=2:=⟨h.1.1,h.1.2.1⟩;have e:t[i]=n:=by rw[gI,gA h1]at h2;exact h2
  have hy:At l t (i+1) y:=by
   obtain⟨hx,r,hr⟩:=h;exact At.next (n:=n) hx.2.2.1 (r:=z.flat++r) (by rw[hr];simp[Tm.flat])
  obtain⟨y1,_,y3,_⟩:=hy.facts
  have hz:At l t (q5k l t (i+1)) z:=by
   obtain⟨hx,r,hr⟩:=h;refine⟨hx.2.2.2,r,?_⟩;rw[y3,<- List.drop_drop,<- List.drop_drop,hr];simp[Tm.flat]
  obtain⟨z1,_,z3,_⟩:=hz.facts;have el:=(q50 ht z1).2.1;have yl:y.flat.length<=24:=by omega
  have zl:z.flat.length<=24:=by omega
  subst e;obtain⟨q,eq,hq,q1,q2,q3,q4⟩:=qlk ok ht h1 hn.1;have ei:t[i]?=some (q:Int):=by rw[gA h1,eq]
  have e0:l[q].arity=2:=by omega
  have hn':¬(q:Int)<0:=by omega
  have ek:l[q]?=some l[q]:=gA hq;obtain⟨s,es,hs⟩:=ihy (i+1) hy;obtain⟨s2,es2,hs2⟩:=ihz _ hz;have b1:l[q].name.size+1<=9223372036854775807:=by omega
  have ee:=(qa4 ok ht y1).eq;have ee2:=(qa4 ok ht z1).eq;refine⟨(((l[q].name++ByteArray.mk #[40])++s)++ByteArray.mk #[44])++s2++ByteArray.mk #[41],qb9 rfl 3 ((q2w.ev _ _ _ _).trans ?_),?_⟩
  ·simp only[evz,Nat.reduceLT,h1,ei,q1l,hn',hq,get0 (l:=l) (k:=2) rfl,get1 (l:=l) (k:=2) rfl,ek,q4b,e0,lb,b1,q0n (by omega:i<9223372036854775807)];have c1:(l[q].name++ByteArray.mk #[40]).size+s.size<=9223372036854775807:=by rw[gY,lb];omega
   have c2:((l[q].name++ByteArray.mk #[40])++s).size+1<=9223372036854775807:=by rw[gY,gY,lb];omega
   have c3:(((l[q].name++ByteArray.mk #[40])++s)++ByteArray.mk #[44]).size+s2.size<=9223372036854775807:=by rw[gY,gY,gY,lb,cm];omega
   have c4:((((l[q].name++ByteArray.mk #[40])++s)++ByteArray.mk #[44])++s2).size+1<=9223372036854775807:=by rw[gY,gY,gY,gY,lb,cm];omega
   simp only[q2w.next0,q2w.round0,evz,Nat.reduceLT,es,c1,ee,rb,c2,es2,ee2,cm,c3,c4];rfl
  ·rw[gY,gY,gY,gY,gY,lb,rb,cm];show _<=6*(t[i]::(y.flat++z.flat)).length;rw[gAB,gM];omega
theorem q7p(s:ByteArray)(hs:s.size<=1000):∃t:List Int,Call F.q7p [.rref [slc l] 0,.str s] (slc t)/\t.length<=168:=by
 have hle:=ok.le;simp only at hle
 suffices h:∃r,q1b prog A H LIM 0 F.q7p [.rref [slc l] 0,.str s]=r/\∃t:List Int,r=some (slc t,[])/\t.length<=168 by
  obtain⟨_,e,t,rfl,h⟩:=h;exact⟨t,q0v rfl _ e,h⟩
 refine⟨_,q7p.ev _ _ _,?_⟩;by_cases hb:(s.size:Int)>168
 ·simp only[evz,Nat.reduceLT,hb];exact⟨[],rfl,by simp⟩
 obtain⟨t,b,en,ht⟩:=q0r (l:=l) (by omega) s hs;simp only[evz,Nat.reduceLT,hb,en.eq,(q1n l ok t (by omega)).eq];cases b with
 |false=>exact⟨[],rfl,by simp⟩
 |true=>
  simp only[evz,Nat.reduceLT,Bool.not_true];by_cases h0:q57 l t=0
  ·have ok':=(q90 l t).1 h0;obtain⟨x,hx,_⟩:=TermOk.atZero ok ok';obtain⟨w,ew,_⟩:=qlf ok ok' x 0 hx;have ew:LIM F.q2w [.rref [slc l] 0,slc t,.int .i64 0]=some (.str w,[]):=ew;simp only[h0,evz,Nat.reduceLT,ew,ne_eq,gW];split
   ·exact⟨t,rfl,by omega⟩
   ·exact⟨[],rfl,by simp⟩
  ·simp only[h0,evz,Nat.reduceLT,ne_eq,gX];exact⟨[],rfl,by simp⟩
theorem q5o(s:ByteArray)(hs:s.size<=1000):∃(c:Int)(a b:List Int),Call F.q5o [.agg [slc l],.str s] (.agg [.int .i64 c,slc a,slc b])/\(c=0->EqOk l ⟨a,b⟩):=by
 have hle:=ok.le;simp only at hle;let Q:R->Prop:=fun r=>∃(c:Int)(a b:List Int),r=some (.agg [.int .i64 c,slc a,slc b],[])/\(c=0->EqOk l ⟨a,b⟩)
 suffices h:∃r,q1b prog A H LIM 0 F.q5o [.agg [slc l],.str s]=r/\Q r by
  obtain⟨_,e,c,a,b,rfl,h⟩:=h;exact⟨c,a,b,q0v rfl _ e,h⟩
 refine⟨_,q5o.ev _ _ _,?_⟩;have bad:Q (some (.agg [.int .i64 5,.sl 1 [],.sl 1 []],[])):=⟨5,[],[],rfl,by omega⟩;obtain⟨xs,ex,x1,x2⟩:=q34 s hs 61;have es:=(q02 l (by omega)).eq;rw[(q8h _).2 ok]at es;simp only[evz,Nat.reduceLT,es,ex.eq,gAG];by_cases hb:(s.size:Int)>337
 ·simp only[hb,evz,Nat.reduceLT];exact bad
 simp only[hb,evz,Nat.reduceLT]
 match xs,x2 with
 |[x,y],x2=>
  have hx:=x2 x (by simp);have hy:=x2 y (by simp);obtain⟨a,ea,ha⟩:=q7p ok x (by omega);obtain⟨b,eb,hb⟩:=q7p ok y (by omega);have ef:LIM F.q6s [.rref [slc l] 0,.rref [.sl 1 (cells a),.sl 1 (cells b)] 0]=_:=(q6s l ok a b (by omega) (by omega)).eq;by_cases h0:q4m l ⟨a,b⟩=0
  ·have r:Q (some (.agg [.int .i64 0,.sl 1 (cells a),.sl 1 (cells b)],[])):=⟨0,a,b,rfl,fun _=>qku.1 h0⟩;simpa[ea.eq,eb.eq,ef,h0,inB]using r
  ·simpa[ea.eq,eb.eq,ef,h0,inB]using bad
 |[],_=>simpa using bad
 |[x],_=>simpa using bad
 |x::y::z::r,_=>
  have hne:¬((r.length:Int)+1+1+1=2):=by omega
  simpa[hne]using bad
end
set_option maxHeartbeats 2000000
set_option maxRecDepth 10000
theorem Grown.eq{l:List Symbol}{m n:Nat}{v w:Int}{a b:List Int}(ha:Grown l m v a)(hb:Grown l n w b)(h1:m<=24)(h2:n<=24)(h3:v<=6)(h4:w<=6):EqOk l ⟨a,b⟩:=
 ⟨ha.ok h1 (by omega),hb.ok h2 (by omega),fun n hn=>by rcases ha.node n hn with h|h <;> omega,fun n hn=>by rcases hb.node n hn with h|h <;> omega⟩
section
variable {code:List UInt8}(hc:code.length<=2097152)
include hc
theorem q2v{l:List Symbol}(ok:SigOk ⟨l⟩)(p:Int)(hp:0<=p/\p<=1099510000000) :
 Drawn code p 6100 (fun x=>∃a b:List Int,x=.agg [slc a,slc b]/\EqOk l ⟨a,b⟩) (LIM F.q2v [.rref [slc code,.int .i64 p] 0,.rref [slc l] 0]):=by
 refine q9y rfl 20 ?_;rw[show q1b prog A H LIM 20 F.q2v [.rref [slc code,.int .i64 p] 0,.rref [slc l] 0]=_ from q2v.ev _ _ _ _];refine qco hc (by omega) fun v h1 h2=>?_;have h2:=h2 (by omega);obtain⟨v,rfl⟩:∃n:Nat,v=n:=⟨v.toNat,by omega⟩;simp only[evz,Nat.reduceLT];generalize hX:([.str _,.str _,.str _,.str _,.str _,.str _,.str _,.str _,.str _,.str _,.str _,.str _,.str _,.str _,.str _,.str _,.str _,.str _]:List T)=X;have hlen:X.length=18:=by rw[<- hX];rfl
 have hX:∃Y:List ByteArray,X=Y.map .str/\∀y∈Y,y.size<=1000:=by
  subst hX;refine⟨[_,_,_,_,_,_,_,_,_,_,_,_,_,_,_,_,_,_],rfl,?_⟩;intro y hy;simp only[gK,List.not_mem_nil,or_false]at hy;rcases hy with rfl|rfl|rfl|rfl|rfl|rfl|rfl|rfl|rfl|rfl|rfl|rfl|rfl|rfl|rfl|rfl|rfl|rfl <;> decide
 obtain⟨Y,rfl,hY⟩:=hX;rw[gAG]at hlen;refine q9v (σ:=Nat) (S:=fun m k=>q2v.at0 20 m (q2v.st0 (cells l) 18 (v:Nat) (k:Nat) (cells code) (p+1) (Y.map .str))) (fun k=>k<=18) (fun k=>18-k) (fun m k hk=>?_) _ 0 (by omega) (by omega);by_cases h:k<18
 ·have hi:(v+k) % 18<Y.length:=by omega
  have w:IntKind.wrap .i64 (((v:Nat):Int)+(k:Nat))=((v+k:Nat):Int):=by rw[q3g (by omega)];omega
  have w2:Int.tmod ((v+k:Nat):Int) 18=(((v+k) % 18:Nat):Int):=by rw[Int.tmod_eq_emod_of_nonneg (by omega)];omega
  have hk':((k:Nat):Int)<18:=by omega
  have ei:Y[(v+k) % 18]?=some Y[(v+k) % 18]:=gA hi;obtain⟨c,a,b,er,hr⟩:=q5o ok Y[(v+k) % 18] (hY _ (gG hi));by_cases h0:c=0
  ·left;subst h0;simp only[q2v.next0,q2v.round0,evz,Nat.reduceLT,hk',w,w2,q7a,hi,gAG,gAC,ei,Option.map_some,Option.bind_some,gR,Nat.mul_one,Nat.div_one,er.eq,show ¬(18:Int)=0 by decide];exact q5l (by omega) ⟨a,b,rfl,hr rfl⟩
  ·right;refine⟨k+1,?_,by omega,by omega⟩;simp only[q2v.next0,q2v.round0,evz,Nat.reduceLT,hk',w,w2,q7a,hi,gAG,gAC,ei,Option.map_some,Option.bind_some,gR,Nat.mul_one,Nat.div_one,er.eq,h0,show ¬(18:Int)=0 by decide];rw[q0n (by omega)]
 ·left;have hk':¬((k:Nat):Int)<18:=by omega
  simp only[q2v.next0,q2v.round0,evz,Nat.reduceLT,hk'];refine q7m (q0h hc ok (p+1) 4 2 (by omega) (by omega) (by omega)) ?_;rintro _ p1 a1 b1 ⟨a,rfl,ha⟩;simp only[evz,Nat.reduceLT];refine q7m (q0h hc ok p1 2 2 (by omega) (by omega) (by omega)) ?_;rintro _ p2 a2 b2 ⟨b,rfl,hb⟩;simp only[evz,Nat.reduceLT];exact q5l (by omega) ⟨a,b,rfl,ha.eq hb (by decide) (by decide) (by decide) (by decide)⟩
theorem q6i{l:List Symbol}(ok:SigOk ⟨l⟩)(p:Int)(hp:0<=p/\p<=1099500000000) :
 Drawn code p 6200 (fun x=>∃a b:List Int,x=.agg [slc a,slc b]/\EqOk l ⟨a,b⟩) (LIM F.q6i [.rref [slc code,.int .i64 p] 0,.rref [slc l] 0]):=by
 refine q9y rfl 0 ?_;rw[show q1b prog A H LIM 0 F.q6i [.rref [slc code,.int .i64 p] 0,.rref [slc l] 0]=_ from q6i.ev _ _ _ _];refine qa3 hc (by omega) fun b=>?_;simp only[evz,Nat.reduceLT];cases b with
 |true=>
  simp only[evz,Nat.reduceLT];refine qcn hc [4,7,9] rfl (by simp) (by omega) fun v hv=>?_
  have hv':4<=v/\v<=9:=by
   simp only[gK,List.not_mem_nil,or_false]at hv;omega
  simp only[evz,Nat.reduceLT];refine q7m (q0h hc ok _ v 3 (by omega) (by omega) (by omega)) ?_;rintro _ p1 a1 b1 ⟨a,rfl,ha⟩;simp only[evz,Nat.reduceLT];refine qcn hc [1,3,5] rfl (by simp) (by omega) fun w hw=>?_
  have hw':1<=w/\w<=5:=by
   simp only[gK,List.not_mem_nil,or_false]at hw;omega
  simp only[evz,Nat.reduceLT];refine q7m (q0h hc ok _ w 3 (by omega) (by omega) (by omega)) ?_;rintro _ p2 a2 b2 ⟨b,rfl,hb⟩;simp only[evz,Nat.reduceLT];exact q5l (by omega) ⟨a,b,rfl,ha.eq hb (by omega) (by omega) (by decide) (by decide)⟩
 |false=>
  simp only[evz,Nat.reduceLT];refine q7m (q2v hc ok _ (by omega)) ?_;rintro _ p1 a1 b1 ⟨a,b,rfl,h⟩;simp only[evz,Nat.reduceLT];exact q5l (by omega) ⟨a,b,rfl,h⟩
theorem q52{l:List Symbol}(hl:l.length<=1000)(p:Int)(hp:0<=p/\p<=1099490000000) :
 Drawn code p 6500 (fun x=>∃a b:List Int,x=.agg [slc a,slc b]/\a.length<=1001/\b.length<=1001) (LIM F.q52 [.rref [slc code,.int .i64 p] 0,.rref [slc l] 0]):=by
 refine q9y rfl 0 ?_;rw[show q1b prog A H LIM 0 F.q52 [.rref [slc code,.int .i64 p] 0,.rref [slc l] 0]=_ from q52.ev _ _ _ _];simp only[evz,Nat.reduceLT,(q02 l (by omega)).eq];by_cases h0:q43 ⟨l⟩=0
 case neg=>
  simp only[h0,evz,Nat.reduceLT,ne_eq,gX];exact q5l (by omega) ⟨[0],[0],rfl,by simp,by simp⟩
 have ok:=qbe h0;simp only[h0,evz,Nat.reduceLT,ne_eq,gW];refine qa3 hc (by omega) fun b=>?_;simp only[evz,Nat.reduceLT];cases b with
 |true=>
  simp only[evz,Nat.reduceLT];refine q7m (q19 hc _ 9 7 l hl (by omega) (by omega) (by omega)) ?_;rintro _ p1 a1 b1 ⟨a,rfl,ha⟩;simp only[evz,Nat.reduceLT];refine q7m (q19 hc _ 5 12 l hl (by omega) (by omega) (by omega)) ?_;rintro _ p2 a2 b2 ⟨b,rfl,hb⟩;simp only[evz,Nat.reduceLT];exact q5l (by omega) ⟨a,b,rfl,ha,hb⟩
 |false=>
  simp only[evz,Nat.reduceLT];refine q7m (q6i hc ok _ (by omega)) ?_;rintro _ p1 a1 b1 ⟨a,b,rfl,h⟩;simp only[evz,Nat.reduceLT];have h1:=h.left.le;have h2:=h.right.le;simp only at h1 h2;exact q5l (by omega) ⟨a,b,rfl,by omega,by omega⟩
end
set_option maxHeartbeats 2000000
set_option maxRecDepth 10000
structure BindS(vs:List Int)(ts:List (List Int)):Prop where
 vlen:vs.length<=12
 tlen:ts.length<=12
 size:∀t∈ts,t.length<=1001
section
variable {code:List UInt8}(hc:code.length<=2097152)
include hc
end
section
variable (e:Nat->Nat)(f:Nat->Int)
def ql0(k:Nat)(s:Int×Int):Int×Int:=if s.1>=0/\e k>=e s.1.toNat then s else if f k>=0 then((k:Int),f k)else s
def down:Nat->Int×Int->Int×Int
 |0,s=>s
 |k+1,s=>down k (ql0 e f k s)
def qd5(s:Int×Int×Int)(k:Nat):Int×Int×Int:=if(e k:Int)>s.2.2 then s else if f k>=0 then((k:Int),f k,(e k:Int))else s
def IsBest(lo hi:Nat)(s:Int×Int):Prop:=
 (s=(-1,-1)/\∀a,lo<=a->a<hi->f a<0)\/
  ∃a,lo<=a/\a<hi/\s=((a:Int),f a)/\f a>=0/\∀a',lo<=a'->a'<hi->f a'>=0->e a<e a'\/(e a=e a'/\a'<=a)
theorem IsBest.down{k n:Nat}{s:Int×Int}(h:IsBest e f (k+1) n s)(hk:k<n):IsBest e f k n (ql0 e f k s):=by
 unfold ql0;rcases h with⟨rfl,h⟩|⟨a,h1,h2,rfl,h3,h4⟩
 ·rw[if_neg (by simp)];by_cases hf:f k>=0
  ·rw[if_pos hf];refine .inr ⟨k,gAI _,hk,rfl,hf,fun a' q1 q2 q3=>?_⟩;by_cases hak:a'=k
   ·subst hak;exact .inr ⟨rfl,gAI _⟩
   ·have:=h a' (by omega) q2;omega
  ·rw[if_neg hf];refine .inl ⟨rfl,fun a' q1 q2=>?_⟩;by_cases hak:a'=k
   ·subst hak;omega
   ·exact h a' (by omega) q2
 ·by_cases hc:e k>=e a
  ·rw[if_pos ⟨by simp,by simpa using hc⟩];refine .inr ⟨a,by omega,h2,rfl,h3,fun a' q1 q2 q3=>?_⟩;by_cases hak:a'=k
   ·subst hak;rcases Nat.lt_or_ge (e a) (e a')with q|q
    ·exact .inl q
    ·exact .inr ⟨by omega,by omega⟩
   ·exact h4 a' (by omega) q2 q3
  ·rw[if_neg (by simp only[gR];exact fun h=>hc h.2)];by_cases hf:f k>=0
   ·rw[if_pos hf];refine .inr ⟨k,gAI _,hk,rfl,hf,fun a' q1 q2 q3=>?_⟩;by_cases hak:a'=k
    ·subst hak;exact .inr ⟨rfl,gAI _⟩
    ·rcases h4 a' (by omega) q2 q3 with q|q <;> exact .inl (by omega)
   ·rw[if_neg hf];refine .inr ⟨a,by omega,h2,rfl,h3,fun a' q1 q2 q3=>?_⟩;by_cases hak:a'=k
    ·subst hak;omega
    ·exact h4 a' (by omega) q2 q3
theorem qir(n:Nat):∀(k:Nat)(s:Int×Int),k<=n->IsBest e f k n s->IsBest e f 0 n (down e f k s)
 |0,s,_,h=>h
 |k+1,s,hk,h=>qir n k _ (by omega) (h.down e f (by omega))
theorem IsBest.up{k:Nat}{s:Int×Int×Int}(he:∀a,e a<=24)(h:IsBest e f 0 k (s.1,s.2.1))(hs:(s.1 = -1/\s.2.2=25)\/∃a:Nat,s.1=a/\s.2.2=e a) :
 IsBest e f 0 (k+1) ((qd5 e f s k).1,(qd5 e f s k).2.1)/\(((qd5 e f s k).1 = -1/\(qd5 e f s k).2.2=25)\/∃a:Nat,(qd5 e f s k).1=a/\(qd5 e f s k).2.2=e a):=by
 have hek:=he k;obtain⟨p,r,d⟩:=s;unfold qd5;simp only at h hs ⊢;rcases h with⟨hp,h⟩|⟨a,h1,h2,hp,h3,h4⟩
 ·simp only[Prod.mk.injEq]at hp;obtain⟨rfl,rfl⟩:=hp
  have hd:d=25:=by
   rcases hs with⟨_,h⟩|⟨a,h,_⟩
   ·exact h
   ·omega
  subst hd;rw[if_neg (by omega)];by_cases hf:f k>=0
  ·rw[if_pos hf];refine⟨.inr ⟨k,by omega,by omega,rfl,hf,fun a' q1 q2 q3=>?_⟩,.inr ⟨k,rfl,rfl⟩⟩;by_cases hak:a'=k
   ·subst hak;exact .inr ⟨rfl,gAI _⟩
   ·have:=h a' (by omega) (by omega);omega
  ·rw[if_neg hf];refine⟨.inl ⟨rfl,fun a' q1 q2=>?_⟩,.inl ⟨rfl,rfl⟩⟩;by_cases hak:a'=k
   ·subst hak;omega
   ·exact h a' (by omega) (by omega)
 ·simp only[Prod.mk.injEq]at hp;obtain⟨rfl,rfl⟩:=hp
  have hd:d=e a:=by
   rcases hs with⟨h,_⟩|⟨a',h,h'⟩
   ·omega
   ·have:a=a':=by omega
    rw[this];exact h'
  subst hd;by_cases hc:(e k:Int)>e a
  ·rw[if_pos hc];refine⟨.inr ⟨a,by omega,by omega,rfl,h3,fun a' q1 q2 q3=>?_⟩,.inr ⟨a,rfl,rfl⟩⟩;by_cases hak:a'=k
   ·subst hak;exact .inl (by omega)
   ·exact h4 a' (by omega) (by omega) q3
  ·rw[if_neg hc];by_cases hf:f k>=0
   ·rw[if_pos hf];refine⟨.inr ⟨k,by omega,by omega,rfl,hf,fun a' q1 q2 q3=>?_⟩,.inr ⟨k,rfl,rfl⟩⟩;by_cases hak:a'=k
    ·subst hak;exact .inr ⟨rfl,gAI _⟩
    ·rcases h4 a' (by omega) (by omega) q3 with q|⟨q,_⟩
     ·exact .inl (by omega)
     ·rcases Nat.lt_or_ge (e k) (e a')with q'|q'
      ·exact .inl q'
      ·exact .inr ⟨by omega,by omega⟩
   ·rw[if_neg hf];refine⟨.inr ⟨a,by omega,by omega,rfl,h3,fun a' q1 q2 q3=>?_⟩,.inr ⟨a,rfl,rfl⟩⟩;by_cases hak:a'=k
    ·subst hak;omega
    ·exact h4 a' (by omega) (by omega) q3
theorem IsBest.unique{n:Nat}{s s':Int×Int}(h:IsBest e f 0 n s)(h':IsBest e f 0 n s'):s=s':=by
 rcases h with⟨rfl,h⟩|⟨a,h1,h2,rfl,h3,h4⟩ <;> rcases h' with⟨rfl,h'⟩|⟨b,k1,k2,rfl,k3,k4⟩
 ·rfl
 ·have:=h b (by omega) k2;omega
 ·have:=h' a (by omega) h2;omega
 ·have q1:=h4 b (by omega) k2 k3;have q2:=k4 a (by omega) h2 h3;have:a=b:=by omega
  rw[this]
def qct(n:Nat):Int×Int×Int:=(List.range n).foldl (qd5 e f) (-1,-1,25)
theorem qjy(he:∀a,e a<=24):∀n,IsBest e f 0 n ((qct e f n).1,(qct e f n).2.1)/\(((qct e f n).1 = -1/\(qct e f n).2.2=25)\/∃a:Nat,(qct e f n).1=a/\(qct e f n).2.2=e a)
 |0=>⟨.inl ⟨rfl,fun a _ h=>by omega⟩,.inl ⟨rfl,rfl⟩⟩
 |n+1=>by
  have ih:=qjy he n;have e0:qct e f (n+1)=qd5 e f (qct e f n) n:=by unfold qct;rw[List.range_succ,List.foldl_append];rfl
  rw[e0];exact ih.1.up e f he ih.2
theorem qwz(he:∀a,e a<=24)(n:Nat):down e f n (-1,-1)=((qct e f n).1,(qct e f n).2.1):=
 (qir e f n n (-1,-1) (gAI _) (.inl ⟨rfl,fun a _ h=>by omega⟩)).unique e f (qjy e f he n).1
end
def fits(l:List Symbol)(rs:List Equation)(t:List Int)(p:Nat):Int:=idx (fun e=>(q8b l e.left t p).isSome) rs
def qea(l:List Symbol)(rs:List Equation)(t:List Int):Int×Int:=down (q5k l t) (fits l rs t) t.length (-1,-1)
theorem qvg(l:List Symbol)(t:List Int)(p:Nat):q5k l t p<=t.length:=by
 unfold q5k;split <;> omega
theorem qv8{l:List Symbol}{rs:List Equation}{t:List Int}(ht:TermOk l t):qea l rs t=((qct (q5k l t) (fits l rs t) t.length).1,(qct (q5k l t) (fits l rs t) t.length).2.1):=
 qwz _ _ (fun a=>Nat.le_trans (qvg l t a) ht.le) _
theorem qvr{l:List Symbol}{rs:List Equation}{t:List Int}:qea l rs t=(-1,-1)\/∃a k:Nat,∃h:k<rs.length,a<t.length/\qea l rs t=((a:Int),(k:Int))/\(q8b l rs[k].left t a).isSome=true:=by
 rcases qir (q5k l t) (fits l rs t) t.length t.length (-1,-1) (gAI _) (.inl ⟨rfl,fun a _ h=>by omega⟩)with⟨h,_⟩|⟨a,_,h2,h3,h4,_⟩
 ·exact .inl h
 ·rcases q8s (fun e:Equation=>(q8b l e.left t a).isSome) rs with⟨h5,_⟩|⟨k,hk,h5,h6,_⟩
  ·have:fits l rs t a = -1:=h5;omega
  ·have e1:fits l rs t a=(k:Nat):=h5;exact .inr ⟨a,k,hk,h2,by unfold qea;rw[h3,e1],h6⟩
theorem qbc{l:List Symbol}{b:Bnd}{k:Nat}(hb:MB l b k)(hk:k<=24):∀(q x:List Int)(m:Nat),skip (ar l) m q=some []->skip (ar l) m (q0k b.1 b.2 q++x)=some x
 |[],x,m,h=>by
  obtain⟨rfl,_⟩:=qll h;rw[q4n];rfl
 |n::q,x,m,h=>by
  cases m with
  |zero=>rw[q4n]at h;cases h
  |succ m=>
   rw[skip]at h;have ih:=qbc hb hk q x _ h;have e:q0k b.1 b.2 (n::q)=(q6p b.1 b.2 (-1-n)).getD [n]++q0k b.1 b.2 q:=by simp[q0k]
   rw[e,gZ];cases ho:q6p b.1 b.2 (-1-n)with
   |none=>
    show skip (ar l) (m+1) (n::(q0k b.1 b.2 q++x))=_;rw[skip];exact ih
   |some o=>
    have hn:n<0:=by
     rcases Int.lt_or_le n 0 with h|h
     ·exact h
     ·rw[qkd (hb.ok hk) (by omega)]at ho;cases ho
    rw[qcp l hn,Nat.add_zero]at ih;have ht:=hb.tm o (q8o ho);show skip (ar l) (m+1) (o++(q0k b.1 b.2 q++x))=_;rw[show m+1=1+m by omega,qb8,qch ht.skip];exact ih
theorem qiw{a:Int->Nat}{y y' z:List Int}(hy:skip a 1 (y++z)=some z)(hy':skip a 1 (y'++z)=some z):∀(x:List Int)(k:Nat),skip a k (x++(y++z))=some []->skip a k (x++(y'++z))=some []
 |[],0,h=>by
  rw[q4n]at h;rw[List.nil_append]at h;rw[Option.some.inj h]at hy;cases hy
 |[],k+1,h=>by
  rw[List.nil_append,show k+1=1+k by omega,qb8]at h ⊢;rw[hy]at h;rw[hy'];exact h
 |n::x,0,h=>by rw[q4n]at h;cases h
 |n::x,k+1,h=>by
  rw[List.cons_append,skip]at h ⊢;exact qiw hy hy' x _ h
theorem qd0{l:List Symbol}{b:Bnd}{k:Nat}(hb:MB l b k){q:List Int}(hq:∀n∈q,q80 l n=true):∀n∈q0k b.1 b.2 q,q80 l n=true:=fun n hn=>by
 unfold q0k at hn;obtain⟨m,hm,hn⟩:=List.mem_flatMap.1 hn;cases ho:q6p b.1 b.2 (-1-m)with
 |none=>rw[ho]at hn;rw[gD.1 hn];exact hq m hm
 |some o=>rw[ho]at hn;exact(hb.tm o (q8o ho)).node n hn
theorem qx0{l:List Symbol}{t q:List Int}(ht:TermOk l t)(hq:TermOk l q){p:Nat}(hp:p<t.length){b:Bnd}{k:Nat}(hb:MB l b k)(hk:k<=24)(h:(q5v l t p (q0k b.1 b.2 q)).length<=24) :
 TermOk l (q5v l t p (q0k b.1 b.2 q)):=by
 obtain⟨h1,h2,h3⟩:=q74 ht hp
 have hs:skip (ar l) 1 (q5v l t p (q0k b.1 b.2 q))=some []:=by
  unfold q5v;rw[gZ];refine qiw (y:=q37 l t p) (by rw[<- h1];exact h3) (qbc hb hk q _ 1 hq.skip) (t.take p) 1 ?_;rw[<- h1,List.take_append_drop];exact ht.skip
 refine⟨?_,h,fun n hn=>?_,hs⟩
 ·rcases Nat.eq_zero_or_pos (q5v l t p (q0k b.1 b.2 q)).length with h|h
  ·rw[gL h]at hs;cases hs
  ·exact h
 ·unfold q5v at hn;rcases gO.1 hn with hn|hn
  ·rcases gO.1 hn with hn|hn
   ·exact ht.node n (List.mem_of_mem_take hn)
   ·exact qd0 hb hq.node n hn
  ·exact ht.node n (List.mem_of_mem_drop hn)
def qd6(l:List Symbol)(e:Equation)(t:List Int)(p:Nat):TermResult:=match q8b l e.left t p with
 |none=>⟨4,[]⟩
 |some b=>if 24<(q5v l t p (q0k b.1 b.2 e.right)).length then⟨2,[]⟩else⟨0,q5v l t p (q0k b.1 b.2 e.right)⟩
theorem qsi{l:List Symbol}{e:Equation}{t:List Int}(he:EqOk l e)(ht:TermOk l t){p:Nat}(hp:p<t.length)(h:(qd6 l e t p).code=0):TermOk l (qd6 l e t p).term:=by
 unfold qd6 at h ⊢;cases hm:q8b l e.left t p with
 |none=>rw[hm]at h;cases h
 |some b=>
  rw[hm]at h;simp only at h ⊢;split at h
  ·cases h
  ·rename_i h24;rw[if_neg h24];have hb:=qfq he.left ht hp hm;exact qx0 ht he.right hp hb he.left.le (by omega)
def q6t(s:Signature)(rs:List Equation)(t:List Int):Int:=if q5b s rs≠0 then q5b s rs else q57 s.symbols t
def q5c(s:Signature)(rs:List Equation)(r p:Int)(t:List Int):TermResult:=
 if q6t s rs t≠0 then⟨q6t s rs t,[]⟩else if inR r 0 (rs.length-1)=false\/inR p 0 (t.length-1)=false then⟨3,[]⟩else qd6 s.symbols (rs.getD r.toNat ⟨[],[]⟩) t p.toNat
theorem qgy{α:Type}{l:List α}{i k:Nat}(x:α)(hi:i<=k)(hk:k<l.length):(ins l i x).take (k+2)=(ins l i x).take (k+1)++[l[k]]:=by
 have hlen:=q8l l i x (by omega);have h:k+1<(ins l i x).length:=by omega
 have e:(ins l i x)[k+1]=l[k]:=by
  have:=qts l x i (by omega) (k+1);rw[if_neg (by omega),if_neg (by omega),Nat.add_sub_cancel,gA hk]at this;have h2:(ins l i x)[k+1]?=some l[k]:=this;rw[gA h]at h2;exact Option.some.inj h2
 rw[<- e];exact(gAP h).symm
theorem qij{α:Type}{l:List α}{i:Nat}(x:α)(hi:i<=l.length):(ins l i x).take (i+1)=l.take i++[x]:=by
 unfold ins;rw[List.take_append,List.take_of_length_le (by simp;omega)];simp[Nat.min_eq_left hi]
theorem qt6{α:Type}(l:List α)(x:α):ins l l.length x=l++[x]:=by simp[ins]
theorem q6k(vs:List Int)(i:Nat)(v:Int)(hi:i<=vs.length)(hl:vs.length<4294967296):Call F.q6k [slc vs,.int .i64 i,.sl 1 [.int .i64 v]] (slc (ins vs i v)):=by
 refine qed (e:=insE 8) rfl (Ev.of fun m=>?_);have hc:(cells vs).length=vs.length:=by rw[q0p,q3n,Nat.mul_one]
 show(bif _ then _ else _)=_;rw[q1k (by simp[hc,hl,Nat.ble_eq];omega)];have e1:=q8k vs 1 i rfl;have e2:=qa1 vs 1 i rfl;rw[Nat.mul_one]at e1 e2;rw[gR,e1,e2];show some (T.sl 1 (cells (vs.take i)++T.int .i64 v::cells (vs.drop i)),[])=_;unfold ins slc;rw[q3c,q6v];rfl
theorem q6b(ts:List (List Int))(i:Nat)(t:List Int)(hi:i<=ts.length)(hl:ts.length<4294967296):Call F.q6b [slc ts,.int .i64 i,.sl 1 [slc t]] (slc (ins ts i t)):=by
 refine qed (e:=insE 24) rfl (Ev.of fun m=>?_);have hc:(cells ts).length=ts.length:=by rw[q0p,show Enc.sz (List Int)=1 from rfl,Nat.mul_one]
 show(bif _ then _ else _)=_;rw[q1k (by simp[hc,hl,Nat.ble_eq];omega)];have e1:=q8k ts 1 i rfl;have e2:=qa1 ts 1 i rfl;rw[Nat.mul_one]at e1 e2;rw[gR,e1,e2];show some (T.sl 1 (cells (ts.take i)++slc t::cells (ts.drop i)),[])=_;unfold ins;show _=some (T.sl 1 (cells (ts.take i++t::ts.drop i)),[]);rw[q3c,q6v];rfl
theorem q15(vs:List Int)(ts:List (List Int))(v:Int)(t:List Int)(hl:vs.length=ts.length)(hs:vs.length<=1000)(ht:t.length<=4294967296) :
 LIM F.q15 [.rref [slc vs,slc ts] 0,.int .i64 v,slc t]=some (.tup [],[.agg [slc (bput (vs,ts) v t).1,slc (bput (vs,ts) v t).2]]):=by
 have hi:=qh8 vs v;refine q61 rfl 1002 ((q15.ev _ _ _ _ _).trans ?_)
 have loop:∀n k f,k+n=q8v vs v->n<f->q15.at0 1002 f (q15.st0 v (cells t) (k:Nat) (cells vs) (cells ts))=some (.tup [],[.agg [slc (bput (vs,ts) v t).1,slc (bput (vs,ts) v t).2]]):=by
  intro n;induction n with
  |zero=>
   intro k f hk hf;obtain⟨f,rfl⟩:∃x,f=x+1:=⟨f-1,by omega⟩;obtain rfl:k=q8v vs v:=by omega
   have q1:=(q6k vs (q8v vs v) v hi (by omega)).eq;have q2:=(q6b ts (q8v vs v) t (by omega) (by omega)).eq;by_cases h:q8v vs v<vs.length
   ·have hs:=qfm vs v h;have hlk:vs[q8v vs v]?=some vs[q8v vs v]:=gA h;simp only[q15.next0,q15.round0,evz,Nat.reduceLT,h,hlk,q1l,hs,q1,(q2c t ht).eq,q2];rfl
   ·simp only[q15.next0,q15.round0,evz,Nat.reduceLT,h,q1,(q2c t ht).eq,q2];rfl
  |succ n ih=>
   intro k f hk hf;obtain⟨f,rfl⟩:∃x,f=x+1:=⟨f-1,by omega⟩;have h:k<vs.length:=by omega
   have hlt:=qks vs v k (by omega) h;have hlk:vs[k]?=some vs[k]:=gA h;simp only[q15.next0,q15.round0,evz,Nat.reduceLT,h,hlk,q1l,hlt];rw[q0n (by omega)];exact ih (k+1) f (by omega) (by omega)
 exact loop (q8v vs v) 0 1002 (by omega) (by omega)
def qai(vs:List Int)(ts:List (List Int))(v:Int)(t:List Int)(k:Nat):Bool×List Int×List (List Int):=
 if k<=q8v vs v then(false,vs.take k,ts.take k)else(true,(ins vs (q8v vs v) v).take (k+1),(ins ts (q8v vs v) t).take (k+1))
theorem q24(vs:List Int)(ts:List (List Int))(v:Int)(t:List Int)(hl:vs.length=ts.length)(hs:vs.length<=1000)(ht:t.length<=4096)(hv:v∉vs)(htm:∀x∈ts,x.length<=4096) :
 Call F.q24 [.rref [slc vs,slc ts] 0,.int .i64 v,slc t] (.agg [slc (bput (vs,ts) v t).1,slc (bput (vs,ts) v t).2]):=by
 have hi:=qh8 vs v;refine q0v rfl 1002 ((q24.ev _ _ _ _ _).trans ?_)
 have key:=q8d (n:=vs.length) (f:=1002) (S:=fun m k (s:Bool×List Int×List (List Int))=>q24.at0 1002 m (q24.st0 (cells vs) (cells ts) v (cells t) s.1 (k:Nat) (cells s.2.1) (cells s.2.2)))
  (st:=qai vs ts v t) (z:=some (.agg [slc (bput (vs,ts) v t).1,slc (bput (vs,ts) v t).2],[])) (fun m k h=>?_) (fun m=>?_) (by omega)
 ·have e0:qai vs ts v t 0=(false,[],[]):=by unfold qai;rw[if_pos (Nat.zero_le _)];rfl
  rw[e0]at key;exact key
 ·have h':k<ts.length:=by omega
  have hlk:vs[k]?=some vs[k]:=gA h;have htk:ts[k]?=some ts[k]:=gA h';have hx:=(q4o ts[k] (by have:=htm _ (gG h');omega)).eq;have hx2:=(q4o t (by omega)).eq;have hne:vs[k]≠v:=fun e=>hv (e▸gG h);have len1:∀q,((cells (vs.take q)).length)<=1000:=fun q=>by rw[q0p,q3n];simp;omega
  have len2:∀q,((cells (ts.take q)).length)<=1000:=fun q=>by rw[q0p,show Enc.sz (List Int)=1 from rfl];simp;omega
  have len3:∀q,((cells ((ins vs (q8v vs v) v).take q)).length)<=1001:=fun q=>by rw[q0p,q3n,gAF,q8l _ _ _ hi];omega
  have len4:∀q,((cells ((ins ts (q8v vs v) t).take q)).length)<=1001:=fun q=>by rw[q0p,show Enc.sz (List Int)=1 from rfl,gAF,q8l _ _ _ (by omega)];omega
  have tk1:vs.take (k+1)=vs.take k++[vs[k]]:=(gAP h).symm;have tk2:ts.take (k+1)=ts.take k++[ts[k]]:=(gAP h').symm;rcases Nat.lt_trichotomy k (q8v vs v)with c|c|c
  ·have hlt:=qks vs v k c h;have hgt:¬ vs[k]>v:=by omega
   have e1:qai vs ts v t k=(false,vs.take k,ts.take k):=if_pos (by omega);have e2:qai vs ts v t (k+1)=(false,vs.take k++[vs[k]],ts.take k++[ts[k]]):=by unfold qai;rw[if_pos (by omega),tk1,tk2]
   rw[e1,e2];simp only[q24.next0,q24.round0,evz,Nat.reduceLT,h,h',hlk,htk,q1l,qc2,hgt,hx,q2f,q9u];rw[q1k (q44 (by have:=len1 k;omega)),q1k (q44 (by have:=len2 k;omega)),q0n (by omega)]
  ·have hs:=qfm vs v (by omega)
   have hs:¬ vs[k]<v:=by
    have:vs[q8v vs v]'(by omega)=vs[k]:=by congr 1;omega
    rw[this]at hs;exact hs
   have hgt:vs[k]>v:=by omega
   have e1:qai vs ts v t k=(false,vs.take k,ts.take k):=if_pos (by omega)
   have e2:qai vs ts v t (k+1)=(true,(vs.take k++[v])++[vs[k]],(ts.take k++[t])++[ts[k]]):=by
    unfold qai;rw[if_neg (by omega),<- c,qgy v (gAI _) h,qgy t (gAI _) h',qij v (by omega),qij t (by omega)]
   rw[e1,e2];simp only[q24.next0,q24.round0,evz,Nat.reduceLT,h,h',hlk,htk,q1l,qc2,hgt,hx,hx2,q2f,q9u];have l1:=len1 k;have l2:=len2 k;have l3:(cells (vs.take k++[v])).length<=1001:=by rw[q3c,gM,q0p [v]];simp;omega
   have l4:(cells (ts.take k++[t])).length<=1001:=by rw[q3c,gM,q0p [t]];simp[show Enc.sz (List Int)=1 from rfl];omega
   rw[q1k (q44 (by omega)),q1k (q44 (by omega)),q1k (q44 (by omega)),q1k (q44 (by omega)),q0n (by omega)]
  ·have e1:qai vs ts v t k=(true,(ins vs (q8v vs v) v).take (k+1),(ins ts (q8v vs v) t).take (k+1)):=if_neg (by omega)
   have e2:qai vs ts v t (k+1)=(true,(ins vs (q8v vs v) v).take (k+1)++[vs[k]],(ins ts (q8v vs v) t).take (k+1)++[ts[k]]):=by
    unfold qai;rw[if_neg (by omega),qgy v (by omega) h,qgy t (by omega) h']
   rw[e1,e2];simp only[q24.next0,q24.round0,evz,Nat.reduceLT,h,h',hlk,htk,q1l,qc2,hx,q2f,q9u];rw[q1k (q44 (by have:=len3 (k+1);omega)),q1k (q44 (by have:=len4 (k+1);omega)),q0n (by omega)]
 ·have hx2:=(q4o t (by omega)).eq;by_cases c:q8v vs v=vs.length
  ·have e1:qai vs ts v t vs.length=(false,vs,ts):=by
    unfold qai;rw[if_pos (by omega),List.take_length,hl,List.take_length]
   have e2:bput (vs,ts) v t=(vs++[v],ts++[t]):=by
    unfold bput;rw[c,qt6];simp only[Prod.mk.injEq,true_and];rw[hl,qt6]
   rw[e1,e2];simp only[q24.next0,q24.round0,evz,Nat.reduceLT,gAK,hx2,q2f,q9u];rw[q1k (q44 (by rw[q0p,q3n];omega)),q1k (q44 (by rw[q0p,show Enc.sz (List Int)=1 from rfl];omega))]
  ·have e1:qai vs ts v t vs.length=(true,ins vs (q8v vs v) v,ins ts (q8v vs v) t):=by
    unfold qai;rw[if_neg (by omega),List.take_of_length_le (by rw[q8l _ _ _ hi];omega),List.take_of_length_le (by rw[q8l _ _ _ (by omega)];omega)]
   rw[e1];simp only[q24.next0,q24.round0,evz,Nat.reduceLT,gAK];rfl
def mT:Option Bnd->T
 |none=>.tup [.agg [.sl 1 [],.sl 1 []],.bool false]
 |some b=>.tup [.agg [slc b.1,slc b.2],.bool true]
section
variable {l:List Symbol}(ok:SigOk ⟨l⟩)
include ok
theorem q2h{pat u:List Int}(hq:TermOk l pat)(hu:TermOk l u):Call F.q2h [.agg [slc l],slc pat,slc u] (mT (q8b l pat u 0)):=by
 have hul:=hu.le;have hpl:=hq.le;refine q0v rfl 25 ((q2h.ev _ _ _ _).trans ?_);simp only[q5m,q3n]
 have loop:∀(q:List Int)(b:Bnd)(p k f:Nat),pat.drop k=q->q.length<f->Both l u q p []->MB l b k->k+q.length=pat.length->
  q2h.at0 25 f (q2h.st0 (cells u) (p:Nat) (cells pat) pat.length (k:Nat) (cells l) (cells b.1) (cells b.2))=
   some (match mgo l u q b p with|none=>T.tup [.agg [.sl 1 [],.sl 1 []],.bool false]|some x=>.tup [.agg [slc x.1.1,slc x.1.2],.bool (decide (x.2=u.length))],[]):=by
  intro q;induction q with
  |nil=>
   intro b p k f hd hf hB hb hk;obtain⟨f,rfl⟩:∃x,f=x+1:=⟨f-1,by omega⟩;have h:¬ k<pat.length:=by simp at hk;omega
   simp only[q2h.next0,q2h.round0,evz,Nat.reduceLT,h,mgo,Int.ofNat_inj]
  |cons n q ih=>
   intro b p k f hd hf hB hb hk;rw[gAB]at hf hk;obtain⟨f,rfl⟩:∃x,f=x+1:=⟨f-1,by omega⟩;have h:k<pat.length:=by omega
   have hn:pat[k]=n:=by
    have:=congrArg (fun x=>x[0]?) hd;simp only[gV,Nat.add_zero,List.getElem?_cons_zero]at this;rw[gA h]at this;exact Option.some.inj this
   have hd':pat.drop (k+1)=q:=by rw[<- List.drop_drop,hd];rfl
   have hlk:pat[k]?=some n:=by rw[gA h,hn]
   have hp:=hB.lt;have hpk:u[p]?=some u[p]:=gA hp;have hnode:=q5n.1 (hq.node n (hn▸gG h));have hp':¬((p:Int)>=(u.length:Int)):=by omega
   have hls:l.length<=6:=ok.le;obtain⟨h3,h4,_⟩:=q50 hu hp;have hsl:=(q74 hu hp).2.1;rw[mgo,if_neg (by omega)];by_cases c:0<=n
   ·have c':n>=0:=c;rw[if_pos c,q7w hp];by_cases e:u[p]=n
    ·simp only[q2h.next0,q2h.round0,evz,Nat.reduceLT,h,hlk,hp,hpk,hp',q1l,c',e];rw[q0n (by omega),q0n (by omega)];exact ih b (p+1) (k+1) f hd' (by omega) (hB.node (by rw[q7w hp,e])) (hb.up (by omega)) (by omega)
    ·simp only[q2h.next0,q2h.round0,evz,Nat.reduceLT,h,hlk,hp,hpk,hp',q1l,c',e]
   ·have c':¬ n>=0:=c;rw[if_neg c];have hof:=(q5p b.1 b.2 (-1-n) hb.len (by have:=hb.le;omega)).eq;have hB':=hB.var hu (by omega);have hw:IntKind.wrap .i64 (-1-n) = -1-n:=q3g (by omega);have hw2:IntKind.wrap .i64 ((p:Int)+((q37 l u p).length:Nat))=((p+(q37 l u p).length:Nat):Int):=by rw[q3g (by omega)];omega
    have hsub:=(q3t ok hu hp).eq;have hbl:=hb.le;cases hbo:q6p b.1 b.2 (-1-n)with
    |none=>
     rw[hbo]at hof;have hbind:=q15 b.1 b.2 (-1-n) (q37 l u p) hb.len (by omega) (by omega);simp only[q2h.next0,q2h.round0,evz,Nat.reduceLT,h,hlk,hp',q1l,c',hsub,hw,hof,ofT,q5a,hbind,hw2];rw[q0n (by omega)];exact ih (bput b (-1-n) (q37 l u p)) _ (k+1) f hd' (by omega) hB' (hb.put (by omega) (q9d hu hp)) (by omega)
    |some o=>
     rw[hbo]at hof;have ho:=hb.tm o (q8o hbo);have hol:=ho.le;have heq:=(q0t o (q37 l u p) ⟨by omega,fun _ _=>trivial⟩).eq;show _=some (match (if o=q37 l u p then mgo l u q b (p+(q37 l u p).length)else none)with|none=>_|some x=>_,[]);by_cases e:o=q37 l u p
     ·rw[if_pos e];rw[e]at heq;simp only[q2h.next0,q2h.round0,evz,Nat.reduceLT,h,hlk,hp',q1l,c',hsub,hw,hof,ofT,q5a,heq,e,hw2];rw[q0n (by omega)];exact ih b _ (k+1) f hd' (by omega) hB' (hb.up (by omega)) (by omega)
     ·rw[if_neg e];simp only[q2h.next0,q2h.round0,evz,Nat.reduceLT,h,hlk,hp',q1l,c',hsub,hw,hof,ofT,q5a,heq,e]
 have hpos:=hu.pos
 have e0:u.drop (q5k l u 0)=[]:=by
  have:=(q74 hu (p:=0) (by omega)).2.2;rw[List.drop_zero,hu.skip]at this;exact(Option.some.inj this).symm
 have hB:=Both.start hu hq (p:=0) (by omega);rw[e0]at hB;have hmain:=loop pat ([],[]) 0 0 25 rfl (by omega) hB (MB.nil l) (by omega);have hen:=qjc hu pat ([],[]) 0 0 hB (by omega) (MB.nil l) (by omega) hq.node;unfold q8b;cases hm:mgo l u pat ([],[]) 0 with
 |none=>rw[hm]at hmain;exact hmain
 |some x=>
  rw[hm]at hmain;obtain⟨h1,h2,_⟩:=hen x hm
  have hx:x.2=u.length:=by
   have:=congrArg List.length h1;rw[gAA]at this;simp at this;omega
  have hmain:q2h.at0 25 25 (q2h.st0 (cells u) (0:Nat) (cells pat) pat.length (0:Nat) (cells l) (cells ([]:List Int)) (cells ([]:List (List Int))))=some (T.tup [.agg [slc x.1.1,slc x.1.2],.bool (decide (x.2=u.length))],[]):=hmain;rw[hx,decide_eq_true rfl]at hmain;exact hmain
theorem q1o{pat u:List Int}(hq:TermOk l pat)(hu:TermOk l u){p0:Nat}(hp0:p0<u.length):Call F.q1o [.rref [slc l] 0,slc pat,slc u,.int .i64 p0] (mT (q8b l pat u p0)):=by
 have hul:=hu.le;have hpl:=hq.le;refine q0v rfl 25 ((q1o.ev _ _ _ _ _).trans ?_)
 have loop:∀(q:List Int)(b:Bnd)(p k f:Nat),pat.drop k=q->q.length<f->Both l u q p (u.drop (q5k l u p0))->MB l b k->k+q.length=pat.length->
  q1o.at0 25 f (q1o.st0 (cells l) (cells pat) (cells u) (p:Nat) (k:Nat) (cells b.1) (cells b.2))=some (mT ((mgo l u q b p).map (·.1)),[]):=by
  intro q;induction q with
  |nil=>
   intro b p k f hd hf hB hb hk;obtain⟨f,rfl⟩:∃x,f=x+1:=⟨f-1,by omega⟩;have h:¬ k<pat.length:=by simp at hk;omega
   simp only[q1o.next0,q1o.round0,evz,Nat.reduceLT,h,mgo,Option.map_some,mT]
  |cons n q ih=>
   intro b p k f hd hf hB hb hk;rw[gAB]at hf hk;obtain⟨f,rfl⟩:∃x,f=x+1:=⟨f-1,by omega⟩;have h:k<pat.length:=by omega
   have hn:pat[k]=n:=by
    have:=congrArg (fun x=>x[0]?) hd;simp only[gV,Nat.add_zero,List.getElem?_cons_zero]at this;rw[gA h]at this;exact Option.some.inj this
   have hd':pat.drop (k+1)=q:=by rw[<- List.drop_drop,hd];rfl
   have hlk:pat[k]?=some n:=by rw[gA h,hn]
   have hp:=hB.lt;have hpk:u[p]?=some u[p]:=gA hp;have hnode:=q5n.1 (hq.node n (hn▸gG h));have hp':¬((p:Int)>=(u.length:Int)):=by omega
   have hls:l.length<=6:=ok.le;obtain⟨h3,h4,_⟩:=q50 hu hp;have hsl:=(q74 hu hp).2.1;rw[mgo,if_neg (by omega)];by_cases c:0<=n
   ·have c':n>=0:=c;rw[if_pos c,q7w hp];by_cases e:u[p]=n
    ·simp only[q1o.next0,q1o.round0,evz,Nat.reduceLT,h,hlk,hp,hpk,hp',q1l,c',e];rw[q0n (by omega),q0n (by omega)];exact ih b (p+1) (k+1) f hd' (by omega) (hB.node (by rw[q7w hp,e])) (hb.up (by omega)) (by omega)
    ·simp only[q1o.next0,q1o.round0,evz,Nat.reduceLT,h,hlk,hp,hpk,hp',q1l,c',e,Option.map_none,mT]
   ·have c':¬ n>=0:=c;rw[if_neg c];have hof:=(q31 b.1 b.2 (-1-n) hb.len (by have:=hb.le;omega)).eq;have hB':=hB.var hu (by omega);have hw:IntKind.wrap .i64 (-1-n) = -1-n:=q3g (by omega);have hw2:IntKind.wrap .i64 ((p:Int)+((q37 l u p).length:Nat))=((p+(q37 l u p).length:Nat):Int):=by rw[q3g (by omega)];omega
    have hsub:=(q6w ok hu hp).eq;have hbl:=hb.le;cases hbo:q6p b.1 b.2 (-1-n)with
    |none=>
     rw[hbo]at hof;have hbind:=(q24 b.1 b.2 (-1-n) (q37 l u p) hb.len (by omega) (by omega) (qip hb.len hbo) fun x hx=>by have:=(hb.tm x hx).le;omega).eq;simp only[q1o.next0,q1o.round0,evz,Nat.reduceLT,h,hlk,hp',q1l,c',hsub,hw,hof,Option.getD_none,q5a,hbind,hw2,List.length_nil,Int.natCast_zero,Int.ofNat_zero];rw[q0n (by omega)];exact ih (bput b (-1-n) (q37 l u p)) _ (k+1) f hd' (by omega) hB' (hb.put (by omega) (q9d hu hp)) (by omega)
    |some o=>
     rw[hbo]at hof;have ho:=hb.tm o (q8o hbo);have hol:=ho.le;have hop:=ho.pos;have ho0:¬((o.length:Int)=0):=by omega
     have heq:=(q1r o (q37 l u p) ⟨by omega,fun _ _=>trivial⟩).eq;show _=some (mT ((if o=q37 l u p then mgo l u q b (p+(q37 l u p).length)else none).map (·.1)),[]);by_cases e:o=q37 l u p
     ·rw[if_pos e];have ho1:¬(((q37 l u p).length:Int)=0):=by omega
      rw[e]at heq;simp only[q1o.next0,q1o.round0,evz,Nat.reduceLT,h,hlk,hp',q1l,c',hsub,hw,hof,Option.getD_some,q5a,heq,e,ho0,ho1,hw2];rw[q0n (by omega)];exact ih b _ (k+1) f hd' (by omega) hB' (hb.up (by omega)) (by omega)
     ·rw[if_neg e];simp only[q1o.next0,q1o.round0,evz,Nat.reduceLT,h,hlk,hp',q1l,c',hsub,hw,hof,Option.getD_some,q5a,heq,e,ho0,Option.map_none,mT]
 exact loop pat ([],[]) p0 0 25 rfl (by omega) (Both.start hu hq hp0) (MB.nil l) (by omega)
end
section
variable {l:List Symbol}(ok:SigOk ⟨l⟩){rs:List Equation}(hr:∀e∈rs,EqOk l e)(hn:rs.length<=12)
include ok hr hn
theorem q32{t:List Int}(ht:TermOk l t){p:Nat}(hp:p<t.length):Call F.q32 [.rref [slc l] 0,slc rs,slc t,.int .i64 p] (.int .i64 (fits l rs t p)):=by
 refine q0v rfl (rs.length+1) ((q32.ev _ _ _ _ _).trans ?_);refine q94 (S:=fun m k=>q32.at0 (rs.length+1) m (q32.st0 (cells l) (cells rs) (cells t) (p:Nat) (k:Nat))) (fun m k h=>?_) (fun m=>?_) (gAR _)
 ·have hlk:rs[k]?=some rs[k]:=gA h;have he:=hr _ (gG h);have hm:=(q1o ok he.left ht hp).eq;cases hmm:q8b l rs[k].left t p with
  |none=>
   rw[hmm]at hm;simp only[q32.next0,q32.round0,evz,Nat.reduceLT,h,hlk,q4f,hm,mT];rw[q0n (by omega)];rfl
  |some b=>
   rw[hmm]at hm;simp only[q32.next0,q32.round0,evz,Nat.reduceLT,h,hlk,q4f,hm,mT];rfl
 ·simp only[q32.next0,q32.round0,evz,Nat.reduceLT,gAK]
theorem q1w{t:List Int}(ht:TermOk l t):Call F.q1w [.rref [slc l] 0,slc rs,slc t] (.tup [.int .i64 (qea l rs t).1,.int .i64 (qea l rs t).2]):=by
 have hle:=ht.le;refine q0v rfl 25 ((q1w.ev _ _ _ _).trans ?_)
 have key:=q8d (n:=t.length) (f:=25) (S:=fun m k (s:Int×Int×Int)=>q1w.at0 25 m (q1w.st0 (cells l) (cells rs) (cells t) s.1 s.2.1 s.2.2 (k:Nat)))
  (st:=qct (q5k l t) (fits l rs t)) (z:=some (.tup [.int .i64 (qea l rs t).1,.int .i64 (qea l rs t).2],[])) (fun m k h=>?_) (fun m=>?_) (by omega)
 ·exact key
 ·have e0:qct (q5k l t) (fits l rs t) (k+1)=qd5 (q5k l t) (fits l rs t) (qct (q5k l t) (fits l rs t) k) k:=by unfold qct;rw[List.range_succ,List.foldl_append];rfl
  rw[e0];unfold qd5;have hek:=(qa4 ok ht h).eq;have hra:=(q32 ok hr hn ht h).eq;by_cases hc:((q5k l t k:Nat):Int)>(qct (q5k l t) (fits l rs t) k).2.2
  ·rw[if_pos hc];simp only[q1w.next0,q1w.round0,evz,Nat.reduceLT,h,hek,hc];rw[q0n (by omega)]
  ·rw[if_neg hc];by_cases hf0:fits l rs t k>=0
   ·rw[if_pos hf0];simp only[q1w.next0,q1w.round0,evz,Nat.reduceLT,h,hek,hc,hra,hf0];rw[q0n (by omega)]
   ·rw[if_neg hf0];simp only[q1w.next0,q1w.round0,evz,Nat.reduceLT,h,hek,hc,hra,hf0];rw[q0n (by omega)]
 ·rw[qv8 ht];simp only[q1w.next0,q1w.round0,evz,Nat.reduceLT,gAK]
omit hr hn in
theorem q7o{e:Equation}(he:EqOk l e){t:List Int}(ht:TermOk l t){p:Nat}(hp:p<t.length):Call F.q7o [.agg [slc l],.agg [slc e.left,slc e.right],slc t,.int .i64 p] (.agg (enc (qd6 l e t p))):=by
 have hu:=q9d ht hp;have hm:=(q2h ok he.left hu).eq;rw[qo6 he.left ht hp]at hm;refine q0v rfl 0 ((q7o.ev _ _ _ _ _ _).trans ?_);unfold qd6;cases hmm:q8b l e.left t p with
 |none=>rw[hmm]at hm;simp only[evz,Nat.reduceLT,(q3t ok ht hp).eq,hm,mT];rfl
 |some b=>
  rw[hmm]at hm;have hb:=qfq he.left ht hp hmm;have hbo:=hb.ok he.left.le;have hrl:=he.right.le;have hal:=q8m hbo e.right;simp only[evz,Nat.reduceLT,(q3t ok ht hp).eq,hm,mT,(q0o b.1 b.2 hbo e.right (by omega) (he.right.range ok)).eq,(q6m ok ht hp (q0k b.1 b.2 e.right) (by omega)).eq];have hfit:=(q8y (q5v l t p (q0k b.1 b.2 e.right))).eq;by_cases h24:24<(q5v l t p (q0k b.1 b.2 e.right)).length
  ·rw[if_pos h24]at hfit ⊢;simp only[evz,Nat.reduceLT,hfit,q3z]
  ·rw[if_neg h24]at hfit ⊢;simp only[evz,Nat.reduceLT,hfit,q3z]
omit hr hn in
theorem q7s{e:Equation}(he:EqOk l e){t:List Int}(ht:TermOk l t){p:Nat}(hp:p<t.length):Call F.q7s [.rref [slc l] 0,.rref [slc e.left,slc e.right] 0,.int .i64 p,slc t] (.tup [slc (qd6 l e t p).term,.int .i64 (qd6 l e t p).code]):=by
 have hm:=(q1o ok he.left ht hp).eq;refine q0v rfl 0 ((q7s.ev _ _ _ _ _ _).trans ?_);unfold qd6;cases hmm:q8b l e.left t p with
 |none=>rw[hmm]at hm;simp only[evz,Nat.reduceLT,hm,mT];rfl
 |some b=>
  rw[hmm]at hm;have hb:=qfq he.left ht hp hmm;have hbo:=hb.ok he.left.le;have hrl:=he.right.le;have hal:=q8m hbo e.right;simp only[evz,Nat.reduceLT,hm,mT,(q1f b.1 b.2 hbo e.right (by omega) (he.right.range ok)).eq,(q68 ok ht hp (q0k b.1 b.2 e.right) (by omega)).eq];by_cases h24:24<(q5v l t p (q0k b.1 b.2 e.right)).length
  ·have h24':((q5v l t p (q0k b.1 b.2 e.right)).length:Int)>24:=by omega
   rw[if_pos h24];simp only[evz,Nat.reduceLT,h24'];rfl
  ·have h24':¬((q5v l t p (q0k b.1 b.2 e.right)).length:Int)>24:=by omega
   rw[if_neg h24];simp only[evz,Nat.reduceLT,h24']
omit ok hr hn in
theorem qoe{l:List Symbol}{rs:List Equation}(t:List Int):(qea l rs t).1<0\/∃a k:Nat,∃h:k<rs.length,a<t.length/\(qea l rs t).1=a/\(qea l rs t).2=k:=by
 rcases qvr (l:=l) (rs:=rs) (t:=t)with h|⟨a,k,h,ha,e,_⟩
 ·rw[h];exact .inl (by simp)
 ·rw[e];exact .inr ⟨a,k,h,ha,rfl,rfl⟩
end
theorem q9t{l:List Symbol}{rs:List Equation}(h:q5b ⟨l⟩ rs=0):q43 ⟨l⟩=0/\SigOk ⟨l⟩/\rs.length<=12/\∀e∈rs,EqOk l e:=by
 unfold q5b at h;split at h
 ·rename_i h1;exact absurd h h1
 rename_i h1;have h1:q43 ⟨l⟩=0:=by simpa using h1
 unfold qb2 at h;split at h
 ·rename_i h2;exact absurd h h2
 rename_i h2;obtain⟨q1,q2⟩:=q9x.1 (show q6d l rs=0 by simpa using h2);exact⟨h1,(q8h _).1 h1,q1,q2⟩
theorem qcu{l:List Symbol}{rs:List Equation}{t:List Int}(h:q6t ⟨l⟩ rs t=0):SigOk ⟨l⟩/\rs.length<=12/\(∀e∈rs,EqOk l e)/\TermOk l t:=by
 unfold q6t at h;split at h
 ·rename_i h1;exact absurd h h1
 rename_i h1;obtain⟨_,q1,q2,q3⟩:=q9t (l:=l) (rs:=rs) (by simpa using h1);exact⟨q1,q2,q3,(q90 _ _).1 h⟩
theorem q5z(l:List Symbol)(hs:l.length<=4294967296)(rs:List Equation)(hr:sm 4294967296 rs)(t:List Int)(ht:t.length<=4294967296) :
 Call F.q5z [.agg [slc l],slc rs,slc t] (.int .i64 (q6t ⟨l⟩ rs t)):=by
 refine q0v rfl 0 ((q5z.ev _ _ _ _).trans ?_);simp only[evz,Nat.reduceLT,(q5d l hs rs hr).eq,(q4v l hs t ht).eq,(qfv _ _).eq,q6t];by_cases h:q5b ⟨l⟩ rs=0
 ·have h0:=(q9t h).1;simp only[h,evz,Nat.reduceLT,ne_eq,gW,qbq,h0]
 ·simp only[h,evz,Nat.reduceLT,ne_eq,gX]
theorem q9m(l:List Symbol)(hs:l.length<=4294967296)(rs:List Equation)(hr:sm 4294967296 rs)(t:List Int)(ht:t.length<=4294967296) :
 Call F.q9m [.rref [slc l] 0,slc rs,slc t] (.int .i64 (q6t ⟨l⟩ rs t)):=by
 refine q0v rfl 0 ((q9m.ev _ _ _ _).trans ?_);simp only[evz,Nat.reduceLT,(q5f l hs rs hr).eq,q6t];by_cases h:q5b ⟨l⟩ rs=0
 ·have h0:=(q9t h).2.1;simp only[h,evz,Nat.reduceLT,ne_eq,gW,(q1n l h0 t ht).eq]
 ·simp only[h,evz,Nat.reduceLT,ne_eq,gX]
theorem q55(s:Signature)(rs:List Equation)(r p:Int)(t:List Int)(hs:sm 1048576 s)(hr:sm 1048576 rs)(ht:sm 1048576 t):Call F.q55 [.agg (enc s),slc rs,.int .i64 r,.int .i64 p,slc t] (.agg (enc (q5c s rs r p t))):=by
 obtain⟨l⟩:=s;have hsl:l.length<=4294967296:=Nat.le_trans hs.1 (by omega);have htl:t.length<=4294967296:=Nat.le_trans ht.1 (by omega);have hrl:rs.length<=4294967296:=Nat.le_trans hr.1 (by omega);show Call F.q55 [.agg [slc l],slc rs,.int .i64 r,.int .i64 p,slc t] _;refine q0v rfl 0 ((q55.ev _ _ _ _ _ _).trans ?_);simp only[evz,Nat.reduceLT,(q5z l hsl rs (q3o (by omega) hr) t htl).eq,q5c,q3g (x:=(rs.length:Int)-1) (by omega),q3g (x:=(t.length:Int)-1) (by omega),(q3l _ _ _).eq];by_cases h:q6t ⟨l⟩ rs t=0
 case neg=>simp only[h,evz,Nat.reduceLT,ne_eq,gX,q3z,q4s]
 obtain⟨ok,q1,q2,q3⟩:=qcu h;cases h1:inR r 0 (rs.length-1)with
 |false=>simp only[h,evz,Nat.reduceLT,ne_eq,gW,Bool.not_false,true_or,q3z,q4s]
 |true=>
  cases h2:inR p 0 (t.length-1)with
  |false=>simp only[h,evz,Nat.reduceLT,ne_eq,gW,Bool.not_true,Bool.not_false,or_true,q3z,q4s]
  |true=>
   have hr1:=q8g.1 h1;have hp1:=q8g.1 h2;obtain⟨k,rfl⟩:∃k:Nat,r=k:=⟨r.toNat,by omega⟩;obtain⟨a,rfl⟩:∃a:Nat,p=a:=⟨p.toNat,by omega⟩;have hk:k<rs.length:=by omega
   have ha:a<t.length:=by omega
   have hlk:rs[k]?=some rs[k]:=gA hk;have he:=q2 _ (gG hk);have hrw:=(q7o ok he q3 ha).eq;rw[q3z]at hrw;simp only[h,evz,Nat.reduceLT,ne_eq,gW,Bool.not_true,or_self,hk,hlk,q4f,hrw,getE hk,q3z,reduceCtorEq]
theorem q56(s:Signature)(rs:List Equation)(r p:Int)(t:List Int)(hs:sm 1048576 s)(hr:sm 1048576 rs)(ht:sm 1048576 t):Call F.q56 [.agg (enc s),slc rs,.int .i64 r,.int .i64 p,slc t] (.agg (enc (q5c s rs r p t))):=by
 obtain⟨l⟩:=s;have hsl:l.length<=4294967296:=Nat.le_trans hs.1 (by omega);have htl:t.length<=4294967296:=Nat.le_trans ht.1 (by omega);have hrl:rs.length<=4294967296:=Nat.le_trans hr.1 (by omega);show Call F.q56 [.agg [slc l],slc rs,.int .i64 r,.int .i64 p,slc t] _;refine q0v rfl 0 ((q56.ev _ _ _ _ _ _).trans ?_);simp only[evz,Nat.reduceLT,(q9m l hsl rs (q3o (by omega) hr) t htl).eq,q5c,q3g (x:=(rs.length:Int)-1) (by omega),(q1q _ _ _).eq,(q7i t p htl).eq];by_cases h:q6t ⟨l⟩ rs t=0
 case neg=>simp only[h,evz,Nat.reduceLT,ne_eq,gX,q3z,q4s]
 obtain⟨ok,q1,q2,q3⟩:=qcu h;cases h1:inR r 0 (rs.length-1)with
 |false=>simp only[h,evz,Nat.reduceLT,ne_eq,gW,Bool.not_false,true_or,q3z,q4s]
 |true=>
  cases h2:inR p 0 (t.length-1)with
  |false=>simp only[h,evz,Nat.reduceLT,ne_eq,gW,Bool.not_true,Bool.not_false,or_true,q3z,q4s]
  |true=>
   have hr1:=q8g.1 h1;have hp1:=q8g.1 h2;obtain⟨k,rfl⟩:∃k:Nat,r=k:=⟨r.toNat,by omega⟩;obtain⟨a,rfl⟩:∃a:Nat,p=a:=⟨p.toNat,by omega⟩;have hk:k<rs.length:=by omega
   have ha:a<t.length:=by omega
   have hlk:rs[k]?=some rs[k]:=gA hk;have he:=q2 _ (gG hk);have hrw:=(q7s ok he q3 ha).eq;have hwin:=q53 (k:=2) (i:=k) rfl hlk;simp only[h,evz,Nat.reduceLT,ne_eq,gW,Bool.not_true,or_self,hk,hwin,q4f,hrw,getE hk,q3z,reduceCtorEq]
section
variable {l:List Symbol}{z:Nat}{tb:List (List Int)}(al:AlgOk l z tb)
include al
end
section
variable (l:List Symbol)(z:Int)(tb:List (List Int))(hs:l.length<=4294967296)(ht:sm 4294967296 tb)
include hs ht
end
theorem qgw(l:List Int):(cells l).all T.scalar=true:=by
 rw[<- q8z,gAL];intro x hx;obtain⟨n,_,rfl⟩:=List.mem_map.1 hx;rfl
theorem q2u(l:List Int)(h:l.length<=4294967296):Call F.q2u [slc l] (slc l):=by
 refine q0v rfl 0 ((q2u.ev _ _).trans ?_)
 have hb:Nat.ble ((0+(cells l).length)*8) (140737488355328*1)=true:=by
  rw[Nat.ble_eq,q0p,q3n];omega
 rw[qgw,hb];rfl
def eqOf(e:Entry):Equation:=⟨e.left,e.right⟩
theorem qcy(e:Entry):Call F.q3f [.agg (enc e)] (.agg [slc e.left,slc e.right]):=q0v rfl 0 (q3f.ev _ _ _ _ _ _ _ _)
theorem q2m(e:Entry)(h:sm 4294967296 e):Call F.q2m [.rref (enc e) 0] (.agg [slc e.left,slc e.right]):=by
 refine q0v rfl 0 ((q2m.ev _ _ _ _ _ _ _ _).trans ?_);simp only[evz,Nat.reduceLT,(q2u e.left h.1.1).eq,(q2u e.right h.2.1).eq]
section
variable (l:List Symbol)(z:Int)(tb:List (List Int))(hs:l.length<=4294967296)(ht:sm 4294967296 tb)
include hs ht
end
section
variable {l:List Symbol}{o:List Int}(ok:SigOk ⟨l⟩)(hol:o.length<=1048576)(ho:∀n:Int,0<=n->n<l.length->n∈o)
include ok hol ho
end
end Ev.Ty
end
section
namespace Ev.Ty
section
variable {α:Type}{lt:α->α->Bool}{S:α->Prop}
variable (h1:∀a b c,S a->S b->S c->lt a b=true->lt b c=true->lt a c=true)(h2:∀a b c,S a->S b->S c->lt a b=true->lt c b=false->lt a c=true)(h3:∀a b,S a->S b->lt a b=true->lt b a=false)
include h1 h2 h3
theorem qm9{xs:List α}(hx:∀x∈xs,S x):(qud lt xs).Pairwise fun p q=>lt q p=false:=by
 have main:∀(xs o:List α),(∀x∈xs,S x)->(∀x∈o,S x)->o.Pairwise (fun p q=>(∀y,S y->lt y p=true->lt y q=true)/\lt q p=false)->(xs.foldl (fun o x=>insL lt x o) o).Pairwise fun p q=>lt q p=false:=by
  intro xs;induction xs with
  |nil=>intro o _ _ hp;exact hp.imp fun h=>h.2
  |cons x xs ih=>
   intro o hxs ho hp;have hSx:=hxs x (List.mem_cons_self ..);obtain⟨A,B,e,hA,hB⟩:=qlv (x:=x) (hp.imp fun {p q} h=>h.1 x hSx);subst e;have hSA:∀p∈A,S p:=fun p hp=>ho p (gJ _ hp);have hSB:∀p∈B,S p:=fun p hp=>ho p (gN _ hp);rw[List.foldl_cons,qds lt hB A hA];refine ih _ (fun y hy=>hxs y (gF _ hy)) (fun y hy=>?_) ?_
   ·rcases gO.1 hy with hy|hy
    ·exact hSA y hy
    ·rcases gK.1 hy with rfl|hy
     ·exact hSx
     ·exact hSB y hy
   ·obtain⟨p1,p2,p3⟩:=List.pairwise_append.1 hp;refine List.pairwise_append.2 ⟨p1,List.pairwise_cons.2 ⟨fun q hq=>⟨fun y hy h=>h1 y x q hy hSx (hSB q hq) h (hB q hq),h3 x q hSx (hSB q hq) (hB q hq)⟩,p2⟩,fun p hp q hq=>?_⟩;rcases gK.1 hq with rfl|hq
    ·exact⟨fun y hy h=>h2 y p q hy (hSA p hp) hSx h (hA p hp),hA p hp⟩
    ·exact p3 p hp q hq
 exact main xs [] hx (fun _ h=>by cases h) List.Pairwise.nil
variable (h4:∀a b,S a->S b->a=b\/lt a b=true\/lt b a=true)
include h4
end
end Ev.Ty
end
section
namespace Ev.Ty
open Go Ev
open Enc (enc)
open Sm (sm)
set_option maxHeartbeats 1000000
theorem q2z(a b:List Int)(ha:a.length<=4294967296):Call F.q2z [slc a,slc b] (.bool (decide (a=b))):=by
 refine q0v rfl (a.length+1) ((q2z.ev _ _ _).trans ?_);by_cases hl:a.length=b.length
 ·have hl':((a.length:Nat):Int)=((b.length:Nat):Int):=by omega
  have key:∀(d k f:Nat),k+d=a.length->d<f->q2z.at0 (a.length+1) f (q2z.st0 (cells a) (cells b) (k:Nat))=some (.bool (decide (a.drop k=b.drop k)),[]):=by
   intro d;induction d with
   |zero=>
    intro k f hk hf;obtain⟨f,rfl⟩:∃g,f=g+1:=⟨f-1,by omega⟩;have h1:¬ k<a.length:=by omega
    have e:a.drop k=b.drop k:=by rw[List.drop_eq_nil_of_le (by omega),List.drop_eq_nil_of_le (by omega)]
    simp only[q2z.next0,q2z.round0,evz,Nat.reduceLT,h1,e,decide_true]
   |succ d ih=>
    intro k f hk hf;obtain⟨f,rfl⟩:∃g,f=g+1:=⟨f-1,by omega⟩;have h1:k<a.length:=by omega
    have h2:k<b.length:=by omega
    have i1:a[k]?=some a[k]:=gA h1;have i2:b[k]?=some b[k]:=gA h2;simp only[q2z.next0,q2z.round0,evz,Nat.reduceLT,h1,h2,i1,i2,q1l];rw[gH h1,gH h2];by_cases e:a[k]=b[k]
    ·simp only[e,evz,Nat.reduceLT,q0n (by omega:k<9223372036854775807),ih (k+1) f (by omega) (by omega),List.cons.injEq,true_and,bne_self_eq_false]
    ·rw[decide_eq_false (fun h=>e (List.cons.inj h).1)];simp[e]
  have:=key a.length 0 (a.length+1) (by omega) (by omega);simp only[evz,Nat.reduceLT,hl',bne_self_eq_false];refine this.trans ?_;rw[List.drop_zero,List.drop_zero]
 ·have hl':¬((a.length:Nat):Int)=((b.length:Nat):Int):=by omega
  have hne:¬ a=b:=fun e=>hl (by rw[e]);simp only[evz,Nat.reduceLT,hl',hne,ne_eq,gX,decide_true,decide_false]
def cmpV(l:List Symbol)(o a b:List Int):Int:=if a=b then 3 else if gt l o a b 0 0=true then 1 else if gt l o b a 0 0=true then 2 else 0
theorem qpr{l:List Symbol}(h:q43 ⟨l⟩=0)(t:List Int):qbq ⟨l⟩ t=q57 l t:=by
 unfold qbq;rw[if_neg (by simpa using h)]
section
variable {l:List Symbol}{o:List Int}(ok:SigOk ⟨l⟩)(hol:o.length<=1048576)(ho:∀n:Int,0<=n->n<l.length->n∈o)
include ok hol ho
theorem q6o{a b:List Int}(ha:TermOk l a)(hb:TermOk l b):Call F.q6o [.rref [slc l] 0,slc o,slc a,slc b] (.int .i64 (cmpV l o a b)):=by
 have h1:=ha.le;refine q0v rfl 0 ((q6o.ev _ _ _ _ _).trans ?_);simp only[evz,Nat.reduceLT,(q1r a b ⟨by omega,fun _ _=>trivial⟩).eq,(q75 ok ha hb hol ho).eq,(q75 ok hb ha hol ho).eq,cmpV];by_cases e:a=b
 ·simp[e]
 ·cases e1:gt l o a b 0 0
  ·cases e2:gt l o b a 0 0 <;> simp[e]
  ·simp[e]
end
section
variable {l:List Symbol}{o:List Int}(ok:SigOk ⟨l⟩)(hol:o.length<=1048576)(ho:∀n:Int,0<=n->n<l.length->n∈o)
include ok hol ho
end
end Ev.Ty
end
