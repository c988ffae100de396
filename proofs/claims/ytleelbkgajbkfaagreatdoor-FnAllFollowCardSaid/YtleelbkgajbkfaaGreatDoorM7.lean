/- Steps on the way to RowAllFollow: TyDraw10, TyDraw11B, TyFollowQ, TyLAllFollow. -/
import Derived.Test.YtleelbkgajbkfaaGreatDoorM6
set_option linter.unusedSectionVars false
set_option linter.unusedVariables false
set_option linter.unusedSimpArgs false
section
namespace Ev.Ty
open Go Ev
open Enc (enc)
open Sm (sm)
set_option maxHeartbeats 4000000
set_option maxRecDepth 10000
theorem q2g{l:List Symbol}{y:Nat}{tb:List (List Int)}(al:AlgOk l (y:Int) tb)(es:List Equation)(hlen:es.length<=4294967296)(hok:∀e∈es,EqOk l e) :
 Call F.q2g [.rref [slc l] 0,.rref [.int .i64 y,slc tb] 0,slc es] (.bool (!es.any fun e=>!q3o l y tb e)):=by
 refine q0s rfl (es.length+1) ((q2g.ev _ _ _ _ _).trans ?_);refine(q8s (l:=es) (p:=fun e=>!q3o l y tb e) (r:=some (.bool false,[])) (z:=some (.bool true,[])) (S:=fun m k=>q2g.at0 (es.length+1) m (q2g.st0 (cells l) y (cells tb) (cells es) (k:Nat))) (fun m k h=>?_) (fun m=>?_) (gAR _)).trans ?_
 ·have hlk:es[k]?=some es[k]:=gA h;have ho:=hok es[k] (gG h);simp only[q2g.next0,q2g.round0,evz,Nat.reduceLT,h,hlk,q4v q8a hlk,q54,(q0m al ho).eq];rw[q0l (by omega)];cases q3o l y tb es[k] <;> rfl
 ·simp only[q2g.next0,q2g.round0,evz,Nat.reduceLT,gAK]
 ·cases es.any fun e=>!q3o l y tb e <;> rfl
theorem qbk{l:List Symbol}(ok:SigOk ⟨l⟩)(z:Nat)(seed:Int)(hz:1<=z/\z<=3)(hseed:0<=seed/\seed<=65520) :
 ∃tb:List (List Int),LIM F.q0o [.rref [slc l] 0,.int .i64 z,.int .i64 seed]=some (.agg [.int .i64 z,slc tb],[])/\q5u ⟨l⟩ ⟨z,tb⟩=0:=by
 refine⟨_,(q0o l ok z seed hz hseed).eq,?_⟩;have h:=(qbp (s:=⟨l⟩) (z:=(z:Int)) (seed:=seed) ((q51 _).2 ok) (by omega) hseed).2.2;unfold q6t at h;rw[if_pos ((q51 _).2 ok),if_pos ⟨by unfold inR;simp;omega,by unfold inR;simp;omega⟩]at h;simpa only[gR]using h
structure AlgS(z:Int)(tb:List (List Int)):Prop where
 size:0<=z/\z<=4
 len:tb.length<=6
 row:∀t∈tb,t.length<=10
theorem AlgS.sm{z:Int}{tb:List (List Int)}(h:AlgS z tb):sm 4294967296 tb:=⟨by have:=h.len;omega,fun t ht=>⟨by have:=h.row t ht;omega,fun _ _=>trivial⟩⟩
theorem AlgOk.row_pos{l:List Symbol}{z:Int}{tb:List (List Int)}(al:AlgOk l z tb){k:Nat}(h:k<tb.length):1<=tb[k].length/\tb[k].length<=9:=by
 have hk:k<l.length:=by rw[<- al.len];exact h
 have ha:=al.sig.arity _ (gG hk);have hs:=al.size;rw[(al.rows k hk h).1];exact⟨Nat.pow_pos (by omega),qol (by omega) (by omega)⟩
theorem AlgOk.small{l:List Symbol}{z:Int}{tb:List (List Int)}(al:AlgOk l z tb):AlgS z tb/\1<=tb.length:=by
 have h1:=al.sig.pos;have h2:=al.sig.le;have h3:=al.size;have h4:=al.len;simp only at h1 h2;refine⟨⟨by omega,by omega,fun t ht=>?_⟩,by omega⟩;obtain⟨k,hk,rfl⟩:=List.getElem_of_mem ht;have:=al.row_pos hk;omega
section
variable {code:List UInt8}(hc:code.length<=2097152)
include hc
theorem q21{l:List Symbol}(ok:SigOk ⟨l⟩){es:List Equation}(hn:es.length<=12)(hok:∀e∈es,EqOk l e)(p:Int)(hp:0<=p/\p<=1099490000000) :
 Drawn code p 3 (fun x=>∃(z:Int)(tb:List (List Int)),x=.agg [.int .i64 z,slc tb]/\AlgOk l z tb) (LIM F.q21 [.rref [slc code,.int .i64 p] 0,.rref [slc l] 0,slc es]):=by
 refine q92 rfl 14 ?_;rw[show q1i prog A H LIM 14 F.q21 [.rref [slc code,.int .i64 p] 0,.rref [slc l] 0,slc es]=_ from q21.ev _ _ _ _ _];refine qcn hc [1,2,2,3] rfl (by simp) (by omega) fun v hv=>?_;obtain⟨z,rfl,hz⟩:∃z:Nat,v=z/\1<=z/\z<=3:=⟨v.toNat,by simp only[gK,List.not_mem_nil,or_false]at hv;omega,by simp only[gK,List.not_mem_nil,or_false]at hv;omega⟩;simp only[evz,Nat.reduceLT];refine q77 hc (by omega) fun seed s1 s2=>?_;have s2:=s2 (by omega);simp only[evz,Nat.reduceLT]
 have key:∀(d k f:Nat),k+d=12->d<f->Drawn code p 3 (fun x=>∃(z:Int)(tb:List (List Int)),x=.agg [.int .i64 z,slc tb]/\AlgOk l z tb) (q21.at0 14 f (q21.st0 (cells l) (cells es) z seed (k:Nat) (cells code) (p+1+1) 0)):=by
  intro d;induction d with
  |zero=>
   intro k f hk hf;obtain⟨f,rfl⟩:∃g,f=g+1:=⟨f-1,by omega⟩;have n1:¬((k:Nat):Int)<12:=by omega
   simp only[q21.next0,q21.round0,evz,Nat.reduceLT,n1];refine qcn hc [1,2,3] rfl (by simp) (by omega) fun v hv=>?_;obtain⟨y,rfl,hy⟩:∃y:Nat,v=y/\1<=y/\y<=3:=⟨v.toNat,by simp only[gK,List.not_mem_nil,or_false]at hv;omega,by simp only[gK,List.not_mem_nil,or_false]at hv;omega⟩;obtain⟨tb,e,h0⟩:=qbk ok y seed hy (by omega);simp only[evz,Nat.reduceLT,e];exact q6c (by omega) ⟨_,tb,rfl,qnx h0⟩
  |succ d ih=>
   intro k f hk hf;obtain⟨f,rfl⟩:∃g,f=g+1:=⟨f-1,by omega⟩;have n1:((k:Nat):Int)<12:=by omega
   have w1:IntKind.wrap .i64 (((k:Nat):Int)*97)=((k:Nat):Int)*97:=q1v (by omega);have w2:IntKind.wrap .i64 (seed+((k:Nat):Int)*97)=seed+((k:Nat):Int)*97:=q1v (by omega);obtain⟨tb,e,h0⟩:=qbk ok z (seed+((k:Nat):Int)*97) hz (by omega);have al:=qnx h0;simp only[q21.next0,q21.round0,evz,Nat.reduceLT,n1,w1,w2,e,(q2g al es (by omega) hok).eq];rw[q0l (by omega)];cases es.any fun e=>!q3o l z tb e with
   |true=>exact ih (k+1) f (by omega) (by omega)
   |false=>exact q6c (by omega) ⟨_,tb,rfl,al⟩
 exact key 12 0 14 rfl (by omega)
omit hc in
theorem qs8{ts:List (List Int)}{i:Nat}(hi:i<ts.length)(t:List Int):List.set (cells ts) (i*1) (slc t)=cells (ts.set i t):=by
 have:=qp8 (o:=ts) (i:=i) (n:=1) (j:=0) (x:=ts[i]) (x':=t) (c:=slc t) rfl hi (by decide) (by rw[q59,q59];rfl);rwa[qfl (gA hi)]at this
theorem q71{l:List Symbol}(hl:l.length<=1000){es:List Equation}(hes:sm 1048576 es)(p:Int)(hp:0<=p/\p<=1099480000000) :
 Drawn code p 10 (fun x=>∃(z:Int)(tb:List (List Int)),x=.agg [.int .i64 z,slc tb]/\AlgS z tb) (LIM F.q71 [.rref [slc code,.int .i64 p] 0,.rref [slc l] 0,slc es]):=by
 refine q92 rfl 10 ?_;rw[show q1i prog A H LIM 10 F.q71 [.rref [slc code,.int .i64 p] 0,.rref [slc l] 0,slc es]=_ from q71.ev _ _ _ _ _];have leaf:∀(z:Int)(tb:List (List Int))(q:Int),p<=q/\q<=p+10->AlgS z tb->Drawn code p 10 (fun x=>∃(z:Int)(tb:List (List Int)),x=.agg [.int .i64 z,slc tb]/\AlgS z tb) (some (.agg [.int .i64 z,slc tb],[.agg [slc code,.int .i64 q]])):=fun z tb q h ha=>q6c h ⟨z,tb,rfl,ha⟩;have none_:AlgS 0 []:=⟨by omega,by simp,by simp⟩;simp only[evz,Nat.reduceLT,(q00 l (by omega)).eq];by_cases h0:q2w ⟨l⟩=0
 case neg=>simp only[h0,evz,Nat.reduceLT,ne_eq,gX];exact leaf 0 [] p (by omega) none_
 have ok:=(q51 _).1 h0;simp only[h0,evz,Nat.reduceLT,ne_eq,gW,(q1o l ok es (q2x (by omega) hes)).eq];by_cases h1:q50 l es=0
 case neg=>simp only[h1,evz,Nat.reduceLT,ne_eq,gX];exact leaf 0 [] p (by omega) none_
 obtain⟨hlen,hok⟩:=q8m.1 h1;simp only[h1,evz,Nat.reduceLT,ne_eq,gW];refine q7x (q21 hc ok (by omega) hok p (by omega)) ?_;rintro _ p1 a1 b1 ⟨z,tb,rfl,al⟩;obtain⟨hs,hpos⟩:=al.small;have hsl:=hs.len;simp only[evz,Nat.reduceLT];refine qb2 hc (by omega) fun b=>?_;simp only[evz,Nat.reduceLT];cases b with
 |false=>simp only[evz,Nat.reduceLT,Bool.not_false];exact leaf z tb _ (by omega) hs
 |true=>
  simp only[evz,Nat.reduceLT,Bool.not_true];refine q77 hc (by omega) fun v h2 h3=>?_;obtain⟨k,rfl⟩:∃k:Nat,v=k:=⟨v.toNat,by omega⟩;have hk:k<tb.length:=by have:=h3 (by omega);omega
  have hr:=al.row_pos hk;simp only[evz,Nat.reduceLT];refine q77 hc (by omega) fun w _ _=>?_;simp only[evz,Nat.reduceLT];split
  ·refine qcn hc [0,4] rfl (by simp) (by omega) fun y hy=>?_;simp only[evz,Nat.reduceLT];exact leaf y tb _ (by omega) ⟨by simp only[gK,List.not_mem_nil,or_false]at hy;omega,hs.len,hs.row⟩
  split
  ·have z1:(1:Int)<=(tb.length:Int):=by omega
   simp only[evz,Nat.reduceLT,z1,Int.le_refl,Bool.and_self,Int.reduceLE]
   have e9:((cells tb).take (tb.length*1)).drop (1*1)=cells (tb.drop 1):=by
    rw[q8i tb 1 _ rfl,List.take_length,q9j tb 1 1 rfl]
   rw[e9];exact leaf z (tb.drop 1) _ (by omega) ⟨hs.size,by rw[gAA];omega,fun t ht=>hs.row t (List.mem_of_mem_drop ht)⟩
  have rows:∀t:List Int,t.length<=10->AlgS z (tb.set k t):=fun t ht=>⟨hs.size,by rw[List.length_set];exact hs.len,fun u hu=>by
   rcases List.mem_or_eq_of_mem_set hu with h|rfl
   ·exact hs.row u h
   ·exact ht⟩
  split
  ·have blen:Nat.ble (((cells tb[k]).length+1)*8) (140737488355328*1)=true:=q4k (by rw[q0r,q3p];omega);have hk1:k*1<tb.length*1:=by omega
   have hk2:k*1<(cells tb).length:=by rw[q0r,qn0];omega
   simp only[evz,Nat.reduceLT,hk,gA,q59,blen,hk2,List.set_set,q2s];rw[qs8 hk];exact leaf z _ _ (by omega) (rows _ (by simp;omega))
  ·simp only[evz,Nat.reduceLT,hk,gA,q59];refine qcn hc [3,-1] rfl (by simp) (by omega) fun y hy=>?_;have h0:0<tb[k].length:=by omega
   have e0:inB 0 tb[k].length=true:=(q6w 0 _).trans (by simpa using h0);have z0:0+1<=tb[k].length*1:=by omega
   have s0:∀n:Int,setCells (cells tb[k]) 0 [.int .i64 n]=cells (tb[k].set 0 n):=fun n=>by
    have:=q9m (l:=tb[k]) h0 n;rwa[Nat.zero_mul]at this
   simp only[evz,Nat.reduceLT,e0,qcc,q3p,z0,s0];rw[qs8 hk];exact leaf z _ _ (by omega) (rows _ (by rw[List.length_set];omega))
end
set_option maxHeartbeats 4000000
set_option maxRecDepth 10000
def EntS(n:Nat)(es:List Entry):Prop:=es.length<=n/\∀x∈es,x.left.length<=1001/\x.right.length<=1001
theorem EntS.sm{n:Nat}{es:List Entry}(h:EntS n es)(hn:n<=1048576):Sm.sm 1048576 es:=⟨by have:=h.1;omega,fun x hx=>by
 obtain⟨h1,h2⟩:=h.2 x hx;exact⟨⟨by omega,fun _ _=>trivial⟩,⟨by omega,fun _ _=>trivial⟩⟩⟩
theorem EntS.set{n:Nat}{es:List Entry}(h:EntS n es)(k:Nat){x:Entry}(h1:x.left.length<=1001)(h2:x.right.length<=1001):EntS n (es.set k x):=⟨by rw[List.length_set];exact h.1,fun y hy=>by
 rcases List.mem_or_eq_of_mem_set hy with hy|rfl
 ·exact h.2 y hy
 ·exact⟨h1,h2⟩⟩
theorem qfr{es:List Entry}{k:Nat}(hk:k<es.length)(j:Nat)(hj:j<7)(c:T)(x:Entry)(hx:enc x=(enc es[k]).set j c):setCells (cells es) (k*7+j) [c]=cells (es.set k x):=by
 have:=qp8 (o:=es) (i:=k) (n:=7) (j:=j) (x:=es[k]) (x':=x) (c:=c) rfl hk hj hx.symm;rwa[qfl (gA hk)]at this
section
variable {code:List UInt8}(hc:code.length<=2097152)
include hc
theorem q5x{l:List Symbol}(hl:l.length<=1000){es:List Entry}{n:Nat}(hes:EntS n es)(hn:n<=1000)(p:Int)(hp:0<=p/\p<=1099480000000) :
 Drawn code p 3300 (fun x=>∃es':List Entry,x=slc es'/\EntS n es') (LIM F.q5x [.rref [slc code,.int .i64 p] 0,.rref [slc l] 0,slc es]):=by
 refine q92 rfl 10 ?_;rw[show q1i prog A H LIM 10 F.q5x [.rref [slc code,.int .i64 p] 0,.rref [slc l] 0,slc es]=_ from q5x.ev _ _ _ _ _];have hel:=hes.1;have leaf:∀(es':List Entry)(q:Int),p<=q/\q<=p+3300->EntS n es'->Drawn code p 3300 (fun x=>∃es':List Entry,x=slc es'/\EntS n es') (some (slc es',[.agg [slc code,.int .i64 q]])):=fun es' q h he=>q6c h ⟨es',rfl,he⟩;simp only[evz,Nat.reduceLT];by_cases hlt:((es.length:Nat):Int)<1
 ·simp only[hlt,evz,Nat.reduceLT];exact leaf es p (by omega) hes
 simp only[hlt,evz,Nat.reduceLT];refine qb2 hc (by omega) fun b=>?_;simp only[evz,Nat.reduceLT];cases b with
 |false=>simp only[evz,Nat.reduceLT,Bool.not_false];exact leaf es _ (by omega) hes
 |true=>
  simp only[evz,Nat.reduceLT,Bool.not_true];refine q77 hc (by omega) fun v h2 h3=>?_;obtain⟨k,rfl⟩:∃k:Nat,v=k:=⟨v.toNat,by omega⟩;have hk:k<es.length:=by have:=h3 (by omega);omega
  obtain⟨g1,g2⟩:=hes.2 _ (gG hk);simp only[evz,Nat.reduceLT];refine q77 hc (by omega) fun w _ _=>?_;simp only[evz,Nat.reduceLT];split
  ·refine qcn hc [(k:Int),(es.length:Int),-1,0] rfl (by simp) (by omega) fun y hy=>?_;have z0:k*7+1+1<=es.length*7:=by omega
   have s0:=qfr hk 1 (by decide) (.int .i64 y) ⟨es[k].kind,y,es[k].b,es[k].place,es[k].side,es[k].left,es[k].right⟩ rfl;simp only[evz,Nat.reduceLT,hk,qcc,qb5,z0,s0];exact leaf _ _ (by omega) (hes.set k g1 g2)
  split
  ·refine q7x (q15 hc _ 5 3 l hl (by omega) (by omega) (by omega)) ?_;rintro _ p2 a2 b2 ⟨t,rfl,ht⟩;have z0:k*7+5+1<=es.length*7:=by omega
   have s0:=qfr hk 5 (by decide) (slc t) ⟨es[k].kind,es[k].a,es[k].b,es[k].place,es[k].side,t,es[k].right⟩ rfl;simp only[evz,Nat.reduceLT,hk,qcc,qb5,z0,s0];exact leaf _ _ (by omega) (hes.set k ht g2)
  split
  ·refine qcn hc [0,1,2,3,4,5,6] rfl (by simp) (by omega) fun y hy=>?_;have z0:k*7+1<=es.length*7:=by omega
   have s0:=qfr hk 0 (by decide) (.int .i64 y) ⟨y,es[k].a,es[k].b,es[k].place,es[k].side,es[k].left,es[k].right⟩ rfl;rw[Nat.add_zero]at s0;simp only[evz,Nat.reduceLT,hk,qcc,qb5,z0,s0];exact leaf _ _ (by omega) (hes.set k g1 g2)
  split
  ·refine q7x (q15 hc _ 3 3 l hl (by omega) (by omega) (by omega)) ?_;rintro _ p2 a2 b2 ⟨t,rfl,ht⟩;have z0:k*7+6+1<=es.length*7:=by omega
   have s0:=qfr hk 6 (by decide) (slc t) ⟨es[k].kind,es[k].a,es[k].b,es[k].place,es[k].side,es[k].left,t⟩ rfl;simp only[evz,Nat.reduceLT,hk,qcc,qb5,z0,s0];exact leaf _ _ (by omega) (hes.set k g1 ht)
  ·have z1:(0:Int)<=((k:Nat):Int):=by omega
   have z2:((k:Nat):Int)<=((es.length:Nat):Int):=by omega
   simp only[evz,Nat.reduceLT,z1,z2,Int.le_refl,Bool.and_self]
   have e9:((cells es).take (es.length*7)).drop (k*7)=cells (es.drop k):=by
    rw[q8i es 7 _ rfl,List.take_length,q9j es 7 k rfl]
   rw[e9];exact leaf (es.drop k) _ (by omega) ⟨by rw[gAA];omega,fun x hx=>hes.2 x (List.mem_of_mem_drop hx)⟩
omit hc in
theorem EntS.of{l:List Symbol}{es:List Entry}{n:Nat}(hn:(es.length:Int)<=n)(h:∀x∈es,EqOk l (eqOf x)):EntS n es:=⟨by omega,fun x hx=>by
 have q:=h x hx;have h1:=q.left.le;have h2:=q.right.le;exact⟨by have:(eqOf x).left=x.left:=rfl;rw[<- this];omega,by have:(eqOf x).right=x.right:=rfl;rw[<- this];omega⟩⟩
def ChkQ(r:R):Prop:=∃(l:List Symbol)(eqs:List Equation)(es:List Entry),r=some (.tup [.agg [slc l],slc eqs,slc es],[])/\SigOk ⟨l⟩/\EqS 13 eqs/\EntS 60 es
theorem q3v:∃(l:List Symbol)(eqs:List Equation)(es:List Entry),Call F.q3v [slc code] (.tup [.agg [slc l],slc eqs,slc es])/\SigOk ⟨l⟩/\EqS 13 eqs/\EntS 60 es:=by
 suffices h:∃r,q1i prog A H LIM 0 F.q3v [slc code]=r/\ChkQ r by
  obtain⟨_,e,l,eqs,es,rfl,h⟩:=h;exact⟨l,eqs,es,q0s rfl 0 e,h⟩
 refine⟨_,q3v.ev _ _,?_⟩;rw[show LIM F.q4y [.sl 1 (cells code)]=_ from q4y];simp only[evz,Nat.reduceLT,qut];refine qcn (Q:=ChkQ) hc [10,25,40] rfl (by simp) (by omega) fun v hv=>?_;have hv':10<=v/\v<=40:=by simp only[gK,List.not_mem_nil,or_false]at hv;omega
 simp only[evz,Nat.reduceLT];refine q7x (Q:=ChkQ) (q1j hc _ v (by omega) (by omega)) ?_;rintro _ p2 a2 b2 ⟨l,eqs,es,rfl,ok,hql,hq,hel,he⟩;have hll:l.length<=6:=ok.le;simp only[evz,Nat.reduceLT];refine q7x (Q:=ChkQ) (q5x hc (l:=l) (by omega) (EntS.of (n:=60) (by omega) he) (by omega) p2 (by omega)) ?_;rintro _ p3 a3 b3 ⟨es',rfl,he'⟩;simp only[evz,Nat.reduceLT];refine⟨l,eqs,es',rfl,ok,⟨by omega,fun x hx=>?_⟩,he'⟩;have q:=hq x hx;have h1:=q.left.le;have h2:=q.right.le;exact⟨by omega,by omega⟩
def EnhQ(r:R):Prop:=∃(l:List Symbol)(z:Int)(tb:List (List Int))(es:List Entry),r=some (.tup [.agg [slc l],.agg [.int .i64 z,slc tb],slc es],[])/\SigOk ⟨l⟩/\AlgS z tb/\EntS 60 es
theorem q44:∃(l:List Symbol)(z:Int)(tb:List (List Int))(es:List Entry),Call F.q44 [slc code] (.tup [.agg [slc l],.agg [.int .i64 z,slc tb],slc es])/\SigOk ⟨l⟩/\AlgS z tb/\EntS 60 es:=by
 suffices h:∃r,q1i prog A H LIM 0 F.q44 [slc code]=r/\EnhQ r by
  obtain⟨_,e,l,z,tb,es,rfl,h⟩:=h;exact⟨l,z,tb,es,q0s rfl 0 e,h⟩
 refine⟨_,q44.ev _ _,?_⟩;rw[show LIM F.q4y [.sl 1 (cells code)]=_ from q4y];simp only[evz,Nat.reduceLT,qut];refine q7x (Q:=EnhQ) (q1j hc _ 20 (by omega) (by omega)) ?_;rintro _ p2 a2 b2 ⟨l,eqs,es,rfl,ok,hql,hq,hel,he⟩;have hll:l.length<=6:=ok.le;have hqs:sm 1048576 eqs:=⟨by omega,fun x hx=>(hq x hx).small⟩;simp only[evz,Nat.reduceLT];refine q7x (Q:=EnhQ) (q71 hc (l:=l) (by omega) hqs p2 (by omega)) ?_;rintro _ p3 a3 b3 ⟨z,tb,rfl,hA⟩;simp only[evz,Nat.reduceLT];refine q7x (Q:=EnhQ) (q5x hc (l:=l) (by omega) (EntS.of (n:=60) (by omega) he) (by omega) p3 (by omega)) ?_;rintro _ p4 a4 b4 ⟨es',rfl,he'⟩;simp only[evz,Nat.reduceLT];exact⟨l,z,tb,es',rfl,ok,hA,he'⟩
end
set_option maxHeartbeats 4000000
set_option maxRecDepth 10000
theorem qmh{l:List Symbol}{es:List Entry}(hn:es.length<=500)(h:∀x∈es,EqOk l (eqOf x)):q6v l es=0:=by
 unfold q6v;rw[if_neg (by omega)]
 have:(es.findSome? fun e=>if q2q l (eqOf e)≠0 then some (q2q l (eqOf e))else none)=none:=List.findSome?_eq_none_iff.2 fun x hx=>by
  rw[if_neg];exact fun g=>g (qe8.2 (h x hx))
 rw[this];rfl
theorem qn1{l:List Symbol}{z:Nat}{tb:List (List Int)}{es:List Equation}(h:(qdl ⟨l⟩ ⟨z,tb⟩ es).value=1):∀e∈es,q3o l z tb e=true:=fun e he=>by
 unfold qdl at h;split at h
 ·cases h
 split at h
 ·cases h
 simp only[gR]at h;split at h
 ·rename_i hq;rw[Bool.not_eq_true',List.any_eq_false]at hq;have:=hq e he;simpa using this
 ·cases h
theorem qbl{l:List Symbol}{z:Nat}{tb:List (List Int)}{es:List Entry}(ha:q5u ⟨l⟩ ⟨z,tb⟩=0)(hn:es.length<=500)(hq:∀x∈es,EqOk l (eqOf x))(h:∀x∈es,q3o l z tb (eqOf x)=true):q7h ⟨l⟩ ⟨z,tb⟩ es=⟨0,1⟩:=by
 unfold q7h;rw[if_neg (fun g=>g ha),if_neg (fun g=>g (qmh hn hq)),if_pos];rw[Bool.not_eq_true',List.any_eq_false];intro x hx;simp only[gR];rw[h x hx];decide
theorem qrk{l:List Symbol}(ok:SigOk ⟨l⟩){tb:List (List Int)}(al:AlgOk l ((1:Nat):Int) tb){e:Equation}(he:EqOk l e):q3o l 1 tb e=true:=by
 refine qaf (by omega) fun vs h6 hr=>?_;obtain⟨x1,_⟩:=q3e ok he.left;obtain⟨x2,_⟩:=q3e ok he.right;have q1:=qeb al hr x1 (qhs ok he.left);have q2:=qeb al hr x2 (qhs ok he.right);omega
set_option maxHeartbeats 4000000
set_option maxRecDepth 10000
theorem q0z(code:List UInt8)(h:sm maxLen code):Call F.q0z [slc code] (.bool true):=by
 by_cases hbig:(code.length:Int)>1048576
 ·exact q0s rfl 0 ((q0z.ev _ _).trans (by simp only[evz,Nat.reduceLT,(q7p (code:=code)).eq,hbig]))
 have hc:code.length<=2097152:=by omega
 obtain⟨l,eqs,es,ed,ok,hq,hes⟩:=q3v hc;have hll:l.length<=6:=ok.le;have s1:sm 1048576 (Signature.mk l):=q2x (by omega) ok.small;have s2:sm 1048576 eqs:=hq.sm (by omega);have s3:sm 1048576 es:=hes.sm (by omega);have hel:=hes.1;have eC:LIM F.q10 [.agg [slc l],slc eqs,slc es]=some (.int .i64 (qbe ⟨l⟩ eqs es),[]):=(q10 ⟨l⟩ eqs es s1 s2 s3).eq;have eC':LIM F.q4i [.agg [slc l],slc eqs,slc es]=some (.int .i64 (qbe ⟨l⟩ eqs es),[]):=(q4i ⟨l⟩ eqs es s1 s2 s3).eq;obtain⟨l1,z1,tb1,es1,ed1,ok1,hA1,hes1⟩:=q44 hc;have hl1:l1.length<=6:=ok1.le;have eE:=(q42 l1 z1 tb1 (by omega) hA1.sm es1 (q2x (by omega) (hes1.sm (by omega)))).eq;have eE':=(q16 l1 z1 tb1 (by omega) hA1.sm es1 (q2x (by omega) (hes1.sm (by omega)))).eq;generalize q7h ⟨l1⟩ ⟨z1,tb1⟩ es1=ER at *;rw[q4h]at eE eE';by_cases h0:qbe ⟨l⟩ eqs es=0
 case neg=>
  refine q0s rfl 0 ((q0z.ev _ _).trans ?_);simp only[evz,Nat.reduceLT,(q7p (code:=code)).eq,hbig,ed.eq,eC,eC',ed1.eq,eE,eE',beq_self_eq_true,bne_self_eq_false,Bool.and_self,Bool.not_true,h0,ne_eq,gX,gW]
 obtain⟨_,hq12,hqs,he500,hents⟩:=qlg h0;have h00:q2w ⟨l⟩=0:=(q51 _).2 ok
 have key:∀(d k f:Nat),k+d=6->d<f->q0z.at0 10 f (q0z.st0 (cells code) (cells eqs) (cells es) (k:Nat) (cells l))=some (.bool true,[]):=by
  intro d;induction d with
  |zero=>
   intro k f hk hf;obtain⟨f,rfl⟩:∃g,f=g+1:=⟨f-1,by omega⟩;have n1:¬((k:Nat):Int)<6:=by omega
   have eA:=(q5d ⟨l⟩ 1 0 s1).eq;have hsA:=qe1 ⟨l⟩ 1 0 s1;obtain⟨a1,a2,a3⟩:=qbp (s:=⟨l⟩) (z:=1) (seed:=0) h00 (by omega) (by omega);generalize hAR:q6t ⟨l⟩ 1 0=AR at *;obtain⟨ac,⟨z,tb⟩⟩:=AR;simp only at a1 a2 a3;have hz:z=((1:Nat):Int):=a2;subst hz;have smt:sm 4294967296 tb:=q2x (by omega) hsA;rw[q60]at eA;have al:=qnx a3;have eH:=(q42 l ((1:Nat):Int) tb (by omega) smt es (q2x (by omega) s3)).eq;rw[qbl a3 (by omega) hents fun x hx=>qrk ok al (hents x hx),q4h]at eH;simp only[q0z.next0,q0z.round0,evz,Nat.reduceLT,n1,eA,eH,beq_self_eq_true,Bool.and_self]
  |succ d ih=>
   intro k f hk hf;obtain⟨f,rfl⟩:∃g,f=g+1:=⟨f-1,by omega⟩;have ih:=ih (k+1) f (by omega) (by omega);have n1:((k:Nat):Int)<6:=by omega
   obtain⟨v,ev,v1,v2⟩:=q7y (code:=code) hc (k:Nat) 200 (by omega);have v2:=v2 (by omega);have w0:Int.tmod ((k:Nat):Int) 2=((k % 2:Nat):Int):=by rw[Int.tmod_eq_emod_of_nonneg (by omega)];omega
   have w1:IntKind.wrap .i64 (1+((k % 2:Nat):Int))=((1+k % 2:Nat):Int):=by rw[q1v (by omega)];omega
   have w2:IntKind.wrap .i64 (300*((k:Nat):Int))=300*((k:Nat):Int):=q1v (by omega);have w3:IntKind.wrap .i64 (300*((k:Nat):Int)+v)=300*((k:Nat):Int)+v:=q1v (by omega);have eA:=(q5d ⟨l⟩ ((1+k % 2:Nat):Int) (300*((k:Nat):Int)+v) s1).eq;have hsA:=qe1 ⟨l⟩ ((1+k % 2:Nat):Int) (300*((k:Nat):Int)+v) s1;obtain⟨a1,a2,a3⟩:=qbp (s:=⟨l⟩) (z:=((1+k % 2:Nat):Int)) (seed:=300*((k:Nat):Int)+v) h00 (by omega) (by omega);generalize hAR:q6t ⟨l⟩ ((1+k % 2:Nat):Int) (300*((k:Nat):Int)+v)=AR at *;obtain⟨ac,⟨z,tb⟩⟩:=AR;simp only at a1 a2 a3;have hz:z=((1+k % 2:Nat):Int):=a2;subst hz;have smt:sm 4294967296 tb:=q2x (by omega) hsA;rw[q60]at eA;have al:=qnx a3;have eW:=(q7m l ((1+k % 2:Nat):Int) tb (by omega) smt eqs (q2x (by omega) s2)).eq;have eH:=(q42 l ((1+k % 2:Nat):Int) tb (by omega) smt es (q2x (by omega) s3)).eq;rw[q4h]at eW;by_cases c2:(qdl ⟨l⟩ ⟨((1+k % 2:Nat):Int),tb⟩ eqs).value=1
   ·have hall:=qn1 c2;have hfol:=qpv h0 al (by omega) hall;rw[qbl a3 (by omega) hents fun x hx=>by obtain⟨j,hj,rfl⟩:=List.getElem_of_mem hx;exact hfol j hj]at eH;rw[q4h]at eH;simp only[q0z.next0,q0z.round0,evz,Nat.reduceLT,n1,ev.eq,w0,w1,w2,w3,eA,eW,c2,eH,beq_self_eq_true,bne_self_eq_false,ne_eq,gW];rw[q0l (by omega)];exact ih
   ·simp only[q0z.next0,q0z.round0,evz,Nat.reduceLT,n1,ev.eq,w0,w1,w2,w3,eA,eW,c2];rw[q0l (by omega)];exact ih
 refine q0s rfl 10 ((q0z.ev _ _).trans ?_);simp only[evz,Nat.reduceLT,(q7p (code:=code)).eq,hbig,ed.eq,eC,eC',ed1.eq,eE,eE',beq_self_eq_true,bne_self_eq_false,Bool.and_self,Bool.not_true,h0,ne_eq,gX,gW];exact key 6 0 10 (by omega) (by omega)
end Ev.Ty
end
