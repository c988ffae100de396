/- Steps on the way to RowFollows: TyAlgOk, TyDraw10, TyDraw11B, TyFollowQ, TyLFollows. -/
import Derived.Test.YtleelbkgajbkfaaGreatDoorM6
set_option linter.unusedSectionVars false
set_option linter.unusedVariables false
set_option linter.unusedSimpArgs false
section
namespace Ev.Ty
open Go Ev
open Enc (enc)
open Sm (sm)
theorem qg0{z:Int}(hz:1<=z):∀(n:Nat)(s:Int)(t:List Int),(∀y∈t,0<=y/\y<=z-1)->∀y∈(qe8 z n s t).2,0<=y/\y<=z-1
 |0,s,t,h=>h
 |n+1,s,t,h=>qg0 hz n (lcg s) (t++[lcg s % z]) fun y hy=>by
  rcases gO.1 hy with hy|hy
  ·exact h y hy
  ·rw[gD.1 hy];have h1:=Int.emod_nonneg (lcg s) (show z≠0 by omega);have h2:=Int.emod_lt_of_pos (lcg s) (show 0<z by omega);omega
theorem qsi{z:Nat}(hz:1<=z):∀(xs ds:List Symbol)(seed:Int)(tb:List (List Int)),0<=seed/\seed<=65520->ds.length=tb.length->(∀x∈ds.zip tb,q5b z x=none)->
 (xs.foldl (qbs z) (seed,tb)).2.length=(ds++xs).length/\∀x∈(ds++xs).zip (xs.foldl (qbs z) (seed,tb)).2,q5b z x=none
 |[],ds,seed,tb,h1,h2,h3=>by rw[gAD];exact⟨h2.symm,h3⟩
 |x::xs,ds,seed,tb,h1,h2,h3=>by
  have hd:=qk4 z (z ^ x.arity.toNat) seed [] h1;have hr:=qg0 (z:=(z:Int)) (by omega) (z ^ x.arity.toNat) seed [] (by simp)
  have ih:=qsi hz xs (ds++[x]) (qe8 z (z ^ x.arity.toNat) seed []).1 (tb++[(qe8 z (z ^ x.arity.toNat) seed []).2]) hd.1 (by simp[h2]) (fun y hy=>by
   rw[List.zip_append h2]at hy;rcases gO.1 hy with hy|hy
   ·exact h3 y hy
   ·have hy:y=(x,(qe8 z (z ^ x.arity.toNat) seed []).2):=gD.1 hy;subst hy;unfold q5b;rw[if_neg (by simp[hd.2]),if_neg];rw[Bool.not_eq_true,List.any_eq_false];intro n hn;have:=hr n hn;unfold inR;simp;omega)
  rw[gZ]at ih;exact ih
theorem qfa{s:Signature}{z seed:Int}(h0:q2v s=0)(hz:1<=z/\z<=3)(hs:0<=seed/\seed<=65520):(q61 s z seed).code=0/\(q61 s z seed).algebra.size=z/\q6h s (q61 s z seed).algebra=0:=by
 have i1:inR z 1 3=true:=by unfold inR;simp;omega
 have i2:inR seed 0 65520=true:=by unfold inR;simp;omega
 unfold q61;rw[if_pos h0,if_pos ⟨i1,i2⟩];refine⟨rfl,rfl,?_⟩;obtain⟨k,rfl⟩:∃k:Nat,z=k:=⟨z.toNat,by omega⟩;obtain⟨t1,t2⟩:=qsi (z:=k) (by omega) s.symbols [] seed [] hs rfl (by simp);unfold q6h;rw[if_neg (by simpa using h0),gR];simp only[List.nil_append]at t1 t2;rw[if_neg (by rw[i1];decide),if_neg (by simpa using t1),List.findSome?_eq_none_iff.2 t2]
set_option maxHeartbeats 4000000
set_option maxRecDepth 10000
theorem q1p{l:List Symbol}{y:Nat}{tb:List (List Int)}(al:AlgOk l (y:Int) tb)(es:List Equation)(hlen:es.length<=4294967296)(hok:∀e∈es,EqOk l e) :
 Call F.q1p [.rref [slc l] 0,.rref [.int .i64 y,slc tb] 0,slc es] (.bool (!es.any fun e=>!q4b l y tb e)):=by
 refine q0r rfl (es.length+1) ((q1p.ev _ _ _ _ _).trans ?_);refine(q8d (l:=es) (p:=fun e=>!q4b l y tb e) (r:=some (.bool false,[])) (z:=some (.bool true,[])) (S:=fun m k=>q1p.at0 (es.length+1) m (q1p.st0 (cells l) y (cells tb) (cells es) (k:Nat))) (fun m k h=>?_) (fun m=>?_) (gAR _)).trans ?_
 ·have hlk:es[k]?=some es[k]:=gA h;have ho:=hok es[k] (gG h);simp only[q1p.next0,q1p.round0,evz,Nat.reduceLT,h,hlk,q4u q6u hlk,q4n,(q0m al ho).eq];rw[q0l (by omega)];cases q4b l y tb es[k] <;> rfl
 ·simp only[q1p.next0,q1p.round0,evz,Nat.reduceLT,gAK]
 ·cases es.any fun e=>!q4b l y tb e <;> rfl
structure AlgS(z:Int)(tb:List (List Int)):Prop where
 size:0<=z/\z<=4
 len:tb.length<=6
 row:∀t∈tb,t.length<=10
theorem AlgS.sm{z:Int}{tb:List (List Int)}(h:AlgS z tb):sm 4294967296 tb:=⟨by have:=h.len;omega,fun t ht=>⟨by have:=h.row t ht;omega,fun _ _=>trivial⟩⟩
theorem AlgOk.row_pos{l:List Symbol}{z:Int}{tb:List (List Int)}(al:AlgOk l z tb){k:Nat}(h:k<tb.length):1<=tb[k].length/\tb[k].length<=9:=by
 have hk:k<l.length:=by rw[<- al.len];exact h
 have ha:=al.sig.arity _ (gG hk);have hs:=al.size;rw[(al.rows k hk h).1];exact⟨Nat.pow_pos (by omega),qo7 (by omega) (by omega)⟩
theorem AlgOk.small{l:List Symbol}{z:Int}{tb:List (List Int)}(al:AlgOk l z tb):AlgS z tb/\1<=tb.length:=by
 have h1:=al.sig.pos;have h2:=al.sig.le;have h3:=al.size;have h4:=al.len;simp only at h1 h2;refine⟨⟨by omega,by omega,fun t ht=>?_⟩,by omega⟩;obtain⟨k,hk,rfl⟩:=List.getElem_of_mem ht;have:=al.row_pos hk;omega
section
variable {code:List UInt8}(hc:code.length<=2097152)
include hc
end
set_option maxHeartbeats 4000000
set_option maxRecDepth 10000
def EntS(n:Nat)(es:List Entry):Prop:=es.length<=n/\∀x∈es,x.left.length<=1001/\x.right.length<=1001
theorem EntS.sm{n:Nat}{es:List Entry}(h:EntS n es)(hn:n<=1048576):Sm.sm 1048576 es:=⟨by have:=h.1;omega,fun x hx=>by
 obtain⟨h1,h2⟩:=h.2 x hx;exact⟨⟨by omega,fun _ _=>trivial⟩,⟨by omega,fun _ _=>trivial⟩⟩⟩
theorem EntS.set{n:Nat}{es:List Entry}(h:EntS n es)(k:Nat){x:Entry}(h1:x.left.length<=1001)(h2:x.right.length<=1001):EntS n (es.set k x):=⟨by rw[List.length_set];exact h.1,fun y hy=>by
 rcases List.mem_or_eq_of_mem_set hy with hy|rfl
 ·exact h.2 y hy
 ·exact⟨h1,h2⟩⟩
theorem qfs{es:List Entry}{k:Nat}(hk:k<es.length)(j:Nat)(hj:j<7)(c:T)(x:Entry)(hx:enc x=(enc es[k]).set j c):setCells (cells es) (k*7+j) [c]=cells (es.set k x):=by
 have:=qut (o:=es) (i:=k) (n:=7) (j:=j) (x:=es[k]) (x':=x) (c:=c) rfl hk hj hx.symm;rwa[qjz (gA hk)]at this
section
variable {code:List UInt8}(hc:code.length<=2097152)
include hc
theorem q6o{l:List Symbol}(hl:l.length<=1000){es:List Entry}{n:Nat}(hes:EntS n es)(hn:n<=1000)(p:Int)(hp:0<=p/\p<=1099480000000) :
 Drawn code p 3300 (fun x=>∃es':List Entry,x=slc es'/\EntS n es') (LIM F.q6o [.rref [slc code,.int .i64 p] 0,.rref [slc l] 0,slc es]):=by
 refine q9z rfl 10 ?_;rw[show q1g prog A H LIM 10 F.q6o [.rref [slc code,.int .i64 p] 0,.rref [slc l] 0,slc es]=_ from q6o.ev _ _ _ _ _];have hel:=hes.1;have leaf:∀(es':List Entry)(q:Int),p<=q/\q<=p+3300->EntS n es'->Drawn code p 3300 (fun x=>∃es':List Entry,x=slc es'/\EntS n es') (some (slc es',[.agg [slc code,.int .i64 q]])):=fun es' q h he=>q79 h ⟨es',rfl,he⟩;simp only[evz,Nat.reduceLT];by_cases hlt:((es.length:Nat):Int)<1
 ·simp only[hlt,evz,Nat.reduceLT];exact leaf es p (by omega) hes
 simp only[hlt,evz,Nat.reduceLT];refine qc8 hc (by omega) fun b=>?_;simp only[evz,Nat.reduceLT];cases b with
 |false=>simp only[evz,Nat.reduceLT,Bool.not_false];exact leaf es _ (by omega) hes
 |true=>
  simp only[evz,Nat.reduceLT,Bool.not_true];refine q7j hc (by omega) fun v h2 h3=>?_;obtain⟨k,rfl⟩:∃k:Nat,v=k:=⟨v.toNat,by omega⟩;have hk:k<es.length:=by have:=h3 (by omega);omega
  obtain⟨g1,g2⟩:=hes.2 _ (gG hk);simp only[evz,Nat.reduceLT];refine q7j hc (by omega) fun w _ _=>?_;simp only[evz,Nat.reduceLT];split
  ·refine qig hc [(k:Int),(es.length:Int),-1,0] rfl (by simp) (by omega) fun y hy=>?_;have z0:k*7+1+1<=es.length*7:=by omega
   have s0:=qfs hk 1 (by decide) (.int .i64 y) ⟨es[k].kind,y,es[k].b,es[k].place,es[k].side,es[k].left,es[k].right⟩ rfl;simp only[evz,Nat.reduceLT,hk,qe0,qe5,z0,s0];exact leaf _ _ (by omega) (hes.set k g1 g2)
  split
  ·refine q95 (q12 hc _ 5 3 l hl (by omega) (by omega) (by omega)) ?_;rintro _ p2 a2 b2 ⟨t,rfl,ht⟩;have z0:k*7+5+1<=es.length*7:=by omega
   have s0:=qfs hk 5 (by decide) (slc t) ⟨es[k].kind,es[k].a,es[k].b,es[k].place,es[k].side,t,es[k].right⟩ rfl;simp only[evz,Nat.reduceLT,hk,qe0,qe5,z0,s0];exact leaf _ _ (by omega) (hes.set k ht g2)
  split
  ·refine qig hc [0,1,2,3,4,5,6] rfl (by simp) (by omega) fun y hy=>?_;have z0:k*7+1<=es.length*7:=by omega
   have s0:=qfs hk 0 (by decide) (.int .i64 y) ⟨y,es[k].a,es[k].b,es[k].place,es[k].side,es[k].left,es[k].right⟩ rfl;rw[Nat.add_zero]at s0;simp only[evz,Nat.reduceLT,hk,qe0,qe5,z0,s0];exact leaf _ _ (by omega) (hes.set k g1 g2)
  split
  ·refine q95 (q12 hc _ 3 3 l hl (by omega) (by omega) (by omega)) ?_;rintro _ p2 a2 b2 ⟨t,rfl,ht⟩;have z0:k*7+6+1<=es.length*7:=by omega
   have s0:=qfs hk 6 (by decide) (slc t) ⟨es[k].kind,es[k].a,es[k].b,es[k].place,es[k].side,es[k].left,t⟩ rfl;simp only[evz,Nat.reduceLT,hk,qe0,qe5,z0,s0];exact leaf _ _ (by omega) (hes.set k g1 ht)
  ·have z1:(0:Int)<=((k:Nat):Int):=by omega
   have z2:((k:Nat):Int)<=((es.length:Nat):Int):=by omega
   simp only[evz,Nat.reduceLT,z1,z2,Int.le_refl,Bool.and_self]
   have e9:((cells es).take (es.length*7)).drop (k*7)=cells (es.drop k):=by
    rw[q8o es 7 _ rfl,List.take_length,qan es 7 k rfl]
   rw[e9];exact leaf (es.drop k) _ (by omega) ⟨by rw[gAA];omega,fun x hx=>hes.2 x (List.mem_of_mem_drop hx)⟩
omit hc in
theorem EntS.of{l:List Symbol}{es:List Entry}{n:Nat}(hn:(es.length:Int)<=n)(h:∀x∈es,EqOk l (eqOf x)):EntS n es:=⟨by omega,fun x hx=>by
 have q:=h x hx;have h1:=q.left.le;have h2:=q.right.le;exact⟨by have:(eqOf x).left=x.left:=rfl;rw[<- this];omega,by have:(eqOf x).right=x.right:=rfl;rw[<- this];omega⟩⟩
def ChkQ(r:R):Prop:=∃(l:List Symbol)(eqs:List Equation)(es:List Entry),r=some (.tup [.agg [slc l],slc eqs,slc es],[])/\SigOk ⟨l⟩/\EqS 13 eqs/\EntS 60 es
theorem q3n:∃(l:List Symbol)(eqs:List Equation)(es:List Entry),Call F.q3n [slc code] (.tup [.agg [slc l],slc eqs,slc es])/\SigOk ⟨l⟩/\EqS 13 eqs/\EntS 60 es:=by
 suffices h:∃r,q1g prog A H LIM 0 F.q3n [slc code]=r/\ChkQ r by
  obtain⟨_,e,l,eqs,es,rfl,h⟩:=h;exact⟨l,eqs,es,q0r rfl 0 e,h⟩
 refine⟨_,q3n.ev _ _,?_⟩;rw[show LIM F.q62 [.sl 1 (cells code)]=_ from q62];simp only[evz,Nat.reduceLT,qvo];refine qig (Q:=ChkQ) hc [10,25,40] rfl (by simp) (by omega) fun v hv=>?_;have hv':10<=v/\v<=40:=by simp only[gK,List.not_mem_nil,or_false]at hv;omega
 simp only[evz,Nat.reduceLT];refine q95 (Q:=ChkQ) (q1j hc _ v (by omega) (by omega)) ?_;rintro _ p2 a2 b2 ⟨l,eqs,es,rfl,ok,hql,hq,hel,he⟩;have hll:l.length<=6:=ok.le;simp only[evz,Nat.reduceLT];refine q95 (Q:=ChkQ) (q6o hc (l:=l) (by omega) (EntS.of (n:=60) (by omega) he) (by omega) p2 (by omega)) ?_;rintro _ p3 a3 b3 ⟨es',rfl,he'⟩;simp only[evz,Nat.reduceLT];refine⟨l,eqs,es',rfl,ok,⟨by omega,fun x hx=>?_⟩,he'⟩;have q:=hq x hx;have h1:=q.left.le;have h2:=q.right.le;exact⟨by omega,by omega⟩
theorem q5x:∃(l:List Symbol)(eqs:List Equation)(es:List Entry)(n:Int),Call F.q5x [slc code] (.tup [.agg [slc l],slc eqs,slc es,.int .i64 n])/\SigOk ⟨l⟩/\EqS 13 eqs/\EntS 60 es:=by
 obtain⟨l,eqs,es,e,ok,hq,hes⟩:=q3n hc;have hel:=hes.1;have w1:IntKind.wrap .i64 ((7:Int)*2)=14:=by decide
 have w2:IntKind.wrap .i64 ((5:Int)+14)=19:=by decide
 have eL:LIM F.q8z [slc code,.int .i64 2]=some (.bx [slc code,.int .i64 19],[]):=q9c rfl 0 ((q8z.ev _ _ _).trans (by rw[w1,w2];rfl));obtain⟨v,e1,_⟩:=q1a hc 19 (es.length:Int) (by omega);obtain⟨w,e2,_⟩:=q1a hc 20 (es.length:Int) (by omega);have w3:IntKind.wrap .i64 ((es.length:Int)-1)=(es.length:Int)-1:=q1o (by omega);obtain⟨n,hn,e3⟩:=q3r hc 21 [(es.length:Int)-1,v,w,0,-1] (ts:=[.int .i64 ((es.length:Int)-1),.int .i64 v,.int .i64 w,.int .i64 0,.int .i64 (-1)]) rfl (by simp) (by omega);refine⟨l,eqs,es,n,q0r rfl 0 ((q5x.ev _ _).trans ?_),ok,hq,hes⟩;simp only[evz,Nat.reduceLT,e.eq,eL,qvo,e1,w3];rw[show(19:Int)+1=20 from rfl];simp only[evz,Nat.reduceLT,e2];rw[show(20:Int)+1=21 from rfl];simp only[evz,Nat.reduceLT,e3]
end
set_option maxHeartbeats 4000000
set_option maxRecDepth 10000
theorem qny{l:List Symbol}{z:Nat}{tb:List (List Int)}{es:List Equation}(h:(qdv ⟨l⟩ ⟨z,tb⟩ es).value=1):∀e∈es,q4b l z tb e=true:=fun e he=>by
 unfold qdv at h;split at h
 ·cases h
 split at h
 ·cases h
 simp only[gR]at h;split at h
 ·rename_i hq;rw[Bool.not_eq_true',List.any_eq_false]at hq;have:=hq e he;simpa using this
 ·cases h
set_option maxHeartbeats 4000000
set_option maxRecDepth 10000
theorem qsq(es:List Equation)(a b:List Int):cells es++[slc a,slc b]=cells (es++[⟨a,b⟩]):=by rw[q33];rfl
theorem q0i(code:List UInt8)(h:sm maxLen code):Call F.q0i [slc code] (.bool true):=by
 by_cases hbig:(code.length:Int)>1048576
 ·exact q0r rfl 0 ((q0i.ev _ _).trans (by simp only[evz,Nat.reduceLT,(q7f (code:=code)).eq,hbig]))
 have hc:code.length<=2097152:=by omega
 obtain⟨l,eqs,es,n,ed,ok,hq,hes⟩:=q5x hc;have hll:l.length<=6:=ok.le;have s1:sm 1048576 (Signature.mk l):=q2x (by omega) ok.small;have s2:sm 1048576 eqs:=hq.sm (by omega);have s3:sm 1048576 es:=hes.sm (by omega);have hel:=hes.1;have eU:LIM F.q1z [.agg [slc l],slc eqs,slc es,.int .i64 n]=some (.agg [.int .i64 (q74 ⟨l⟩ eqs es n).code,slc (q74 ⟨l⟩ eqs es n).list],[]):=(q1z ⟨l⟩ eqs es n s1 s2 s3).eq;have eU':LIM F.q1q [.agg [slc l],slc eqs,slc es,.int .i64 n]=some (.agg [.int .i64 (q74 ⟨l⟩ eqs es n).code,slc (q74 ⟨l⟩ eqs es n).list],[]):=(q1q ⟨l⟩ eqs es n s1 s2 s3).eq;have hsU:=qqq ⟨l⟩ eqs es n s1 s2 s3;have hUl:(q74 ⟨l⟩ eqs es n).list.length<=67108864:=hsU.1;have eN:=(q2c (q74 ⟨l⟩ eqs es n).list (q74 ⟨l⟩ eqs es n).list (by omega)).eq;rw[decide_eq_true rfl]at eN;by_cases h0:(q74 ⟨l⟩ eqs es n).code=0
 case neg=>
  refine q0r rfl 0 ((q0i.ev _ _).trans ?_);simp only[evz,Nat.reduceLT,(q7f (code:=code)).eq,hbig,ed.eq,eU,eU',eN,bne_self_eq_false,Bool.not_true,h0,ne_eq,gX,gW]
 have hck:q93 ⟨l⟩ eqs es=0:=Classical.byContradiction fun hne=>by
  unfold q74 qon at h0;rw[if_pos hne]at h0;exact hne h0
 have hin:inR n 0 ((es.length:Int)-1)=true:=by
  cases hx:inR n 0 ((es.length:Int)-1)with
  |true=>rfl
  |false=>unfold q74 qon at h0;rw[if_neg (fun g=>g hck),if_pos hx]at h0;cases h0
 have hinr:=q4p.1 hin;obtain⟨k0,rfl⟩:∃k:Nat,n=k:=⟨n.toNat,by omega⟩;have hk0:k0<es.length:=by omega
 have hR:q74 ⟨l⟩ eqs es (k0:Int)=⟨0,Lib.compact (q5z (q94 es (k0+1) ((List.replicate es.length false).set k0 true) []))⟩:=by
  unfold q74 qon;rw[if_neg (fun g=>g hck),if_neg (by rw[hin];decide),gR]
 rw[hR]at eU eU' eN hUl;simp only at eU eU' eN hUl;have hmarkl:((List.replicate es.length false).set k0 true).length=es.length:=by simp
 have hmark:((List.replicate es.length false).set k0 true).getD k0 false=true:=by
  rw[gI,List.getElem?_set_self (by simpa using hk0)];rfl
 generalize hus:q94 es (k0+1) ((List.replicate es.length false).set k0 true) []=us at *;obtain⟨_,hq12,hqs,he500,hents⟩:=qe7 hck;have h00:q2v ⟨l⟩=0:=(q5g _).2 ok;have hnums:=q9r hck
 have husIn:∀(n:Nat)(m:List Bool)(out:List Int),n<=es.length->(∀x∈out,0<=x/\x.toNat<eqs.length)->∀x∈q94 es n m out,0<=x/\x.toNat<eqs.length:=by
  intro n;induction n with
  |zero=>intro m out _ h;exact h
  |succ n ih=>
   intro m out hn h;have hlt:n<es.length:=by omega
   rw[q94,getN hlt];split
   ·exact ih m out (by omega) h
   split
   ·rename_i k1;have nk:=hnums n hlt;refine ih m _ (by omega) fun x hx=>?_;rcases gO.1 hx with hx|hx
    ·exact h x hx
    ·rw[gD.1 hx];exact⟨nk.a0,nk.given k1⟩
   split
   ·exact ih _ out (by omega) h
   ·exact ih _ out (by omega) h
 have hin2:∀x∈Lib.compact (q5z us),0<=x/\x.toNat<eqs.length:=fun x hx=>by
  rw[q8n,qam,<- hus]at hx;exact husIn _ _ _ (by omega) (by simp) x hx
 have hne:Lib.compact (q5z us)≠[]:=fun hnil=>by
  have hz1:AlgOk l ((1:Nat):Int) ((q61 ⟨l⟩ 1 0).algebra.tables):=by
   obtain⟨a1,a2,a3⟩:=qfa (s:=⟨l⟩) (z:=1) (seed:=0) h00 (by omega) (by omega);have:=qug (l:=l) (z:=(q61 ⟨l⟩ 1 0).algebra.size) (tb:=(q61 ⟨l⟩ 1 0).algebra.tables) a3;rw[a2]at this;exact this
  have:=qe6 hck hz1 (by omega) (k0+1) ((List.replicate es.length false).set k0 true) [] (by omega) hmarkl k0 (by omega) hmark;rw[hus]at this;obtain⟨x,r,e⟩:=List.exists_cons_of_ne_nil this;have hx:x∈Lib.compact (q5z us):=by rw[q8n,qam,e];simp
  rw[hnil]at hx;cases hx
 generalize hcl:Lib.compact (q5z us)=cl at *;have hsU:∀x∈us,x∈cl:=fun x hx=>by rw[<- hcl,q8n,qam];exact hx
 have hUl':0<cl.length:=List.length_pos_iff.2 hne;have eL:=hents _ (gG hk0);let g:Int->Equation:=fun x=>eqs.getD x.toNat ⟨[],[]⟩
 have hg:∀x∈cl,g x∈eqs:=fun x hx=>by
  have hk:=(hin2 x hx).2;show eqs.getD x.toNat ⟨[],[]⟩∈eqs;rw[getE hk];exact gG hk
 have hsub:∀x∈cl.map g,x∈eqs:=fun x hx=>by
  obtain⟨y,hy,rfl⟩:=List.mem_map.1 hx;exact hg y hy
 have round2:∀(d k f:Nat),k+d=8->d<f->
  q0i.at2 (cl.length+12) f (q0i.st2 (cells code) (k:Nat) (cells l) (cells (cl.map g)) (cells es[k0].left) (cells es[k0].right))=some (.bool true,[]):=by
  have hul:(cl.map g).length=cl.length:=by simp
  have hin3:∀x∈cl,∀(k:x.toNat<eqs.length),eqs[x.toNat]∈cl.map g:=fun x hx k=>List.mem_map.2 ⟨x,hx,getE k⟩;have hse:sm 4294967296 (cl.map g):=⟨by omega,fun x hx=>q2x (by omega) (s2.2 x (hsub x hx))⟩;generalize cl.map g=used at *;intro d;induction d with
  |zero=>
   intro k f hk hf;obtain⟨f,rfl⟩:∃g,f=g+1:=⟨f-1,by omega⟩;have n1:¬((k:Nat):Int)<8:=by omega
   have n2:((used.length:Nat):Int)>0:=by omega
   simp only[q0i.next2,q0i.round2,evz,Nat.reduceLT,n1,n2,decide_true]
  |succ d ih=>
   intro k f hk hf;obtain⟨f,rfl⟩:∃g,f=g+1:=⟨f-1,by omega⟩;have ih:=ih (k+1) f (by omega) (by omega);have n1:((k:Nat):Int)<8:=by omega
   obtain⟨v,ev,v1,v2⟩:=q7m (code:=code) hc (k:Nat) 200 (by omega);have v2:=v2 (by omega);have w0:Int.tmod ((k:Nat):Int) 3=((k % 3:Nat):Int):=by rw[Int.tmod_eq_emod_of_nonneg (by omega)];omega
   have w1:IntKind.wrap .i64 (1+((k % 3:Nat):Int))=((1+k % 3:Nat):Int):=by rw[q1o (by omega)];omega
   have w2:IntKind.wrap .i64 (700*((k:Nat):Int))=700*((k:Nat):Int):=q1o (by omega);have w3:IntKind.wrap .i64 (700*((k:Nat):Int)+v)=700*((k:Nat):Int)+v:=q1o (by omega);have eA:=(q6e ⟨l⟩ ((1+k % 3:Nat):Int) (700*((k:Nat):Int)+v) s1).eq;have hsA:=qjv ⟨l⟩ ((1+k % 3:Nat):Int) (700*((k:Nat):Int)+v) s1;obtain⟨a1,a2,a3⟩:=qfa (s:=⟨l⟩) (z:=((1+k % 3:Nat):Int)) (seed:=700*((k:Nat):Int)+v) h00 (by omega) (by omega);generalize hAR:q61 ⟨l⟩ ((1+k % 3:Nat):Int) (700*((k:Nat):Int)+v)=AR at *;obtain⟨ac,⟨z,tb⟩⟩:=AR;simp only at a1 a2 a3;have hz:z=((1+k % 3:Nat):Int):=a2;subst hz;have smt:sm 4294967296 tb:=q2x (by omega) hsA;rw[q6j]at eA;have al:=qug a3;have eW:=(q7a l ((1+k % 3:Nat):Int) tb (by omega) smt used hse).eq;have eH:=(q8i l ((1+k % 3:Nat):Int) tb (by omega) smt ⟨es[k0].left,es[k0].right⟩ (qh4 eL)).eq;rw[q6t]at eW eH;by_cases c2:(qdv ⟨l⟩ ⟨((1+k % 3:Nat):Int),tb⟩ used).value=1
   ·have hall:=qny c2
    have hfol:=q9q hck al (by omega) (k0+1) ((List.replicate es.length false).set k0 true) [] (by omega) hmarkl (fun x hx _ hk=>by
     rw[hus]at hx;exact hall _ (hin3 x (hsU x hx) hk)) k0 hk0 (by omega) hmark
    have hH:(qpt ⟨l⟩ ⟨((1+k % 3:Nat):Int),tb⟩ ⟨es[k0].left,es[k0].right⟩).value=1:=by
     unfold qpt;rw[if_neg (fun g=>g a3),if_neg (fun g=>g (qe9.2 eL))];simp only[gR];exact if_pos hfol
    simp only[q0i.next2,q0i.round2,evz,Nat.reduceLT,n1,ev.eq,w0,w1,w2,w3,eA,eW,c2,eH,hH,beq_self_eq_true,bne_self_eq_false,ne_eq,gW];rw[q0l (by omega)];exact ih
   ·simp only[q0i.next2,q0i.round2,evz,Nat.reduceLT,n1,ev.eq,w0,w1,w2,w3,eA,eW,c2];rw[q0l (by omega)];exact ih
 have key:∀(d k f:Nat),k+d=cl.length->d<f->
  q0i.at0 (cl.length+12) f (q0i.st0 (cells code) (cells eqs) (cells es) (k0:Nat) (k:Nat) (cells l) (cells cl) 0 (cells ((cl.take k).map g)))=some (.bool true,[]):=by
  intro d;induction d with
  |zero=>
   intro k f hk hf;obtain⟨f,rfl⟩:∃g,f=g+1:=⟨f-1,by omega⟩;obtain rfl:k=cl.length:=by omega
   rw[List.take_length];have n1:¬((cl.length:Nat):Int)<((cl.length:Nat):Int):=by omega
   have r2:=round2 8 0 (cl.length+12) (by omega) (by omega);simp only[q0i.next0,q0i.round0,evz,Nat.reduceLT,n1,gAK,hk0,gA,q42];exact r2
  |succ d ih=>
   intro k f hk hf;obtain⟨f,rfl⟩:∃g,f=g+1:=⟨f-1,by omega⟩;have ih:=ih (k+1) f (by omega) (by omega);have hkc:k<cl.length:=by omega
   obtain⟨q1,q2⟩:=hin2 _ (gG hkc);obtain⟨j,hj⟩:∃j:Nat,cl[k]=j:=⟨cl[k].toNat,by omega⟩;have hjl:j<eqs.length:=by rw[hj,gR]at q2;exact q2
   have hgk:g cl[k]=eqs[j]:=by show eqs.getD cl[k].toNat ⟨[],[]⟩=_;rw[hj,gR,getE hjl]
   have hnext:(cl.take (k+1)).map g=(cl.take k).map g++[⟨eqs[j].left,eqs[j].right⟩]:=by
    rw[List.take_add_one,gA hkc];simp only[Option.toList_some,List.map_append,List.map_cons,List.map_nil,hgk]
   rw[hnext]at ih;have blen:Nat.ble ((((cells ((cl.take k).map g)).length)+2)*48) (140737488355328*2)=true:=q3v (by rw[q0k,q6u,gAG,gAF];omega);simp only[q0i.next0,q0i.round0,evz,Nat.reduceLT,hkc,gA,q1x,hj,hjl,q4n,blen,qsq];rw[q0l (by omega)];exact ih
 have fin:=key cl.length 0 (cl.length+12) (by omega) (by omega);refine q0r rfl (cl.length+12) ((q0i.ev _ _).trans ?_);simp only[evz,Nat.reduceLT,(q7f (code:=code)).eq,hbig,ed.eq,eU,eU',eN,bne_self_eq_false,Bool.not_true,ne_eq,gW];exact fin
end Ev.Ty
end
