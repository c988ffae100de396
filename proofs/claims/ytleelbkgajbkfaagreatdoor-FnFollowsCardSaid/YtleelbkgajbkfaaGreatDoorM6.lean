/- Steps on the way to RowFollows: TyUnifyP, TyPeakP, TyUnifS, TyUnify, TyUnify2, TyPeak, TyPeak2, TyPeakV, TyPeaks, TyAllPeaks, TyUnjoined, TyDeriveP, TyDerive, TyUses, TyFollowP, TyDraw, TyDrawT, TyTheory, TyDrawG, TyRead, TyPool, TyDrawB, TyNewC, TyOrient, TyDraw8, TyDraw13, TyDraw11. -/
import Derived.Test.YtleelbkgajbkfaaGreatDoorM5
set_option linter.unusedSectionVars false
set_option linter.unusedVariables false
set_option linter.unusedSimpArgs false
section
namespace Ev.Ty
open Go Ev
open Enc (enc)
open Sm (sm)
def Free(b:Bnd)(t:List Int):Prop:=∀n∈t,(-1-n)∉b.1
theorem q9b{vs:List Int}{ts:List (List Int)}{v:Int}(h:v∉vs):q3c vs ts v=none:=by
 unfold q3c;rcases q8s (fun x:Int=>decide (x=v)) vs with⟨h1,_⟩|⟨i,hi,h1,hy,_⟩
 ·rw[if_pos (by omega)]
 ·have:vs[i]=v:=by simpa using hy
  exact absurd (this▸gG hi) h
theorem applied_free{b:Bnd}:∀{t:List Int},Free b t->q01 b.1 b.2 t=t
 |[],_=>rfl
 |n::t,h=>by
  have ih:=applied_free (b:=b) (t:=t) fun m hm=>h m (gF _ hm);have e:q01 b.1 b.2 (n::t)=(q3c b.1 b.2 (-1-n)).getD [n]++q01 b.1 b.2 t:=by simp[q01]
  rw[e,q9b (h n (by simp)),ih];rfl
theorem qdi{vs:List Int}{ts:List (List Int)}{P:Int->Prop}(ht:∀x∈ts,∀n∈x,P n){t:List Int}(h:∀n∈t,q3c vs ts (-1-n)=none->P n):∀n∈q01 vs ts t,P n:=fun n hn=>by
 unfold q01 at hn;obtain⟨m,hm,hn⟩:=List.mem_flatMap.1 hn;cases ho:q3c vs ts (-1-m)with
 |none=>rw[ho]at hn;rw[gD.1 hn];exact h m hm ho
 |some o=>rw[ho]at hn;exact ht o (q4s ho) n hn
structure UB(l:List Symbol)(b:Bnd):Prop where
 mb:MB l b 12
 nd:b.1.Nodup
 free:∀t∈b.2,Free b t
theorem UB.nil(l:List Symbol):UB l ([],[]):=⟨(MB.nil l).up (by omega),List.nodup_nil,by simp⟩
theorem UB.le{l:List Symbol}{b:Bnd}(h:UB l b):b.1.length<=12:=h.mb.le
theorem UB.applied_free{l:List Symbol}{b:Bnd}(h:UB l b)(t:List Int):Free b (q01 b.1 b.2 t):=qdi h.free fun n _ hn=>qcy h.mb.len hn
theorem UB.applied_ok{l:List Symbol}{b:Bnd}(h:UB l b){t:List Int}(ht:TermOk l t)(hl:(q01 b.1 b.2 t).length<=24):TermOk l (q01 b.1 b.2 t):=by
 have hs:=qa1 h.mb (by omega) t [] 1 ht.skip;rw[gAD]at hs;refine⟨?_,hl,qbg h.mb ht.node,hs⟩;rcases Nat.eq_zero_or_pos (q01 b.1 b.2 t).length with h0|h0
 ·rw[gL h0]at hs;cases hs
 ·exact h0
def one(v:Int)(t:List Int):Bnd:=([v],[t])
def q5w(b:Bnd)(v:Int)(t:List Int):Option Bnd:=
 if(b.2.any fun x=>decide (24<(q01 [v] [t] x).length))=true then none else some (bput (b.1,b.2.map (q01 [v] [t])) v t)
theorem qes(v:Int)(t:List Int)(w:Int):q3c [v] [t] w=if v=w then some t else none:=by
 by_cases h:v=w
 ·subst h;simp[q3c,idx]
 ·rw[if_neg h];exact q9b (by simpa using fun e=>h e.symm)
theorem qta{l:List Symbol}{v:Int}(hv:0<=v/\v<=11){t:List Int}(ht:TermOk l t):MB l (one v t) 1:=⟨rfl,gAI _,fun x hx=>by rw[gD.1 hx];exact hv,fun x hx=>by rw[gD.1 hx];exact ht⟩
theorem qrm{l:List Int}{i:Nat}{x:Int}(h:l.Nodup)(hx:x∉l):(ins l i x).Nodup:=by
 unfold ins
 have hp:(l.take i++x::l.drop i).Perm (x::l):=by
  refine List.perm_middle.trans ?_;rw[List.take_append_drop]
 exact hp.nodup_iff.2 (List.nodup_cons.2 ⟨hx,h⟩)
theorem qo6{l:List Int}{i:Nat}{x y:Int}:y∈ins l i x<->y=x\/y∈l:=by
 unfold ins;constructor
 ·intro h;rcases gO.1 h with h|h
  ·exact .inr (List.mem_of_mem_take h)
  ·rcases gK.1 h with h|h
   ·exact .inl h
   ·exact .inr (List.mem_of_mem_drop h)
 ·rintro(rfl|h)
  ·simp
  ·rw[<- List.take_append_drop i l,gO]at h;rcases h with h|h
   ·exact gJ _ h
   ·exact gN _ (gF _ h)
theorem qt5{vs:List Int}(h:vs.Nodup)(hv:∀v∈vs,0<=v/\v<=11):vs.length<=12:=qt0 12 vs h fun v hm=>by have:=hv v hm;omega
theorem qeh{l:List Symbol}{b:Bnd}(h:UB l b){v:Int}(hv:0<=v/\v<=11)(hnb:v∉b.1){t:List Int}(ht:TermOk l t)(hf:Free b t)(hvt:(-1-v)∉t){b':Bnd}(hb:q5w b v t=some b') :
 UB l b'/\b'.1.length=b.1.length+1:=by
 unfold q5w at hb;split at hb
 ·cases hb
 rename_i hany;cases hb;have hi:=qe1 b.1 v;have hlen:=h.mb.len;have hmem:∀w,w∈(bput (b.1,b.2.map (q01 [v] [t])) v t).1<->w=v\/w∈b.1:=fun w=>qo6;have hnd:(bput (b.1,b.2.map (q01 [v] [t])) v t).1.Nodup:=qrm h.nd hnb
 have hvar:∀w∈(bput (b.1,b.2.map (q01 [v] [t])) v t).1,0<=w/\w<=11:=fun w hw=>by
  rcases(hmem w).1 hw with rfl|hw
  ·exact hv
  ·exact h.mb.var w hw
 have hl1:(bput (b.1,b.2.map (q01 [v] [t])) v t).1.length=b.1.length+1:=q70 _ _ _ hi;have hone:=qta hv ht
 have tm:∀x∈(bput (b.1,b.2.map (q01 [v] [t])) v t).2,TermOk l x/\Free (bput (b.1,b.2.map (q01 [v] [t])) v t) x:=fun x hx=>by
  rcases qjp hx with rfl|hx
  ·refine⟨ht,fun n hn hm=>?_⟩;rcases(hmem _).1 hm with e|hm
   ·exact hvt (by have:n = -1-v:=by omega
                  exact this▸hn)
   ·exact hf n hn hm
  ·obtain⟨y,hy,rfl⟩:=List.mem_map.1 hx;have hyo:=h.mb.tm y hy
   have hle:(q01 [v] [t] y).length<=24:=by
    rcases Nat.lt_or_ge 24 (q01 [v] [t] y).length with h24|h24
    ·exact absurd (List.any_eq_true.2 ⟨y,hy,decide_eq_true h24⟩) hany
    ·exact h24
   refine⟨?_,?_⟩
   ·have hs:=qa1 hone (by omega) y [] 1 hyo.skip;rw[gAD]at hs;refine⟨?_,hle,qbg hone hyo.node,hs⟩;rcases Nat.eq_zero_or_pos (q01 [v] [t] y).length with h0|h0
    ·have hs:skip (ar l) 1 (q01 [v] [t] y)=some []:=hs;rw[gL h0]at hs;cases hs
    ·exact h0
   ·refine qdi (P:=fun n=>(-1-n)∉(bput (b.1,b.2.map (q01 [v] [t])) v t).1) (fun z hz n hn hm=>?_) (fun n hn hno hm=>?_)
    ·rw[gD.1 hz]at hn;rcases(hmem _).1 hm with e|hm
     ·exact hvt (by have:n = -1-v:=by omega
                    exact this▸hn)
     ·exact hf n hn hm
    ·rcases(hmem _).1 hm with e|hm
     ·rw[qes,if_pos e.symm]at hno;cases hno
     ·exact h.free y hy n hn hm
 refine⟨⟨⟨?_,?_,hvar,fun x hx=>(tm x hx).1⟩,hnd,fun x hx=>(tm x hx).2⟩,hl1⟩
 ·rw[hl1];show _=(ins (b.2.map (q01 [v] [t])) (q76 b.1 v) t).length;rw[q70 _ _ _ (by simp;omega)];simp;omega
 ·exact qt5 hnd hvar
abbrev Pr:=Equation
def q6f(l:List Symbol)(x y:List Int):List Pr:=((q3i l x 0).zip (q3i l y 0)).map fun p=>⟨q2s l x p.1,q2s l y p.2⟩
def q7q(b:Bnd)(ps:List Pr):Nat:=(ps.map fun p=>(q01 b.1 b.2 p.left).length+(q01 b.1 b.2 p.right).length).sum
theorem qj2{l:List Symbol}{t:List Int}(ht:TermOk l t):∀{n p:Nat}{r:List Int},skip (ar l) n (t.drop p)=some r->((q7e l t n p).map fun q=>(q2s l t q).length).sum+r.length=t.length-p
 |0,p,r,h=>by
  rw[q3l]at h;rw[<- Option.some.inj h];simp[q7e]
 |n+1,p,r,h=>by
  obtain⟨h1,h2,h3,h4⟩:=qdr h;have ih:=qj2 ht h2;have hs:=(q54 ht h1).2.1;rw[q7e,List.map_cons,List.sum_cons];omega
theorem qp9{l:List Symbol}{t:List Int}(ht:TermOk l t):((q3i l t 0).map fun q=>(q2s l t q).length).sum+1=t.length:=by
 have hp:=ht.pos;obtain⟨r,hr⟩:=qby ht (p:=0) (by omega);have hd:t.getD 0 0=t[0]:=q8c (by omega);have h:=qj2 ht hr;have hw:=ht.skip
 have e:t=t[0]::t.drop 1:=by
  have:=gH (l:=t) (i:=0) (by omega);rwa[List.drop_zero]at this
 rw[e,skip,gAJ]at hw;rw[gAJ,hw]at hr;have:r=[]:=(Option.some.inj hr).symm;subst this;unfold q3i;rw[hd];simp at h ⊢;omega
theorem qrq{α β:Type}(f:α->Nat)(g:β->Nat):∀(A:List α)(B:List β),A.length=B.length->((A.zip B).map fun p=>f p.1+g p.2).sum=(A.map f).sum+(B.map g).sum
 |[],[],_=>rfl
 |a::A,b::B,h=>by
  have ih:=qrq f g A B (by simpa using h);simp only[List.zip_cons_cons,List.map_cons,List.sum_cons]at ih ⊢;omega
 |[],_::_,h=>by simp at h
 |_::_,[],h=>by simp at h
theorem qm2{l:List Symbol}{t:List Int}{p:Nat}:∀n∈q2s l t p,n∈t:=fun n hn=>List.mem_of_mem_take (List.mem_of_mem_drop hn)
theorem q5v{l:List Symbol}{b:Bnd}{x y:List Int}(hx:TermOk l x)(hy:TermOk l y)(fx:Free b x)(fy:Free b y)(he:x.getD 0 0=y.getD 0 0):q7q b (q6f l x y)+2=x.length+y.length:=by
 have e:(q6f l x y).map (fun p=>(q01 b.1 b.2 p.left).length+(q01 b.1 b.2 p.right).length)=((q3i l x 0).zip (q3i l y 0)).map fun p=>(q2s l x p.1).length+(q2s l y p.2).length:=by
  unfold q6f;rw[List.map_map];refine List.map_congr_left fun p hp=>?_;show(q01 b.1 b.2 (q2s l x p.1)).length+(q01 b.1 b.2 (q2s l y p.2)).length=_;rw[applied_free fun n hn=>fx n (qm2 n hn),applied_free fun n hn=>fy n (qm2 n hn)]
 have hl:(q3i l x 0).length=(q3i l y 0).length:=by unfold q3i;rw[q71,q71,he]
 unfold q7q;rw[e,qrq (fun p=>(q2s l x p).length) (fun q=>(q2s l y q).length) _ _ hl];have:=qp9 hx;have:=qp9 hy;omega
theorem qos{l:List Symbol}{x y:List Int}(hx:TermOk l x)(hy:TermOk l y):∀p∈q6f l x y,TermOk l p.left/\TermOk l p.right:=fun p hp=>by
 unfold q6f at hp;obtain⟨q,hq,rfl⟩:=List.mem_map.1 hp;have h1:=q72 hx (p:=0) (by have:=hx.pos;omega) (List.of_mem_zip hq).1;have h2:=q72 hy (p:=0) (by have:=hy.pos;omega) (List.of_mem_zip hq).2;exact⟨q6g hx h1.2,q6g hy h2.2⟩
def unif(l:List Symbol):Nat->Bnd->List Pr->Option (Bnd ⊕ Int)
 |0,_,_=>none
 |_+1,b,[]=>some (.inl b)
 |n+1,b,p::ps=>
  if 24<(q01 b.1 b.2 p.left).length\/24<(q01 b.1 b.2 p.right).length then some (.inr 2)
  else if q01 b.1 b.2 p.left=q01 b.1 b.2 p.right then unif l n b ps
  else if(q01 b.1 b.2 p.left).getD 0 0<0 then
   if(q01 b.1 b.2 p.left).getD 0 0∈q01 b.1 b.2 p.right then some (.inr 4)else match q5w b (-1-(q01 b.1 b.2 p.left).getD 0 0) (q01 b.1 b.2 p.right)with
    |none=>some (.inr 2)
    |some b'=>unif l n b' ps
  else if(q01 b.1 b.2 p.right).getD 0 0<0 then
   if(q01 b.1 b.2 p.right).getD 0 0∈q01 b.1 b.2 p.left then some (.inr 4)else match q5w b (-1-(q01 b.1 b.2 p.right).getD 0 0) (q01 b.1 b.2 p.left)with
    |none=>some (.inr 2)
    |some b'=>unif l n b' ps
  else if(q01 b.1 b.2 p.left).getD 0 0≠(q01 b.1 b.2 p.right).getD 0 0 then some (.inr 4)
  else unif l n b (q6f l (q01 b.1 b.2 p.left) (q01 b.1 b.2 p.right)++ps)
theorem qgi{l:List Symbol}:∀{n m:Nat}{b:Bnd}{ps:List Pr}{r:Bnd ⊕ Int},unif l n b ps=some r->n<=m->unif l m b ps=some r
 |0,m,b,ps,r,h,hm=>by cases h
 |n+1,m,b,ps,r,h,hm=>by
  obtain⟨m,rfl⟩:∃q,m=q+1:=⟨m-1,by omega⟩;have ih:∀{b:Bnd}{ps:List Pr}{r:Bnd ⊕ Int},unif l n b ps=some r->unif l m b ps=some r:=fun h=>qgi h (by omega);cases ps with
  |nil=>exact h
  |cons p ps=>
   rw[unif]at h ⊢;split at h
   ·rename_i c;rw[if_pos c];exact h
   rename_i c;rw[if_neg c];split at h
   ·rename_i c;rw[if_pos c];exact ih h
   rename_i c;rw[if_neg c];split at h
   ·rename_i c;rw[if_pos c];split at h
    ·rename_i c;rw[if_pos c];exact h
    rename_i c;rw[if_neg c];split at h
    ·exact h
    ·exact ih h
   rename_i c;rw[if_neg c];split at h
   ·rename_i c;rw[if_pos c];split at h
    ·rename_i c;rw[if_pos c];exact h
    rename_i c;rw[if_neg c];split at h
    ·exact h
    ·exact ih h
   rename_i c;rw[if_neg c];split at h
   ·rename_i c;rw[if_pos c];exact h
   rename_i c;rw[if_neg c];exact ih h
theorem UB.head_var{l:List Symbol}{b:Bnd}(h:UB l b){t:List Int}(hx:TermOk l (q01 b.1 b.2 t))(hn:(q01 b.1 b.2 t).getD 0 0<0) :
 (0 <= -1-(q01 b.1 b.2 t).getD 0 0 /\ -1-(q01 b.1 b.2 t).getD 0 0<=11) /\ -1-(q01 b.1 b.2 t).getD 0 0∉b.1:=by
 have hp:=hx.pos;have hd:(q01 b.1 b.2 t).getD 0 0=(q01 b.1 b.2 t)[0]:=q8c (by omega);have hm:(q01 b.1 b.2 t).getD 0 0∈q01 b.1 b.2 t:=by rw[hd];exact gG _
 have:=q49.1 (hx.node _ hm);exact⟨by omega,h.applied_free t _ hm⟩
theorem qss{l:List Symbol}:∀(d k:Nat)(b:Bnd)(ps:List Pr),UB l b->(∀p∈ps,TermOk l p.left/\TermOk l p.right)->12-b.1.length<=d->q7q b ps<=k->
 ∃n r,unif l n b ps=some r/\∀b',r=.inl b'->UB l b':=by
 intro d;induction d with
 |zero=>
  intro k;induction k using Nat.strongRecOn with
  |_ k ihk=>exact fun b ps=>unif_step 0 k (fun d' hd'=>by omega) ihk b ps
 |succ d ihd=>
  intro k;induction k using Nat.strongRecOn with
  |_ k ihk=>exact fun b ps=>unif_step (d+1) k (fun d' hd' k b ps h1 h2 h3 h4=>ihd k b ps h1 h2 (by omega) h4) ihk b ps
where
 unif_step {l:List Symbol} (d k:Nat)
  (ihd:∀d',d'<d->∀(k:Nat)(b:Bnd)(ps:List Pr),UB l b->(∀p∈ps,TermOk l p.left/\TermOk l p.right)->12-b.1.length<=d'->q7q b ps<=k->∃n r,unif l n b ps=some r/\∀b',r=.inl b'->UB l b')
  (ihk:∀k',k'<k->∀(b:Bnd)(ps:List Pr),UB l b->(∀p∈ps,TermOk l p.left/\TermOk l p.right)->12-b.1.length<=d->q7q b ps<=k'->∃n r,unif l n b ps=some r/\∀b',r=.inl b'->UB l b')
  (b:Bnd) (ps:List Pr) (hb:UB l b) (hps:∀p∈ps,TermOk l p.left/\TermOk l p.right) (hd:12-b.1.length<=d) (hk:q7q b ps<=k):∃n r,unif l n b ps=some r/\∀b',r=.inl b'->UB l b':=by
  cases ps with
  |nil=>exact⟨1,.inl b,rfl,fun b' e=>by cases e;exact hb⟩
  |cons p ps=>
   have hp:=hps p (by simp);have hps':∀q∈ps,TermOk l q.left/\TermOk l q.right:=fun q hq=>hps q (gF _ hq);have hsz:q7q b (p::ps)=(q01 b.1 b.2 p.left).length+(q01 b.1 b.2 p.right).length+q7q b ps:=by simp[q7q]
   by_cases c1:24<(q01 b.1 b.2 p.left).length\/24<(q01 b.1 b.2 p.right).length
   ·exact⟨1,.inr 2,by rw[unif,if_pos c1],fun _ e=>by cases e⟩
   have hx:=hb.applied_ok hp.1 (by omega);have hy:=hb.applied_ok hp.2 (by omega);have hxp:=hx.pos;by_cases c2:q01 b.1 b.2 p.left=q01 b.1 b.2 p.right
   ·obtain⟨n,r,h1,h2⟩:=ihk (q7q b ps) (by omega) b ps hb hps' hd (gAI _);exact⟨n+1,r,by rw[unif,if_neg c1,if_pos c2];exact h1,h2⟩
   have bindcase:∀(u t:List Int),TermOk l (q01 b.1 b.2 u)->TermOk l (q01 b.1 b.2 t)->(q01 b.1 b.2 u).getD 0 0<0->(q01 b.1 b.2 u).getD 0 0∉q01 b.1 b.2 t->∀b',q5w b (-1-(q01 b.1 b.2 u).getD 0 0) (q01 b.1 b.2 t)=some b'->
    ∃n r,unif l n b' ps=some r/\∀b',r=.inl b'->UB l b':=fun u t hu ht hneg hno b' hb'=>by
    obtain⟨hv,hnb⟩:=hb.head_var hu hneg;obtain⟨q1,q2⟩:=qeh hb hv hnb ht (hb.applied_free t) (by rw[show -1-(-1-(q01 b.1 b.2 u).getD 0 0)=(q01 b.1 b.2 u).getD 0 0 by omega];exact hno) hb';have:=q1.le;exact ihd (d-1) (by omega) (q7q b' ps) b' ps q1 hps' (by omega) (gAI _)
   by_cases c3:(q01 b.1 b.2 p.left).getD 0 0<0
   ·by_cases c4:(q01 b.1 b.2 p.left).getD 0 0∈q01 b.1 b.2 p.right
    ·exact⟨1,.inr 4,by rw[unif,if_neg c1,if_neg c2,if_pos c3,if_pos c4],fun _ e=>by cases e⟩
    cases hb':q5w b (-1-(q01 b.1 b.2 p.left).getD 0 0) (q01 b.1 b.2 p.right)with
    |none=>exact⟨1,.inr 2,by rw[unif,if_neg c1,if_neg c2,if_pos c3,if_neg c4,hb'],fun _ e=>by cases e⟩
    |some b'=>
     obtain⟨n,r,h1,h2⟩:=bindcase p.left p.right hx hy c3 c4 b' hb';exact⟨n+1,r,by rw[unif,if_neg c1,if_neg c2,if_pos c3,if_neg c4,hb'];exact h1,h2⟩
   by_cases c5:(q01 b.1 b.2 p.right).getD 0 0<0
   ·by_cases c4:(q01 b.1 b.2 p.right).getD 0 0∈q01 b.1 b.2 p.left
    ·exact⟨1,.inr 4,by rw[unif,if_neg c1,if_neg c2,if_neg c3,if_pos c5,if_pos c4],fun _ e=>by cases e⟩
    cases hb':q5w b (-1-(q01 b.1 b.2 p.right).getD 0 0) (q01 b.1 b.2 p.left)with
    |none=>exact⟨1,.inr 2,by rw[unif,if_neg c1,if_neg c2,if_neg c3,if_pos c5,if_neg c4,hb'],fun _ e=>by cases e⟩
    |some b'=>
     obtain⟨n,r,h1,h2⟩:=bindcase p.right p.left hy hx c5 c4 b' hb';exact⟨n+1,r,by rw[unif,if_neg c1,if_neg c2,if_neg c3,if_pos c5,if_neg c4,hb'];exact h1,h2⟩
   by_cases c6:(q01 b.1 b.2 p.left).getD 0 0=(q01 b.1 b.2 p.right).getD 0 0
   ·have ha:=q5v (b:=b) hx hy (hb.applied_free _) (hb.applied_free _) c6;have happ:q7q b (q6f l (q01 b.1 b.2 p.left) (q01 b.1 b.2 p.right)++ps)=q7q b (q6f l (q01 b.1 b.2 p.left) (q01 b.1 b.2 p.right))+q7q b ps:=by simp[q7q]
    obtain⟨n,r,h1,h2⟩:=ihk _ (show q7q b (q6f l (q01 b.1 b.2 p.left) (q01 b.1 b.2 p.right)++ps)<k by omega) b _ hb (fun q hq=>by
     rcases gO.1 hq with hq|hq
     ·exact qos hx hy q hq
     ·exact hps' q hq) hd (gAI _)
    exact⟨n+1,r,by rw[unif,if_neg c1,if_neg c2,if_neg c3,if_neg c5,if_neg (by simpa using c6)];exact h1,h2⟩
   ·exact⟨1,.inr 4,by rw[unif,if_neg c1,if_neg c2,if_neg c3,if_neg c5,if_pos c6],fun _ e=>by cases e⟩
def q3o(t:List Int)(by_:Int):List Int:=t.map fun n=>if n<0 then n-by_ else n
theorem qph{a:Int->Nat}{f:Int->Int}:∀{t:List Int}{k:Nat}{r:List Int},(∀n∈t,a (f n)=a n)->skip a k t=some r->skip a k (t.map f)=some (r.map f)
 |t,0,r,_,h=>by rw[q3l]at h;cases h;rw[q3l]
 |[],k+1,r,_,h=>by cases h
 |n::t,k+1,r,hf,h=>by
  rw[skip]at h;rw[List.map_cons,skip,hf n (by simp)];exact qph (fun m hm=>hf m (gF _ hm)) h
theorem q9a{l:List Symbol}{t:List Int}(ht:TermOk l t)(hlow:∀n∈t,-6<=n):TermOk l (q3o t 6):=by
 refine⟨by unfold q3o;rw[gAG];exact ht.pos,by unfold q3o;rw[gAG];exact ht.le,fun n hn=>?_,?_⟩
 ·unfold q3o at hn;obtain⟨m,hm,rfl⟩:=List.mem_map.1 hn;have h1:=q49.1 (ht.node m hm);have h2:=hlow m hm;rw[q49];split <;> omega
 ·refine qph (fun n hn=>?_) ht.skip;by_cases h:n<0
  ·rw[if_pos h,qa3 l h,qa3 l (by omega)]
  ·rw[if_neg h]
theorem q8q{b:Bnd}{l:List Symbol}{k:Nat}(hb:MB l b k):∀t:List Int,t.length<=(q01 b.1 b.2 t).length
 |[]=>by simp[q01]
 |n::t=>by
  have ih:=q8q hb t;have e:q01 b.1 b.2 (n::t)=(q3c b.1 b.2 (-1-n)).getD [n]++q01 b.1 b.2 t:=by simp[q01]
  rw[e,gM,gAB];cases ho:q3c b.1 b.2 (-1-n)with
  |none=>simp;omega
  |some o=>
   have:=(hb.tm o (q4s ho)).pos;simp;omega
def q7p(seen:List Int)(n:Int):Int×List Int:=
 if 0<=n then(n,seen)else if idx (fun x=>decide (x=n)) seen<0 then(-1-(seen.length:Int),seen++[n])else(-1-idx (fun x=>decide (x=n)) seen,seen)
def q2k:List Int->List Int->List Int×List Int
 |seen,[]=>([],seen)
 |seen,n::t=>((q7p seen n).1::(q2k (q7p seen n).2 t).1,(q2k (q7p seen n).2 t).2)
theorem qb1:∀(seen a b:List Int),q2k seen (a++b)=((q2k seen a).1++(q2k (q2k seen a).2 b).1,(q2k (q2k seen a).2 b).2)
 |seen,[],b=>rfl
 |seen,n::a,b=>by
  rw[List.cons_append,q2k,qb1,q2k];rfl
theorem q4j:∀(seen t:List Int),(q2k seen t).1.length=t.length/\(q2k seen t).2.length<=seen.length+t.length/\seen.length<=(q2k seen t).2.length
 |seen,[]=>⟨rfl,by simp[q2k],by simp[q2k]⟩
 |seen,n::t=>by
  have ih:=q4j (q7p seen n).2 t
  have hp:(q7p seen n).2.length<=seen.length+1/\seen.length<=(q7p seen n).2.length:=by
   unfold q7p;split
   ·exact⟨by simp,by simp⟩
   split
   ·simp
   ·exact⟨by simp,by simp⟩
  rw[q2k];simp only[gAB];omega
theorem qcx:∀(seen t:List Int),∀m∈(q2k seen t).1,(0<=m/\m∈t)\/(m<0 /\ -((q2k seen t).2.length:Int)<=m)
 |seen,[],m,h=>by cases h
 |seen,n::t,m,h=>by
  rw[q2k]at h ⊢;have hl:=(q4j (q7p seen n).2 t).2.2;rcases gK.1 h with rfl|h
  ·unfold q7p at hl ⊢;split
   ·exact .inl ⟨by assumption,by simp⟩
   rename_i h0;rw[if_neg h0]at hl;split
   ·rename_i h1;rw[if_pos h1]at hl;simp only[gM,List.length_singleton]at hl;exact .inr ⟨by simp only;omega,by simp only;omega⟩
   ·rename_i h1;rw[if_neg h1]at hl;rcases q8s (fun x:Int=>decide (x=n)) seen with⟨h2,_⟩|⟨i,hi,h2,_⟩
    ·omega
    ·simp only at hl ⊢;exact .inr ⟨by omega,by omega⟩
  ·rcases qcx (q7p seen n).2 t m h with h|h
   ·exact .inl ⟨h.1,gF _ h.2⟩
   ·exact .inr h
def qbm(e:Equation):Equation:=⟨(q2k [] e.left).1,(q2k (q2k [] e.left).2 e.right).1⟩
def qa6(e:Equation):List Int:=(q2k (q2k [] e.left).2 e.right).2
theorem qga{l:List Symbol}:∀(t seen r:List Int)(k:Nat),skip (ar l) k t=some r->∃r',skip (ar l) k (q2k seen t).1=some r'/\r'.length=r.length
 |[],seen,r,k,h=>by
  obtain⟨rfl,rfl⟩:=qks h;exact⟨[],by rw[q3l];rfl,rfl⟩
 |n::t,seen,r,0,h=>by
  rw[q3l]at h;cases h;exact⟨_,q3l _,(q4j seen (n::t)).1⟩
 |n::t,seen,r,k+1,h=>by
  rw[skip]at h;obtain⟨r',h1,h2⟩:=qga t (q7p seen n).2 r _ h;refine⟨r',?_,h2⟩;rw[q2k,skip]
  have e:ar l (q7p seen n).1=ar l n:=by
   unfold q7p;split
   ·rfl
   rename_i h0;split
   ·rw[qa3 l (by simp only;omega),qa3 l (by omega)]
   ·rename_i h1;rw[qa3 l (by simp only;omega),qa3 l (by omega)]
  rw[e];exact h1
theorem qiz{l:List Symbol}{t seen:List Int}(ht:TermOk l t)(h6:(q2k seen t).2.length<=6):TermOk l (q2k seen t).1/\∀n∈(q2k seen t).1,-6<=n:=by
 have hl:=(q4j seen t).1;obtain⟨r',h1,h2⟩:=qga (l:=l) t seen [] 1 ht.skip;have:r'=[]:=gL h2;subst this;refine⟨⟨by rw[hl];exact ht.pos,by rw[hl];exact ht.le,fun n hn=>?_,h1⟩,fun n hn=>?_⟩
 ·rcases qcx seen t n hn with⟨q1,q2⟩|⟨q1,q2⟩
  ·exact ht.node n q2
  ·rw[q49];omega
 ·rcases qcx seen t n hn with⟨q1,_⟩|⟨_,q2⟩ <;> omega
theorem qjx{l:List Symbol}{e:Equation}(hl:TermOk l e.left)(hr:TermOk l e.right)(h6:(qa6 e).length<=6):EqOk l (qbm e):=by
 have h1:=(q4j (q2k [] e.left).2 e.right).2.2;have h2:(q2k (q2k [] e.left).2 e.right).2.length<=6:=h6;obtain⟨q1,q2⟩:=qiz (seen:=[]) hl (by omega);obtain⟨q3,q4⟩:=qiz (seen:=(q2k [] e.left).2) hr h2;exact⟨q1,q3,q2,q4⟩
open Classical in
noncomputable def qe2(l:List Symbol)(a b:List Int):Bnd ⊕ Int:=if h:∃n r,unif l n ([],[]) [⟨a,b⟩]=some r then Classical.choose (Classical.choose_spec h)else .inr 0
theorem q8p{l:List Symbol}{a b:List Int}(ha:TermOk l a)(hb:TermOk l b):(∃n,unif l n ([],[]) [⟨a,b⟩]=some (qe2 l a b))/\∀x,qe2 l a b=.inl x->UB l x:=by
 obtain⟨n,r,h1,h2⟩:=qss (l:=l) 12 _ ([],[]) [⟨a,b⟩] (UB.nil l) (fun p hp=>by rw[gD.1 hp];exact⟨ha,hb⟩) (by simp) (gAI _);have h:∃n r,unif l n ([],[]) [⟨a,b⟩]=some r:=⟨n,r,h1⟩;have e:qe2 l a b=Classical.choose (Classical.choose_spec h):=by unfold qe2;rw[dif_pos h]
 have hs:=Classical.choose_spec (Classical.choose_spec h);rw[<- e]at hs;refine⟨⟨_,hs⟩,fun x hx=>?_⟩
 have:qe2 l a b=r:=by
  have q1:=qgi hs (Nat.le_max_left _ n);have q2:=qgi h1 (Nat.le_max_right (Classical.choose h) n);rw[q1]at q2;exact Option.some.inj q2
 exact h2 x (this▸hx)
noncomputable def qet(l:List Symbol)(o i:Equation)(p:Nat):EquationResult:=match qe2 l (q2s l o.left p) (q3o i.left 6)with
 |.inr c=>⟨c,⟨[],[]⟩⟩
 |.inl b=>
  if 24<(q01 b.1 b.2 o.right).length\/24<(q01 b.1 b.2 (q32 l o.left p (q3o i.right 6))).length then⟨2,⟨[],[]⟩⟩
  else if 6<(qa6 ⟨q01 b.1 b.2 o.right,q01 b.1 b.2 (q32 l o.left p (q3o i.right 6))⟩).length then⟨2,⟨[],[]⟩⟩
  else⟨0,qbm ⟨q01 b.1 b.2 o.right,q01 b.1 b.2 (q32 l o.left p (q3o i.right 6))⟩⟩
end Ev.Ty
end
section
namespace Ev.Ty
open Go Ev
theorem qar(vs:List Int)(ts:List (List Int))(a b:List Int):q01 vs ts (a++b)=q01 vs ts a++q01 vs ts b:=List.flatMap_append
theorem q8f(vs:List Int)(ts:List (List Int))(n:Int):q01 vs ts [n]=(q3c vs ts (-1-n)).getD [n]:=by
 show[n].flatMap _=_;rw[gAN,List.flatMap_nil,gAD]
theorem q63(vs:List Int)(ts:List (List Int))(n:Int)(t:List Int):q01 vs ts (n::t)=q01 vs ts [n]++q01 vs ts t:=qar vs ts [n] t
def Ext(b c:Bnd):Prop:=∀t,q01 c.1 c.2 (q01 b.1 b.2 t)=q01 c.1 c.2 t
theorem Ext.of{b c:Bnd}(h:∀n,q01 c.1 c.2 (q01 b.1 b.2 [n])=q01 c.1 c.2 [n]):Ext b c:=by
 intro t;induction t with
 |nil=>rfl
 |cons n t ih=>rw[q63,qar,h,ih,<- q63]
theorem Ext.trans{b c d:Bnd}(h1:Ext b c)(h2:Ext c d):Ext b d:=fun t=>by rw[<- h2 (q01 b.1 b.2 t),h1,h2]
theorem UB.ext{l:List Symbol}{b:Bnd}(h:UB l b):Ext b b:=fun t=>_root_.Ev.Ty.applied_free (h.applied_free t)
theorem qql{f:List Int->List Int}(vs:List Int)(ts:List (List Int))(v:Int):q3c vs (ts.map f) v=(q3c vs ts v).map f:=by
 unfold q3c;split
 ·rfl
 ·rw[gAC]
theorem qba{vs vs':List Int}{ts ts':List (List Int)}:∀{t:List Int},(∀n∈t,q01 vs ts [n]=q01 vs' ts' [n])->q01 vs ts t=q01 vs' ts' t
 |[],_=>rfl
 |n::t,h=>by rw[q63 vs ts n t,q63 vs' ts' n t,h n (List.mem_cons_self ..),qba fun m hm=>h m (gF _ hm)]
theorem qoq{l:List Symbol}{b:Bnd}(h:UB l b){v:Int}(hnb:v∉b.1){t:List Int}(hf:Free b t)(hvt:(-1-v)∉t){b1:Bnd}(hb:q5w b v t=some b1) :
 Ext b b1/\q01 b1.1 b1.2 [-1-v]=t/\q01 b1.1 b1.2 t=t:=by
 unfold q5w at hb;split at hb
 ·cases hb
 cases hb;have hl:b.1.length=(b.2.map (q01 [v] [t])).length:=by rw[gAG];exact h.mb.len
 have hput:∀w,q3c (bput (b.1,b.2.map (q01 [v] [t])) v t).1 (bput (b.1,b.2.map (q01 [v] [t])) v t).2 w=if v=w then some t else(q3c b.1 b.2 w).map (q01 [v] [t]):=fun w=>by
  have:=qj4 (b:=(b.1,b.2.map (q01 [v] [t]))) (t:=t) hl hnb w;rw[this];by_cases e:v=w
  ·rw[if_pos e,if_pos e]
  ·rw[if_neg e,if_neg e];exact qql b.1 b.2 w
 generalize bput (b.1,b.2.map (q01 [v] [t])) v t=b1 at *
 have free:∀s,Free b s->q01 b1.1 b1.2 s=q01 [v] [t] s:=fun s hs=>qba fun n hn=>by
  rw[q8f,q8f,hput,qes,q9b (hs n hn)];rfl
 refine⟨Ext.of fun n=>?_,?_,?_⟩
 ·rw[q8f b.1];cases e:q3c b.1 b.2 (-1-n)with
  |none=>rfl
  |some s=>
   show q01 b1.1 b1.2 s=_;rw[q8f,hput,e,if_neg (fun hv=>hnb (by rw[hv];exact Classical.byContradiction fun hm=>by rw[q9b hm]at e;cases e)),free s (h.free s (q4s e))];rfl
 ·rw[q8f,hput,if_pos (by omega)];rfl
 ·rw[free t hf]
  have:∀n∈t,q01 [v] [t] [n]=q01 [] [] [n]:=fun n hn=>by
   rw[q8f,qes,if_neg (fun e=>hvt (by rw[e,show -1-(-1-n)=n by omega];exact hn))];rfl
  rw[qba this]
  have nil:∀s:List Int,q01 [] [] s=s:=fun s=>by
   induction s with
   |nil=>rfl
   |cons n s ih=>rw[q63,ih];rfl
  exact nil t
theorem qv1{l:List Symbol}(ok:SigOk ⟨l⟩){X Y:List Int}(hX:TermOk l X)(hY:TermOk l Y){vs:List Int}{ts:List (List Int)}(hn:¬ X.getD 0 0<0)(he:X.getD 0 0=Y.getD 0 0)
 (h:∀p∈q6f l X Y,q01 vs ts p.left=q01 vs ts p.right):q01 vs ts X=q01 vs ts Y:=by
 obtain⟨x,hx,ex⟩:=hX.atZero ok;obtain⟨y,hy,ey⟩:=hY.atZero ok;have fx:=hx.args;have fy:=hy.args;have hdx:X.getD 0 0=x.head:=hx.facts.2.1;have hdy:Y.getD 0 0=y.head:=hy.facts.2.1;rw[hdx]at hn he;rw[hdy]at he;have okx:=hx.1;have oky:=hy.1;unfold q6f at h;generalize q3i l X 0=sx at *;generalize q3i l Y 0=sy at *;cases x with
 |v n=>exact absurd okx hn
 |k n=>
  cases y with
  |v m=>have:m<0:=oky;have he:n=m:=he;have:=okx.1;omega
  |k m=>have he:n=m:=he;subst he;rw[ex,ey]
  |u m y=>have he:n=m:=he;subst he;have:=okx.2;have:=oky.2.1;omega
  |b m y z=>have he:n=m:=he;subst he;have:=okx.2;have:=oky.2.1;omega
 |u n x=>
  cases y with
  |v m=>have:m<0:=oky;have he:n=m:=he;have:=okx.1;omega
  |k m=>have he:n=m:=he;subst he;have:=okx.2.1;have:=oky.2;omega
  |u m y=>
   have he:n=m:=he;subst he;cases fx with
   |cons a1 r1=>
    cases r1;cases fy with
    |cons b1 r2=>
     cases r2;have:=h ⟨q2s l X _,q2s l Y _⟩ (gD.2 rfl);simp only at this;rw[a1.facts.2.2.2,b1.facts.2.2.2]at this;rw[ex,ey];show q01 vs ts (n::x.flat)=q01 vs ts (n::y.flat);rw[q63,q63 vs ts n y.flat,this]
  |b m y z=>have he:n=m:=he;subst he;have:=okx.2.1;have:=oky.2.1;omega
 |b n x x2=>
  cases y with
  |v m=>have:m<0:=oky;have he:n=m:=he;have:=okx.1;omega
  |k m=>have he:n=m:=he;subst he;have:=okx.2.1;have:=oky.2;omega
  |u m y=>have he:n=m:=he;subst he;have:=okx.2.1;have:=oky.2.1;omega
  |b m y y2=>
   have he:n=m:=he;subst he;cases fx with
   |cons a1 r1=>
    cases r1 with
    |cons a2 r1=>
     cases r1;cases fy with
     |cons b1 r2=>
      cases r2 with
      |cons b2 r2=>
       cases r2;have h1:=h ⟨q2s l X _,q2s l Y _⟩ (List.mem_cons_self ..);have h2:=h ⟨q2s l X _,q2s l Y _⟩ (gF _ (gD.2 rfl));simp only at h1 h2;rw[a1.facts.2.2.2,b1.facts.2.2.2]at h1;rw[a2.facts.2.2.2,b2.facts.2.2.2]at h2;rw[ex,ey];show q01 vs ts (n::(x.flat++x2.flat))=q01 vs ts (n::(y.flat++y2.flat));rw[q63,q63 vs ts n (y.flat++y2.flat),qar,qar,h1,h2]
theorem qv7{l:List Symbol}(ok:SigOk ⟨l⟩){t:List Int}(ht:TermOk l t)(h:t.getD 0 0<0):t=[t.getD 0 0]:=by
 obtain⟨x,hx,ex⟩:=ht.atZero ok;have hd:t.getD 0 0=x.head:=hx.facts.2.1;have okx:=hx.1;rw[hd]at h ⊢;cases x with
 |v n=>exact ex
 |k n=>have:=okx.1;have h:n<0:=h;omega
 |u n x=>have:=okx.1;have h:n<0:=h;omega
 |b n x y=>have:=okx.1;have h:n<0:=h;omega
theorem qr4{l:List Symbol}(ok:SigOk ⟨l⟩):∀(n:Nat)(b:Bnd)(ps:List Pr)(b':Bnd),UB l b->(∀p∈ps,TermOk l p.left/\TermOk l p.right)->unif l n b ps=some (.inl b')->
 Ext b b'/\UB l b'/\∀p∈ps,q01 b'.1 b'.2 p.left=q01 b'.1 b'.2 p.right:=by
 intro n;induction n with
 |zero=>intro b ps b' _ _ h;cases h
 |succ n ih=>
  intro b ps b' hb hps h;cases ps with
  |nil=>
   rw[unif]at h;cases h;exact⟨hb.ext,hb,fun p hp=>by cases hp⟩
  |cons p ps=>
   have hp:=hps p (by simp);have hps':∀q∈ps,TermOk l q.left/\TermOk l q.right:=fun q hq=>hps q (gF _ hq);rw[unif]at h;by_cases c1:24<(q01 b.1 b.2 p.left).length\/24<(q01 b.1 b.2 p.right).length
   ·rw[if_pos c1]at h;cases h
   rw[if_neg c1]at h;have hx:=hb.applied_ok hp.1 (by omega);have hy:=hb.applied_ok hp.2 (by omega);by_cases c2:q01 b.1 b.2 p.left=q01 b.1 b.2 p.right
   ·rw[if_pos c2]at h;obtain⟨e1,e2,e3⟩:=ih b ps b' hb hps' h;refine⟨e1,e2,fun q hq=>?_⟩;rcases gK.1 hq with rfl|hq
    ·rw[<- e1 q.left,c2,e1]
    ·exact e3 q hq
   rw[if_neg c2]at h
   have bindcase:∀(u t:List Int),TermOk l (q01 b.1 b.2 u)->TermOk l (q01 b.1 b.2 t)->(q01 b.1 b.2 u).getD 0 0<0->(q01 b.1 b.2 u).getD 0 0∉q01 b.1 b.2 t->∀b1,q5w b (-1-(q01 b.1 b.2 u).getD 0 0) (q01 b.1 b.2 t)=some b1->unif l n b1 ps=some (.inl b')->
    Ext b b'/\UB l b'/\q01 b'.1 b'.2 u=q01 b'.1 b'.2 t/\∀p∈ps,q01 b'.1 b'.2 p.left=q01 b'.1 b'.2 p.right:=fun u t hu ht hneg hno b1 hb1 hun=>by
    obtain⟨hv,hnb⟩:=hb.head_var hu hneg;have hno':(-1-(-1-(q01 b.1 b.2 u).getD 0 0))∉q01 b.1 b.2 t:=by rw[show -1-(-1-(q01 b.1 b.2 u).getD 0 0)=(q01 b.1 b.2 u).getD 0 0 by omega];exact hno
    obtain⟨q1,_⟩:=qeh hb hv hnb ht (hb.applied_free t) hno' hb1;obtain⟨x1,x2,x3⟩:=qoq hb hnb (hb.applied_free t) hno' hb1;obtain⟨e1,e2,e3⟩:=ih b1 ps b' q1 hps' hun;refine⟨x1.trans e1,e2,?_,e3⟩;have hh:=qv7 ok hu hneg;rw[show -1-(-1-(q01 b.1 b.2 u).getD 0 0)=(q01 b.1 b.2 u).getD 0 0 by omega,<- hh]at x2;rw[<- e1 u,<- x1 u,x2,<- e1 t,<- x1 t,x3]
   by_cases c3:(q01 b.1 b.2 p.left).getD 0 0<0
   ·rw[if_pos c3]at h;by_cases c4:(q01 b.1 b.2 p.left).getD 0 0∈q01 b.1 b.2 p.right
    ·rw[if_pos c4]at h;cases h
    rw[if_neg c4]at h;cases hb1:q5w b (-1-(q01 b.1 b.2 p.left).getD 0 0) (q01 b.1 b.2 p.right)with
    |none=>rw[hb1]at h;cases h
    |some b1=>
     rw[hb1]at h;obtain⟨e1,e2,e3,e4⟩:=bindcase p.left p.right hx hy c3 c4 b1 hb1 h;refine⟨e1,e2,fun q hq=>?_⟩;rcases gK.1 hq with rfl|hq
     ·exact e3
     ·exact e4 q hq
   rw[if_neg c3]at h;by_cases c5:(q01 b.1 b.2 p.right).getD 0 0<0
   ·rw[if_pos c5]at h;by_cases c4:(q01 b.1 b.2 p.right).getD 0 0∈q01 b.1 b.2 p.left
    ·rw[if_pos c4]at h;cases h
    rw[if_neg c4]at h;cases hb1:q5w b (-1-(q01 b.1 b.2 p.right).getD 0 0) (q01 b.1 b.2 p.left)with
    |none=>rw[hb1]at h;cases h
    |some b1=>
     rw[hb1]at h;obtain⟨e1,e2,e3,e4⟩:=bindcase p.right p.left hy hx c5 c4 b1 hb1 h;refine⟨e1,e2,fun q hq=>?_⟩;rcases gK.1 hq with rfl|hq
     ·exact e3.symm
     ·exact e4 q hq
   rw[if_neg c5]at h;by_cases c6:(q01 b.1 b.2 p.left).getD 0 0=(q01 b.1 b.2 p.right).getD 0 0
   ·rw[if_neg (by simpa using c6)]at h
    obtain⟨e1,e2,e3⟩:=ih b _ b' hb (fun q hq=>by
     rcases gO.1 hq with hq|hq
     ·exact qos hx hy q hq
     ·exact hps' q hq) h
    refine⟨e1,e2,fun q hq=>?_⟩;rcases gK.1 hq with rfl|hq
    ·have:=qv1 ok hx hy c3 c6 (fun r hr=>e3 r (gJ _ hr));rw[e1,e1]at this;exact this
    ·exact e3 q (gN _ hq)
   ·rw[if_pos c6]at h;cases h
theorem qnh{l:List Symbol}(ok:SigOk ⟨l⟩){a b:List Int}(ha:TermOk l a)(hb:TermOk l b){x:Bnd}(h:qe2 l a b=.inl x):UB l x/\q01 x.1 x.2 a=q01 x.1 x.2 b:=by
 obtain⟨⟨n,hn⟩,h2⟩:=q8p ha hb;rw[h]at hn;obtain⟨_,e2,e3⟩:=qr4 ok n ([],[]) [⟨a,b⟩] x (UB.nil l) (fun p hp=>by rw[gD.1 hp];exact⟨ha,hb⟩) hn;exact⟨e2,e3 ⟨a,b⟩ (gD.2 rfl)⟩
end Ev.Ty
end
section
namespace Ev.Ty
open Go Ev
open Enc (enc)
open Sm (sm)
def qlc(l:List Symbol){α:Type}(b:Bnd)(p:Pr)(ps:List Pr)(out:Bnd ⊕ Int->α)(next:Bnd->List Pr->α):α:=
 if 24<(q01 b.1 b.2 p.left).length\/24<(q01 b.1 b.2 p.right).length then out (.inr 2)
 else if q01 b.1 b.2 p.left=q01 b.1 b.2 p.right then next b ps
 else if(q01 b.1 b.2 p.left).getD 0 0<0 then
  if(q01 b.1 b.2 p.left).getD 0 0∈q01 b.1 b.2 p.right then out (.inr 4)else match q5w b (-1-(q01 b.1 b.2 p.left).getD 0 0) (q01 b.1 b.2 p.right)with
   |none=>out (.inr 2)
   |some b'=>next b' ps
 else if(q01 b.1 b.2 p.right).getD 0 0<0 then
  if(q01 b.1 b.2 p.right).getD 0 0∈q01 b.1 b.2 p.left then out (.inr 4)else match q5w b (-1-(q01 b.1 b.2 p.right).getD 0 0) (q01 b.1 b.2 p.left)with
   |none=>out (.inr 2)
   |some b'=>next b' ps
 else if(q01 b.1 b.2 p.left).getD 0 0≠(q01 b.1 b.2 p.right).getD 0 0 then out (.inr 4)
 else next b (q6f l (q01 b.1 b.2 p.left) (q01 b.1 b.2 p.right)++ps)
def StackOk(b:Bnd)(ps:List Pr):Prop:=∃new old:List Pr,ps=new++old/\q7q b new<=46/\old.length<=24*b.1.length+1
theorem qg3{l:List Symbol}{b:Bnd}(hb:UB l b):∀{ps:List Pr},(∀p∈ps,TermOk l p.left/\TermOk l p.right)->2*ps.length<=q7q b ps
 |[],_=>by simp[q7q]
 |p::ps,h=>by
  have ih:=qg3 hb (ps:=ps) fun q hq=>h q (gF _ hq);have hp:=h p (by simp);have h1:=q8q hb.mb p.left;have h2:=q8q hb.mb p.right;have:=hp.1.pos;have:=hp.2.pos;simp only[q7q,List.map_cons,List.sum_cons,gAB]at ih ⊢;omega
theorem StackOk.len{l:List Symbol}{b:Bnd}(hb:UB l b){ps:List Pr}(hps:∀p∈ps,TermOk l p.left/\TermOk l p.right)(h:StackOk b ps):ps.length<=400:=by
 obtain⟨new,old,rfl,h1,h2⟩:=h;have:=qg3 hb (ps:=new) fun q hq=>hps q (gJ _ hq);have:=hb.le;rw[gM];omega
theorem qip(b:Bnd)(p:Pr)(ps:List Pr):q7q b (p::ps)=(q01 b.1 b.2 p.left).length+(q01 b.1 b.2 p.right).length+q7q b ps:=by simp[q7q]
theorem qmc(b:Bnd)(ps qs:List Pr):q7q b (ps++qs)=q7q b ps+q7q b qs:=by simp[q7q]
theorem StackOk.tail{b:Bnd}{p:Pr}{ps:List Pr}(h:StackOk b (p::ps)):StackOk b ps:=by
 obtain⟨new,old,e,h1,h2⟩:=h;cases new with
 |nil=>
  rw[List.nil_append]at e;subst e;exact⟨[],ps,rfl,by simp[q7q],by simp at h2;omega⟩
 |cons q new=>
  rw[List.cons_append]at e;injection e with e1 e2;rw[qip]at h1;exact⟨new,old,e2,by omega,h2⟩
theorem StackOk.bind{l:List Symbol}{b b':Bnd}(hb:UB l b){p:Pr}{ps:List Pr}(hps:∀q∈p::ps,TermOk l q.left/\TermOk l q.right)(h:StackOk b (p::ps))(hl:b'.1.length=b.1.length+1):StackOk b' ps:=by
 obtain⟨new,old,e,h1,h2⟩:=h.tail;have:=qg3 hb (ps:=new) fun q hq=>hps q (gF _ (e▸gJ _ hq));exact⟨[],ps,rfl,by simp[q7q],by rw[e,gM];omega⟩
theorem StackOk.args{b:Bnd}{p:Pr}{ps qs:List Pr}(h:StackOk b (p::ps))(hq:q7q b qs+2=(q01 b.1 b.2 p.left).length+(q01 b.1 b.2 p.right).length)(h1:(q01 b.1 b.2 p.left).length<=24)(h2:(q01 b.1 b.2 p.right).length<=24):StackOk b (qs++ps):=by
 obtain⟨new,old,e,h3,h4⟩:=h;cases new with
 |nil=>
  rw[List.nil_append]at e;subst e;exact⟨qs,ps,rfl,by omega,by simp at h4;omega⟩
 |cons q new=>
  rw[List.cons_append]at e;injection e with e1 e2;subst e1;rw[qip]at h3;exact⟨qs++new,old,by rw[e2,gZ],by rw[qmc];omega,h4⟩
theorem qhf{l:List Symbol}{α:Type}{S:Nat->Bnd->List Pr->α}{out:Bnd ⊕ Int->α}(hnil:∀f b,S (f+1) b []=out (.inl b))
 (hstep:∀f b p ps,UB l b->TermOk l p.left->TermOk l p.right->(∀q∈ps,TermOk l q.left/\TermOk l q.right)->ps.length<=400->S (f+1) b (p::ps)=qlc l b p ps out (S f)) :
 ∀(n f:Nat)(b:Bnd)(ps:List Pr)(r:Bnd ⊕ Int),n<=f->UB l b->(∀p∈ps,TermOk l p.left/\TermOk l p.right)->StackOk b ps->unif l n b ps=some r->S f b ps=out r
 |0,f,b,ps,r,hf,hb,hps,hst,h=>by cases h
 |n+1,f,b,ps,r,hf,hb,hps,hst,h=>by
  obtain⟨f,rfl⟩:∃q,f=q+1:=⟨f-1,by omega⟩;have ih:=qhf hnil hstep n f;cases ps with
  |nil=>cases h;exact hnil f b
  |cons p ps=>
   have hp:=hps p (by simp);have hps':∀q∈ps,TermOk l q.left/\TermOk l q.right:=fun q hq=>hps q (gF _ hq);have hlen:=hst.len hb hps;rw[hstep f b p ps hb hp.1 hp.2 hps' (by simp at hlen;omega)];unfold qlc;rw[unif]at h;split at h
   ·rename_i c;rw[if_pos c];cases h;rfl
   rename_i c1;rw[if_neg c1];have hx:=hb.applied_ok hp.1 (by omega);have hy:=hb.applied_ok hp.2 (by omega)
   have bindcase:∀(u t:List Int),TermOk l (q01 b.1 b.2 u)->TermOk l (q01 b.1 b.2 t)->(q01 b.1 b.2 u).getD 0 0<0->(q01 b.1 b.2 u).getD 0 0∉q01 b.1 b.2 t->∀b',q5w b (-1-(q01 b.1 b.2 u).getD 0 0) (q01 b.1 b.2 t)=some b'->
    unif l n b' ps=some r->S f b' ps=out r:=fun u t hu ht hneg hno b' hb' hr=>by
    obtain⟨hv,hnb⟩:=hb.head_var hu hneg;obtain⟨q1,q2⟩:=qeh hb hv hnb ht (hb.applied_free t) (by rw[show -1-(-1-(q01 b.1 b.2 u).getD 0 0)=(q01 b.1 b.2 u).getD 0 0 by omega];exact hno) hb';exact ih b' ps r (by omega) q1 hps' (hst.bind hb hps q2) hr
   split at h
   ·rename_i c;rw[if_pos c];exact ih b ps r (by omega) hb hps' hst.tail h
   rename_i c2;rw[if_neg c2];split at h
   ·rename_i c3;rw[if_pos c3];split at h
    ·rename_i c;rw[if_pos c];cases h;rfl
    rename_i c4;rw[if_neg c4];cases hb':q5w b (-1-(q01 b.1 b.2 p.left).getD 0 0) (q01 b.1 b.2 p.right)with
    |none=>rw[hb']at h;cases h;rfl
    |some b'=>rw[hb']at h;exact bindcase p.left p.right hx hy c3 c4 b' hb' h
   rename_i c3;rw[if_neg c3];split at h
   ·rename_i c5;rw[if_pos c5];split at h
    ·rename_i c;rw[if_pos c];cases h;rfl
    rename_i c4;rw[if_neg c4];cases hb':q5w b (-1-(q01 b.1 b.2 p.right).getD 0 0) (q01 b.1 b.2 p.left)with
    |none=>rw[hb']at h;cases h;rfl
    |some b'=>rw[hb']at h;exact bindcase p.right p.left hy hx c5 c4 b' hb' h
   rename_i c5;rw[if_neg c5];split at h
   ·rename_i c;rw[if_pos c];cases h;rfl
   rename_i c6;rw[if_neg c6];have ha:=q5v (b:=b) hx hy (hb.applied_free _) (hb.applied_free _) (by simpa using c6)
   exact ih b _ r (by omega) hb (fun q hq=>by
    rcases gO.1 hq with hq|hq
    ·exact qos hx hy q hq
    ·exact hps' q hq) (hst.args ha hx.le hy.le) h
theorem qj0(p:Pr)(ps:List Pr):((cells (p::ps)).take ((p::ps).length*2)).drop (1*2)=cells ps:=by
 rw[q8o (p::ps) 2 _ rfl,List.take_length,qan _ 2 1 rfl];rfl
def uT:Bnd ⊕ Int->R
 |.inl b=>some (.tup [.agg [slc b.1,slc b.2],.int .i64 0],[])
 |.inr c=>some (.tup [.agg [.sl 1 [],.sl 1 []],.int .i64 c],[])
theorem q9g{l:List Symbol}{t:List Int}(h:TermOk l t):(cells t)[0]?=some (.int .i64 (t.getD 0 0)):=by
 have hp:=h.pos;have:=get0 (l:=t) (k:=1) (i:=0) rfl;rw[Nat.zero_mul]at this;rw[this,gA (by omega),q8c (by omega)];rfl
section
variable {l:List Symbol}(ok:SigOk ⟨l⟩)
include ok
theorem qhs{b:Bnd}(hb:UB l b){ps:List Pr}{u t:List Int}(hu:TermOk l u)(ht:TermOk l t)(hv:0 <= -1-u.getD 0 0 /\ -1-u.getD 0 0<=11){N:Nat}(hN:20<=N)(L0:St->R) :
 q0f.at5 N L0 N (q0f.st5 (cells ps) (cells u) (cells t) b.2.length (0:Nat) (cells l) (cells b.1) (cells b.2) [.int .i64 (-1-u.getD 0 0)] [slc t])=
  match q5w b (-1-u.getD 0 0) t with
  |none=>uT (.inr 2)
  |some b'=>L0 (q0f.st0 (cells ps) (cells l) (cells b'.1) (cells b'.2)):=by
 have hbl:=hb.le;have hlen:=hb.mb.len;have htl:=ht.le;have hpu:=hu.pos;have hone:=qta (l:=l) hv ht;have hbo:=hone.ok (by omega);obtain⟨v,hve⟩:∃v,v = -1-u.getD 0 0:=⟨_,rfl⟩;have hwr:IntKind.wrap .i64 (-1-u.getD 0 0)=v:=by rw[q1o (by omega),hve]
 rw[<- hve]at hv hone hbo ⊢
 have loop:∀n k f,k+n=b.2.length->n<f->
  q0f.at5 N L0 f (q0f.st5 (cells ps) (cells u) (cells t) b.2.length (k:Nat) (cells l) (cells b.1) (cells ((b.2.take k).map (q01 [v] [t])++b.2.drop k)) [.int .i64 v] [slc t])=
   if((b.2.drop k).any fun x=>decide (24<(q01 [v] [t] x).length))=true then uT (.inr 2)else
    L0 (q0f.st0 (cells ps) (cells l) (cells (bput (b.1,b.2.map (q01 [v] [t])) v t).1) (cells (bput (b.1,b.2.map (q01 [v] [t])) v t).2)):=by
  intro n;induction n with
  |zero=>
   intro k f hk hf;obtain⟨f,rfl⟩:∃x,f=x+1:=⟨f-1,by omega⟩;obtain rfl:k=b.2.length:=by omega
   rw[List.take_length,gU (gAI _),gAD];have hbind:=q0w b.1 (b.2.map (q01 [v] [t])) v t (by simp;omega) (by omega) (by omega);have hu0:=q9g hu;have hpu':(0:Int)<u.length:=by omega
   simp only[q0f.next5,q0f.round5,evz,Nat.reduceLT,gAK,hu0,hwr,qdj (k:=1) (l:=t) rfl,hbind,List.any_nil,Bool.false_eq_true];rw[show inB (0:Int) u.length=true from(q6v 0 u.length).trans (by simp;omega)];rfl
  |succ n ih=>
   intro k f hk hf;obtain⟨f,rfl⟩:∃x,f=x+1:=⟨f-1,by omega⟩;have hkl:k<b.2.length:=by omega
   have hto:=hb.mb.tm _ (gG hkl);have htol:=hto.le;have happ:LIM F.q0g [.agg [.sl 1 [.int .i64 v],.sl 1 [slc t]],slc b.2[k]]=some (slc (q01 [v] [t] b.2[k]),[]):=(q0g [v] [t] hbo b.2[k] (by omega) (hto.range ok)).eq;obtain⟨M,hM⟩:∃M,M=(b.2.take k).map (q01 [v] [t])++b.2.drop k:=⟨_,rfl⟩;have hMl:M.length=b.2.length:=by rw[hM];simp;omega
   have hMk:M[k]?=some b.2[k]:=by
    rw[hM,List.getElem?_append_right (by simp;omega)];simp[Nat.min_eq_left (Nat.le_of_lt hkl),gA hkl]
   have hkM:k<M.length:=by omega
   have hget:(cells M)[k*1]?=some (slc b.2[k]):=by
    rw[get0 (l:=M) (k:=1) (i:=k) rfl,hMk];rfl
   have hkc:k*1<(cells M).length:=by rw[q0k];simp[show Enc.sz (List Int)=1 from rfl];omega
   have hset:(cells M).set (k*1) (slc (q01 [v] [t] b.2[k]))=cells (M.set k (q01 [v] [t] b.2[k])):=by
    have:=qu9 (l:=M) hkM (q01 [v] [t] b.2[k]);simpa[setCells]using this
   have hnext:M.set k (q01 [v] [t] b.2[k])=(b.2.take (k+1)).map (q01 [v] [t])++b.2.drop (k+1):=by
    have e1:b.2.take (k+1)=b.2.take k++[b.2[k]]:=(gAP hkl).symm;rw[hM,e1,List.map_append,List.set_append_right _ _ (by simp;omega)];rw[show k-((b.2.take k).map (q01 [v] [t])).length=0 by simp;omega,gH hkl,List.set_cons_zero];simp
   rw[<- hM,gH hkl,List.any_cons];have hin:inB (k:Int) ((cells M).length/1)=true:=by rw[q6v];simp[q0k,show Enc.sz (List Int)=1 from rfl];omega
   by_cases h24:24<(q01 [v] [t] b.2[k]).length
   ·have h24':((q01 [v] [t] b.2[k]).length:Int)>24:=by omega
    simp only[q0f.next5,q0f.round5,gR,hget,hin,List.set_set,List.length_set,List.getElem?_set_self hkc,hkc,evz,Nat.reduceLT,hkl,happ,hkM,h24',h24,Bool.true_or];rfl
   ·have h24':¬((q01 [v] [t] b.2[k]).length:Int)>24:=by omega
    simp only[q0f.next5,q0f.round5,gR,hget,hin,List.set_set,List.length_set,List.getElem?_set_self hkc,hkc,evz,Nat.reduceLT,hkl,happ,hkM,h24',h24,Bool.false_or,qdj (k:=1) (l:=q01 [v] [t] b.2[k]) rfl,hset,hnext];rw[q0l (by omega)];exact ih (k+1) f (by omega) (by omega)
 have:=loop b.2.length 0 N (by omega) (by omega);rw[List.take_zero,List.map_nil,List.nil_append,List.drop_zero]at this;rw[this];unfold q5w;by_cases h:(b.2.any fun x=>decide (24<(q01 [v] [t] x).length))=true
 ·rw[if_pos h,if_pos h]
 ·rw[if_neg h,if_neg h]
theorem qn7{b:Bnd}{ps:List Pr}(hps:ps.length<=400){x y:List Int}(hx:TermOk l x)(hy:TermOk l y)(he:x.getD 0 0=y.getD 0 0){N:Nat}(hN:20<=N)(L0:St->R) :
 q0f.at3 N L0 N (q0f.st3 (cells ps) (cells x) (cells y) (q3i l x 0).length (0:Nat) (cells l) (cells b.1) (cells b.2) (cells (ints (q3i l y 0))) (cells (ints (q3i l x 0))) (cells ([]:List Pr)))=
  L0 (q0f.st0 (cells (q6f l x y++ps)) (cells l) (cells b.1) (cells b.2)):=by
 have hl:(q3i l x 0).length=(q3i l y 0).length:=by unfold q3i;rw[q71,q71,he]
 have h2:=qlv ok x 0;have hmx:∀q∈q3i l x 0,q<x.length:=fun q hq=>(q72 hx (p:=0) (by have:=hx.pos;omega) hq).2;have hmy:∀q∈q3i l y 0,q<y.length:=fun q hq=>(q72 hy (p:=0) (by have:=hy.pos;omega) hq).2;have hzl:((q3i l x 0).zip (q3i l y 0)).length=(q3i l x 0).length:=by rw[List.length_zip];omega
 have key:=qaz (n:=(q3i l x 0).length) (f:=N) (S:=fun m k (o:List Pr)=>q0f.at3 N L0 m (q0f.st3 (cells ps) (cells x) (cells y) (q3i l x 0).length (k:Nat) (cells l) (cells b.1) (cells b.2) (cells (ints (q3i l y 0))) (cells (ints (q3i l x 0))) (cells o)))
  (st:=fun k=>(q6f l x y).take k) (z:=L0 (q0f.st0 (cells (q6f l x y++ps)) (cells l) (cells b.1) (cells b.2))) (fun m k h=>?_) (fun m=>?_) (by omega)
 ·exact key
 ·have hky:k<(q3i l y 0).length:=by omega
  have hax:(ints (q3i l x 0))[k]?=some (((q3i l x 0)[k]:Nat):Int):=qpc h;have hay:(ints (q3i l y 0))[k]?=some (((q3i l y 0)[k]:Nat):Int):=qpc hky;have hsx:=(q3x ok hx (hmx _ (gG h))).eq;have hsy:=(q3x ok hy (hmy _ (gG hky))).eq;have hal:k<(q6f l x y).length:=by unfold q6f;rw[gAG,hzl];exact h
  have hak:(q6f l x y)[k]=⟨q2s l x (q3i l x 0)[k],q2s l y (q3i l y 0)[k]⟩:=by simp[q6f]
  have e1:(q6f l x y).take (k+1)=(q6f l x y).take k++[⟨q2s l x (q3i l x 0)[k],q2s l y (q3i l y 0)[k]⟩]:=by rw[<- hak];exact(gAP hal).symm
  have e2:∀(A:List Pr)(p q:List Int),cells A++[slc p,slc q]=cells (A++[⟨p,q⟩]):=fun A p q=>by rw[q33];rfl
  rw[e1];simp only[q0f.next3,q0f.round3,evz,Nat.reduceLT,h,hky,qhx,hax,hay,q1x,hsx,hsy,e2];rw[q0l (by omega),q1r (q3v (by rw[q0k,q6u];simp;omega))]
 ·rw[List.take_of_length_le (by unfold q6f;rw[gAG,hzl];exact gAI _)];have hal:(q6f l x y).length<=2:=by unfold q6f;rw[gAG,hzl];exact h2
  simp only[q0f.next3,q0f.round3,evz,Nat.reduceLT,gAK,<- q33];rw[q1r (q3v (by rw[q0k,q0k,q6u];omega))]
theorem q0f{a b:List Int}(ha:TermOk l a)(hb:TermOk l b):LIM F.q0f [.agg [slc l],slc a,slc b]=uT (qe2 l a b):=by
 obtain⟨⟨n,hn⟩,_⟩:=q8p ha hb
 have hcall:∀r,q1g prog Ev.A H LIM (n+20) F.q0f [.agg [slc l],slc a,slc b]=uT r->LIM F.q0f [.agg [slc l],slc a,slc b]=uT r:=fun r h=>by
  cases r with
  |inl x=>exact q0r rfl _ h
  |inr x=>exact q0r rfl _ h
 refine hcall _ ((q0f.ev _ _ _ _).trans ?_)
 have loop:=qhf (l:=l) (S:=fun f (b:Bnd) (ps:List Pr)=>q0f.at0 (n+20) f (q0f.st0 (cells ps) (cells l) (cells b.1) (cells b.2))) (out:=uT)
  (fun f b=>by
   simp only[q0f.next0,q0f.round0,qdp,List.length_nil];rfl)
  (fun f b p ps hb h1 h2 hps hl=>?_) n (n+20) ([],[]) [⟨a,b⟩] _ (by omega) (UB.nil l) (fun p hp=>by rw[gD.1 hp];exact⟨ha,hb⟩) ⟨[],_,rfl,by simp[q7q],by simp⟩ hn
 ·exact loop
 ·have hbo:=hb.mb.ok (by omega);have hl1:=h1.le;have hl2:=h2.le;have a1:=(q0g b.1 b.2 hbo p.left (by omega) (h1.range ok)).eq;have a2:=(q0g b.1 b.2 hbo p.right (by omega) (h2.range ok)).eq;have g0:(cells (p::ps))[0]?=some (slc p.left):=rfl;have g1:(cells (p::ps))[1]?=some (slc p.right):=rfl;have hpl:((p::ps).length:Int)>0:=by simp
  have hin:inB (0:Int) (p::ps).length=true:=(q6v 0 _).trans (by simp);have hfx:=hb.applied_free p.left;have hfy:=hb.applied_free p.right;have hox:=fun h=>hb.applied_ok h1 h;have hoy:=fun h=>hb.applied_ok h2 h;have hhx:=fun h h'=>hb.head_var (hox h) h';have hhy:=fun h h'=>hb.head_var (hoy h) h';have hb1:decide (0<=(1:Int))=true:=rfl;have hb2:(1:Int)<=((p::ps).length:Int):=by simp only[gAB];omega
  have hlx:=q6y hbo p.left;have hly:=q6y hbo p.right;obtain⟨Z,hZ⟩:∃Z,Z=qlc l b p ps uT (fun(b:Bnd)(ps:List Pr)=>q0f.at0 (n+20) f (q0f.st0 (cells ps) (cells l) (cells b.1) (cells b.2))):=⟨_,rfl⟩;show _=qlc l b p ps uT (fun(b:Bnd)(ps:List Pr)=>q0f.at0 (n+20) f (q0f.st0 (cells ps) (cells l) (cells b.1) (cells b.2)));rw[<- hZ];unfold qlc at hZ;simp only[q0f.next0,q0f.round0,evz,Nat.reduceLT,hpl,hin,g0,g1,a1,a2,hb1,hb2,Int.le_refl,Bool.and_self,qj0];generalize q01 b.1 b.2 p.left=x at *;generalize q01 b.1 b.2 p.right=y at *;by_cases c1:24<x.length
  ·have c1':(x.length:Int)>24:=by omega
   rw[if_pos (.inl c1)]at hZ;simp only[c1',evz,Nat.reduceLT];rw[hZ];rfl
  by_cases c1b:24<y.length
  ·have c1':¬(x.length:Int)>24:=by omega
   have c1b':(y.length:Int)>24:=by omega
   rw[if_pos (.inr c1b)]at hZ;simp only[c1',c1b',evz,Nat.reduceLT];rw[hZ];rfl
  have c1':¬(x.length:Int)>24:=by omega
  have c1b':¬(y.length:Int)>24:=by omega
  have hx:=hox (by omega);have hy:=hoy (by omega);have hxp:=hx.pos;have hyp:=hy.pos;have heq:=(q0p x y ⟨by omega,fun _ _=>trivial⟩).eq;rw[if_neg (by omega)]at hZ;by_cases c2:x=y
  ·rw[if_pos c2]at hZ;rw[decide_eq_true c2]at heq;simp only[c1',c1b',evz,Nat.reduceLT,heq];rw[hZ]
  rw[if_neg c2]at hZ;rw[decide_eq_false c2]at heq;have x0:=q9g hx;have y0:=q9g hy;have inx:inB (0:Int) x.length=true:=(q6v 0 _).trans (by simp;omega);have iny:inB (0:Int) y.length=true:=(q6v 0 _).trans (by simp;omega);by_cases c3:x.getD 0 0<0
  ·have c3':¬ x.getD 0 0>=0:=by omega
   obtain⟨hv,_⟩:=hhx (by omega) c3;have hct:=(q1l y (x.getD 0 0) (by omega)).eq;have h5:=qhs ok hb (ps:=ps) hx hy hv (N:=n+20) (by omega) (q0f.at0 (n+20) f);rw[if_pos c3]at hZ;by_cases c4:x.getD 0 0∈y
   ·rw[if_pos c4]at hZ;rw[decide_eq_true c4]at hct;simp only[c1',c1b',evz,Nat.reduceLT,heq,inx,x0,c3,c3',hct];rw[hZ];rfl
   ·rw[if_neg c4]at hZ;rw[decide_eq_false c4]at hct;simp only[c1',c1b',evz,Nat.reduceLT,heq,inx,x0,c3,c3',hct,q1o (x := -1-x.getD 0 0) (by omega),qdj (k:=1) (l:=y) rfl];rw[hZ];exact h5
  rw[if_neg c3]at hZ;have c3':x.getD 0 0>=0:=by omega
  by_cases c5:y.getD 0 0<0
  ·obtain⟨hv,_⟩:=hhy (by omega) c5;have hct:=(q1l x (y.getD 0 0) (by omega)).eq;have h5:=qhs ok hb (ps:=ps) hy hx hv (N:=n+20) (by omega) (q0f.at0 (n+20) f);rw[if_pos c5]at hZ;by_cases c4:y.getD 0 0∈x
   ·rw[if_pos c4]at hZ;rw[decide_eq_true c4]at hct;simp only[c1',c1b',evz,Nat.reduceLT,heq,inx,iny,x0,y0,c3,c3',c5,hct];rw[hZ];rfl
   ·rw[if_neg c4]at hZ;rw[decide_eq_false c4]at hct;simp only[c1',c1b',evz,Nat.reduceLT,heq,inx,iny,x0,y0,c3,c3',c5,hct,q1o (x := -1-y.getD 0 0) (by omega),qdj (k:=1) (l:=x) rfl];rw[hZ];exact h5
  rw[if_neg c5]at hZ;by_cases c6:x.getD 0 0=y.getD 0 0
  ·rw[if_neg (by simpa using c6)]at hZ;have h3:=qn7 ok (b:=b) (ps:=ps) hl hx hy c6 (N:=n+20) (by omega) (q0f.at0 (n+20) f);have sx:=(q0x ok hx (p:=0) (by omega)).eq;have sy:=(q0x ok hy (p:=0) (by omega)).eq;simp only[c1',c1b',evz,Nat.reduceLT,heq,inx,iny,x0,y0,c3,c5,c6];rw[c6]at c3;have sx':LIM F.q0x [.agg [slc l],slc x,.int .i64 0]=some (slc (ints (q3i l x 0)),[]):=sx;have sy':LIM F.q0x [.agg [slc l],slc y,.int .i64 0]=some (slc (ints (q3i l y 0)),[]):=sy;simp only[c5,evz,Nat.reduceLT,sx',sy',qhx];rw[hZ];exact h3
  ·rw[if_pos c6]at hZ;simp only[c1',c1b',evz,Nat.reduceLT,heq,inx,iny,x0,y0,c3,c5,c6];rw[hZ];rfl
end
def qpf(b:Bnd)(v:Int)(t:List Int):Bnd ⊕ Int:=if -1-v∈t then .inr 4 else match q5w b v t with
 |none=>.inr 2
 |some b'=>.inl b'
section
variable {l:List Symbol}(ok:SigOk ⟨l⟩)
include ok
theorem q1u{b:Bnd}(hb:UB l b){v:Int}(hv:0<=v/\v<=11)(hnb:v∉b.1){t:List Int}(ht:TermOk l t) :
 LIM F.q1u [.rref [slc b.1,slc b.2] 0,.int .i64 v,slc t]=uT (qpf b v t):=by
 have hcall:∀r,q1g prog Ev.A H LIM 20 F.q1u [.rref [slc b.1,slc b.2] 0,.int .i64 v,slc t]=uT r->LIM F.q1u [.rref [slc b.1,slc b.2] 0,.int .i64 v,slc t]=uT r:=fun r h=>by
  cases r with
  |inl x=>exact q0r rfl _ h
  |inr x=>exact q0r rfl _ h
 have hbl:=hb.le;have hlen:=hb.mb.len;have htl:=ht.le;have hone:=qta (l:=l) hv ht;have hbo:=hone.ok (by omega);refine hcall _ ((q1u.ev _ _ _ _ _).trans ?_);have hc:=(q1k t (-1-v) (by omega)).eq;have hi:=(q56 b.1 (by omega)).eq;unfold qpf;by_cases hm : -1-v∈t
 ·have h0:((t.count (-1-v):Nat):Int)>0:=by have:=List.count_pos_iff.2 hm;omega
  rw[if_pos hm];simp only[evz,Nat.reduceLT,q1o (x := -1-v) (by omega),hc,h0];rfl
 have h0:¬((t.count (-1-v):Nat):Int)>0:=by rw[List.count_eq_zero.2 hm];omega
 rw[if_neg hm];simp only[evz,Nat.reduceLT,q1o (x := -1-v) (by omega),hc,h0,hi]
 have loop:∀n k f,k+n=b.2.length->n<f->(∀x∈b.2.take k,(q01 [v] [t] x).length<=24)->
  q1u.at0 20 f (q1u.st0 (cells b.1) (cells b.2) v (cells t) (k:Nat) [.int .i64 v] [slc t] (cells b.1) (cells ((b.2.take k).map (q01 [v] [t]))))=
   if((b.2.drop k).any fun x=>decide (24<(q01 [v] [t] x).length))=true then uT (.inr 2)else uT (.inl (bput (b.1,b.2.map (q01 [v] [t])) v t)):=by
  intro n;induction n with
  |zero=>
   intro k f hk hf hq;obtain⟨f,rfl⟩:∃x,f=x+1:=⟨f-1,by omega⟩;obtain rfl:k=b.2.length:=by omega
   rw[List.take_length]at hq ⊢;rw[gU (gAI _)]
   have hw:=(q1e b.1 (b.2.map (q01 [v] [t])) v t (by simp;omega) (by omega) (by omega) hnb (fun x hx=>by
    obtain⟨y,hy,rfl⟩:=List.mem_map.1 hx;have:=hq y hy;omega)).eq
   simp only[q1u.next0,q1u.round0,evz,Nat.reduceLT,gAK,hw,List.any_nil,Bool.false_eq_true,if_false];rfl
  |succ n ih=>
   intro k f hk hf hq;obtain⟨f,rfl⟩:∃x,f=x+1:=⟨f-1,by omega⟩;have hkl:k<b.2.length:=by omega
   have hto:=hb.mb.tm _ (gG hkl);have htol:=hto.le;have happ:LIM F.q13 [.rref [.sl 1 [.int .i64 v],.sl 1 [slc t]] 0,slc b.2[k]]=some (slc (q01 [v] [t] b.2[k]),[]):=(q13 [v] [t] hbo b.2[k] (by omega) (hto.range ok)).eq;have hg:b.2[k]?=some b.2[k]:=gA hkl;have he:∀x:List Int,(enc x)[0]?=some (slc x):=fun _=>rfl;rw[gH hkl,List.any_cons];have e1:(b.2.take (k+1)).map (q01 [v] [t])=(b.2.take k).map (q01 [v] [t])++[q01 [v] [t] b.2[k]]:=by rw[<- gAP hkl,List.map_append];rfl
   by_cases h24:24<(q01 [v] [t] b.2[k]).length
   ·have h24':((q01 [v] [t] b.2[k]).length:Int)>24:=by omega
    simp only[q1u.next0,q1u.round0,evz,Nat.reduceLT,hkl,hg,he,happ,h24',h24,Bool.true_or];rfl
   ·have h24':¬((q01 [v] [t] b.2[k]).length:Int)>24:=by omega
    simp only[q1u.next0,q1u.round0,evz,Nat.reduceLT,hkl,hg,he,happ,h24',h24,Bool.false_or];rw[q0l (by omega),q1r (q3v (by rw[q0k,show Enc.sz (List Int)=1 from rfl];simp;omega))]
    have:=ih (k+1) f (by omega) (by omega) (fun x hx=>by
     rw[<- gAP hkl]at hx;rcases gO.1 hx with hx|hx
     ·exact hq x hx
     ·rw[gD.1 hx];omega)
    rw[e1,q33]at this;exact this
 have:=loop b.2.length 0 20 (by omega) (by omega) (by simp);rw[List.take_zero,List.map_nil,List.drop_zero]at this;refine this.trans ?_;unfold q5w;by_cases h:(b.2.any fun x=>decide (24<(q01 [v] [t] x).length))=true
 ·rw[if_pos h,if_pos h]
 ·rw[if_neg h,if_neg h]
theorem q2e{x y:List Int}(hx:TermOk l x)(hy:TermOk l y)(h0:0<=x.getD 0 0)(he:x.getD 0 0=y.getD 0 0):Call F.q2e [.rref [slc l] 0,slc x,slc y] (slc (q6f l x y)):=by
 have hlx:=hx.le;have hly:=hy.le;have hxp:=hx.pos;have hyp:=hy.pos;have hdx:x.getD 0 0=x[0]:=q8c (by omega);have hdy:y.getD 0 0=y[0]:=q8c (by omega);have har:=qqd (l:=l) ok x[0];have hnode:=q49.1 (hx.node _ (gG (n:=0) (by omega)));have hls:l.length<=6:=ok.le;obtain⟨u,hu⟩:∃u:Nat,x[0]=u:=⟨x[0].toNat,by omega⟩;have hul:u<l.length:=by omega
 have hare:(l[u]).arity=(ar l x[0]:Nat):=by
  have:=qs6 ok (n:=x[0]) (by omega) (by rw[hu];simpa using hul);simpa[hu]using this
 have hin:inB (0:Int) x.length=true:=(q6v 0 _).trans (by simp;omega);have hx0:=q9g hx;rw[hdx,hu]at hx0;have hlu:l[u]?=some l[u]:=gA hul;refine q0r rfl 4 ((q2e.ev _ _ _ _).trans ?_)
 have loop:∀n k q r f (out:List Pr) rx ry,k+n=ar l x[0]->n<f->skip (ar l) n (x.drop q)=some rx->skip (ar l) n (y.drop r)=some ry->out.length=k->
  q2e.at0 4 f (q2e.st0 (cells l) (cells x) (cells y) (q:Nat) (r:Nat) (k:Nat) (cells out))=
   some (slc (out++((q7e l x n q).zip (q7e l y n r)).map fun p=>(⟨q2s l x p.1,q2s l y p.2⟩:Pr)),[]):=by
  intro n;induction n with
  |zero=>
   intro k q r f out rx ry hk hf h1 h2 ho;obtain⟨f,rfl⟩:∃x,f=x+1:=⟨f-1,by omega⟩;have:¬ k<ar l x[0]:=by omega
   rw[hu]at this;simp only[q2e.next0,q2e.round0,evz,Nat.reduceLT,hin,hx0,hlu,hul,q2q,hare,q7e,List.zip_nil_left,List.map_nil,gAD,hu,this]
  |succ n ih=>
   intro k q r f out rx ry hk hf h1 h2 ho;obtain⟨f,rfl⟩:∃x,f=x+1:=⟨f-1,by omega⟩;obtain⟨a1,a2,a3,a4⟩:=qdr h1;obtain⟨b1,b2,b3,b4⟩:=qdr h2;have hlt:k<ar l x[0]:=by omega
   rw[hu]at hlt;have sx:=(q5n ok hx a1).eq;have sy:=(q5n ok hy b1).eq;have ex:q+(q2s l x q).length=q52 l x q:=by unfold q2s;simp;omega
   have ey:r+(q2s l y r).length=q52 l y r:=by unfold q2s;simp;omega
   have ic:=ih (k+1) (q52 l x q) (q52 l y r) f (out++[⟨q2s l x q,q2s l y r⟩]) rx ry (by omega) (by omega) a2 b2 (by simp[ho]);simp only[q2e.next0,q2e.round0,evz,Nat.reduceLT,hin,hx0,hlu,hul,q2q,hare,hu,hlt,sx,sy];rw[q1o (x:=(q:Int)+_) (by omega),q1o (x:=(r:Int)+_) (by omega),q0l (by omega),q1r (q3v (by rw[q0k,q6u];omega))];rw[show(q:Int)+((q2s l x q).length:Nat)=(q52 l x q:Nat) by omega,show(r:Int)+((q2s l y r).length:Nat)=(q52 l y r:Nat) by omega];rw[q33]at ic;refine Eq.trans ?_ (ic.trans ?_)
   ·rfl
   ·rw[q7e,q7e,List.zip_cons_cons,List.map_cons,gZ];rfl
 obtain⟨rx,hrx⟩:=qby hx (p:=0) (by omega);obtain⟨ry,hry⟩:=qby hy (p:=0) (by omega);have hay:ar l y[0]=ar l x[0]:=by rw[<- hdx,<- hdy,he]
 rw[hay]at hry;have:=loop (ar l x[0]) 0 1 1 4 [] rx ry (by omega) (by omega) hrx hry rfl;unfold q6f q3i;rw[hdx,hdy,hay];exact this
theorem q1b{a b:List Int}(ha:TermOk l a)(hb:TermOk l b):LIM F.q1b [.rref [slc l] 0,slc a,slc b]=uT (qe2 l a b):=by
 obtain⟨⟨n,hn⟩,_⟩:=q8p ha hb;have hal:=ha.le;have hbl:=hb.le
 have hcall:∀r,q1g prog Ev.A H LIM (n+20) F.q1b [.rref [slc l] 0,slc a,slc b]=uT r->LIM F.q1b [.rref [slc l] 0,slc a,slc b]=uT r:=fun r h=>by
  cases r with
  |inl x=>exact q0r rfl _ h
  |inr x=>exact q0r rfl _ h
 refine hcall _ ((q1b.ev _ _ _ _).trans ?_);have i1:=(q56 a (by omega)).eq;have i2:=(q56 b (by omega)).eq;simp only[evz,Nat.reduceLT,i1,i2]
 have loop:=qhf (l:=l) (S:=fun f (b:Bnd) (ps:List Pr)=>q1b.at0 (n+20) f (q1b.st0 (cells l) (cells ps) (cells b.1) (cells b.2))) (out:=uT)
  (fun f b=>by
   simp only[q1b.next0,q1b.round0,qdp,List.length_nil];rfl)
  (fun f b p ps hb h1 h2 hps hl=>?_) n (n+20) ([],[]) [⟨a,b⟩] _ (by omega) (UB.nil l) (fun p hp=>by rw[gD.1 hp];exact⟨ha,hb⟩) ⟨[],_,rfl,by simp[q7q],by simp⟩ hn
 ·exact loop
 ·have hbo:=hb.mb.ok (by omega);have hl1:=h1.le;have hl2:=h2.le;have a1:=(q13 b.1 b.2 hbo p.left (by omega) (h1.range ok)).eq;have a2:=(q13 b.1 b.2 hbo p.right (by omega) (h2.range ok)).eq;have g0:(cells (p::ps))[0]?=some (slc p.left):=rfl;have g1:(cells (p::ps))[1]?=some (slc p.right):=rfl;have hpl:((p::ps).length:Int)>0:=by simp
  have hin:inB (0:Int) (p::ps).length=true:=(q6v 0 _).trans (by simp);have hfx:=hb.applied_free p.left;have hfy:=hb.applied_free p.right;have hox:=fun h=>hb.applied_ok h1 h;have hoy:=fun h=>hb.applied_ok h2 h;have hhx:=fun h h'=>hb.head_var (hox h) h';have hhy:=fun h h'=>hb.head_var (hoy h) h';have hb1:decide (0<=(1:Int))=true:=rfl;have hb2:(1:Int)<=((p::ps).length:Int):=by simp only[gAB];omega
  have hlx:=q6y hbo p.left;have hly:=q6y hbo p.right;obtain⟨Z,hZ⟩:∃Z,Z=qlc l b p ps uT (fun(b:Bnd)(ps:List Pr)=>q1b.at0 (n+20) f (q1b.st0 (cells l) (cells ps) (cells b.1) (cells b.2))):=⟨_,rfl⟩;show _=qlc l b p ps uT (fun(b:Bnd)(ps:List Pr)=>q1b.at0 (n+20) f (q1b.st0 (cells l) (cells ps) (cells b.1) (cells b.2)));rw[<- hZ];unfold qlc at hZ;simp only[q1b.next0,q1b.round0,evz,Nat.reduceLT,hpl,hin,g0,g1,a1,a2,hb1,hb2,Int.le_refl,Bool.and_self,qj0];generalize q01 b.1 b.2 p.left=x at *;generalize q01 b.1 b.2 p.right=y at *;by_cases c1:24<x.length
  ·have c1':(x.length:Int)>24:=by omega
   rw[if_pos (.inl c1)]at hZ;simp only[c1',evz,Nat.reduceLT];rw[hZ];rfl
  by_cases c1b:24<y.length
  ·have c1':¬(x.length:Int)>24:=by omega
   have c1b':(y.length:Int)>24:=by omega
   rw[if_pos (.inr c1b)]at hZ;simp only[c1',c1b',evz,Nat.reduceLT];rw[hZ];rfl
  have c1':¬(x.length:Int)>24:=by omega
  have c1b':¬(y.length:Int)>24:=by omega
  have hx:=hox (by omega);have hy:=hoy (by omega);have hxp:=hx.pos;have hyp:=hy.pos;have heq:=(q1w x y ⟨by omega,fun _ _=>trivial⟩).eq;rw[if_neg (by omega)]at hZ;by_cases c2:x=y
  ·rw[if_pos c2]at hZ;rw[decide_eq_true c2]at heq;simp only[c1',c1b',evz,Nat.reduceLT,heq];rw[hZ]
  rw[if_neg c2]at hZ;rw[decide_eq_false c2]at heq;have x0:=q9g hx;have y0:=q9g hy;have inx:inB (0:Int) x.length=true:=(q6v 0 _).trans (by simp;omega);have iny:inB (0:Int) y.length=true:=(q6v 0 _).trans (by simp;omega);by_cases c3:x.getD 0 0<0
  ·obtain⟨hv,hnb⟩:=hhx (by omega) c3;have h5:=q1u ok hb hv hnb hy;unfold qpf at h5;rw[show -1-(-1-x.getD 0 0)=x.getD 0 0 by omega]at h5;rw[if_pos c3]at hZ;by_cases c4:x.getD 0 0∈y
   ·rw[if_pos c4]at hZ h5;simp only[c1',c1b',evz,Nat.reduceLT,heq,inx,x0,c3,q1o (x := -1-x.getD 0 0) (by omega),h5];rw[hZ];rfl
   ·rw[if_neg c4]at hZ h5;simp only[c1',c1b',evz,Nat.reduceLT,heq,inx,x0,c3,q1o (x := -1-x.getD 0 0) (by omega),h5];rw[hZ];cases q5w b (-1-x.getD 0 0) y with
    |none=>rfl
    |some b'=>rfl
  rw[if_neg c3]at hZ;by_cases c5:y.getD 0 0<0
  ·obtain⟨hv,hnb⟩:=hhy (by omega) c5;have h5:=q1u ok hb hv hnb hx;unfold qpf at h5;rw[show -1-(-1-y.getD 0 0)=y.getD 0 0 by omega]at h5;rw[if_pos c5]at hZ;by_cases c4:y.getD 0 0∈x
   ·rw[if_pos c4]at hZ h5;simp only[c1',c1b',evz,Nat.reduceLT,heq,inx,iny,x0,y0,c3,c5,q1o (x := -1-y.getD 0 0) (by omega),h5];rw[hZ];rfl
   ·rw[if_neg c4]at hZ h5;simp only[c1',c1b',evz,Nat.reduceLT,heq,inx,iny,x0,y0,c3,c5,q1o (x := -1-y.getD 0 0) (by omega),h5];rw[hZ];cases q5w b (-1-y.getD 0 0) x with
    |none=>rfl
    |some b'=>rfl
  rw[if_neg c5]at hZ;by_cases c6:x.getD 0 0=y.getD 0 0
  ·rw[if_neg (by simpa using c6)]at hZ;have h3:=(q2e ok hx hy (by omega) c6).eq
   have hal:(q6f l x y).length<=2:=by
    have:=qlv ok x 0;unfold q6f;rw[gAG,List.length_zip];omega
   rw[c6]at x0 c3;simp only[c1',c1b',evz,Nat.reduceLT,heq,inx,iny,x0,y0,c3,c5,eq_self,h3];rw[q1r (q3v (by rw[q0k,q0k,q6u];omega)),<- q33];rw[hZ]
  ·rw[if_pos c6]at hZ;simp only[c1',c1b',evz,Nat.reduceLT,heq,inx,iny,x0,y0,c3,c5,c6];rw[hZ];rfl
end
theorem q4y(t:List Int)(b:Int):(q3o t b).length=t.length:=by simp[q3o]
theorem qh7{t:List Int}{b:Int}{k:Nat}(h:k<t.length):q3o (t.take (k+1)) b=q3o (t.take k) b++[if t[k]<0 then t[k]-b else t[k]]:=by
 rw[<- gAP h];unfold q3o;rw[List.map_append];rfl
theorem q1m(t:List Int)(ht:t.length<=4096)(hr:∀n∈t,-4611686018427387904<=n):Call F.q1m [slc t,.int .i64 6] (slc (q3o t 6)):=by
 refine q0r rfl (t.length+1) ((q1m.ev _ _ _).trans ?_);simp only[evz,Nat.reduceLT,(q2j t (by omega)).eq]
 have key:=qaz (n:=t.length) (f:=t.length+1) (S:=fun m k (o:List Int)=>q1m.at0 (t.length+1) m (q1m.st0 6 t.length (k:Nat) (cells o)))
  (st:=fun k=>q3o (t.take k) 6++t.drop k) (z:=some (slc (q3o t 6),[])) (fun m k h=>?_) (fun m=>?_) (by omega)
 ·exact key
 ·have hn:=hr t[k] (gG h)
  have e1:q3o (t.take (k+1)) 6++t.drop (k+1)=(q3o (t.take k) 6++t.drop k).set k (if t[k]<0 then t[k]-6 else t[k]):=by
   rw[qh7 h,List.set_append_right _ _ (by rw[q4y];simp;omega),gH h];rw[show k-(q3o (t.take k) 6).length=0 by rw[q4y];simp;omega,List.set_cons_zero];simp
  obtain⟨M,hM⟩:∃M,M=q3o (t.take k) 6++t.drop k:=⟨_,rfl⟩;have hMl:M.length=t.length:=by rw[hM];simp[q4y];omega
  have hMk:M[k]?=some t[k]:=by
   rw[hM,List.getElem?_append_right (by rw[q4y];simp;omega)];simp[q4y,Nat.min_eq_left (Nat.le_of_lt h),gA h]
  rw[e1,<- hM];have hkM:k<M.length:=by omega
  have hkc:k*1+1<=(cells M).length:=by rw[q0k,q3e];omega
  simp only[q1m.next0,q1m.round0,evz,Nat.reduceLT,h,hMk,hkM,q1x];by_cases hneg:t[k]<0
  ·rw[q1o (x:=t[k]-6) (by omega)];have:=qa9 hkM (t[k]-6);simp only[hneg,evz,Nat.reduceLT,this,hkc];rw[q0l (by omega)]
  ·have hs:M.set k t[k]=M:=qjz hMk;simp only[hneg,evz,Nat.reduceLT,hs];rw[q0l (by omega)]
 ·rw[List.take_length,gU (gAI _),gAD];simp only[q1m.next0,q1m.round0,evz,Nat.reduceLT,gAK]
theorem q1n(t:List Int)(ht:t.length<=4096)(hr:∀n∈t,-4611686018427387904<=n):Call F.q1n [slc t,.int .i64 6] (slc (q3o t 6)):=by
 refine q0r rfl (t.length+1) ((q1n.ev _ _ _).trans ?_)
 have key:=qaz (n:=t.length) (f:=t.length+1) (S:=fun m k (o:List Int)=>q1n.at0 (t.length+1) m (q1n.st0 (cells t) 6 (k:Nat) (cells o)))
  (st:=fun k=>q3o (t.take k) 6) (z:=some (slc (q3o t 6),[])) (fun m k h=>?_) (fun m=>?_) (by omega)
 ·exact key
 ·have hn:=hr t[k] (gG h);have hlk:t[k]?=some t[k]:=gA h;have hb:Nat.ble (((cells (q3o (t.take k) 6)).length+1)*8) (140737488355328*1)=true:=q3v (by rw[q0k,q3e,q4y];simp;omega);rw[qh7 h];simp only[q1n.next0,q1n.round0,evz,Nat.reduceLT,h,hlk,q1x];by_cases hneg:t[k]<0
  ·rw[q1o (x:=t[k]-6) (by omega)];simp only[hneg,evz,Nat.reduceLT,q2f];rw[q0l (by omega),q1r hb]
  ·simp only[hneg,evz,Nat.reduceLT,q2f];rw[q0l (by omega),q1r hb]
 ·rw[List.take_length];simp only[q1n.next0,q1n.round0,evz,Nat.reduceLT,gAK]
theorem q8h{s:List Int}{n:Int}:idx (fun x=>decide (x=n)) s<0<->n∉s:=by
 rcases q8s (fun x:Int=>decide (x=n)) s with⟨h1,h2⟩|⟨i,hi,h1,h2,_⟩
 ·exact⟨fun _ hm=>by have:=h2 n hm;simp at this,fun _=>by omega⟩
 ·exact⟨fun h=>by omega,fun h=>absurd ((show s[i]=n by simpa using h2)▸gG hi) h⟩
theorem qjo{s:List Int}{n:Int}(h:n∉s):idx (fun x=>decide (x=n)) (s++[n])=s.length:=by
 unfold idx
 have:(s++[n]).findIdx? (fun x=>decide (x=n))=some s.length:=by
  rw[List.findIdx?_append]
  have h0:s.findIdx? (fun x=>decide (x=n))=none:=by
   rw[List.findIdx?_eq_none_iff];intro x hx;have:x≠n:=fun e=>h (e▸hx);simpa using this
  rw[h0];simp[List.findIdx?_cons]
 rw[this]
theorem qh2(s:List Int)(n:Int) : -1<=idx (fun x=>decide (x=n)) s/\idx (fun x=>decide (x=n)) s<s.length+1:=by
 rcases q8s (fun x:Int=>decide (x=n)) s with⟨h1,_⟩|⟨i,hi,h1,_,_⟩ <;> omega
def plSt(seen t:List Int)(k:Nat):List Int×List Int:=((q2k seen (t.take k)).1++t.drop k,(q2k seen (t.take k)).2)
theorem qjw(seen t:List Int){k:Nat}(hk:k<=t.length):(plSt seen t k).1.length=t.length:=by
 have:=(q4j seen (t.take k)).1;unfold plSt;simp only[gM,this];simp;omega
theorem qfn(seen t:List Int){k:Nat}(h:k<t.length):(plSt seen t k).1[k]?=some t[k]:=by
 have hl:=(q4j seen (t.take k)).1;rw[gAF,Nat.min_eq_left (Nat.le_of_lt h)]at hl;unfold plSt;simp only;rw[List.getElem?_append_right (by omega),hl,Nat.sub_self,gH h];rfl
theorem qgo(seen t:List Int)(k:Nat):(plSt seen t k).2.length<=seen.length+k:=by
 have:=(q4j seen (t.take k)).2.1;unfold plSt;simp at this ⊢;omega
theorem qgl(seen t:List Int){k:Nat}(h:k<t.length):plSt seen t (k+1)=((plSt seen t k).1.set k (q7p (plSt seen t k).2 t[k]).1,(q7p (plSt seen t k).2 t[k]).2):=by
 have hl:=(q4j seen (t.take k)).1;rw[gAF,Nat.min_eq_left (Nat.le_of_lt h)]at hl;unfold plSt;simp only;rw[<- gAP h,qb1,List.set_append_right _ _ (by omega),hl,Nat.sub_self,gH h,List.set_cons_zero];simp[q2k]
theorem qge(seen t:List Int):plSt seen t 0=(t,seen):=by simp[plSt,q2k]
theorem qjm(seen t:List Int):plSt seen t t.length=q2k seen t:=by simp[plSt]
theorem qkl(seen t:List Int){k:Nat}(h:k<t.length)(h0:0<=t[k]):plSt seen t (k+1)=plSt seen t k:=by
 have e:=qgl seen t h;have:q7p (plSt seen t k).2 t[k]=(t[k],(plSt seen t k).2):=by unfold q7p;rw[if_pos h0]
 rw[e,this,qjz (qfn seen t h)]
theorem qkb(seen t:List Int){k:Nat}(h:k<t.length)(h0:¬ 0<=t[k])(hn:t[k]∉(plSt seen t k).2) :
 plSt seen t (k+1)=((plSt seen t k).1.set k (-1-((plSt seen t k).2.length:Int)),(plSt seen t k).2++[t[k]]):=by
 rw[qgl seen t h];unfold q7p;rw[if_neg h0,if_pos (q8h.2 hn)]
theorem qjj(seen t:List Int){k:Nat}(h:k<t.length)(h0:¬ 0<=t[k])(hn:t[k]∈(plSt seen t k).2) :
 plSt seen t (k+1)=((plSt seen t k).1.set k (-1-idx (fun x=>decide (x=t[k])) (plSt seen t k).2),(plSt seen t k).2):=by
 rw[qgl seen t h];unfold q7p;rw[if_neg h0,if_neg (fun e=>q8h.1 e hn)]
theorem qnq(seen t r:List Int)(hs:seen.length<=4096)(ht:t.length<=4096){N:Nat}(hN:t.length<N)(L0:St->R) :
 q0b.at2 N L0 N (q0b.st2 2 (0:Nat) t.length (0:Nat) (cells seen) (cells t) (cells r))=L0 (q0b.st0 2 (1:Nat) (cells (q2k seen t).2) (cells (q2k seen t).1) (cells r)):=by
 have key:=qaz (n:=t.length) (f:=N) (S:=fun m k (o:List Int×List Int)=>q0b.at2 N L0 m (q0b.st2 2 (0:Nat) t.length (k:Nat) (cells o.2) (cells o.1) (cells r)))
  (st:=fun k=>plSt seen t k) (z:=L0 (q0b.st0 2 (1:Nat) (cells (q2k seen t).2) (cells (q2k seen t).1) (cells r))) (fun m k h=>?_) (fun m=>?_) (by omega)
 ·rw[qge]at key;exact key
 ·have hl:=qjw seen t (Nat.le_of_lt h);have hg:=qfn seen t h;have hsl:=qgo seen t k;have hp:=qkl seen t h;have hnw:=qkb seen t h;have hod:=qjj seen t h;generalize plSt seen t (k+1)=P at *;generalize plSt seen t k=Q at *;obtain⟨M,s⟩:=Q;simp only at hl hg hsl hp hnw hod;have hkM:k<M.length:=by omega
  have hkc:k*1+1<=(cells M).length:=by rw[q0k,q3e];omega
  have hct:=(q1l s t[k] (by omega)).eq;have hix:=(q0e s t[k] (by omega)).eq;have hix':=(q0e (s++[t[k]]) t[k] (by simp;omega)).eq;have hrg:=qh2 s t[k];by_cases h0:0<=t[k]
  ·have h0':t[k]>=0:=h0;rw[hp h0];simp only[q0b.next2,q0b.round2,evz,Nat.reduceLT,h,hg,hkM,q1x,h0'];rw[q0l (by omega)]
  ·have h0':¬ t[k]>=0:=h0;by_cases hm:t[k]∈s
   ·rw[hod h0 hm];rw[decide_eq_true hm]at hct;have:=qa9 hkM (-1-idx (fun x=>decide (x=t[k])) s);simp only[q0b.next2,q0b.round2,evz,Nat.reduceLT,h,hg,hkM,q1x,h0',hct,hix,q1o (x := -1-idx (fun x=>decide (x=t[k])) s) (by omega),this,hkc];rw[q0l (by omega)]
   ·rw[hnw h0 hm];rw[decide_eq_false hm]at hct;rw[qjo hm]at hix';have:=qa9 hkM (-1-(s.length:Int));simp only[q0b.next2,q0b.round2,evz,Nat.reduceLT,h,hg,hkM,q1x,h0',hct,q2f,hix',q1o (x := -1-(s.length:Int)) (by omega),this,hkc];rw[q0l (by omega),q1r (q3v (by rw[q0k,q3e];omega))]
 ·rw[qjm];simp only[q0b.next2,q0b.round2,evz,Nat.reduceLT,gAK];rw[q0l (by omega)]
theorem qmx(seen t r:List Int)(hs:seen.length<=4096)(ht:t.length<=4096){N:Nat}(hN:t.length<N)(L0:St->R) :
 q0b.at1002 N L0 N (q0b.st1002 2 (1:Nat) t.length (0:Nat) (cells seen) (cells r) (cells t))=L0 (q0b.st0 2 (2:Nat) (cells (q2k seen t).2) (cells r) (cells (q2k seen t).1)):=by
 have key:=qaz (n:=t.length) (f:=N) (S:=fun m k (o:List Int×List Int)=>q0b.at1002 N L0 m (q0b.st1002 2 (1:Nat) t.length (k:Nat) (cells o.2) (cells r) (cells o.1)))
  (st:=fun k=>plSt seen t k) (z:=L0 (q0b.st0 2 (2:Nat) (cells (q2k seen t).2) (cells r) (cells (q2k seen t).1))) (fun m k h=>?_) (fun m=>?_) (by omega)
 ·rw[qge]at key;exact key
 ·have hl:=qjw seen t (Nat.le_of_lt h);have hg:=qfn seen t h;have hsl:=qgo seen t k;have hp:=qkl seen t h;have hnw:=qkb seen t h;have hod:=qjj seen t h;generalize plSt seen t (k+1)=P at *;generalize plSt seen t k=Q at *;obtain⟨M,s⟩:=Q;simp only at hl hg hsl hp hnw hod;have hkM:k<M.length:=by omega
  have hkc:k*1+1<=(cells M).length:=by rw[q0k,q3e];omega
  have hct:=(q1l s t[k] (by omega)).eq;have hix:=(q0e s t[k] (by omega)).eq;have hix':=(q0e (s++[t[k]]) t[k] (by simp;omega)).eq;have hrg:=qh2 s t[k];by_cases h0:0<=t[k]
  ·have h0':t[k]>=0:=h0;rw[hp h0];simp only[q0b.next1002,q0b.round1002,evz,Nat.reduceLT,h,hg,hkM,q1x,h0'];rw[q0l (by omega)]
  ·have h0':¬ t[k]>=0:=h0;by_cases hm:t[k]∈s
   ·rw[hod h0 hm];rw[decide_eq_true hm]at hct;have:=qa9 hkM (-1-idx (fun x=>decide (x=t[k])) s);simp only[q0b.next1002,q0b.round1002,evz,Nat.reduceLT,h,hg,hkM,q1x,h0',hct,hix,q1o (x := -1-idx (fun x=>decide (x=t[k])) s) (by omega),this,hkc];rw[q0l (by omega)]
   ·rw[hnw h0 hm];rw[decide_eq_false hm]at hct;rw[qjo hm]at hix';have:=qa9 hkM (-1-(s.length:Int));simp only[q0b.next1002,q0b.round1002,evz,Nat.reduceLT,h,hg,hkM,q1x,h0',hct,q2f,hix',q1o (x := -1-(s.length:Int)) (by omega),this,hkc];rw[q0l (by omega),q1r (q3v (by rw[q0k,q3e];omega))]
 ·rw[qjm];simp only[q0b.next1002,q0b.round1002,evz,Nat.reduceLT,gAK];rw[q0l (by omega)]
theorem qo0(a b:List Int)(ha:a.length<=1024){N:Nat}(hN:1100<=N)(f:Nat) :
 q0b.at0 N (f+1) (q0b.st0 2 (0:Int) [] (cells a) (cells b))=q0b.at0 N f (q0b.st0 2 (1:Nat) (cells (q2k [] a).2) (cells (q2k [] a).1) (cells b)):=by
 have h2:=qnq [] a b (by simp) (by omega) (N:=N) (by omega) (q0b.at0 N f);rw[show((0:Nat):Int)=0 from rfl,qdp]at h2;rw[q0b.next0,q0b.round0];simp only[q5h,q3e];rw[q1r (by decide),q1r (by decide),q1r (by decide)];exact h2
theorem qoo(seen a b:List Int)(hs:seen.length<=4096)(hb:b.length<=1024){N:Nat}(hN:1100<=N)(f:Nat) :
 q0b.at0 N (f+1) (q0b.st0 2 (1:Nat) (cells seen) (cells a) (cells b))=q0b.at0 N f (q0b.st0 2 (2:Nat) (cells (q2k seen b).2) (cells a) (cells (q2k seen b).1)):=by
 have h3:=qmx seen b a hs (by omega) (N:=N) (by omega) (q0b.at0 N f);rw[show((0:Nat):Int)=0 from rfl]at h3;rw[q0b.next0,q0b.round0];simp only[q5h,q3e];rw[q1r (by decide),q1r (by decide),qfr (by decide),q1r (by decide)];exact h3
theorem qoh(s a b:List Int){N:Nat}(f:Nat):q0b.at0 N (f+1) (q0b.st0 2 (2:Nat) (cells s) (cells a) (cells b))=some (.tup [.agg [slc a,slc b],.bool (decide (s.length<=6))],[]):=by
 rw[q0b.next0,q0b.round0];simp only[q5h,q3e];rw[qfr (by decide),show decide (((s.length:Nat):Int)<=6)=decide (s.length<=6)from decide_eq_decide.2 (by omega)];rfl
theorem q0b(a b:List Int)(ha:a.length<=1024)(hb:b.length<=1024):Call F.q0b [.agg [slc a,slc b]] (.tup [.agg [slc (qbm ⟨a,b⟩).left,slc (qbm ⟨a,b⟩).right],.bool (decide ((qa6 ⟨a,b⟩).length<=6))]):=by
 obtain⟨m,hm⟩:∃m,1100<=m:=⟨1100,gAI _⟩;refine q0r rfl (m+1+1+1) ((q0b.ev _ _ _).trans ?_)
 have ho:Call F.q46 [.agg [slc a,slc b]] (.agg [slc a,slc b]):=by
  refine q0r rfl 0 ((q46.ev _ _ _).trans ?_);simp only[evz,Nat.reduceLT,(q2j a (by omega)).eq,(q2j b (by omega)).eq]
 simp only[evz,Nat.reduceLT,ho.eq];have hs1:=(q4j [] a).2.1;have e0:=qo0 a b ha (N:=m+1+1+1) (by omega) (m+1+1);have e1:=qoo (q2k [] a).2 (q2k [] a).1 b (by simp at hs1;omega) hb (N:=m+1+1+1) (by omega) (m+1);exact e0.trans (e1.trans (qoh _ _ _ m))
theorem q1c(a b:List Int)(ha:a.length<=1024)(hb:b.length<=1024):Call F.q1c [.rref [slc a,slc b] 0]
 (.tup [.agg [slc (if(qa6 ⟨a,b⟩).length<=6 then(qbm ⟨a,b⟩).left else[]),slc (if(qa6 ⟨a,b⟩).length<=6 then(qbm ⟨a,b⟩).right else[])],.bool (decide ((qa6 ⟨a,b⟩).length<=6))]):=by
 refine q0r rfl 3000 ((q1c.ev _ _ _).trans ?_);simp only[evz,Nat.reduceLT,(q56 a (by omega)).eq,q4c,<- q33];rw[q1r (q3v (by rw[q0k,q0k,q3e];omega))];have htl:(a++b).length<=2048:=by simp;omega
 obtain⟨t,hte⟩:∃t,t=a++b:=⟨_,rfl⟩;rw[<- hte]at htl ⊢
 have key:=qaz (n:=t.length) (f:=3000) (S:=fun m k (o:List Int×List Int)=>q1c.at0 3000 m (q1c.st0 (cells a) (cells b) (k:Nat) (cells o.1) (cells o.2)))
  (st:=fun k=>plSt [] t k) (z:=some (.tup [.agg [slc (if(qa6 ⟨a,b⟩).length<=6 then(qbm ⟨a,b⟩).left else[]),slc (if(qa6 ⟨a,b⟩).length<=6 then(qbm ⟨a,b⟩).right else[])],.bool (decide ((qa6 ⟨a,b⟩).length<=6))],[])) (fun m k h=>?_) (fun m=>?_) (by omega)
 ·rw[qge]at key;exact key
 ·have hl:=qjw [] t (Nat.le_of_lt h);have hg:=qfn [] t h;have hsl:=qgo [] t k;have hp:=qkl [] t h;have hnw:=qkb [] t h;have hod:=qjj [] t h;generalize plSt [] t (k+1)=P at *;generalize plSt [] t k=Q at *;obtain⟨M,s⟩:=Q;simp only at hl hg hsl hp hnw hod;have hkM:k<M.length:=by omega
  have hkc:k*1+1<=(cells M).length:=by rw[q0k,q3e];omega
  have hix:=(q2d s t[k] (by simp at hsl;omega)).eq;unfold rank at hix;have hrg:=qh2 s t[k];have hsl':s.length<=2048:=by simp at hsl;omega
  by_cases h0:0<=t[k]
  ·have h0':t[k]>=0:=h0;rw[hp h0];simp only[q1c.next0,q1c.round0,evz,Nat.reduceLT,h,hg,hkM,q1x,h0'];rw[q0l (by omega)]
  ·have h0':¬ t[k]>=0:=h0;by_cases hm:t[k]∈s
   ·rw[hod h0 hm];have:=qa9 hkM (-1-idx (fun x=>decide (x=t[k])) s);have hi:¬ idx (fun x=>decide (x=t[k])) s<0:=fun e=>q8h.1 e hm;simp only[q1c.next0,q1c.round0,evz,Nat.reduceLT,h,hg,hkM,q1x,h0',hix,hi,q1o (x := -1-idx (fun x=>decide (x=t[k])) s) (by omega),this,hkc];rw[q0l (by omega)]
   ·rw[hnw h0 hm];have:=qa9 hkM (-1-(s.length:Int));have hi:idx (fun x=>decide (x=t[k])) s<0:=q8h.2 hm;simp only[q1c.next0,q1c.round0,evz,Nat.reduceLT,h,hg,hkM,q1x,h0',hix,hi,q2f,q1o (x := -1-(s.length:Int)) (by omega),this,hkc];rw[q0l (by omega),q1r (q3v (by rw[q0k,q3e];omega))]
 ·rw[qjm,hte,qb1];have hl1:=(q4j [] a).1;have hl2:=(q4j (q2k [] a).2 b).1;have es:qa6 ⟨a,b⟩=(q2k (q2k [] a).2 b).2:=rfl;simp only[q1c.next0,q1c.round0,evz,Nat.reduceLT,gM,hl1,hl2,gAK,es];by_cases h6:(q2k (q2k [] a).2 b).2.length<=6
  ·have h6':¬(((q2k (q2k [] a).2 b).2.length:Nat):Int)>6:=by omega
   have c1:((((q2k [] a).1++(q2k (q2k [] a).2 b).1).take a.length).drop 0)=(q2k [] a).1:=by rw[List.drop_zero,<- hl1,List.take_left]
   have c2:((((q2k [] a).1++(q2k (q2k [] a).2 b).1).take (a.length+b.length)).drop a.length)=(q2k (q2k [] a).2 b).1:=by
    rw[List.take_of_length_le (by rw[gM];omega),<- hl1,List.drop_left]
   simp only[h6,h6',evz,Nat.reduceLT];rw[q1r (by simp;omega),qeg,c1,(q56 _ (by omega)).eq];simp only[evz,Nat.reduceLT];rw[q1r (by simp;omega),qeg,c2,(q56 _ (by omega)).eq];simp only[evz,Nat.reduceLT];rfl
  ·have h6':(((q2k (q2k [] a).2 b).2.length:Nat):Int)>6:=by omega
   simp only[h6,h6',evz,Nat.reduceLT,q3q]
theorem qbv{l:List Symbol}:∀{n:Nat}{b:Bnd}{ps:List Pr}{c:Int},unif l n b ps=some (.inr c)->c=2\/c=4
 |0,b,ps,c,h=>by cases h
 |n+1,b,[],c,h=>by cases h
 |n+1,b,p::ps,c,h=>by
  rw[unif]at h;split at h
  ·cases h;exact .inl rfl
  split at h
  ·exact qbv h
  split at h
  ·split at h
   ·cases h;exact .inr rfl
   split at h
   ·cases h;exact .inl rfl
   ·exact qbv h
  split at h
  ·split at h
   ·cases h;exact .inr rfl
   split at h
   ·cases h;exact .inl rfl
   ·exact qbv h
  split at h
  ·cases h;exact .inr rfl
  ·exact qbv h
theorem qc7{l:List Symbol}{a b:List Int}(ha:TermOk l a)(hb:TermOk l b){c:Int}(h:qe2 l a b=.inr c):c=2\/c=4:=by
 obtain⟨⟨n,hn⟩,_⟩:=q8p ha hb;rw[h]at hn;exact qbv hn
theorem qf5{l:List Symbol}(ok:SigOk ⟨l⟩){t u:List Int}(ht:TermOk l t)(hu:TermOk l u)(p:Nat):∀n∈q32 l t p u,-4611686018427387904<=n/\n<=4611686018427387904:=fun n hn=>by
 unfold q32 at hn;rcases gO.1 hn with hn|hn
 ·rcases gO.1 hn with hn|hn
  ·exact ht.range ok n (List.mem_of_mem_take hn)
  ·exact hu.range ok n hn
 ·exact ht.range ok n (List.mem_of_mem_drop hn)
section
variable {l:List Symbol}(ok:SigOk ⟨l⟩)
include ok
theorem q7s{o i:Equation}(ho:EqOk l o)(hi:EqOk l i){p:Nat}(hp:p<o.left.length):Call F.q7s [.agg [slc l],.agg [slc o.left,slc o.right],.agg [slc i.left,slc i.right],.int .i64 p] (.agg (enc (qet l o i p))):=by
 refine q0r rfl 0 ((q7s.ev _ _ _ _ _ _ _).trans ?_);have l1:=ho.left.le;have l2:=ho.right.le;have l3:=hi.left.le;have l4:=hi.right.le;have s1:=(q1m i.left (by omega) (fun n hn=>(hi.left.range ok n hn).1)).eq;have s2:=(q1m i.right (by omega) (fun n hn=>(hi.right.range ok n hn).1)).eq;have o1:=q9a hi.left hi.lowL;have o2:=q9a hi.right hi.lowR;have os:=q6g ho.left hp;have hsub:=(q3x ok ho.left hp).eq;have hu:=q0f ok os o1;have hrp:=(q5j ok ho.left hp (q3o i.right 6) (by rw[q4y];omega)).eq;have hrl:=qdd (l:=l) (t:=o.left) (p:=p) (by_:=q3o i.right 6);rw[q4y]at hrl;simp only[evz,Nat.reduceLT,s1,s2,hsub,hu,qet];have hsp:=q8p os o1;have hcd:=fun c=>qc7 os o1 (c:=c);generalize qe2 l (q2s l o.left p) (q3o i.left 6)=u at *;cases u with
 |inr c=>
  have hc:¬ c=0:=by rcases hcd c rfl with h|h <;> omega
  simp only[uT,evz,Nat.reduceLT,hc,q20,q3q];rfl
 |inl b=>
  have hb:=hsp.2 b rfl;have hbl:=hb.le;have hbo:=hb.mb.ok (by omega);simp only[uT,evz,Nat.reduceLT,hrp];have hge:=q8q hb.mb (q32 l o.left p (q3o i.right 6));have a1:=(q0g b.1 b.2 hbo o.right (by omega) (ho.right.range ok)).eq;have a2:=(q0g b.1 b.2 hbo (q32 l o.left p (q3o i.right 6)) (by omega) (qf5 ok ho.left o2 p)).eq;generalize q32 l o.left p (q3o i.right 6)=w at *;generalize q01 b.1 b.2 o.right=x at *;generalize q01 b.1 b.2 w=y at *;by_cases c1:24<w.length
  ·have c1':(w.length:Int)>24:=by omega
   have c2:24<x.length\/24<y.length:=.inr (by omega);simp only[c1',c2,evz,Nat.reduceLT,q20,q3q]
  have c1':¬(w.length:Int)>24:=by omega
  simp only[c1',evz,Nat.reduceLT,a1,a2];by_cases c2:24<x.length
  ·have c2':(x.length:Int)>24:=by omega
   simp only[c2,c2',true_or,evz,Nat.reduceLT,q20,q3q]
  by_cases c3:24<y.length
  ·have c2':¬(x.length:Int)>24:=by omega
   have c3':(y.length:Int)>24:=by omega
   simp only[c3,c2',c3',or_true,evz,Nat.reduceLT,q20,q3q]
  have c2':¬(x.length:Int)>24:=by omega
  have c3':¬(y.length:Int)>24:=by omega
  have hpl:=(q0b x y (by omega) (by omega)).eq;simp only[c2,c3,c2',c3',or_self,evz,Nat.reduceLT,hpl];by_cases c4:(qa6 ⟨x,y⟩).length<=6
  ·have c4':¬ 6<(qa6 ⟨x,y⟩).length:=by omega
   simp only[c4,c4',evz,Nat.reduceLT,Bool.not_true,q20]
  ·have c4':6<(qa6 ⟨x,y⟩).length:=by omega
   simp only[c4,c4',evz,Nat.reduceLT,Bool.not_false,q20,q3q]
theorem q7v{o i:Equation}(ho:EqOk l o)(hi:EqOk l i){p:Nat}(hp:p<o.left.length):Call F.q7v [.rref [slc l] 0,.rref [slc o.left,slc o.right] 0,.rref [slc i.left,slc i.right] 0,.int .i64 p]
 (.tup [.agg [slc (qet l o i p).equation.left,slc (qet l o i p).equation.right],.int .i64 (qet l o i p).code]):=by
 refine q0r rfl 0 ((q7v.ev _ _ _ _ _ _ _).trans ?_);have l1:=ho.left.le;have l2:=ho.right.le;have l3:=hi.left.le;have l4:=hi.right.le;have s1:=(q1n i.left (by omega) (fun n hn=>(hi.left.range ok n hn).1)).eq;have s2:=(q1n i.right (by omega) (fun n hn=>(hi.right.range ok n hn).1)).eq;have o1:=q9a hi.left hi.lowL;have o2:=q9a hi.right hi.lowR;have os:=q6g ho.left hp;have hsub:=(q5n ok ho.left hp).eq;have hu:=q1b ok os o1;have hrp:=(q4z ok ho.left hp (q3o i.right 6) (by rw[q4y];omega)).eq;have hrl:=qdd (l:=l) (t:=o.left) (p:=p) (by_:=q3o i.right 6);rw[q4y]at hrl;simp only[evz,Nat.reduceLT,s1,s2,hsub,hu,qet];have hsp:=q8p os o1;have hcd:=fun c=>qc7 os o1 (c:=c);generalize qe2 l (q2s l o.left p) (q3o i.left 6)=u at *;cases u with
 |inr c=>
  have hc:¬ c=0:=by rcases hcd c rfl with h|h <;> omega
  simp only[uT,evz,Nat.reduceLT,hc,q20,q3q];rfl
 |inl b=>
  have hb:=hsp.2 b rfl;have hbl:=hb.le;have hbo:=hb.mb.ok (by omega);simp only[uT,evz,Nat.reduceLT,hrp];have hge:=q8q hb.mb (q32 l o.left p (q3o i.right 6));have a1:=(q13 b.1 b.2 hbo o.right (by omega) (ho.right.range ok)).eq;have a2:=(q13 b.1 b.2 hbo (q32 l o.left p (q3o i.right 6)) (by omega) (qf5 ok ho.left o2 p)).eq;generalize q32 l o.left p (q3o i.right 6)=w at *;generalize q01 b.1 b.2 o.right=x at *;generalize q01 b.1 b.2 w=y at *;simp only[evz,Nat.reduceLT,a1,a2];by_cases c2:24<x.length
  ·have c2':(x.length:Int)>24:=by omega
   simp only[c2,c2',true_or,evz,Nat.reduceLT,q20,q3q]
  by_cases c3:24<y.length
  ·have c2':¬(x.length:Int)>24:=by omega
   have c3':(y.length:Int)>24:=by omega
   simp only[c3,c2',c3',or_true,evz,Nat.reduceLT,q20,q3q]
  have c2':¬(x.length:Int)>24:=by omega
  have c3':¬(y.length:Int)>24:=by omega
  have hpl:=(q1c x y (by omega) (by omega)).eq;simp only[c2,c3,c2',c3',or_self,evz,Nat.reduceLT,hpl];by_cases c4:(qa6 ⟨x,y⟩).length<=6
  ·have c4':¬ 6<(qa6 ⟨x,y⟩).length:=by omega
   simp only[c4,c4',evz,Nat.reduceLT,Bool.not_true,q20]
  ·have c4':6<(qa6 ⟨x,y⟩).length:=by omega
   simp only[c4,c4',evz,Nat.reduceLT,Bool.not_false,q20,q3q]
end
noncomputable def q8b(s:Signature)(o i:Equation)(p:Int):EquationResult:=
 if q40 s [o,i]≠0 then⟨q40 s [o,i],⟨[],[]⟩⟩else if inR p 0 (o.left.length-1)=false then⟨3,⟨[],[]⟩⟩else if o.left.getD p.toNat 0<0 then⟨1,⟨[],[]⟩⟩else qet s.symbols o i p.toNat
theorem qrt{o i:Equation}(ho:sm 1048576 o)(hi:sm 1048576 i):sm 4294967296 [o,i]:=⟨by simp,fun x hx=>by
 rcases gK.1 hx with rfl|hx
 ·exact q2x (by omega) ho
 ·rw[gD.1 hx];exact q2x (by omega) hi⟩
theorem q6s(s:Signature)(o i:Equation)(p:Int)(hs:sm 1048576 s)(ho:sm 1048576 o)(hi:sm 1048576 i):Call F.q6s [.agg (enc s),.agg (enc o),.agg (enc i),.int .i64 p] (.agg (enc (q8b s o i p))):=by
 obtain⟨l⟩:=s;have hsl:l.length<=4294967296:=Nat.le_trans hs.1 (by omega);have hol:o.left.length<=1048576:=ho.1.1;have hf:LIM F.q4f [.agg [slc l],.sl 2 [slc o.left,slc o.right,slc i.left,slc i.right]]=some (.int .i64 (q40 ⟨l⟩ [o,i]),[]):=(q4f l hsl [o,i] (qrt ho hi)).eq;show Call F.q6s [.agg [slc l],.agg [slc o.left,slc o.right],.agg [slc i.left,slc i.right],.int .i64 p] _;refine q0r rfl 0 ((q6s.ev _ _ _ _ _ _ _).trans ?_);simp only[evz,Nat.reduceLT,hf,q8b,q1o (x:=(o.left.length:Int)-1) (by omega),(q2n _ _ _).eq];by_cases h:q40 ⟨l⟩ [o,i]=0
 case neg=>simp only[h,evz,Nat.reduceLT,ne_eq,gX,q20,q3q]
 obtain⟨_,ok,_,q2⟩:=q87 h;have q2o:=q2 o (by simp);have q2i:=q2 i (by simp);cases h1:inR p 0 (o.left.length-1)with
 |false=>simp only[h,evz,Nat.reduceLT,ne_eq,gW,Bool.not_false,q20,q3q]
 |true=>
  have hp1:=q4p.1 h1;obtain⟨a,rfl⟩:∃a:Nat,p=a:=⟨p.toNat,by omega⟩;have ha:a<o.left.length:=by omega
  have hlk:o.left[a]?=some o.left[a]:=gA ha;have hd:o.left.getD a 0=o.left[a]:=q8c ha;have hpk:=(q7s ok q2o q2i ha).eq;rw[q20]at hpk;simp only[h,evz,Nat.reduceLT,ne_eq,gW,Bool.not_true,ha,hlk,q1x,hd,reduceCtorEq,hpk];by_cases h3:o.left[a]<0 <;> simp only[h3,evz,Nat.reduceLT,q20,q3q]
theorem q6q(s:Signature)(o i:Equation)(p:Int)(hs:sm 1048576 s)(ho:sm 1048576 o)(hi:sm 1048576 i):Call F.q6q [.agg (enc s),.agg (enc o),.agg (enc i),.int .i64 p] (.agg (enc (q8b s o i p))):=by
 obtain⟨l⟩:=s;have hsl:l.length<=4294967296:=Nat.le_trans hs.1 (by omega);have hol:o.left.length<=1048576:=ho.1.1;have hf:LIM F.q4e [.agg [slc l],.sl 2 [slc o.left,slc o.right,slc i.left,slc i.right]]=some (.int .i64 (q40 ⟨l⟩ [o,i]),[]):=(q4e l hsl [o,i] (qrt ho hi)).eq
 have h2:Call F.qao [.rref [slc l] 0,.rref [slc o.left,slc o.right] 0,.rref [slc i.left,slc i.right] 0] (.int .i64 (q40 ⟨l⟩ [o,i])):=by
  refine q0r rfl 0 ((qao.ev _ _ _ _ _ _).trans ?_);simp only[evz,Nat.reduceLT,hf]
 show Call F.q6q [.agg [slc l],.agg [slc o.left,slc o.right],.agg [slc i.left,slc i.right],.int .i64 p] _;refine q0r rfl 0 ((q6q.ev _ _ _ _ _ _ _).trans ?_);simp only[evz,Nat.reduceLT,h2.eq,q8b,(q69 o.left p (by omega)).eq];by_cases h:q40 ⟨l⟩ [o,i]=0
 case neg=>simp only[h,evz,Nat.reduceLT,ne_eq,gX,q20,q3q]
 obtain⟨_,ok,_,q2⟩:=q87 h;have q2o:=q2 o (by simp);have q2i:=q2 i (by simp);cases h1:inR p 0 (o.left.length-1)with
 |false=>simp only[h,evz,Nat.reduceLT,ne_eq,gW,Bool.not_false,q20,q3q]
 |true=>
  have hp1:=q4p.1 h1;obtain⟨a,rfl⟩:∃a:Nat,p=a:=⟨p.toNat,by omega⟩;have ha:a<o.left.length:=by omega
  have hlk:o.left[a]?=some o.left[a]:=gA ha;have hd:o.left.getD a 0=o.left[a]:=q8c ha;have hpk:=(q7v ok q2o q2i ha).eq;simp only[h,evz,Nat.reduceLT,ne_eq,gW,Bool.not_true,ha,hlk,q1x,hd,reduceCtorEq,hpk];by_cases h3:o.left[a]<0 <;> simp only[h3,evz,Nat.reduceLT,q20,q3q]
end Ev.Ty
end
section
namespace Ev.Ty
open Go Ev
set_option maxHeartbeats 1000000
section
variable {l:List Symbol}{z:Int}{tb:List (List Int)}(al:AlgOk l z tb){vs:List Int}(hr:∀n∈vs,0<=n/\n<=z-1)
include al hr
theorem qko:∀{x:Tm},x.ok (ar l)->x.syms l.length->0<=x.eval z tb vs/\x.eval z tb vs<=z-1
 |.v n,ok,hs=>by
  have hz:=al.size;show 0<=vs.getD (-1-n).toNat 0/\vs.getD (-1-n).toNat 0<=z-1;rw[gI];rcases Nat.lt_or_ge (-1-n).toNat vs.length with h|h
  ·rw[gA h];exact hr _ (gG h)
  ·rw[List.getElem?_eq_none h];show 0<=(0:Int)/\(0:Int)<=z-1;omega
 |.k n,ok,hs=>by
  obtain⟨y,rfl,h,h',r1,r2,r3,r4⟩:=qbd al ok.1 hs;rw[ok.2,Nat.pow_zero]at r1;have h0:0<tb[y].length:=by omega
  show 0<=(tb.getD (y:Int).toNat []).getD 0 0/\(tb.getD (y:Int).toNat []).getD 0 0<=z-1;rw[r3,show tb[y].getD 0 0=tb[y][0] by simp[h0]];exact r2 _ (gG h0)
 |.u n x,ok,hs=>by
  obtain⟨y,rfl,h,h',r1,r2,r3,r4⟩:=qbd al ok.1 hs.1;obtain⟨i1,i2⟩:=qko (x:=x) ok.2.2 hs.2;rw[ok.2.1,Nat.pow_one]at r1;have h0:(x.eval z tb vs).toNat<tb[y].length:=by omega
  show 0<=(tb.getD (y:Int).toNat []).getD (x.eval z tb vs).toNat 0/\(tb.getD (y:Int).toNat []).getD (x.eval z tb vs).toNat 0<=z-1;rw[r3,show tb[y].getD (x.eval z tb vs).toNat 0=tb[y][(x.eval z tb vs).toNat] by simp[h0]];exact r2 _ (gG h0)
 |.b n x w,ok,hs=>by
  obtain⟨y,rfl,h,h',r1,r2,r3,r4⟩:=qbd al ok.1 hs.1;obtain⟨i1,i2⟩:=qko (x:=x) ok.2.2.1 hs.2.1;obtain⟨j1,j2⟩:=qko (x:=w) ok.2.2.2 hs.2.2;rw[ok.2.1]at r1;have hz:=al.size
  have h0:(x.eval z tb vs*z+w.eval z tb vs).toNat<tb[y].length:=by
   rw[r1];have:z=1\/z=2\/z=3:=by omega
   rcases this with rfl|rfl|rfl <;> simp <;> omega
  show 0<=(tb.getD (y:Int).toNat []).getD (x.eval z tb vs*z+w.eval z tb vs).toNat 0/\(tb.getD (y:Int).toNat []).getD (x.eval z tb vs*z+w.eval z tb vs).toNat 0<=z-1;rw[r3,show tb[y].getD (x.eval z tb vs*z+w.eval z tb vs).toNat 0=tb[y][(x.eval z tb vs*z+w.eval z tb vs).toNat] by simp[h0]];exact r2 _ (gG h0)
end
theorem qad{z:Int}{tb:List (List Int)}{vs vs':List Int}:∀{x:Tm},(∀n∈x.flat,n<0->vs.getD (-1-n).toNat 0=vs'.getD (-1-n).toNat 0)->(a:Int->Nat)->x.ok a->x.eval z tb vs=x.eval z tb vs'
 |.v n,h,a,hx=>h n (gD.2 rfl) hx
 |.k n,h,a,hx=>rfl
 |.u n x,h,a,hx=>by
  show(tb.getD n.toNat []).getD (x.eval z tb vs).toNat 0=(tb.getD n.toNat []).getD (x.eval z tb vs').toNat 0;rw[qad (x:=x) (fun m hm=>h m (gF _ hm)) a hx.2.2]
 |.b n x y,h,a,hx=>by
  show(tb.getD n.toNat []).getD (x.eval z tb vs*z+y.eval z tb vs).toNat 0=(tb.getD n.toNat []).getD (x.eval z tb vs'*z+y.eval z tb vs').toNat 0;rw[qad (x:=x) (fun m hm=>h m (gF _ (gJ _ hm))) a hx.2.2.1,qad (x:=y) (fun m hm=>h m (gF _ (gN _ hm))) a hx.2.2.2]
theorem qcb{ρ:Int->Int}(hρ:∀n,0<=n->ρ n=n){a:Int->Nat}:∀x:Tm,x.ok a->(x.inst fun n=>.v (ρ n)).flat=x.flat.map ρ
 |.v n,h=>rfl
 |.k n,h=>by show[n]=[ρ n];rw[hρ n h.1]
 |.u n x,h=>by
  show n::(x.inst fun n=>.v (ρ n)).flat=ρ n::x.flat.map ρ;rw[hρ n h.1,qcb hρ x h.2.2]
 |.b n x y,h=>by
  show n::((x.inst fun n=>.v (ρ n)).flat++(y.inst fun n=>.v (ρ n)).flat)=ρ n::(x.flat++y.flat).map ρ;rw[hρ n h.1,qcb hρ x h.2.2.1,qcb hρ y h.2.2.2,List.map_append]
def ren(S:List Int)(n:Int):Int:=if 0<=n then n else -1-idx (fun x=>decide (x=n)) S
theorem qir{s S:List Int}{n:Int}(h:s <+: S)(hn:¬ idx (fun x=>decide (x=n)) s<0):idx (fun x=>decide (x=n)) S=idx (fun x=>decide (x=n)) s:=by
 obtain⟨r,rfl⟩:=h;unfold idx at hn ⊢;cases e:s.findIdx? (fun x=>decide (x=n))with
 |none=>rw[e]at hn;exact absurd (by decide) hn
 |some i=>rw[List.findIdx?_append,e];rfl
theorem qau:∀(seen t:List Int),seen <+: (q2k seen t).2
 |seen,[]=>List.prefix_refl _
 |seen,n::t=>by
  have ih:=qau (q7p seen n).2 t
  have h1:seen <+: (q7p seen n).2:=by
   unfold q7p;split
   ·exact List.prefix_refl _
   ·split
    ·exact List.prefix_append _ _
    ·exact List.prefix_refl _
  exact h1.trans ih
theorem qel:∀(seen t S:List Int),(q2k seen t).2 <+: S->(q2k seen t).1=t.map (ren S)/\∀n∈t,n<0->¬ idx (fun x=>decide (x=n)) S<0
 |seen,[],S,_=>⟨rfl,fun n hn=>by cases hn⟩
 |seen,n::t,S,h=>by
  obtain⟨ih1,ih2⟩:=qel (q7p seen n).2 t S h;have hp:(q7p seen n).2 <+: S:=(qau _ t).trans h
  have here:(q7p seen n).1=ren S n/\(n<0->¬ idx (fun x=>decide (x=n)) S<0):=by
   unfold q7p at hp ⊢;unfold ren;by_cases h0:0<=n
   ·rw[if_pos h0,if_pos h0];exact⟨rfl,fun h=>by omega⟩
   ·rw[if_neg h0]at hp ⊢;rw[if_neg h0];by_cases h1:idx (fun x=>decide (x=n)) seen<0
    ·rw[if_pos h1]at hp ⊢;have hs:=qjo (s:=seen) (n:=n) (q8h.1 h1);have e:=qir hp (n:=n) (by rw[hs];omega);rw[e,hs];exact⟨rfl,fun _=>by omega⟩
    ·rw[if_neg h1]at hp ⊢;have e:=qir hp h1;rw[e];exact⟨rfl,fun _=>h1⟩
  refine⟨by show(q7p seen n).1::(q2k (q7p seen n).2 t).1=ren S n::t.map (ren S);rw[here.1,ih1],fun m hm h0=>?_⟩;rcases gK.1 hm with rfl|hm
  ·exact here.2 h0
  ·exact ih2 m hm h0
section
variable {l:List Symbol}(ok:SigOk ⟨l⟩)
include ok
theorem qhv{z:Nat}{tb:List (List Int)}(hz:0<z){L R:List Int}(hL:TermOk l L)(hR:TermOk l R)(h6:(qa6 ⟨L,R⟩).length<=6)
 (h:∀vs:List Int,(∀n∈vs,0<=n/\n<=(z:Int)-1)->(q2z l L).eval z tb vs=(q2z l R).eval z tb vs):q4b l z tb (qbm ⟨L,R⟩)=true:=by
 have hp:=qjx (e:=⟨L,R⟩) hL hR h6;generalize hS:qa6 ⟨L,R⟩=S at *;have hS2:(q2k (q2k [] L).2 R).2=S:=hS;obtain⟨r1,r2⟩:=qel [] L S (by rw[<- hS2];exact qau _ _);obtain⟨r3,r4⟩:=qel (q2k [] L).2 R S (by rw[hS2];exact List.prefix_refl _);have hρ:∀n,0<=n->ren S n=n:=fun n hn=>by unfold ren;rw[if_pos hn]
 obtain⟨xL,eL⟩:=q3h ok hL;obtain⟨xR,eR⟩:=q3h ok hR
 have hrn:∀n,n<0->ren S n<0\/idx (fun x=>decide (x=n)) S<0:=fun n hn=>by
  unfold ren;rw[if_neg (by omega)];omega
 have low:∀(t:List Int)(x:Tm),x.ok (ar l)->t=x.flat->(∀n∈t,n<0->¬ idx (fun x=>decide (x=n)) S<0)->(x.inst fun n=>.v (ren S n)).ok (ar l):=fun t x hx ht hn=>by
  have:∀x:Tm,x.ok (ar l)->(∀n∈x.flat,n<0->¬ idx (fun x=>decide (x=n)) S<0)->(x.inst fun n=>.v (ren S n)).ok (ar l):=by
   intro x;induction x with
   |v n=>intro h1 h2;have:=hrn n h1;have:=h2 n (gD.2 rfl) h1;show ren S n<0;omega
   |k n=>intro h1 _;exact h1
   |u n x ih=>intro h1 h2;exact⟨h1.1,h1.2.1,ih h1.2.2 fun m hm=>h2 m (gF _ hm)⟩
   |b n x y ihx ihy=>intro h1 h2;exact⟨h1.1,h1.2.1,ihx h1.2.2.1 fun m hm=>h2 m (gF _ (gJ _ hm)),ihy h1.2.2.2 fun m hm=>h2 m (gF _ (gN _ hm))⟩
  exact this x hx (by rw[<- ht];exact hn)
 have tL:q2z l (q2k [] L).1=(q2z l L).inst fun n=>.v (ren S n):=q7o ok hp.left (low L _ xL eL r2) (by show(q2k [] L).1=_;rw[r1,qcb hρ _ xL,<- eL]);have tR:q2z l (q2k (q2k [] L).2 R).1=(q2z l R).inst fun n=>.v (ren S n):=q7o ok hp.right (low R _ xR eR r4) (by show(q2k (q2k [] L).2 R).1=_;rw[r3,qcb hρ _ xR,<- eR]);refine qci hz fun vs hv6 hvr=>?_;show(q2z l (q2k [] L).1).eval z tb vs=(q2z l (q2k (q2k [] L).2 R).1).eval z tb vs;let W:List Int:=(List.range 12).map fun(i:Nat)=>vs.getD (-1-ren S (-1-(i:Int))).toNat 0
 have hW:∀n∈W,0<=n/\n<=(z:Int)-1:=fun n hn=>by
  obtain⟨i,_,rfl⟩:=List.mem_map.1 hn;rw[gI];rcases Nat.lt_or_ge (-1-ren S (-1-(i:Int))).toNat vs.length with h|h
  ·rw[gA h];exact hvr _ (gG h)
  ·rw[List.getElem?_eq_none h];show 0<=(0:Int)/\(0:Int)<=(z:Int)-1;omega
 have hWat:∀(t:List Int),TermOk l t->∀n∈t,n<0->W.getD (-1-n).toNat 0=(Tm.v (ren S n)).eval z tb vs:=fun t ht n hn h0=>by
  have hb:=q49.1 (ht.node n hn);have hi:(-1-n).toNat<12:=by omega
  show((List.range 12).map _).getD _ 0=vs.getD (-1-ren S n).toNat 0;rw[gI,gAC,List.getElem?_range hi];show vs.getD (-1-ren S (-1-(((-1-n).toNat:Nat):Int))).toNat 0=_;rw[show -1-(((-1-n).toNat:Nat):Int)=n by omega]
 rw[tL,tR,q91 (vs':=W) _ (fun n hn h0=>hWat L hL n (by rw[eL];exact hn) h0) (ar l) xL,q91 (vs':=W) _ (fun n hn h0=>hWat R hR n (by rw[eR];exact hn) h0) (ar l) xR];exact h W hW
theorem qt7{t:List Int}(ht:TermOk l t):(q2z l t).syms l.length:=by
 obtain⟨h1,h2⟩:=q3h ok ht;exact Tm.syms_of h1 (by rw[<- h2];exact ht.node)
theorem qic{z:Nat}{tb:List (List Int)}(al:AlgOk l z tb)(hz:0<z){o i:Equation}(ho:EqOk l o)(hi:EqOk l i)(hho:q4b l z tb o=true)(hhi:q4b l z tb i=true){p:Nat}(hp:p<o.left.length)
 {b:Bnd} (hb:qe2 l (q2s l o.left p) (q3o i.left 6)=.inl b) (h1:(q01 b.1 b.2 o.right).length<=24) (h2:(q01 b.1 b.2 (q32 l o.left p (q3o i.right 6))).length<=24) {vs:List Int} (hv:∀n∈vs,0<=n/\n<=(z:Int)-1) :
 (TermOk l (q01 b.1 b.2 o.right)/\TermOk l (q01 b.1 b.2 (q32 l o.left p (q3o i.right 6))))/\(q2z l (q01 b.1 b.2 o.right)).eval z tb vs=(q2z l (q01 b.1 b.2 (q32 l o.left p (q3o i.right 6)))).eval z tb vs:=by
 have hsl:=q9a hi.left hi.lowL;have hsr:=q9a hi.right hi.lowR;have hsub:=q6g ho.left hp;obtain⟨ub,heq⟩:=qnh ok hsub hsl hb;have hbt:BindOk b.1 b.2/\∀t∈b.2,TermOk l t:=⟨ub.mb.ok (by omega),ub.mb.tm⟩;have hge:=q8q ub.mb (q32 l o.left p (q3o i.right 6));have hrep:=qsk ok ho.left hsr hp (by omega);have hA:=ub.applied_ok ho.right h1;have hB:=ub.applied_ok hrep h2;refine⟨⟨hA,hB⟩,?_⟩;obtain⟨ol,eol⟩:=q3h ok ho.left;obtain⟨orr,eor⟩:=q3h ok ho.right;obtain⟨il,eil⟩:=q3h ok hi.left;obtain⟨ir,eir⟩:=q3h ok hi.right;obtain⟨sl,esl⟩:=q3h ok hsl;obtain⟨sr,esr⟩:=q3h ok hsr;have sok:=qof ok hbt;let V:List Int:=(List.range 12).map fun(j:Nat)=>(subB l b.1 b.2 (-1-(j:Int))).eval z tb vs
 have hVat:∀(t:List Int),(∀n∈t,n<0 -> -12<=n)->∀n∈t,n<0->V.getD (-1-n).toNat 0=(subB l b.1 b.2 n).eval z tb vs:=fun t ht n hn h0=>by
  have hb:=ht n hn h0;have hi:(-1-n).toNat<12:=by omega
  show((List.range 12).map _).getD _ 0=_;rw[gI,gAC,List.getElem?_range hi];show(subB l b.1 b.2 (-1-(((-1-n).toNat:Nat):Int))).eval z tb vs=_;rw[show -1-(((-1-n).toNat:Nat):Int)=n by omega]
 have hV:∀n∈V,0<=n/\n<=(z:Int)-1:=fun n hn=>by
  obtain⟨j,_,rfl⟩:=List.mem_map.1 hn;refine qko al hv (sok _ (by omega)) ?_;unfold subB;cases e:q3c b.1 b.2 (-1-(-1-(j:Int)))with
  |none=>exact trivial
  |some t=>
   have ht:=ub.mb.tm t (q4s e);show(qqv l t).syms l.length;rw[qq1 ok ht];exact qt7 ok ht
 have twelve:∀{t:List Int},TermOk l t->∀n∈t,n<0 -> -12<=n:=fun ht n hn h0=>by rcases q49.1 (ht.node n hn)with h|h <;> omega
 have inst_val:∀{x:Tm},x.ok (ar l)->(∀n∈x.flat,n<0 -> -12<=n)->(x.inst (subB l b.1 b.2)).eval z tb vs=x.eval z tb V:=fun {x} hx h=>q91 x (fun n hn h0=>hVat x.flat h n hn h0) (ar l) hx
 have six:∀(U:List Int)(W:List Int)(e:Equation),(∀n∈W,0<=n/\n<=(z:Int)-1)->W.length=6->EqOk l e->q4b l z tb e=true->(∀j:Nat,j<6->U.getD j 0=W.getD j 0)->(q2z l e.left).eval z tb U=(q2z l e.right).eval z tb U:=fun U W e hW h6 he hh hj=>by
  obtain⟨a1,a2⟩:=q3h ok he.left;obtain⟨b1,b2⟩:=q3h ok he.right;have:=q9i hz hh h6 hW;rw[qad (vs':=W) (x:=q2z l e.left) (fun n hn h0=>hj _ (by have:=he.lowL n (by rw[a2];exact hn);omega)) (ar l) a1,qad (vs':=W) (x:=q2z l e.right) (fun n hn h0=>hj _ (by have:=he.lowR n (by rw[b2];exact hn);omega)) (ar l) b1];exact this
 have hVl:V.length=12:=by show((List.range 12).map _).length=12;simp
 have v1:=six V (V.take 6) o (fun n hn=>hV n (List.mem_of_mem_take hn)) (by rw[gAF,hVl];rfl) ho hho (fun j hj=>by rw[gI,gI,gT,if_pos hj]);have v2:=six (V.drop 6) (V.drop 6) i (fun n hn=>hV n (List.mem_of_mem_drop hn)) (by rw[gAA,hVl]) hi hhi (fun j hj=>rfl)
 have shv:∀(t:List Int),TermOk l t->TermOk l (q3o t 6)->(q2z l (q3o t 6)).eval z tb V=(q2z l t).eval z tb (V.drop 6):=fun t ht hts=>by
  obtain⟨a1,a2⟩:=q3h ok ht;have hρ:∀n:Int,0<=n->(if n<0 then n-6 else n)=n:=fun n hn=>by rw[if_neg (by omega)]
  have e:=q7o ok hts (x:=(q2z l t).inst fun n=>.v (if n<0 then n-6 else n)) (Tm.inst_ok (fun n hn=>by show(if n<0 then n-6 else n)<0;rw[if_pos hn];omega) a1) (by
   rw[qcb hρ _ a1,<- a2];rfl)
  rw[e];refine q91 _ (fun n hn h0=>?_) (ar l) a1;show(V.drop 6).getD (-1-n).toNat 0=V.getD (-1-(if n<0 then n-6 else n)).toNat 0;rw[if_pos h0,gI,gI,gV,show 6+(-1-n).toNat=(-1-(n-6)).toNat by omega]
 obtain⟨y,C,c1,⟨rest,c2⟩,c3,c4⟩:=qin (z:=(z:Int)) (tb:=tb) (vs:=V) (q2z l o.left) p ol (by rw[<- eol];exact hp);have hat:At l o.left p y:=⟨c1,rest,by rw[eol];exact c2⟩;obtain⟨_,_,a3,a4⟩:=hat.facts
 have ey:q2z l o.left=C y:=by
  have:(C y).flat=o.left:=by
   rw[(c3 y c1).2,<- eol,<- a3,<- a4];exact qcr ho.left hp
  exact(qk5 ol (c3 y c1).1).1 (by rw[this,<- eol])
 have er:q2z l (q32 l o.left p (q3o i.right 6))=C (q2z l (q3o i.right 6)):=q7o ok hrep (c3 _ sr).1 (by
  unfold q32;rw[(c3 _ sr).2,a3,<- eol,<- esr])
 have iy:y.inst (subB l b.1 b.2)=(q2z l (q3o i.left 6)).inst (subB l b.1 b.2):=by
  refine(qk5 (Tm.inst_ok sok c1) (Tm.inst_ok sok sl)).1 ?_;rw[<- q86 ok hbt y c1,<- q86 ok hbt _ sl,<- esl,<- a4];exact heq
 have vy:y.eval z tb V=(q2z l (q3o i.right 6)).eval z tb V:=by
  rw[<- inst_val c1 (by rw[<- a4];exact twelve hsub),iy,inst_val sl (by rw[<- esl];exact twelve hsl),shv _ hi.left hsl,v2,<- shv _ hi.right hsr]
 have tA:q2z l (q01 b.1 b.2 o.right)=(q2z l o.right).inst (subB l b.1 b.2):=q7o ok hA (Tm.inst_ok sok orr) (by rw[<- q86 ok hbt _ orr,<- eor]);obtain⟨pr,epr⟩:=q3h ok hrep;have tB:q2z l (q01 b.1 b.2 (q32 l o.left p (q3o i.right 6)))=(q2z l (q32 l o.left p (q3o i.right 6))).inst (subB l b.1 b.2):=q7o ok hB (Tm.inst_ok sok pr) (by rw[<- q86 ok hbt _ pr,<- epr]);rw[tA,tB,inst_val orr (by rw[<- eor];exact twelve ho.right),inst_val pr (by rw[<- epr];exact twelve hrep),er,<- c4 y _ vy,<- ey,v1]
theorem qqm{z:Nat}{tb:List (List Int)}(al:AlgOk l z tb)(hz:0<z){o i:Equation}(ho:EqOk l o)(hi:EqOk l i)(hho:q4b l z tb o=true)(hhi:q4b l z tb i=true){p:Nat}(hp:p<o.left.length)(h:(qet l o i p).code=0) :
 q4b l z tb (qet l o i p).equation=true:=by
 unfold qet at h ⊢;cases hb:qe2 l (q2s l o.left p) (q3o i.left 6)with
 |inr c=>
  rw[hb]at h;simp only at h;have:=qc7 (q6g ho.left hp) (q9a hi.left hi.lowL) hb;omega
 |inl b=>
  rw[hb]at h;simp only at h ⊢;by_cases c1:24<(q01 b.1 b.2 o.right).length\/24<(q01 b.1 b.2 (q32 l o.left p (q3o i.right 6))).length
  ·rw[if_pos c1]at h;cases h
  rw[if_neg c1]at h ⊢;by_cases c2:6<(qa6 ⟨q01 b.1 b.2 o.right,q01 b.1 b.2 (q32 l o.left p (q3o i.right 6))⟩).length
  ·rw[if_pos c2]at h;cases h
  rw[if_neg c2];have hT:=(qic ok al hz ho hi hho hhi hp hb (by omega) (by omega) (vs:=[]) (by simp)).1;exact qhv ok hz hT.1 hT.2 (by omega) fun vs hv=>(qic ok al hz ho hi hho hhi hp hb (by omega) (by omega) hv).2
end
end Ev.Ty
end
section
namespace Ev.Ty
open Go Ev
open Enc (enc)
open Sm (sm)
section
variable {l:List Symbol}(ok:SigOk ⟨l⟩)
include ok
end
section
variable {l:List Symbol}(ok:SigOk ⟨l⟩){rs:List Equation}(hr:∀e∈rs,EqOk l e)(hl:rs.length<=12)
include ok hr hl
end
theorem qsr{l:List Symbol}{t u:List Int}(ht:TermOk l t){p:Nat}(hp:p<t.length)(hu:TermOk l u)(h:(q32 l t p u).length<=24):TermOk l (q32 l t p u):=by
 obtain⟨h1,h2,h3⟩:=q54 ht hp
 have hs:skip (ar l) 1 (q32 l t p u)=some []:=by
  unfold q32;rw[gZ];refine qgm (y:=q2s l t p) (by rw[<- h1];exact h3) (by have:=qb0 (r:=t.drop (q52 l t p)) hu.skip;simpa using this) (t.take p) 1 ?_;rw[<- h1,List.take_append_drop];exact ht.skip
 refine⟨?_,h,fun n hn=>?_,hs⟩
 ·rcases Nat.eq_zero_or_pos (q32 l t p u).length with h|h
  ·rw[gL h]at hs;cases hs
  ·exact h
 ·unfold q32 at hn;rcases gO.1 hn with hn|hn
  ·rcases gO.1 hn with hn|hn
   ·exact ht.node n (List.mem_of_mem_take hn)
   ·exact hu.node n hn
  ·exact ht.node n (List.mem_of_mem_drop hn)
theorem qtw{l:List Symbol}(ok:SigOk ⟨l⟩){o i:Equation}(ho:EqOk l o)(hi:EqOk l i){p:Nat}(hp:p<o.left.length)(h0:(qet l o i p).code=0):EqOk l (qet l o i p).equation:=by
 have o1:=q9a hi.left hi.lowL;have o2:=q9a hi.right hi.lowR;have os:=q6g ho.left hp;have hsp:=q8p os o1;have hcd:=fun c=>qc7 os o1 (c:=c);unfold qet at h0 ⊢;split
 ·rename_i c hc;rw[hc]at h0;have:=hcd c hc;simp only at h0;omega
 ·rename_i b hb;rw[hb]at h0;simp only at h0;split at h0
  ·cases h0
  rename_i c1;split at h0
  ·cases h0
  rename_i c2;rw[if_neg c1,if_neg c2];have hub:=hsp.2 b hb;have hwl:=q8q hub.mb (q32 l o.left p (q3o i.right 6));exact qjx (hub.applied_ok ho.right (by omega)) (hub.applied_ok (qsr ho.left hp o2 (by omega)) (by omega)) (by omega)
section
variable {l:List Symbol}{rs:List Equation}(hrf:q40 ⟨l⟩ rs=0)(hls:sm 1048576 (Signature.mk l))(hrs:sm 1048576 rs){fuel:Nat}(hf:fuel<=200)
include hrf hls hrs hf
end
theorem qk6{l:List Symbol}{t:List Int}(ht:∀n∈t,-6<=n):∀(q:List Int)(b:Bnd)(p:Nat),(∀u∈b.2,∀n∈u,-6<=n)->∀x,mgo l t q b p=some x->∀u∈x.1.2,∀n∈u,-6<=n
 |[],b,p,hb,x,hx=>by
  cases hx;exact hb
 |n::q,b,p,hb,x,hx=>by
  rw[mgo]at hx;split at hx
  ·cases hx
  split at hx
  ·split at hx
   ·exact qk6 ht q b _ hb x hx
   ·cases hx
  split at hx
  ·refine qk6 ht q _ _ (fun u hu=>?_) x hx;rcases qjp hu with rfl|hu
   ·intro m hm;exact ht m (List.mem_of_mem_take (List.mem_of_mem_drop hm))
   ·exact hb u hu
  ·split at hx
   ·exact qk6 ht q b _ hb x hx
   ·cases hx
theorem qnc{l:List Symbol}{q t:List Int}(ht:∀n∈t,-6<=n){p:Nat}{b:Bnd}(h:q6i l q t p=some b):∀u∈b.2,∀n∈u,-6<=n:=by
 unfold q6i at h;rw[gP]at h;obtain⟨x,hx,rfl⟩:=h;exact qk6 ht q ([],[]) p (by simp) x hx
theorem qr1{l:List Symbol}{e:Equation}{t:List Int}(he:EqOk l e)(ht:∀n∈t,-6<=n){p:Nat}:∀n∈(q99 l e t p).term,-6<=n:=by
 intro n hn;unfold q99 at hn;cases hm:q6i l e.left t p with
 |none=>rw[hm]at hn;cases hn
 |some b=>
  have hb:=qnc ht hm;rw[hm]at hn;simp only at hn;split at hn
  ·cases hn
  unfold q32 at hn;rcases gO.1 hn with hn|hn
  ·rcases gO.1 hn with hn|hn
   ·exact ht n (List.mem_of_mem_take hn)
   ·unfold q01 at hn;obtain⟨m,h1,h2⟩:=List.mem_flatMap.1 hn;cases ho:q3c b.1 b.2 (-1-m)with
    |none=>rw[ho]at h2;simp only[Option.getD_none,gD]at h2;subst h2;exact he.lowR _ h1
    |some u=>rw[ho]at h2;exact hb u (q4s ho) n h2
  ·exact ht n (List.mem_of_mem_drop hn)
def two(e:Entry):Bool:=decide (e.kind=4)||decide (e.kind=5)
def q3k(eqn enn:Nat)(e:Entry):Int:=
 if inR e.kind 1 5=false then 1
 else if(two e=false/\(e.b≠0\/e.place≠0))\/(e.kind≠4/\e.side≠0)then 1
 else if inR e.a 0 ((if e.kind=1 then(eqn:Int)else enn)-1)=false\/(two e=true/\inR e.b 0 (enn-1)=false)\/inR e.side 0 1=false then 3 else 0
structure NumsOk(eqn enn:Nat)(e:Entry):Prop where
 kind:e.kind=1\/e.kind=2\/e.kind=3\/e.kind=4\/e.kind=5
 a0:0<=e.a
 given:e.kind=1->e.a.toNat<eqn
 other:e.kind≠1->e.a.toNat<enn
 b:e.kind=4\/e.kind=5->0<=e.b/\e.b.toNat<enn
 side:e.side=0\/(e.kind=4/\e.side=1)
 zero:e.kind≠4->e.kind≠5->e.b=0/\e.place=0
theorem ql4{eqn enn:Nat}{e:Entry}(h:q3k eqn enn e=0):NumsOk eqn enn e:=by
 unfold q3k at h;by_cases h1:inR e.kind 1 5=false
 ·rw[if_pos h1]at h;cases h
 rw[if_neg h1]at h;by_cases h2:(two e=false/\(e.b≠0\/e.place≠0))\/(e.kind≠4/\e.side≠0)
 ·rw[if_pos h2]at h;cases h
 rw[if_neg h2]at h;by_cases h3:inR e.a 0 ((if e.kind=1 then(eqn:Int)else enn)-1)=false\/(two e=true/\inR e.b 0 (enn-1)=false)\/inR e.side 0 1=false
 ·rw[if_pos h3]at h;cases h
 have h1:=q4p.1 (by simpa using h1:inR e.kind 1 5=true)
 have h4:inR e.a 0 ((if e.kind=1 then(eqn:Int)else enn)-1)=true:=by
  cases hx:inR e.a 0 ((if e.kind=1 then(eqn:Int)else enn)-1)with
  |true=>rfl
  |false=>exact absurd (Or.inl hx) h3
 have h5:inR e.side 0 1=true:=by
  cases hx:inR e.side 0 1 with
  |true=>rfl
  |false=>exact absurd (Or.inr (Or.inr hx)) h3
 have h4:=q4p.1 h4;have h5:=q4p.1 h5;refine⟨by omega,by omega,fun hk=>?_,fun hk=>?_,fun hk=>?_,?_,fun q1 q2=>?_⟩
 ·rw[if_pos hk]at h4;omega
 ·rw[if_neg hk]at h4;omega
 ·have ht:two e=true:=by unfold two;rcases hk with hk|hk <;> simp[hk]
  have:inR e.b 0 (enn-1)=true:=by
   cases hx:inR e.b 0 ((enn:Int)-1)with
   |true=>rfl
   |false=>exact absurd (Or.inr (Or.inl ⟨ht,hx⟩)) h3
  have:=q4p.1 this;omega
 ·by_cases hk:e.kind=4
  ·omega
  ·left;by_cases hs:e.side=0
   ·exact hs
   ·exact absurd (Or.inr ⟨hk,hs⟩) h2
 ·have ht:two e=false:=by unfold two;simp[q1,q2]
  by_cases hb:e.b=0
  ·by_cases hp:e.place=0
   ·exact⟨hb,hp⟩
   ·exact absurd (Or.inl ⟨ht,Or.inr hp⟩) h2
  ·exact absurd (Or.inl ⟨ht,Or.inl hb⟩) h2
noncomputable def derR(l:List Symbol)(eqs:List Equation)(ents:List Entry)(e:Entry):EquationResult:=
 if q3k eqs.length ents.length e≠0 then⟨q3k eqs.length ents.length e,⟨[],[]⟩⟩
 else if e.kind=1 then⟨0,eqs.getD e.a.toNat ⟨[],[]⟩⟩
 else if e.kind=2 then⟨0,⟨(ents.getD e.a.toNat ⟨0,0,0,0,0,[],[]⟩).right,(ents.getD e.a.toNat ⟨0,0,0,0,0,[],[]⟩).left⟩⟩
 else if e.kind=3 then⟨0,qbm (eqOf (ents.getD e.a.toNat ⟨0,0,0,0,0,[],[]⟩))⟩
 else if e.kind=5 then q8b ⟨l⟩ (eqOf (ents.getD e.a.toNat ⟨0,0,0,0,0,[],[]⟩)) (eqOf (ents.getD e.b.toNat ⟨0,0,0,0,0,[],[]⟩)) e.place
 else if e.side=0 then
  ⟨(q3w ⟨l⟩ [eqOf (ents.getD e.b.toNat ⟨0,0,0,0,0,[],[]⟩)] 0 e.place (ents.getD e.a.toNat ⟨0,0,0,0,0,[],[]⟩).left).code,
   ⟨(q3w ⟨l⟩ [eqOf (ents.getD e.b.toNat ⟨0,0,0,0,0,[],[]⟩)] 0 e.place (ents.getD e.a.toNat ⟨0,0,0,0,0,[],[]⟩).left).term,(ents.getD e.a.toNat ⟨0,0,0,0,0,[],[]⟩).right⟩⟩
 else
  ⟨(q3w ⟨l⟩ [eqOf (ents.getD e.b.toNat ⟨0,0,0,0,0,[],[]⟩)] 0 e.place (ents.getD e.a.toNat ⟨0,0,0,0,0,[],[]⟩).right).code,
   ⟨(ents.getD e.a.toNat ⟨0,0,0,0,0,[],[]⟩).left,(q3w ⟨l⟩ [eqOf (ents.getD e.b.toNat ⟨0,0,0,0,0,[],[]⟩)] 0 e.place (ents.getD e.a.toNat ⟨0,0,0,0,0,[],[]⟩).right).term⟩⟩
theorem getN{es:List Entry}{k:Nat}(h:k<es.length):es.getD k ⟨0,0,0,0,0,[],[]⟩=es[k]:=by rw[gI,gA h];rfl
theorem qfg{l:List Symbol}{e:Equation}(he:EqOk l e){t:List Int}(ht:TermOk l t)(hlow:∀n∈t,-6<=n){p:Int}(h:(q3w ⟨l⟩ [e] 0 p t).code=0):TermOk l (q3w ⟨l⟩ [e] 0 p t).term/\∀n∈(q3w ⟨l⟩ [e] 0 p t).term,-6<=n:=by
 unfold q3w at h ⊢;split at h
 ·rename_i h1;exact absurd h h1
 rename_i h1;rw[if_neg h1];split at h
 ·cases h
 rename_i h2;rw[if_neg h2]
 have h3:inR p 0 (t.length-1)=true:=by
  cases hx:inR p 0 ((t.length:Int)-1)with
  |true=>rfl
  |false=>exact absurd (.inr hx) h2
 have h3:=q4p.1 h3;exact⟨qmh he ht (by omega) h,qr1 he hlow⟩
theorem qsf{l:List Symbol}(ok:SigOk ⟨l⟩){o i:Equation}(ho:EqOk l o)(hi:EqOk l i){p:Int}(h0:(q8b ⟨l⟩ o i p).code=0):EqOk l (q8b ⟨l⟩ o i p).equation:=by
 unfold q8b at h0 ⊢;split at h0
 ·rename_i h1;exact absurd h0 h1
 rename_i h1;rw[if_neg h1];split at h0
 ·cases h0
 rename_i h2;rw[if_neg h2];split at h0
 ·cases h0
 rename_i h3;rw[if_neg h3];have h2:=q4p.1 (Bool.not_eq_false _▸h2:inR p 0 (o.left.length-1)=true);exact qtw ok ho hi (by omega) h0
theorem qrd{seen:List Int}{n m:Int}(h:m∈(q7p seen n).2):m∈seen\/(m=n/\n<0):=by
 unfold q7p at h;split at h
 ·exact .inl h
 split at h
 ·rcases gO.1 h with h|h
  ·exact .inl h
  ·exact .inr ⟨gD.1 h,by omega⟩
 ·exact .inl h
theorem qno{seen:List Int}{n:Int}(h:seen.Nodup):(q7p seen n).2.Nodup:=by
 unfold q7p;split
 ·exact h
 split
 ·rename_i h1;rw[q8h]at h1;rw[List.nodup_append];exact⟨h,by simp,fun a ha b hb=>by rw[gD.1 hb];exact fun e=>h1 (e▸ha)⟩
 ·exact h
theorem qct:∀(t seen:List Int),seen.Nodup->(∀m∈seen,-6<=m/\m<0)->(∀n∈t,-6<=n)->(q2k seen t).2.Nodup/\∀m∈(q2k seen t).2,-6<=m/\m<0
 |[],seen,h1,h2,_=>⟨h1,h2⟩
 |n::t,seen,h1,h2,h3=>by
  rw[q2k];refine qct t _ (qno h1) (fun m hm=>?_) (fun m hm=>h3 m (gF _ hm));rcases qrd hm with h|⟨rfl,h⟩
  ·exact h2 m h
  ·exact⟨h3 m (by simp),h⟩
theorem qlr:∀{s t:List Int},s.Nodup->s ⊆ t->s.length<=t.length
 |[],t,_,_=>Nat.zero_le _
 |x::s,t,h,hs=>by
  have hx:x∈t:=hs (by simp);rw[List.nodup_cons]at h
  have h1:s ⊆ t.erase x:=fun y hy=>by
   refine(List.mem_erase_of_ne (fun(e:y=x)=>h.1 (by rw[<- e];exact hy))).2 (hs (gF _ hy))
  have h2:=qlr h.2 h1;rw[List.length_erase_of_mem hx]at h2;have:=List.length_pos_of_mem hx;rw[gAB];omega
theorem six{s:List Int}(h1:s.Nodup)(h2:∀m∈s,-6<=m/\m<0):s.length<=6:=by
 have:s ⊆ [-6,-5,-4,-3,-2,-1]:=fun m hm=>by
  have:=h2 m hm;simp only[gK,List.not_mem_nil,or_false];omega
 exact qlr h1 this
theorem qkr{l:List Symbol}{e:Equation}(he:EqOk l e):(qa6 e).length<=6:=by
 obtain⟨h1,h2⟩:=qct e.left [] (by simp) (by simp) he.lowL;obtain⟨h3,h4⟩:=qct e.right _ h1 h2 he.lowR;exact six h3 h4
theorem qkt{l:List Symbol}(ok:SigOk ⟨l⟩){eqs:List Equation}{ents:List Entry}{e:Entry}(hq:∀x∈eqs,EqOk l x)(he:∀x∈ents,EqOk l (eqOf x))(h:(derR l eqs ents e).code=0):EqOk l (derR l eqs ents e).equation:=by
 unfold derR at h ⊢;split at h
 ·rename_i h1;exact absurd h h1
 rename_i h1;rw[if_neg h1];have nk:=ql4 (Classical.not_not.1 h1);split at h
 ·rename_i k1;rw[if_pos k1,getE (nk.given k1)];exact hq _ (gG _)
 rename_i k1;rw[if_neg k1,getN (nk.other k1)];have hea:=he _ (gG (nk.other k1));split at h
 ·rename_i k2;rw[if_pos k2];exact⟨hea.right,hea.left,hea.lowR,hea.lowL⟩
 rename_i k2;rw[if_neg k2];split at h
 ·rename_i k3;rw[if_pos k3];exact qjx hea.left hea.right (qkr hea)
 rename_i k3;rw[if_neg k3];have hk4:e.kind=4\/e.kind=5:=by rcases nk.kind with h|h|h|h|h <;> simp_all
 have heb:=he _ (gG (nk.b hk4).2);rw[getN (nk.b hk4).2];rw[getN (nk.b hk4).2,getN (nk.other k1)]at h;split at h
 ·rename_i k5;rw[if_pos k5];exact qsf ok hea heb h
 rename_i k5;rw[if_neg k5];split at h
 ·rename_i k6;rw[if_pos k6];obtain⟨q1,q2⟩:=qfg heb hea.left hea.lowL h;exact⟨q1,hea.right,q2,hea.lowR⟩
 ·rename_i k6;rw[if_neg k6];obtain⟨q1,q2⟩:=qfg heb hea.right hea.lowR h;exact⟨hea.left,q1,hea.lowL,q2⟩
theorem q5u{eqn enn:Nat}(h1:eqn<=4294967296)(h2:enn<=4294967296)(e:Entry):Call F.q5u [.int .i64 eqn,.int .i64 enn,.rref (enc e) 0] (.int .i64 (q3k eqn enn e)):=by
 obtain⟨k,a,b,p,s,le,ri⟩:=e;refine q0r rfl 0 ((q5u.ev _ _ _ _ _ _ _ _ _ _).trans ?_);simp only[evz,Nat.reduceLT,(q14 _ _ _).eq,q1o (x:=(eqn:Int)-1) (by omega),q1o (x:=(enn:Int)-1) (by omega),q3k,two];cases h0:inR k 1 5 with
 |false=>simp only[evz,Nat.reduceLT,Bool.not_false]
 |true=>
  simp only[evz,Nat.reduceLT,Bool.not_true,reduceCtorEq];by_cases k4:k=4
  ·subst k4;cases q1:inR a 0 (enn-1) <;> cases q2:inR b 0 (enn-1) <;> cases q3:inR s 0 1 <;> simp[evz,Nat.reduceLT,q1,q2,q3]
  by_cases k5:k=5
  ·subst k5;by_cases s0:s=0
   ·subst s0;cases q1:inR a 0 (enn-1) <;> cases q2:inR b 0 (enn-1) <;> cases q3:inR 0 0 1 <;> simp[evz,Nat.reduceLT,q1,q2,q3]
   ·simp[evz,Nat.reduceLT,s0]
  by_cases b0:b=0
  case neg=>simp[evz,Nat.reduceLT,k4,k5,b0]
  by_cases p0:p=0
  case neg=>simp[evz,Nat.reduceLT,k4,k5,b0,p0]
  by_cases s0:s=0
  case neg=>simp[evz,Nat.reduceLT,k4,k5,b0,p0,s0]
  subst b0 p0 s0;by_cases k1:k=1
  ·subst k1;cases q1:inR a 0 (eqn-1) <;> cases q3:inR 0 0 1 <;> simp[evz,Nat.reduceLT,q1,q3]
  ·cases q1:inR a 0 (enn-1) <;> cases q3:inR 0 0 1 <;> simp[evz,Nat.reduceLT,k1,k4,k5,q1,q3]
theorem EqOk.small{l:List Symbol}{e:Equation}(h:EqOk l e):sm 1048576 e:=⟨⟨by have:=h.left.le;omega,fun _ _=>trivial⟩,⟨by have:=h.right.le;omega,fun _ _=>trivial⟩⟩
theorem qd5{e:Equation}(h:sm 1048576 e):sm 1048576 [e]:=⟨by simp,fun y hy=>by rw[gD.1 hy];exact h⟩
theorem qh4{l:List Symbol}{e:Entry}(h:EqOk l (eqOf e)):sm 4294967296 e:=⟨q2x (by omega) h.small.1,q2x (by omega) h.small.2⟩
def made(e:Entry)(r:EquationResult):Entry:=if r.code≠0 then⟨0,0,0,0,0,[],[]⟩else⟨e.kind,e.a,e.b,e.place,e.side,r.equation.left,r.equation.right⟩
section
variable {l:List Symbol}(ok:SigOk ⟨l⟩)(hs:sm 1048576 (Signature.mk l)){eqs:List Equation}{ents:List Entry}(hq:∀x∈eqs,EqOk l x)(he:∀x∈ents,EqOk l (eqOf x))(hql:eqs.length<=12)(hel:ents.length<=500)
include ok hs hq he hql hel
theorem q50(e:Entry) :
 Call F.q50 [.rref [slc l] 0,slc eqs,slc ents,.rref (enc e) 0] (.tup [.agg [slc (derR l eqs ents e).equation.left,slc (derR l eqs ents e).equation.right],.int .i64 (derR l eqs ents e).code]):=by
 have hn:=(q5u (eqn:=eqs.length) (enn:=ents.length) (by omega) (by omega) e).eq;obtain⟨k,a,b,p,s,le,ri⟩:=e;rw[q42]at hn;refine q0r rfl 0 ((q50.ev _ _ _ _ _ _ _ _ _ _ _).trans ?_);simp only[evz,Nat.reduceLT,hn,derR];by_cases h:q3k eqs.length ents.length ⟨k,a,b,p,s,le,ri⟩=0
 case neg=>simp only[h,evz,Nat.reduceLT,ne_eq,gX,q3q]
 have nk:=ql4 h;obtain⟨n1,n2,n3,n4,n5,n6,n7⟩:=nk;simp only at n1 n2 n3 n4 n5 n6 n7;obtain⟨a,rfl⟩:∃a':Nat,a=a':=⟨a.toNat,by omega⟩;simp only[h,evz,Nat.reduceLT,ne_eq,gW];by_cases k1:k=1
 ·subst k1;have ha:a<eqs.length:=by have:=n3 rfl;omega
  have hlk:eqs[a]?=some eqs[a]:=gA ha;have ho:=(hq _ (gG ha)).small
  have hc:Call F.q9t [.rref [slc eqs[a].left,slc eqs[a].right] 0] (.agg [slc eqs[a].left,slc eqs[a].right]):=by
   refine q0r rfl 0 ((q9t.ev _ _ _).trans ?_);simp only[evz,Nat.reduceLT,(q2u eqs[a].left (by have:=ho.1.1;omega)).eq,(q2u eqs[a].right (by have:=ho.2.1;omega)).eq]
  simp only[evz,Nat.reduceLT,ha,q4u (k:=2) (i:=a) rfl hlk,q4n,hc.eq,getE ha]
 have ha:a<ents.length:=by have:=n4 k1;omega
 have hla:ents[a]?=some ents[a]:=gA ha;have hea:=he _ (gG ha);simp only[evz,Nat.reduceLT,k1,ha,q4u (k:=7) (i:=a) rfl hla,(q43 ents[a] (qh4 hea)).eq,getN ha];by_cases k2:k=2
 ·subst k2;simp only[evz,Nat.reduceLT]
 by_cases k3:k=3
 ·subst k3;have hsx:=qkr hea;have:=hea.left.le;have:=hea.right.le;have hp:=(q1c ents[a].left ents[a].right (by have:ents[a].left.length<=24:=hea.left.le;omega) (by have:ents[a].right.length<=24:=hea.right.le;omega)).eq;have hsx':(qa6 ⟨ents[a].left,ents[a].right⟩).length<=6:=hsx;rw[if_pos hsx',if_pos hsx']at hp;simp only[evz,Nat.reduceLT,hp];rfl
 have k45:k=4\/k=5:=by omega
 obtain⟨b0,b1⟩:=n5 k45;obtain⟨b,rfl⟩:∃b':Nat,b=b':=⟨b.toNat,by omega⟩;have hb:b<ents.length:=by omega
 have hlb:ents[b]?=some ents[b]:=gA hb;have heb:=he _ (gG hb);simp only[evz,Nat.reduceLT,k2,k3,hb,q4u (k:=7) (i:=b) rfl hlb,(q43 ents[b] (qh4 heb)).eq,getN hb];by_cases k5:k=5
 ·subst k5;have hp:LIM F.q6q [.agg [slc l],.agg [slc ents[a].left,slc ents[a].right],.agg [slc ents[b].left,slc ents[b].right],.int .i64 p]=some (.agg (enc (q8b ⟨l⟩ (eqOf ents[a]) (eqOf ents[b]) p)),[]):=(q6q ⟨l⟩ (eqOf ents[a]) (eqOf ents[b]) p hs hea.small heb.small).eq;rw[q20]at hp;simp only[evz,Nat.reduceLT,hp]
 simp only[evz,Nat.reduceLT,k5];by_cases s0:s=0
 ·subst s0;have hp:LIM F.q44 [.agg [slc l],.sl 2 [slc ents[b].left,slc ents[b].right],.int .i64 0,.int .i64 p,slc ents[a].left]=some (.agg (enc (q3w ⟨l⟩ [eqOf ents[b]] 0 p ents[a].left)),[]):=(q44 ⟨l⟩ [eqOf ents[b]] 0 p ents[a].left hs (qd5 heb.small) hea.small.1).eq;rw[q36]at hp;simp only[evz,Nat.reduceLT,hp]
 ·have hp:LIM F.q44 [.agg [slc l],.sl 2 [slc ents[b].left,slc ents[b].right],.int .i64 0,.int .i64 p,slc ents[a].right]=some (.agg (enc (q3w ⟨l⟩ [eqOf ents[b]] 0 p ents[a].right)),[]):=(q44 ⟨l⟩ [eqOf ents[b]] 0 p ents[a].right hs (qd5 heb.small) hea.small.2).eq;rw[q36]at hp;simp only[evz,Nat.reduceLT,s0,hp]
theorem q6n(e:Entry) :
 Call F.q6n [.rref [slc l] 0,slc eqs,slc ents,.agg (enc e)] (.tup [.agg (enc (made e (derR l eqs ents e))),.int .i64 (derR l eqs ents e).code]):=by
 have hn:=(q50 ok hs hq he hql hel e).eq;rw[q42]at hn;rw[q42];refine q0r rfl 0 ((q6n.ev _ _ _ _ _ _ _ _ _ _ _).trans ?_);simp only[evz,Nat.reduceLT,hn,made];by_cases h:(derR l eqs ents e).code=0
 ·simp only[h,evz,Nat.reduceLT,ne_eq,gW,q42]
 ·simp only[h,evz,Nat.reduceLT,ne_eq,gX,q42,q3q]
theorem qw4(n:Nat)(k a b p s:Int)(le ri:List Int)(h:q3k eqs.length ents.length ⟨k,a,b,p,s,le,ri⟩=0) :
 q0o.j5 n (cells eqs) (cells ents) (cells l) k a b p s (cells le) (cells ri) 0 0 0 0 0=some (.tup [.agg (enc (made ⟨k,a,b,p,s,le,ri⟩ (derR l eqs ents ⟨k,a,b,p,s,le,ri⟩))),.int .i64 (derR l eqs ents ⟨k,a,b,p,s,le,ri⟩).code],[]):=by
 have nk:=ql4 h;obtain⟨n1,n2,n3,n4,n5,n6,n7⟩:=nk;simp only at n1 n2 n3 n4 n5 n6 n7;obtain⟨a,rfl⟩:∃a':Nat,a=a':=⟨a.toNat,by omega⟩
 have ho:∀x y:List Int,x.length<=4294967296->y.length<=4294967296->Call F.q46 [.agg [slc x,slc y]] (.agg [slc x,slc y]):=fun x y h1 h2=>by
  refine q0r rfl 0 ((q46.ev _ _ _).trans ?_);simp only[evz,Nat.reduceLT,(q2j x h1).eq,(q2j y h2).eq]
 simp only[q0o.j5,q0o.j6,q0o.j7,made,derR,h,evz,Nat.reduceLT,ne_eq,gW];by_cases k1:k=1
 ·subst k1;have ha:a<eqs.length:=by have:=n3 rfl;omega
  have hlk:eqs[a]?=some eqs[a]:=gA ha;have hsm:=(hq _ (gG ha)).small;have hc:=(ho eqs[a].left eqs[a].right (by have:=hsm.1.1;omega) (by have:=hsm.2.1;omega)).eq;simp only[q0o.j8,evz,Nat.reduceLT,ha,hlk,q4n,hc,getE ha,q42,gW]
 have ha:a<ents.length:=by have:=n4 k1;omega
 have hla:ents[a]?=some ents[a]:=gA ha;have hea:=he _ (gG ha);have hsa:=hea.small;have la:ents[a].left.length<=24:=hea.left.le;have lr:ents[a].right.length<=24:=hea.right.le;have hee:=qe3 ents[a];rw[q42]at hee;simp only[q0o.j9,evz,Nat.reduceLT,k1,getN ha];by_cases k2:k=2
 ·subst k2;have hc:=(ho ents[a].right ents[a].left (by omega) (by omega)).eq;simp only[q0o.j10,evz,Nat.reduceLT,ha,hla,q42,hc,gW]
 simp only[q0o.j11,evz,Nat.reduceLT,k2];by_cases k3:k=3
 ·subst k3;have hp:=(q0b ents[a].left ents[a].right (by have:=hsa.1.1;have:ents[a].left.length<=24:=hea.left.le;omega) (by have:ents[a].right.length<=24:=hea.right.le;omega)).eq;simp only[q0o.j12,evz,Nat.reduceLT,ha,hla,q42,hee.eq,hp,gW];rfl
 have k45:k=4\/k=5:=by omega
 obtain⟨b0,b1⟩:=n5 k45;obtain⟨b,rfl⟩:∃b':Nat,b=b':=⟨b.toNat,by omega⟩;have hb:b<ents.length:=by omega
 have hlb:ents[b]?=some ents[b]:=gA hb;have heb:=he _ (gG hb);have hef:=qe3 ents[b];rw[q42]at hef;simp only[q0o.j13,evz,Nat.reduceLT,k3,getN hb];by_cases k4:k=4
 ·subst k4;have hc:=(ho ents[a].left ents[a].right (by omega) (by omega)).eq;simp only[q0o.j14,q0o.j15,q0o.j16,q0o.j17,q0o.j18,q0o.j19,evz,Nat.reduceLT,ha,hla,hb,hlb,q42,hee.eq,hef.eq,hc];rcases n6 with s0|⟨_,s1⟩
  ·subst s0;have hp:LIM F.q45 [.agg [slc l],.sl 2 [slc ents[b].left,slc ents[b].right],.int .i64 0,.int .i64 p,slc ents[a].left]=some (.agg (enc (q3w ⟨l⟩ [eqOf ents[b]] 0 p ents[a].left)),[]):=(q45 ⟨l⟩ [eqOf ents[b]] 0 p ents[a].left hs (qd5 heb.small) hea.small.1).eq;rw[q36]at hp;simp only[evz,Nat.reduceLT,hp];by_cases hcd:(q3w ⟨l⟩ [eqOf ents[b]] 0 p ents[a].left).code=0 <;> simp[evz,Nat.reduceLT,hcd,q3q]
  ·subst s1;have hp:LIM F.q45 [.agg [slc l],.sl 2 [slc ents[b].left,slc ents[b].right],.int .i64 0,.int .i64 p,slc ents[a].right]=some (.agg (enc (q3w ⟨l⟩ [eqOf ents[b]] 0 p ents[a].right)),[]):=(q45 ⟨l⟩ [eqOf ents[b]] 0 p ents[a].right hs (qd5 heb.small) hea.small.2).eq;rw[q36]at hp;simp only[evz,Nat.reduceLT,hp];by_cases hcd:(q3w ⟨l⟩ [eqOf ents[b]] 0 p ents[a].right).code=0 <;> simp[evz,Nat.reduceLT,hcd,q3q]
 have k5:k=5:=by omega
 subst k5;have hp:LIM F.q6s [.agg [slc l],.agg [slc ents[a].left,slc ents[a].right],.agg [slc ents[b].left,slc ents[b].right],.int .i64 p]=some (.agg (enc (q8b ⟨l⟩ (eqOf ents[a]) (eqOf ents[b]) p)),[]):=(q6s ⟨l⟩ (eqOf ents[a]) (eqOf ents[b]) p hs hea.small heb.small).eq;rw[q20]at hp;simp only[q0o.j20,q0o.j21,evz,Nat.reduceLT,ha,hla,hb,hlb,q42,hee.eq,hef.eq,hp];by_cases hcd:(q8b ⟨l⟩ (eqOf ents[a]) (eqOf ents[b]) p).code=0 <;> simp[evz,Nat.reduceLT,hcd,q3q]
theorem q0o(e:Entry) :
 Call F.q0o [.agg [slc l],slc eqs,slc ents,.agg (enc e)] (.tup [.agg (enc (made e (derR l eqs ents e))),.int .i64 (derR l eqs ents e).code]):=by
 obtain⟨k,a,b,p,s,le,ri⟩:=e;rw[q42];refine q0r rfl 0 ((q0o.ev _ _ _ _ _ _ _ _ _ _ _).trans ?_);have good:=qw4 ok hs hq he hql hel 0 k a b p s le ri
 have bad:∀c:Int,c≠0->q3k eqs.length ents.length ⟨k,a,b,p,s,le,ri⟩=c->
  (some (.tup [.agg [.int .i64 0,.int .i64 0,.int .i64 0,.int .i64 0,.int .i64 0,.sl 1 [],.sl 1 []],.int .i64 c],[]):R)=some (.tup [.agg (enc (made ⟨k,a,b,p,s,le,ri⟩ (derR l eqs ents ⟨k,a,b,p,s,le,ri⟩))),.int .i64 (derR l eqs ents ⟨k,a,b,p,s,le,ri⟩).code],[]):=fun c hc h=>by
  have e1:derR l eqs ents ⟨k,a,b,p,s,le,ri⟩=⟨c,⟨[],[]⟩⟩:=by unfold derR;rw[h,if_pos hc]
  rw[e1];simp only[made,ne_eq,hc,gX,if_true,q42];rfl
 generalize (some (T.tup [.agg (enc (made ⟨k,a,b,p,s,le,ri⟩ (derR l eqs ents ⟨k,a,b,p,s,le,ri⟩))),.int .i64 (derR l eqs ents ⟨k,a,b,p,s,le,ri⟩).code],[]):R)=G at *;simp only[evz,Nat.reduceLT,(q2n _ _ _).eq];cases h0:inR k 1 5 with
 |false=>
  simp only[evz,Nat.reduceLT,Bool.not_false];have:=bad 1 (by decide) (by simp[q3k,h0]);by_cases k4:k=4 <;> simp only[evz,Nat.reduceLT,k4,this]
 |true=>
  simp only[evz,Nat.reduceLT,Bool.not_true,reduceCtorEq,q0o.j0,q0o.j1,q0o.j2,q0o.j3,q0o.j4,(q2n _ _ _).eq,q1o (x:=(eqs.length:Int)-1) (by omega),q1o (x:=(ents.length:Int)-1) (by omega)];by_cases k4:k=4
  ·subst k4;cases q1:inR a 0 (ents.length-1)with
   |false=>
    simp only[evz,Nat.reduceLT,q1,Bool.not_true,Bool.not_false];exact bad 3 (by decide) (by simp[q3k,two,h0,q1])
   |true=>
    cases q2:inR b 0 (ents.length-1)with
    |false=>
     simp only[evz,Nat.reduceLT,q1,q2,Bool.not_true,Bool.not_false];exact bad 3 (by decide) (by simp[q3k,two,h0,q1,q2])
    |true=>
     cases q3:inR s 0 1 with
     |false=>
      simp only[evz,Nat.reduceLT,q1,q2,q3,Bool.not_true,Bool.not_false];exact bad 3 (by decide) (by simp[q3k,two,h0,q1,q2,q3])
     |true=>
      simp only[evz,Nat.reduceLT,q1,q2,q3,Bool.not_true,Bool.not_false];exact good (by simp[q3k,two,h0,q1,q2,q3,show inR 0 0 1=true from rfl])
  by_cases k5:k=5
  ·subst k5;by_cases s0:s=0
   ·subst s0;cases q1:inR a 0 (ents.length-1)with
    |false=>
     simp only[evz,Nat.reduceLT,q1,Bool.not_true,Bool.not_false,show inR 0 0 1=true from rfl];exact bad 3 (by decide) (by simp[q3k,two,h0,q1])
    |true=>
     cases q2:inR b 0 (ents.length-1)with
     |false=>
      simp only[evz,Nat.reduceLT,q1,q2,Bool.not_true,Bool.not_false,show inR 0 0 1=true from rfl];exact bad 3 (by decide) (by simp[q3k,two,h0,q1,q2])
     |true=>
      simp only[evz,Nat.reduceLT,q1,q2,Bool.not_true,Bool.not_false,show inR 0 0 1=true from rfl];exact good (by simp[q3k,two,h0,q1,q2,show inR 0 0 1=true from rfl])
   ·simp only[evz,Nat.reduceLT,s0];exact bad 1 (by decide) (by simp[q3k,two,h0,s0])
  by_cases b0:b=0
  case neg=>
   simp only[evz,Nat.reduceLT,k4,k5,b0];exact bad 1 (by decide) (by simp[q3k,two,h0,k4,k5,b0])
  by_cases p0:p=0
  case neg=>
   simp only[evz,Nat.reduceLT,k4,k5,b0,p0];exact bad 1 (by decide) (by simp[q3k,two,h0,k4,k5,b0,p0])
  by_cases s0:s=0
  case neg=>
   simp only[evz,Nat.reduceLT,k4,k5,b0,p0,s0];exact bad 1 (by decide) (by simp[q3k,two,h0,k4,k5,b0,p0,s0])
  subst b0 p0 s0;by_cases k1:k=1
  ·subst k1;cases q1:inR a 0 (eqs.length-1)with
   |false=>
    simp only[evz,Nat.reduceLT,q1,Bool.not_true,Bool.not_false,show inR 0 0 1=true from rfl];exact bad 3 (by decide) (by simp[q3k,two,h0,q1])
   |true=>
    simp only[evz,Nat.reduceLT,q1,Bool.not_true,Bool.not_false,show inR 0 0 1=true from rfl];exact good (by simp[q3k,two,h0,q1,show inR 0 0 1=true from rfl])
  ·skip
   cases q1:inR a 0 (ents.length-1)with
   |false=>
    simp only[evz,Nat.reduceLT,q1,Bool.not_true,Bool.not_false,k1,k4,k5,show inR 0 0 1=true from rfl];exact bad 3 (by decide) (by simp[q3k,two,h0,k1,k4,k5,q1])
   |true=>
    simp only[evz,Nat.reduceLT,q1,Bool.not_true,Bool.not_false,k1,k4,k5,show inR 0 0 1=true from rfl];exact good (by simp[q3k,two,h0,k1,k4,k5,q1,show inR 0 0 1=true from rfl])
end
noncomputable def chkN(l:List Symbol)(eqs:List Equation)(ents:List Entry):Nat->Nat->Int
 |0,_=>0
 |n+1,k=>if(derR l eqs (ents.take k) (ents.getD k ⟨0,0,0,0,0,[],[]⟩)).code≠0 then(derR l eqs (ents.take k) (ents.getD k ⟨0,0,0,0,0,[],[]⟩)).code
  else if(derR l eqs (ents.take k) (ents.getD k ⟨0,0,0,0,0,[],[]⟩)).equation=eqOf (ents.getD k ⟨0,0,0,0,0,[],[]⟩)then chkN l eqs ents n (k+1)else 8
noncomputable def q93(s:Signature)(eqs:List Equation)(ents:List Entry):Int:=
 if q2v s≠0 then q2v s else if q4r s.symbols eqs≠0 then q4r s.symbols eqs else if 500<ents.length then 2 else chkN s.symbols eqs ents ents.length 0
theorem qgb{ents:List Entry}{k:Nat}(h:k<ents.length):ents.take (k+1)=ents.take k++[ents[k]]:=by
 rw[List.take_add_one,gA h];rfl
theorem qso{l:List Symbol}(ok:SigOk ⟨l⟩){eqs:List Equation}(hq:∀x∈eqs,EqOk l x){ents:List Entry}:∀{n k:Nat},k+n=ents.length->(∀x∈ents.take k,EqOk l (eqOf x))->chkN l eqs ents n k=0->∀x∈ents,EqOk l (eqOf x)
 |0,k,hk,h,_=>by rw[List.take_of_length_le (by omega)]at h;exact h
 |n+1,k,hk,h,h0=>by
  have hlt:k<ents.length:=by omega
  rw[chkN,getN hlt]at h0;by_cases c:(derR l eqs (ents.take k) ents[k]).code=0
  ·rw[if_neg (by simpa using c)]at h0;by_cases e:(derR l eqs (ents.take k) ents[k]).equation=eqOf ents[k]
   ·rw[if_pos e]at h0;refine qso ok hq (by omega) (fun x hx=>?_) h0;rw[qgb hlt]at hx;rcases gO.1 hx with hx|hx
    ·exact h x hx
    ·rw[gD.1 hx,<- e];exact qkt ok hq h c
   ·rw[if_neg e]at h0;cases h0
  ·rw[if_pos c]at h0;exact absurd h0 c
theorem qe7{l:List Symbol}{eqs:List Equation}{ents:List Entry}(h:q93 ⟨l⟩ eqs ents=0):SigOk ⟨l⟩/\eqs.length<=12/\(∀x∈eqs,EqOk l x)/\ents.length<=500/\∀x∈ents,EqOk l (eqOf x):=by
 unfold q93 at h;by_cases h1:q2v ⟨l⟩=0
 ·rw[if_neg (by simpa using h1)]at h;by_cases h2:q4r l eqs=0
  ·rw[if_neg (by simpa using h2)]at h;by_cases h3:500<ents.length
   ·rw[if_pos h3]at h;cases h
   ·rw[if_neg h3]at h;have ok:=(q5g _).1 h1;obtain⟨q1,q2⟩:=q8v.1 h2;exact⟨ok,q1,q2,by omega,qso ok q2 (by omega) (by simp) h⟩
  ·rw[if_pos h2]at h;exact absurd h h2
 ·rw[if_pos h1]at h;exact absurd h h1
theorem qpg{ents:List Entry}{k:Nat}:((cells ents).take (k*7)).drop (0*7)=cells (ents.take k):=by rw[Nat.zero_mul,List.drop_zero,q8o ents 7 k rfl]
theorem qle{k n:Nat}(h:k<=n):(decide (0<=(0:Int))&&decide ((0:Int)<=(k:Nat))&&decide ((k:Int)<=(n:Nat)))=true:=by
 simp;omega
theorem qnp{e:Entry}{q:Equation}(h:q.left=e.left):q=eqOf e<->q.right=e.right:=by
 unfold eqOf;obtain⟨a,b⟩:=q;simp only at h;subst h;simp
section
variable {l:List Symbol}(ok:SigOk ⟨l⟩)(hs:sm 1048576 (Signature.mk l)){eqs:List Equation}(hq:∀x∈eqs,EqOk l x)(hql:eqs.length<=12){ents:List Entry}(hel:ents.length<=500)
include ok hs hq hql hel
theorem qie{N:Nat} :
 ∀n k f,k+n=ents.length->n<f->(∀x∈ents.take k,EqOk l (eqOf x))->q1s.at0 N f (q1s.st0 (cells l) (cells eqs) (cells ents) (k:Nat))=some (.int .i64 (chkN l eqs ents n k),[])
 |n,k,0,hk,hf,hok=>by omega
 |0,k,f+1,hk,hf,hok=>by
  simp only[q1s.next0,q1s.round0,evz,Nat.reduceLT,show ¬ k<ents.length by omega,chkN]
 |n+1,k,f+1,hk,hf,hok=>by
  have hlt:k<ents.length:=by omega
  have hlk:ents[k]?=some ents[k]:=gA hlt;have hd:=(q50 ok hs hq hok hql (by rw[gAF];omega) ents[k]).eq;simp only[q1s.next0,q1s.round0,evz,Nat.reduceLT,hlt,hlk,qpg,q4u (k:=7) (i:=k) rfl hlk,q42]at hd ⊢;rw[q1r (qle (Nat.le_of_lt hlt))];simp only[evz,Nat.reduceLT,hd];rw[chkN,getN hlt];by_cases c:(derR l eqs (ents.take k) ents[k]).code=0
  case neg=>simp only[c,evz,Nat.reduceLT,ne_eq,gX]
  have hdo:=qkt ok hq hok c;simp only[c,evz,Nat.reduceLT,ne_eq,gW,(q1w _ _ (q2x (by omega) hdo.small.1)).eq,(q1w _ _ (q2x (by omega) hdo.small.2)).eq];by_cases c1:(derR l eqs (ents.take k) ents[k]).equation.left=ents[k].left
  case neg=>
   have c2:¬(derR l eqs (ents.take k) ents[k]).equation=eqOf ents[k]:=fun h=>c1 (by rw[h];rfl);simp only[c1,c2,evz,Nat.reduceLT,decide_false,Bool.not_false]
  by_cases c2:(derR l eqs (ents.take k) ents[k]).equation.right=ents[k].right
  case neg=>
   have c3:¬(derR l eqs (ents.take k) ents[k]).equation=eqOf ents[k]:=fun h=>c2 ((qnp c1).1 h);simp only[c1,c2,c3,evz,Nat.reduceLT,decide_false,decide_true,Bool.not_false,Bool.not_true]
  rw[if_pos ((qnp c1).2 c2)];simp only[c1,c2,evz,Nat.reduceLT,decide_true,Bool.not_true];rw[q0l (by omega)];refine qie n (k+1) f (by omega) (by omega) (fun x hx=>?_);rw[qgb hlt]at hx;rcases gO.1 hx with hx|hx
  ·exact hok x hx
  ·rw[gD.1 hx,<- (qnp c1).2 c2];exact hdo
theorem qje{N:Nat} :
 ∀n k f,k+n=ents.length->n<f->(∀x∈ents.take k,EqOk l (eqOf x))->q0y.at0 N f (q0y.st0 (cells eqs) (cells ents) (cells ents) ents.length (k:Nat) (cells l))=some (.int .i64 (chkN l eqs ents n k),[])
 |n,k,0,hk,hf,hok=>by omega
 |0,k,f+1,hk,hf,hok=>by
  simp only[q0y.next0,q0y.round0,evz,Nat.reduceLT,show ¬ k<ents.length by omega,chkN]
 |n+1,k,f+1,hk,hf,hok=>by
  have hlt:k<ents.length:=by omega
  have hlk:ents[k]?=some ents[k]:=gA hlt;have hd:=(q0o ok hs hq hok hql (by rw[gAF];omega) ⟨ents[k].kind,ents[k].a,ents[k].b,ents[k].place,ents[k].side,[],[]⟩).eq;have e0:derR l eqs (ents.take k) ⟨ents[k].kind,ents[k].a,ents[k].b,ents[k].place,ents[k].side,[],[]⟩=derR l eqs (ents.take k) ents[k]:=rfl;rw[e0]at hd;simp only[q0y.next0,q0y.round0,evz,Nat.reduceLT,hlt,hlk,qpg,q42,q3q]at hd ⊢;rw[q1r (qle (Nat.le_of_lt hlt))];simp only[evz,Nat.reduceLT,hd];rw[chkN,getN hlt];by_cases c:(derR l eqs (ents.take k) ents[k]).code=0
  case neg=>simp only[c,evz,Nat.reduceLT,ne_eq,gX]
  have hdo:=qkt ok hq hok c;have h1:=qe3 (made ⟨ents[k].kind,ents[k].a,ents[k].b,ents[k].place,ents[k].side,[],[]⟩ (derR l eqs (ents.take k) ents[k]));have h2:=qe3 ents[k];rw[q42]at h1 h2;have e1:(made ⟨ents[k].kind,ents[k].a,ents[k].b,ents[k].place,ents[k].side,[],[]⟩ (derR l eqs (ents.take k) ents[k])).left=(derR l eqs (ents.take k) ents[k]).equation.left:=by unfold made;rw[if_neg (by simpa using c)]
  have e2:(made ⟨ents[k].kind,ents[k].a,ents[k].b,ents[k].place,ents[k].side,[],[]⟩ (derR l eqs (ents.take k) ents[k])).right=(derR l eqs (ents.take k) ents[k]).equation.right:=by unfold made;rw[if_neg (by simpa using c)]
  have h3:=q4v (derR l eqs (ents.take k) ents[k]).equation.left (derR l eqs (ents.take k) ents[k]).equation.right ents[k].left ents[k].right (q2x (by omega) hdo.small);rw[e1,e2]at h1;simp only[c,evz,Nat.reduceLT,ne_eq,gW,e1,e2,h1.eq,h2.eq,h3.eq];by_cases c1:(derR l eqs (ents.take k) ents[k]).equation=eqOf ents[k]
  case neg=>
   have c2:¬(Equation.mk (derR l eqs (ents.take k) ents[k]).equation.left (derR l eqs (ents.take k) ents[k]).equation.right)=Equation.mk ents[k].left ents[k].right:=c1;simp only[c1,c2,evz,Nat.reduceLT,decide_false,Bool.not_false]
  have c2:(Equation.mk (derR l eqs (ents.take k) ents[k]).equation.left (derR l eqs (ents.take k) ents[k]).equation.right)=Equation.mk ents[k].left ents[k].right:=c1;rw[if_pos c1];simp only[c2,evz,Nat.reduceLT,decide_true,Bool.not_true];rw[q0l (by omega)];refine qje n (k+1) f (by omega) (by omega) (fun x hx=>?_);rw[qgb hlt]at hx;rcases gO.1 hx with hx|hx
  ·exact hok x hx
  ·rw[gD.1 hx,<- c1];exact hdo
end
theorem q48(s:Signature)(eqs:List Equation)(ents:List Entry)(hs:sm 1048576 s)(hq:sm 1048576 eqs)(he:sm 1048576 ents) :
 Call F.q48 [.agg (enc s),slc eqs,slc ents] (.int .i64 (q93 s eqs ents)):=by
 obtain⟨l⟩:=s;show Call F.q48 [.agg [slc l],slc eqs,slc ents] _;refine q0r rfl 0 ((q48.ev _ _ _ _).trans ?_);have hsl:l.length<=4294967296:=Nat.le_trans hs.1 (by omega);simp only[evz,Nat.reduceLT,(q4l l hsl eqs (q2x (by omega) hq)).eq,q93];by_cases h1:q2v ⟨l⟩=0
 case neg=>simp only[h1,evz,Nat.reduceLT,ne_eq,gX]
 have ok:=(q5g _).1 h1;by_cases h2:q4r l eqs=0
 case neg=>simp only[h1,h2,evz,Nat.reduceLT,ne_eq,gX,gW]
 obtain⟨q1,q2⟩:=q8v.1 h2
 have hc:Call F.q1s [.rref [slc l] 0,slc eqs,slc ents] (.int .i64 (if 500<ents.length then 2 else chkN l eqs ents ents.length 0)):=by
  refine q0r rfl (ents.length+1) ((q1s.ev _ _ _ _).trans ?_);simp only[evz,Nat.reduceLT,gt_iff_lt];by_cases h3:500<ents.length
  ·have h3':(500:Int)<ents.length:=by omega
   simp only[h3,h3',evz,Nat.reduceLT]
  ·have h3':¬(500:Int)<ents.length:=by omega
   simp only[h3,h3',evz,Nat.reduceLT];exact qie ok hs q2 q1 (by omega) ents.length 0 _ (by omega) (by omega) (by simp)
 simp only[h1,h2,evz,Nat.reduceLT,ne_eq,gW,hc.eq]
theorem q0y(s:Signature)(eqs:List Equation)(ents:List Entry)(hs:sm 1048576 s)(hq:sm 1048576 eqs)(he:sm 1048576 ents) :
 Call F.q0y [.agg (enc s),slc eqs,slc ents] (.int .i64 (q93 s eqs ents)):=by
 obtain⟨l⟩:=s;show Call F.q0y [.agg [slc l],slc eqs,slc ents] _;refine q0r rfl (ents.length+1) ((q0y.ev _ _ _ _).trans ?_);have hsl:l.length<=4294967296:=Nat.le_trans hs.1 (by omega);simp only[evz,Nat.reduceLT,(q0t l hsl eqs (q2x (by omega) hq)).eq,q93,gt_iff_lt];by_cases h1:q2v ⟨l⟩=0
 case neg=>simp only[h1,evz,Nat.reduceLT,ne_eq,gX]
 have ok:=(q5g _).1 h1;by_cases h2:q4r l eqs=0
 case neg=>simp only[h1,h2,evz,Nat.reduceLT,ne_eq,gX,gW]
 obtain⟨q1,q2⟩:=q8v.1 h2;by_cases h3:500<ents.length
 ·have h3':(500:Int)<ents.length:=by omega
  simp only[h1,h2,h3,h3',evz,Nat.reduceLT,ne_eq,gW]
 ·have h3':¬(500:Int)<ents.length:=by omega
  simp only[h1,h2,h3,h3',evz,Nat.reduceLT,ne_eq,gW];exact qje ok hs q2 q1 (by omega) ents.length 0 _ (by omega) (by omega) (by simp)
theorem qjd:∀{l r:List Int},l.Pairwise (· < ·)->r.Pairwise (· < ·)->(∀x,x∈l<->x∈r)->l=r
 |[],[],_,_,_=>rfl
 |[],y::r,_,_,h=>absurd ((h y).2 (by simp)) (by simp)
 |x::l,[],_,_,h=>absurd ((h x).1 (by simp)) (by simp)
 |x::l,y::r,hl,hr,h=>by
  rw[List.pairwise_cons]at hl hr
  have e:x=y:=by
   rcases gK.1 ((h x).1 (by simp))with e|e
   ·exact e
   ·rcases gK.1 ((h y).2 (by simp))with e'|e'
    ·exact e'.symm
    ·have:=hl.1 y e';have:=hr.1 x e;omega
  subst e;congr 1;refine qjd hl.2 hr.2 fun z=>⟨fun hz=>?_,fun hz=>?_⟩
  ·rcases gK.1 ((h z).1 (gF _ hz))with e|e
   ·have:=hl.1 z hz;omega
   ·exact e
  ·rcases gK.1 ((h z).2 (gF _ hz))with e|e
   ·have:=hr.1 z hz;omega
   ·exact e
theorem qam{l:List Int}{x:Int}:x∈q5z l<->x∈l:=by unfold q5z;exact List.mem_mergeSort
theorem qgu(l:List Int):(q5z l).Pairwise (· <= ·):=by
 have:=List.pairwise_mergeSort (le:=fun x y:Int=>decide (x<=y)) (fun a b c h1 h2=>by simp at h1 h2 ⊢;omega) (fun a b=>by simp;omega) l;exact this.imp (fun h=>by simpa using h)
theorem qcp{l:List Int}(hl:l.Pairwise (· <= ·)):(Lib.compact l).Pairwise (· < ·):=by
 unfold Lib.compact Lib.compactUpTo;rw[List.pairwise_map];have h1:((List.range l.length).filter (Lib.keeps l.toArray)).Pairwise (· < ·):=List.Pairwise.filter _ List.pairwise_lt_range;refine(List.Pairwise.and_mem.1 h1).imp fun {i j} h=>?_;obtain⟨hi,hj,hij⟩:=h;rw[List.mem_filter,List.mem_range]at hi hj;obtain⟨hj,hk⟩:=hj;have hi:=hi.1;have hlt:=List.pairwise_iff_getElem.1 hl;unfold Lib.keeps at hk
 have hk:l.toArray[j]! ≠ l.toArray[j-1]! := by
  rcases gAH hk with h|h
  ·omega
  ·exact h
 rw[getElem!_pos _ j (by simpa using hj),getElem!_pos _ (j-1) (by simp;omega)]at hk;rw[getElem!_pos _ j (by simpa using hj),getElem!_pos _ i (by simpa using hi)];simp only[List.getElem_toArray]at hk ⊢;have h2:=hlt (j-1) j (by omega) hj (by omega);rcases Nat.lt_or_ge i (j-1)with q|q
 ·have h3:=hlt i (j-1) hi (by omega) q;omega
 ·have:i=j-1:=by omega
  subst this;omega
def put(x:Int):List Int->List Int
 |[]=>[x]
 |y::r=>if x<=y then(if y=x then y::r else x::y::r)else y::put x r
theorem qn8{x z:Int}:∀{l:List Int},z∈put x l<->z=x\/z∈l
 |[]=>by simp[put]
 |y::r=>by
  rw[put];split
  ·split
   ·rename_i e;subst e;simp
   ·simp
  ·rw[gK,qn8,gK];constructor
   ·rintro(h|h|h) <;> simp[h]
   ·rintro(h|h|h) <;> simp[h]
theorem qid{x:Int}:∀{l:List Int},l.Pairwise (· < ·)->(put x l).Pairwise (· < ·)
 |[],_=>by simp[put]
 |y::r,h=>by
  rw[put];split
  ·split
   ·exact h
   ·refine List.pairwise_cons.2 ⟨fun z hz=>?_,h⟩;rw[List.pairwise_cons]at h;rcases gK.1 hz with e|e
    ·omega
    ·have:=h.1 z e;omega
  ·rw[List.pairwise_cons]at h;refine List.pairwise_cons.2 ⟨fun z hz=>?_,qid h.2⟩;rcases qn8.1 hz with e|e
   ·omega
   ·exact h.1 z e
theorem qoc(x:Int)(l:List Int):put x (Lib.compact (q5z l))=Lib.compact (q5z (l++[x])):=
 qjd (qid (qcp (qgu l))) (qcp (qgu _)) fun z=>by
  rw[qn8,q8n,qam,q8n,qam,gO,gD];constructor <;> rintro(h|h) <;> simp[h]
theorem qpm(l:List Int)(x:Int)(hl:l.length<=4294967296){N:Nat}:∀n k f (d:Bool) (out:List Int),k+n=l.length->n<f->out.length<=k+d.toNat->
 q2l.at0 N f (q2l.st0 (cells l) x d (k:Nat) (cells out))=some (slc (out++if d then l.drop k else put x (l.drop k)),[])
 |n,k,0,d,out,hk,hf,ho=>by omega
 |0,k,f+1,d,out,hk,hf,ho=>by
  have hd:l.drop k=[]:=List.drop_eq_nil_of_le (by omega);have hb:Nat.ble (((cells out).length+1)*8) (140737488355328*1)=true:=q3v (by rw[q0k,q3e];have:=Bool.toNat_le d;omega);simp only[q2l.next0,q2l.round0,evz,Nat.reduceLT,show ¬ k<l.length by omega,hd,put];cases d with
  |true=>simp only[evz,Nat.reduceLT,Bool.not_true,gAD]
  |false=>
   simp only[evz,Nat.reduceLT,Bool.not_false];rw[q1r hb,q2f];rfl
 |n+1,k,f+1,d,out,hk,hf,ho=>by
  have hlt:k<l.length:=by omega
  have hlk:l[k]?=some l[k]:=gA hlt;have hd:l.drop k=l[k]::l.drop (k+1):=gH hlt;have hb:Nat.ble (((cells out).length+1)*8) (140737488355328*1)=true:=q3v (by rw[q0k,q3e];have:=Bool.toNat_le d;omega);have hb2:∀y:Int,Nat.ble (((cells (out++[y])).length+1)*8) (140737488355328*1)=true:=fun y=>q3v (by rw[q0k,q3e];have:=Bool.toNat_le d;simp;omega);have next:=fun(d:Bool)(o:List Int)=>qpm (N:=N) l x hl n (k+1) f d o (by omega) (by omega)
  simp only[q2l.next0,q2l.round0,evz,Nat.reduceLT,hlt,hlk,q1x,hb,q2f,hb2,ge_iff_le];rw[q0l (by omega),hd];cases d with
  |true=>
   simp only[evz,Nat.reduceLT,Bool.not_true];rw[next true _ (by simp at ho ⊢;omega)];simp
  |false=>
   simp only[evz,Nat.reduceLT,Bool.not_false,put];by_cases c:x<=l[k]
   ·by_cases e:l[k]=x
    ·simp only[evz,Nat.reduceLT,c,e];rw[next true _ (by simp at ho ⊢;omega)];simp
    ·simp only[evz,Nat.reduceLT,c,e];rw[next true _ (by simp at ho ⊢;omega)];simp
   ·simp only[evz,Nat.reduceLT,c];rw[next false _ (by simp at ho ⊢;omega)];simp
theorem q2l(l:List Int)(x:Int)(hl:l.length<=4294967296):Call F.q2l [slc l,.int .i64 x] (slc (put x l)):=by
 refine q0r rfl (l.length+1) ((q2l.ev _ _ _).trans ?_);exact qpm l x hl l.length 0 _ false [] (by omega) (by omega) (by simp)
def q94(ents:List Entry):Nat->List Bool->List Int->List Int
 |0,_,out=>out
 |n+1,m,out=>
  if m.getD n false=false then q94 ents n m out
  else if(ents.getD n ⟨0,0,0,0,0,[],[]⟩).kind=1 then q94 ents n m (out++[(ents.getD n ⟨0,0,0,0,0,[],[]⟩).a])
  else if two (ents.getD n ⟨0,0,0,0,0,[],[]⟩)=true then q94 ents n ((m.set (ents.getD n ⟨0,0,0,0,0,[],[]⟩).a.toNat true).set (ents.getD n ⟨0,0,0,0,0,[],[]⟩).b.toNat true) out
  else q94 ents n (m.set (ents.getD n ⟨0,0,0,0,0,[],[]⟩).a.toNat true) out
def qon(s:Signature)(eqs:List Equation)(ents:List Entry)(n:Int)(c:Int):IntsResult:=
 if c≠0 then⟨c,[]⟩else if inR n 0 (ents.length-1)=false then⟨3,[]⟩
 else⟨0,Lib.compact (q5z (q94 ents (n.toNat+1) ((List.replicate ents.length false).set n.toNat true) []))⟩
noncomputable def q74(s:Signature)(eqs:List Equation)(ents:List Entry)(n:Int):IntsResult:=qon s eqs ents n (q93 s eqs ents)
theorem q8y(ents:List Entry):∀(n:Nat)(m:List Bool)(out:List Int),(q94 ents n m out).length<=out.length+n
 |0,m,out=>by simp[q94]
 |n+1,m,out=>by
  rw[q94];split
  ·have:=q8y ents n m out;omega
  split
  ·have:=q8y ents n m (out++[(ents.getD n ⟨0,0,0,0,0,[],[]⟩).a]);simp at this ⊢;omega
  split
  ·have:=q8y ents n ((m.set (ents.getD n ⟨0,0,0,0,0,[],[]⟩).a.toNat true).set (ents.getD n ⟨0,0,0,0,0,[],[]⟩).b.toNat true) out;omega
  ·have:=q8y ents n (m.set (ents.getD n ⟨0,0,0,0,0,[],[]⟩).a.toNat true) out;omega
theorem quc(ents:List Entry)(n:Nat)(m:List Bool)(out:List Int):(Lib.compact (q5z (q94 ents n m out))).length<=out.length+n:=by
 refine Nat.le_trans (q8t _) ?_;unfold q5z;rw[List.length_mergeSort];exact q8y ents n m out
theorem qqq(s:Signature)(eqs:List Equation)(ents:List Entry)(n:Int)(_:sm 1048576 s)(_:sm 1048576 eqs)(he:sm 1048576 ents):sm 67108864 (q74 s eqs ents n):=by
 unfold q74 qon;split
 ·exact⟨by simp,by simp⟩
 split
 ·exact⟨by simp,by simp⟩
 ·rename_i h;have h:=q4p.1 (Bool.not_eq_false _▸h:inR n 0 (ents.length-1)=true);have:=quc ents (n.toNat+1) ((List.replicate ents.length false).set n.toNat true) [];have:=he.1;exact⟨by simp at *;omega,fun _ _=>trivial⟩
theorem qas{m:List Bool}{i:Nat}(h:i<m.length)(b:Bool):setCells (cells m) (i*1) [.bool b]=cells (m.set i b):=qbx m 1 i rfl b h
theorem qpe(n:Nat):repT n [.bool false]=cells (List.replicate n false):=qsn n false
theorem q88{m:List Bool}:(cells m).length=m.length:=by rw[q0k];exact Nat.mul_one _
theorem qlo{m:List Bool}{i:Nat}:(cells m)[i*1]?=(m[i]?).bind fun b=>some (T.bool b):=q5s m 1 i 0 rfl (by decide)
theorem ql9{l:List Symbol}{eqs:List Equation}{ents:List Entry}:∀{n k:Nat},k+n=ents.length->chkN l eqs ents n k=0->∀j (h:j<ents.length),k<=j->NumsOk eqs.length j ents[j]
 |0,k,hk,_,j,h,hj=>by omega
 |n+1,k,hk,h0,j,h,hj=>by
  have hlt:k<ents.length:=by omega
  rw[chkN,getN hlt]at h0;by_cases c:(derR l eqs (ents.take k) ents[k]).code=0
  ·rw[if_neg (by simpa using c)]at h0;by_cases e:(derR l eqs (ents.take k) ents[k]).equation=eqOf ents[k]
   ·rw[if_pos e]at h0;rcases Nat.lt_or_ge k j with q|q
    ·exact ql9 (by omega) h0 j h q
    ·have:j=k:=by omega
     subst this;unfold derR at c
     have hz:q3k eqs.length (ents.take j).length ents[j]=0:=by
      by_cases hz:q3k eqs.length (ents.take j).length ents[j]=0
      ·exact hz
      ·rw[if_pos hz]at c;exact absurd c hz
     have:=ql4 hz;rw[gAF,Nat.min_eq_left (by omega)]at this;exact this
   ·rw[if_neg e]at h0;cases h0
  ·rw[if_pos c]at h0;exact absurd h0 c
theorem q9r{l:List Symbol}{eqs:List Equation}{ents:List Entry}(h:q93 ⟨l⟩ eqs ents=0):∀j (h:j<ents.length),NumsOk eqs.length j ents[j]:=by
 unfold q93 at h;by_cases h1:q2v ⟨l⟩=0
 ·rw[if_neg (by simpa using h1)]at h;by_cases h2:q4r l eqs=0
  ·rw[if_neg (by simpa using h2)]at h;by_cases h3:500<ents.length
   ·rw[if_pos h3]at h;cases h
   ·rw[if_neg h3]at h;exact fun j hj=>ql9 (by omega) h j hj (Nat.zero_le _)
  ·rw[if_pos h2]at h;exact absurd h h2
 ·rw[if_pos h1]at h;exact absurd h h1
section
variable {eqn:Nat}{ents:List Entry}(hel:ents.length<=500)(hn:∀j (h:j<ents.length),NumsOk eqn j ents[j])
include hel hn
theorem qmj{N:Nat}:∀n f (m:List Bool) (out:List Int),n<=ents.length->n<f->m.length=ents.length->out.length+n<=1000->
 q1q.at0 N f (q1q.st0 (cells ents) ((n:Nat)-1:Int) 0 (cells m) (cells (Lib.compact (q5z out))))=some (.agg [.int .i64 0,slc (Lib.compact (q5z (q94 ents n m out)))],[])
 |n,0,m,out,hk,hf,hm,ho=>by omega
 |0,f+1,m,out,hk,hf,hm,ho=>by
  have e0:¬(((0:Nat):Int)-1>=0):=by omega
  simp only[q1q.next0,q1q.round0,evz,Nat.reduceLT,e0,q94]
 |n+1,f+1,m,out,hk,hf,hm,ho=>by
  have hlt:n<ents.length:=by omega
  have hlm:n<m.length:=by omega
  have hlk:ents[n]?=some ents[n]:=gA hlt;have hmk:m[n]?=some m[n]:=gA hlm;have e1:(((n+1:Nat):Int)-1)=(n:Int):=by omega
  have e2:IntKind.wrap .i64 ((n:Int)-1)=(n:Int)-1:=q1o (by omega);have hmd:m.getD n false=m[n]:=by rw[gI,hmk];rfl
  have nk:=hn n hlt;have next:=fun(m:List Bool)(o:List Int)(h:m.length=ents.length)=>qmj (N:=N) n f m o (by omega) (by omega) h
  have hg:(n:Int)>=0:=by omega
  rw[e1,q94,getN hlt,hmd];simp only[q1q.next0,q1q.round0,evz,Nat.reduceLT,hlt,hlm,hlk,hmk,q42,e2,hg,q88,Nat.div_one,qlo];cases hmn:m[n]with
  |false=>
   simp only[evz,Nat.reduceLT,Bool.not_false];exact next m out hm (by omega)
  |true=>
   simp only[evz,Nat.reduceLT,Bool.not_true,reduceCtorEq];by_cases k1:ents[n].kind=1
   ·have hp:=(q2l (Lib.compact (q5z out)) ents[n].a (by have:=q8t (q5z out);unfold q5z at this ⊢;rw[List.length_mergeSort]at this;omega)).eq;rw[qoc]at hp;simp only[k1,evz,Nat.reduceLT,hp];exact next m _ hm (by simp;omega)
   have ha1:=nk.other k1;obtain⟨a,hae⟩:∃a:Nat,ents[n].a=a:=⟨ents[n].a.toNat,by have:=nk.a0;omega⟩;rw[hae,gR]at ha1;have ham:a<m.length:=by omega
   have hs1:=qas ham true;have hc1:a*1+1<=m.length:=by omega
   simp only[k1,hae,evz,Nat.reduceLT,ham,q88,Nat.div_one,hs1,hc1];by_cases k4:ents[n].kind=4
   ·obtain⟨b0,b1⟩:=nk.b (.inl k4);obtain⟨b,hbe⟩:∃b:Nat,ents[n].b=b:=⟨ents[n].b.toNat,by omega⟩;rw[hbe,gR]at b1;have hbm:b<(m.set a true).length:=by rw[List.length_set];omega
    have hs2:=qas hbm true;have hc2:b*1+1<=(m.set a true).length:=by omega
    simp only[k4,hbe,evz,Nat.reduceLT,hbm,q88,Nat.div_one,hs2,hc2,two,decide_true,Bool.true_or];exact next _ out (by rw[List.length_set,List.length_set];exact hm) (by omega)
   by_cases k5:ents[n].kind=5
   ·obtain⟨b0,b1⟩:=nk.b (.inr k5);obtain⟨b,hbe⟩:∃b:Nat,ents[n].b=b:=⟨ents[n].b.toNat,by omega⟩;rw[hbe,gR]at b1;have hbm:b<(m.set a true).length:=by rw[List.length_set];omega
    have hs2:=qas hbm true;have hc2:b*1+1<=(m.set a true).length:=by omega
    simp only[k4,k5,hbe,evz,Nat.reduceLT,hbm,q88,Nat.div_one,hs2,hc2,two,decide_true,Bool.or_true];exact next _ out (by rw[List.length_set,List.length_set];exact hm) (by omega)
   ·simp only[k4,k5,evz,Nat.reduceLT,two,decide_false,Bool.or_self,reduceCtorEq];exact next _ out (by rw[List.length_set];exact hm) (by omega)
theorem qmg{N:Nat}:∀n f (m:List Bool) (out:List Int),n<=ents.length->n<f->m.length=ents.length->out.length+n<=1000->
 q1z.at0 N f (q1z.st0 (cells ents) ((n:Nat)-1:Int) 0 (cells m) (cells out))=some (.agg [.int .i64 0,slc (Lib.compact (q5z (q94 ents n m out)))],[])
 |n,0,m,out,hk,hf,hm,ho=>by omega
 |0,f+1,m,out,hk,hf,hm,ho=>by
  have e0:¬(((0:Nat):Int)-1>=0):=by omega
  have h1:=q5c out (by omega);have h2:=(q4m (q5z out) (by unfold q5z;rw[List.length_mergeSort];omega)).eq;simp only[q1z.next0,q1z.round0,evz,Nat.reduceLT,e0,q94,h1,h2]
 |n+1,f+1,m,out,hk,hf,hm,ho=>by
  have hlt:n<ents.length:=by omega
  have hlm:n<m.length:=by omega
  have hlk:ents[n]?=some ents[n]:=gA hlt;have hmk:m[n]?=some m[n]:=gA hlm;have e1:(((n+1:Nat):Int)-1)=(n:Int):=by omega
  have e2:IntKind.wrap .i64 ((n:Int)-1)=(n:Int)-1:=q1o (by omega);have hmd:m.getD n false=m[n]:=by rw[gI,hmk];rfl
  have nk:=hn n hlt;have next:=fun(m:List Bool)(o:List Int)(h:m.length=ents.length)=>qmg (N:=N) n f m o (by omega) (by omega) h
  have hg:(n:Int)>=0:=by omega
  rw[e1,q94,getN hlt,hmd];simp only[q1z.next0,q1z.round0,evz,Nat.reduceLT,hlt,hlm,hlk,hmk,q42,e2,hg,q88,Nat.div_one,qlo];cases hmn:m[n]with
  |false=>
   simp only[evz,Nat.reduceLT,Bool.not_false];exact next m out hm (by omega)
  |true=>
   simp only[evz,Nat.reduceLT,Bool.not_true,reduceCtorEq];by_cases k1:ents[n].kind=1
   ·have hb:Nat.ble (((cells out).length+1)*8) (140737488355328*1)=true:=q3v (by rw[q0k,q3e];omega);simp only[k1,evz,Nat.reduceLT,hb,q2f];exact next m _ hm (by simp;omega)
   have ha1:=nk.other k1;obtain⟨a,hae⟩:∃a:Nat,ents[n].a=a:=⟨ents[n].a.toNat,by have:=nk.a0;omega⟩;rw[hae,gR]at ha1;have ham:a<m.length:=by omega
   have hs1:=qas ham true;have hc1:a*1+1<=m.length:=by omega
   have hkd:=nk.kind;simp only[k1,hae,evz,Nat.reduceLT,ham,q88,Nat.div_one,hs1,hc1,ge_iff_le];by_cases k4:ents[n].kind=4\/ents[n].kind=5
   ·obtain⟨b0,b1⟩:=nk.b k4;obtain⟨b,hbe⟩:∃b:Nat,ents[n].b=b:=⟨ents[n].b.toNat,by omega⟩;rw[hbe,gR]at b1;have hbm:b<(m.set a true).length:=by rw[List.length_set];omega
    have hs2:=qas hbm true;have hc2:b*1+1<=(m.set a true).length:=by omega
    have h4:(4:Int)<=ents[n].kind:=by omega
    have ht:two ents[n]=true:=by unfold two;rcases k4 with h|h <;> simp[h]
    simp only[h4,ht,hbe,evz,Nat.reduceLT,hbm,q88,Nat.div_one,hs2,hc2];exact next _ out (by rw[List.length_set,List.length_set];exact hm) (by omega)
   ·have h4:¬(4:Int)<=ents[n].kind:=by omega
    have ht:two ents[n]=false:=by unfold two;simp;omega
    simp only[h4,ht,evz,Nat.reduceLT,reduceCtorEq];exact next _ out (by rw[List.length_set];exact hm) (by omega)
end
theorem q1q(s:Signature)(eqs:List Equation)(ents:List Entry)(n:Int)(hs:sm 1048576 s)(hq:sm 1048576 eqs)(he:sm 1048576 ents) :
 Call F.q1q [.agg (enc s),slc eqs,slc ents,.int .i64 n] (.agg (enc (q74 s eqs ents n))):=by
 have hc:=(q48 s eqs ents hs hq he).eq;obtain⟨l⟩:=s;have hel:=he.1;have hc:LIM F.q48 [.agg [slc l],slc eqs,slc ents]=some (.int .i64 (q93 ⟨l⟩ eqs ents),[]):=hc;show Call F.q1q [.agg [slc l],slc eqs,slc ents,.int .i64 n] _;refine q0r rfl 600 ((q1q.ev _ _ _ _ _).trans ?_);simp only[evz,Nat.reduceLT,hc,q74,qon,(q14 _ _ _).eq,q1o (x:=(ents.length:Int)-1) (by omega)];by_cases h:q93 ⟨l⟩ eqs ents=0
 case neg=>simp only[h,evz,Nat.reduceLT,ne_eq,gX,q6z,q3q]
 obtain⟨_,_,_,q3,_⟩:=qe7 h;have hnk:=q9r h;cases h1:inR n 0 (ents.length-1)with
 |false=>simp only[h,evz,Nat.reduceLT,ne_eq,gW,Bool.not_false,q6z,q3q]
 |true=>
  have hn1:=q4p.1 h1;obtain⟨k,rfl⟩:∃k:Nat,n=k:=⟨n.toNat,by omega⟩;have hk:k<(List.replicate ents.length false).length:=by rw[List.length_replicate];omega
  have hg:(decide (0<=(ents.length:Int))&&true&&Nat.ble ((ents.length*1)*1) (140737488355328*1))=true:=by
   rw[q3v (by omega)];simp
  have hc1:k*1+1<=(List.replicate ents.length false).length:=by omega
  have hc0:k<ents.length:=by omega
  have e0:Lib.compact (q5z [])=[]:=gL (Nat.le_zero.1 (Nat.le_trans (q8t _) (by unfold q5z;rw[List.length_mergeSort];exact gAI _)));have:=qmj q3 hnk (N:=600) (k+1) 600 ((List.replicate ents.length false).set k true) [] (by omega) (by omega) (by simp) (by simp;omega);rw[show(((k+1:Nat):Int)-1)=(k:Int) by omega,e0]at this;simp only[h,evz,Nat.reduceLT,ne_eq,gW,Bool.not_true,q6z,reduceCtorEq];rw[q1r hg];simp only[evz,Nat.reduceLT,qpe,q88,Nat.div_one,hk,hc1,qas hk];exact this
theorem q1z(s:Signature)(eqs:List Equation)(ents:List Entry)(n:Int)(hs:sm 1048576 s)(hq:sm 1048576 eqs)(he:sm 1048576 ents) :
 Call F.q1z [.agg (enc s),slc eqs,slc ents,.int .i64 n] (.agg (enc (q74 s eqs ents n))):=by
 have hc:=(q0y s eqs ents hs hq he).eq;obtain⟨l⟩:=s;have hel:=he.1;have hc:LIM F.q0y [.agg [slc l],slc eqs,slc ents]=some (.int .i64 (q93 ⟨l⟩ eqs ents),[]):=hc;show Call F.q1z [.agg [slc l],slc eqs,slc ents,.int .i64 n] _;refine q0r rfl 600 ((q1z.ev _ _ _ _ _).trans ?_);simp only[evz,Nat.reduceLT,hc,q74,qon,(q2n _ _ _).eq,q1o (x:=(ents.length:Int)-1) (by omega)];by_cases h:q93 ⟨l⟩ eqs ents=0
 case neg=>simp only[h,evz,Nat.reduceLT,ne_eq,gX,q6z,q3q]
 obtain⟨_,_,_,q3,_⟩:=qe7 h;have hnk:=q9r h;cases h1:inR n 0 (ents.length-1)with
 |false=>simp only[h,evz,Nat.reduceLT,ne_eq,gW,Bool.not_false,q6z,q3q]
 |true=>
  have hn1:=q4p.1 h1;obtain⟨k,rfl⟩:∃k:Nat,n=k:=⟨n.toNat,by omega⟩;have hk:k<(List.replicate ents.length false).length:=by rw[List.length_replicate];omega
  have hg:(decide (0<=(ents.length:Int))&&true&&Nat.ble ((ents.length*1)*1) (140737488355328*1))=true:=by
   rw[q3v (by omega)];simp
  have hc1:k*1+1<=(List.replicate ents.length false).length:=by omega
  have hc0:k<ents.length:=by omega
  have:=qmg q3 hnk (N:=600) (k+1) 600 ((List.replicate ents.length false).set k true) [] (by omega) (by omega) (by simp) (by simp;omega);rw[show(((k+1:Nat):Int)-1)=(k:Int) by omega]at this;simp only[h,evz,Nat.reduceLT,ne_eq,gW,Bool.not_true,q6z,reduceCtorEq];rw[q1r hg];simp only[evz,Nat.reduceLT,qpe,q88,Nat.div_one,hk,hc1,qas hk];exact this
end Ev.Ty
end
section
namespace Ev.Ty
open Go Ev
set_option maxHeartbeats 1000000
section
variable {l:List Symbol}(ok:SigOk ⟨l⟩){z:Nat}{tb:List (List Int)}(al:AlgOk l (z:Int) tb)(hz:0<z)
include ok al hz
theorem qtb{a b:List Int}(h:q4b l z tb ⟨a,b⟩=true):q4b l z tb ⟨b,a⟩=true:=
 qci hz fun vs h6 hr=>(q9i hz h h6 hr).symm
theorem quy{vs:List Int}(hr:∀n∈vs,0<=n/\n<=(z:Int)-1):∀n∈(List.range 6).map (fun i=>vs.getD i 0),0<=n/\n<=(z:Int)-1:=fun n hn=>by
 obtain⟨i,_,rfl⟩:=List.mem_map.1 hn;rw[gI];rcases Nat.lt_or_ge i vs.length with h|h
 ·rw[gA h];exact hr _ (gG h)
 ·rw[List.getElem?_eq_none h];show(0:Int)<=0/\(0:Int)<=_;omega
theorem qp4{vs t:List Int}(ht:TermOk l t)(hlow:∀n∈t,-6<=n):(q2z l t).eval z tb vs=(q2z l t).eval z tb ((List.range 6).map fun i=>vs.getD i 0):=by
 obtain⟨h1,h2⟩:=q3h ok ht;refine qad (fun n hn h0=>?_) (ar l) h1;rw[<- h2]at hn;have:=hlow n hn;rw[gI (l:=List.map _ _),gAC,List.getElem?_range (by omega)];rfl
theorem qkg{e:Equation}(he:EqOk l e)(h:q4b l z tb e=true):q4b l z tb (qbm e)=true:=by
 obtain⟨L,R⟩:=e;refine qhv ok hz he.left he.right (qkr he) fun vs hr=>?_;rw[qp4 ok al hz he.left he.lowL,qp4 ok al hz he.right he.lowR];exact q9i hz h (by simp) (quy ok al hz hr)
theorem qd9{e:Equation}(he:EqOk l e)(h:q4b l z tb e=true){t:List Int}(ht:TermOk l t)(hlow:∀n∈t,-6<=n){p:Int}(h0:(q3w ⟨l⟩ [e] 0 p t).code=0){vs:List Int}(h6:vs.length=6)(hv:∀n∈vs,0<=n/\n<=(z:Int)-1) :
 (q2z l (q3w ⟨l⟩ [e] 0 p t).term).eval z tb vs=(q2z l t).eval z tb vs:=by
 unfold q3w at h0 ⊢;split at h0
 ·rename_i h1;exact absurd h0 h1
 rename_i h1;rw[if_neg h1];split at h0
 ·cases h0
 rename_i h2;rw[if_neg h2]
 have h3:inR p 0 (t.length-1)=true:=by
  cases hx:inR p 0 ((t.length:Int)-1)with
  |true=>rfl
  |false=>exact absurd (.inr hx) h2
 have h3:=q4p.1 h3;have hrules:q40 ⟨l⟩ [e]=0:=Classical.byContradiction fun hne=>by unfold q53 at h1;rw[if_pos hne]at h1;exact h1 hne
 have hru:q9l e=true:=by
  unfold q40 at hrules;rw[if_neg (by simpa using(q5g _).2 ok)]at hrules;unfold q8j at hrules;rw[if_neg (show ¬ q4r l [e]≠0 from fun g=>g (q8v.2 ⟨by simp,fun x hx=>by rw[gD.1 hx];exact he⟩))]at hrules;cases hq:q9l e
  ·rw[if_pos (List.any_eq_true.2 ⟨e,gD.2 rfl,by rw[hq];rfl⟩)]at hrules;omega
  ·rfl
 exact(qr3 ok al hz h6 hv he hru h ht hlow (by omega) h0).1
theorem qi8{o i:Equation}(ho:EqOk l o)(hi:EqOk l i)(hho:q4b l z tb o=true)(hhi:q4b l z tb i=true){p:Int}(h0:(q8b ⟨l⟩ o i p).code=0):q4b l z tb (q8b ⟨l⟩ o i p).equation=true:=by
 unfold q8b at h0 ⊢;split at h0
 ·rename_i h1;exact absurd h0 h1
 rename_i h1;rw[if_neg h1];split at h0
 ·cases h0
 rename_i h2;rw[if_neg h2];split at h0
 ·cases h0
 rename_i h3;rw[if_neg h3];have h2:=q4p.1 (Bool.not_eq_false _▸h2:inR p 0 (o.left.length-1)=true);exact qqm ok al hz ho hi hho hhi (by omega) h0
theorem qtf{eqs:List Equation}{ents:List Entry}{e:Entry}(hq:∀x∈eqs,EqOk l x)(he:∀x∈ents,EqOk l (eqOf x))(h:(derR l eqs ents e).code=0)
 (g1:e.kind=1->∀(k:e.a.toNat<eqs.length),q4b l z tb eqs[e.a.toNat]=true) (g2:e.kind≠1->∀(k:e.a.toNat<ents.length),q4b l z tb (eqOf ents[e.a.toNat])=true)
 (g3:two e=true->∀(k:e.b.toNat<ents.length),q4b l z tb (eqOf ents[e.b.toNat])=true):q4b l z tb (derR l eqs ents e).equation=true:=by
 unfold derR at h ⊢;split at h
 ·rename_i h1;exact absurd h h1
 rename_i h1;rw[if_neg h1];have nk:=ql4 (Classical.not_not.1 h1);split at h
 ·rename_i k1;rw[if_pos k1,getE (nk.given k1)];exact g1 k1 _
 rename_i k1;rw[if_neg k1,getN (nk.other k1)];have hea:=he _ (gG (nk.other k1));have hha:=g2 k1 (nk.other k1);split at h
 ·rename_i k2;rw[if_pos k2];exact qtb ok al hz hha
 rename_i k2;rw[if_neg k2];split at h
 ·rename_i k3;rw[if_pos k3];exact qkg ok al hz hea hha
 rename_i k3;rw[if_neg k3];have hk4:e.kind=4\/e.kind=5:=by rcases nk.kind with h|h|h|h|h <;> simp_all
 have heb:=he _ (gG (nk.b hk4).2);have hhb:=g3 (by unfold two;rcases hk4 with hk|hk <;> simp[hk]) (nk.b hk4).2;rw[getN (nk.b hk4).2];rw[getN (nk.b hk4).2,getN (nk.other k1)]at h;split at h
 ·rename_i k5;rw[if_pos k5];exact qi8 ok al hz hea heb hha hhb h
 rename_i k5;rw[if_neg k5];split at h
 ·rename_i k6;rw[if_pos k6];refine qci hz fun vs h6 hr=>?_;have:=qd9 ok al hz heb hhb hea.left hea.lowL h h6 hr;exact this.trans (q9i hz hha h6 hr)
 ·rename_i k6;rw[if_neg k6];refine qci hz fun vs h6 hr=>?_;have:=qd9 ok al hz heb hhb hea.right hea.lowR h h6 hr;exact(q9i hz hha h6 hr).trans this.symm
end
theorem qme{l:List Symbol}{eqs:List Equation}{ents:List Entry}:∀{n k:Nat},k+n=ents.length->chkN l eqs ents n k=0->∀j (h:j<ents.length),k<=j->(derR l eqs (ents.take j) ents[j]).code=0/\(derR l eqs (ents.take j) ents[j]).equation=eqOf ents[j]
 |0,k,hk,_,j,h,hj=>by omega
 |n+1,k,hk,h0,j,h,hj=>by
  have hlt:k<ents.length:=by omega
  rw[chkN,getN hlt]at h0;by_cases c:(derR l eqs (ents.take k) ents[k]).code=0
  ·rw[if_neg (by simpa using c)]at h0;by_cases e:(derR l eqs (ents.take k) ents[k]).equation=eqOf ents[k]
   ·rw[if_pos e]at h0;rcases Nat.lt_or_ge k j with q|q
    ·exact qme (by omega) h0 j h q
    ·have:j=k:=by omega
     subst this;exact⟨c,e⟩
   ·rw[if_neg e]at h0;cases h0
  ·rw[if_pos c]at h0;exact absurd h0 c
theorem qo1{l:List Symbol}{eqs:List Equation}{ents:List Entry}(h:q93 ⟨l⟩ eqs ents=0):∀j (h:j<ents.length),(derR l eqs (ents.take j) ents[j]).code=0/\(derR l eqs (ents.take j) ents[j]).equation=eqOf ents[j]:=by
 unfold q93 at h;by_cases h1:q2v ⟨l⟩=0
 ·rw[if_neg (by simpa using h1)]at h;by_cases h2:q4r l eqs=0
  ·rw[if_neg (by simpa using h2)]at h;by_cases h3:500<ents.length
   ·rw[if_pos h3]at h;cases h
   ·rw[if_neg h3]at h;exact fun j hj=>qme (by omega) h j hj (Nat.zero_le _)
  ·rw[if_pos h2]at h;exact absurd h h2
 ·rw[if_pos h1]at h;exact absurd h h1
section
variable {l:List Symbol}{eqs:List Equation}{ents:List Entry}(hck:q93 ⟨l⟩ eqs ents=0){z:Nat}{tb:List (List Int)}(al:AlgOk l (z:Int) tb)(hz:0<z)
include hck al hz
theorem qay{j:Nat}(h:j<ents.length)(g1:ents[j].kind=1->∀(k:ents[j].a.toNat<eqs.length),q4b l z tb eqs[ents[j].a.toNat]=true)
 (g2:ents[j].kind≠1->∀(i:Nat)(hi:i<ents.length),i=ents[j].a.toNat->i<j->q4b l z tb (eqOf ents[i])=true) (g3:two ents[j]=true->∀(i:Nat)(hi:i<ents.length),i=ents[j].b.toNat->i<j->q4b l z tb (eqOf ents[i])=true) :
 q4b l z tb (eqOf ents[j])=true:=by
 obtain⟨ok,_,hq,_,he⟩:=qe7 hck;obtain⟨c,e⟩:=qo1 hck j h;rw[<- e];have hlt:(ents.take j).length=j:=by rw[gAF];omega
 refine qtf ok al hz hq (fun x hx=>he x (List.mem_of_mem_take hx)) c g1 (fun hk k=>?_) (fun hk k=>?_)
 ·rw[hlt]at k;rw[List.getElem_take];exact g2 hk _ (by omega) rfl k
 ·rw[hlt]at k;rw[List.getElem_take];exact g3 hk _ (by omega) rfl k
theorem qch{x:Int}:∀(n:Nat)(m:List Bool)(out:List Int),x∈out->x∈q94 ents n m out
 |0,m,out,h=>h
 |n+1,m,out,h=>by
  rw[q94];split
  ·exact qch n m out h
  split
  ·exact qch n m _ (gJ _ h)
  split
  ·exact qch n _ out h
  ·exact qch n _ out h
theorem q9q:∀(n:Nat)(m:List Bool)(out:List Int),n<=ents.length->m.length=ents.length->(∀x∈q94 ents n m out,0<=x->∀(k:x.toNat<eqs.length),q4b l z tb eqs[x.toNat]=true)->
 ∀(j:Nat)(h:j<ents.length),j<n->m.getD j false=true->q4b l z tb (eqOf ents[j])=true
 |0,m,out,_,_,_,j,_,hj,_=>by omega
 |n+1,m,out,hn,hm,hu,j,h,hj,hmj=>by
  have hlt:n<ents.length:=by omega
  have nk:=q9r hck n hlt;rw[q94,getN hlt]at hu;by_cases c1:m.getD n false=false
  ·rw[if_pos c1]at hu;have:j≠n:=fun e=>by subst e;rw[c1]at hmj;cases hmj
   exact q9q n m out (by omega) hm hu j h (by omega) hmj
  rw[if_neg c1]at hu;by_cases c2:ents[n].kind=1
  ·rw[if_pos c2]at hu;rcases Nat.lt_or_ge j n with q|q
   ·exact q9q n m _ (by omega) hm hu j h q hmj
   ·obtain rfl:j=n:=by omega
    exact qay hck al hz h (fun _ k=>hu _ (qch hck al hz j m _ (by simp)) nk.a0 k) (fun hk=>absurd c2 hk) (fun hk=>by unfold two at hk;simp[c2]at hk)
  rw[if_neg c2]at hu;have ha:=nk.other c2
  have keep:∀(i j:Nat),m.getD j false=true->(m.set i true).getD j false=true:=fun i j h=>by
   rw[gI]at h ⊢;by_cases e:i=j
   ·subst e
    have hi:i<m.length:=by
     rcases Nat.lt_or_ge i m.length with h1|h1
     ·exact h1
     ·rw[List.getElem?_eq_none h1]at h;cases h
    rw[List.getElem?_set_self hi];rfl
   ·rw[List.getElem?_set_ne e];exact h
  have put_:∀(m:List Bool)(i:Nat),i<m.length->(m.set i true).getD i false=true:=fun m i hi=>by
   rw[gI,List.getElem?_set_self hi];rfl
  by_cases c3:two ents[n]=true
  ·rw[if_pos c3]at hu;have hb:=(nk.b (by unfold two at c3;simpa using c3)).2
   have keep2:∀(i j:Nat),(m.set ents[n].a.toNat true).getD j false=true->((m.set ents[n].a.toNat true).set i true).getD j false=true:=fun i j h=>by
    rw[gI]at h ⊢;by_cases e:i=j
    ·subst e
     have hi:i<(m.set ents[n].a.toNat true).length:=by
      rcases Nat.lt_or_ge i (m.set ents[n].a.toNat true).length with h1|h1
      ·exact h1
      ·rw[List.getElem?_eq_none h1]at h;cases h
     rw[List.getElem?_set_self hi];rfl
    ·rw[List.getElem?_set_ne e];exact h
   have ih:=q9q n _ out (by omega) (by rw[List.length_set,List.length_set];exact hm) hu;rcases Nat.lt_or_ge j n with q|q
   ·exact ih j h q (keep2 _ _ (keep _ _ hmj))
   ·obtain rfl:j=n:=by omega
    refine qay hck al hz h (fun hk=>absurd hk c2) (fun _ i hi e hij=>?_) (fun _ i hi e hij=>?_)
    ·subst e;exact ih _ hi hij (keep2 _ _ (put_ m _ (by omega)))
    ·subst e;exact ih _ hi hij (put_ _ _ (by rw[List.length_set];omega))
  ·rw[if_neg c3]at hu;have ih:=q9q n _ out (by omega) (by rw[List.length_set];exact hm) hu;rcases Nat.lt_or_ge j n with q|q
   ·exact ih j h q (keep _ _ hmj)
   ·obtain rfl:j=n:=by omega
    refine qay hck al hz h (fun hk=>absurd hk c2) (fun _ i hi e hij=>?_) (fun hk=>absurd hk c3);subst e;exact ih _ hi hij (put_ m _ (by omega))
theorem qe6:∀(n:Nat)(m:List Bool)(out:List Int),n<=ents.length->m.length=ents.length->∀(j:Nat),j<n->m.getD j false=true->q94 ents n m out≠[]
 |0,m,out,_,_,j,hj,_=>by omega
 |n+1,m,out,hn,hm,j,hj,hmj=>by
  have hlt:n<ents.length:=by omega
  have nk:=q9r hck n hlt;rw[q94,getN hlt];by_cases c1:m.getD n false=false
  ·rw[if_pos c1];have:j≠n:=fun e=>by subst e;rw[c1]at hmj;cases hmj
   exact qe6 n m out (by omega) hm j (by omega) hmj
  rw[if_neg c1];by_cases c2:ents[n].kind=1
  ·rw[if_pos c2];exact List.ne_nil_of_mem (qch hck al hz (x:=ents[n].a) n m _ (by simp))
  rw[if_neg c2];have ha:=nk.other c2
  have put_:∀(m:List Bool)(i:Nat),i<m.length->(m.set i true).getD i false=true:=fun m i hi=>by
   rw[gI,List.getElem?_set_self hi];rfl
  by_cases c3:two ents[n]=true
  ·rw[if_pos c3];have hb:=(nk.b (by unfold two at c3;simpa using c3)).2;exact qe6 n _ out (by omega) (by rw[List.length_set,List.length_set];exact hm) ents[n].b.toNat hb (put_ _ _ (by rw[List.length_set];omega))
  ·rw[if_neg c3];exact qe6 n _ out (by omega) (by rw[List.length_set];exact hm) ents[n].a.toNat ha (put_ m _ (by omega))
end
end Ev.Ty
end
section
namespace Ev.Ty
open Go Ev
open Enc (enc)
open Sm (sm)
def Drawn(code:List UInt8)(p c:Int)(P:T->Prop)(r:R):Prop:=∃x p',r=some (x,[.agg [slc code,.int .i64 p']])/\p<=p'/\p'<=p+c/\P x
theorem q9z{code:List UInt8}{p c:Int}{P:T->Prop}{g:FuncId}{args:List T}(hx:X g=none)(n:Nat)(h:Drawn code p c P (q1g prog A H LIM n g args)):Drawn code p c P (LIM g args):=by
 obtain⟨x,p',e,h⟩:=h;exact⟨x,p',qf4 hx n e,h⟩
theorem Drawn.more{code:List UInt8}{p p1 c c1:Int}{P P1:T->Prop}{r:R}(h:Drawn code p1 c1 P1 r)(h1:p<=p1)(h2:p1+c1<=p+c)(hP:∀x,P1 x->P x):Drawn code p c P r:=by
 obtain⟨x,p',e,a,b,q⟩:=h;exact⟨x,p',e,by omega,by omega,hP x q⟩
theorem q79{code:List UInt8}{p p' c:Int}{P:T->Prop}{x:T}(h1:p<=p'/\p'<=p+c)(h:P x):Drawn code p c P (some (x,[.agg [slc code,.int .i64 p']])):=⟨x,p',rfl,h1.1,h1.2,h⟩
theorem q95{Q:R->Prop}{code:List UInt8}{p c:Int}{P:T->Prop}{r:R}{K:T×List T->R}(h:Drawn code p c P r)
 (k:∀x p',p<=p'->p'<=p+c->P x->Q (K (x,[.agg [slc code,.int .i64 p']]))):Q (r.bind K):=by
 obtain⟨x,p',rfl,a,b,q⟩:=h;exact k x p' a b q
theorem q8x{σ:Type}{S:Nat->σ->R}{Q:R->Prop}(I:σ->Prop)(μ:σ->Nat)(step:∀m s,I s->Q (S (m+1) s)\/∃s',S (m+1) s=S m s'/\I s'/\μ s'<μ s):∀f s,I s->μ s<f->Q (S f s):=by
 intro f;induction f with
 |zero=>intro s _ h;omega
 |succ f ih=>
  intro s hi hm;rcases step f s hi with h|⟨s',e,hi',hm'⟩
  ·exact h
  ·rw[e];exact ih s' hi' (by omega)
@[simp] theorem qvo(c:List T):oBx (.bx c)=some c:=Eq.trans rfl rfl
theorem qcv{a b:Int}(ha:0<=a)(hb:0<b):0<=Int.tmod a b/\Int.tmod a b<b:=⟨Int.tmod_nonneg b ha,Int.tmod_lt_of_pos a hb⟩
abbrev src(code:List UInt8)(p:Int):T:=.rref [slc code,.int .i64 p] 0
theorem qfx(b:UInt8):(0:Int)<=(b.toNat:Int)/\(b.toNat:Int)<256:=⟨by omega,by have:=b.toNat_lt;omega⟩
section
variable {code:List UInt8}(hc:code.length<=2097152)
include hc
theorem qpz{p:Int}(hp:0<=p)(hl:0<code.length):∃i:Nat,Int.tmod p (code.length:Int)=i/\i<code.length:=by
 obtain⟨h1,h2⟩:=qcv hp (show(0:Int)<(code.length:Int) by omega);exact⟨(Int.tmod p (code.length:Int)).toNat,by omega,by omega⟩
theorem q1a(p n:Int)(hp:0<=p/\p<=1099511627776) :
 ∃v:Int,LIM F.q1a [.rref [slc code,.int .i64 p] 0,.int .i64 n]=some (.int .i64 v,[.agg [slc code,.int .i64 (p+1)]])/\0<=v/\(1<=n->v<n):=by
 have e1:IntKind.wrap .i64 (p+1)=p+1:=q1o (by omega);have e2:IntKind.wrap .i64 (p+1-1)=p:=by rw[q1o (by omega)];omega
 by_cases hn:n<1
 ·refine⟨0,q9c rfl 0 ((q1a.ev _ _ _ _).trans ?_),by omega,by omega⟩;simp only[evz,Nat.reduceLT,hn,e1]
 rw[Int.not_lt]at hn;have hn0:¬ n=0:=by omega
 by_cases hl:code.length=0
 ·obtain⟨q1,q2⟩:=qcv (a:=p*7) (b:=n) (by omega) (by omega);refine⟨Int.tmod (p*7) n,q9c rfl 0 ((q1a.ev _ _ _ _).trans ?_),q1,fun _=>q2⟩;have z:((code.length:Nat):Int)=0:=by omega
  have z1:¬ n<1:=by omega
  simp only[evz,Nat.reduceLT,z1,z,hn0,e1,e2,q1o (x:=p*7) (by omega)]
 have z1:¬ n<1:=by omega
 obtain⟨i,hi,hil⟩:=qpz hc hp.1 (by omega);obtain⟨j,hj,hjl⟩:=qpz (code:=code) hc (p:=p+1) (by omega) (by omega);have b1:=qfx code[i];have b2:=qfx code[j];have hd:0<=Int.tdiv p code.length/\Int.tdiv p code.length<=p:=⟨Int.tdiv_nonneg hp.1 (by omega),Int.tdiv_le_self _ hp.1⟩;have d1:¬((code.length:Nat):Int)=0:=by omega
 generalize hk:Int.tdiv p code.length=d at hd;have w1:IntKind.wrap .i64 d=d:=q1o (by omega);have w2:IntKind.wrap .i64 (d*37)=d*37:=q1o (by omega);have w3:IntKind.wrap .i64 (code[i].toNat:Int)=(code[i].toNat:Int):=q1o (by omega);have w4:IntKind.wrap .i64 (code[j].toNat:Int)=(code[j].toNat:Int):=q1o (by omega);have w5:IntKind.wrap .i64 ((code[i].toNat:Int)+d*37)=(code[i].toNat:Int)+d*37:=q1o (by omega);have w6:IntKind.wrap .i64 (((code[i].toNat:Int)+d*37)*251)=((code[i].toNat:Int)+d*37)*251:=q1o (by omega);have w7:IntKind.wrap .i64 ((code[j].toNat:Int)*13)=(code[j].toNat:Int)*13:=q1o (by omega);have w8:IntKind.wrap .i64 (((code[i].toNat:Int)+d*37)*251+(code[j].toNat:Int)*13)=((code[i].toNat:Int)+d*37)*251+(code[j].toNat:Int)*13:=q1o (by omega);have w9:IntKind.wrap .i64 (((code[i].toNat:Int)+d*37)*251+(code[j].toNat:Int)*13+p)=((code[i].toNat:Int)+d*37)*251+(code[j].toNat:Int)*13+p:=q1o (by omega);by_cases hbig:n>200
 ·obtain⟨q1,q2⟩:=qcv (a:=((code[i].toNat:Int)+d*37)*251+(code[j].toNat:Int)*13+p) (b:=n) (by omega) (by omega);refine⟨_,q9c rfl 0 ((q1a.ev _ _ _ _).trans ?_),q1,fun _=>q2⟩;simp only[evz,Nat.reduceLT,z1,d1,hn0,e1,e2,hi,hil,hj,hjl,gA,qis,hbig,hk,w1,w2,w3,w4,w5,w6,w7,w8,w9]
 ·obtain⟨q1,q2⟩:=qcv (a:=(code[i].toNat:Int)+d*37) (b:=n) (by omega) (by omega);refine⟨_,q9c rfl 0 ((q1a.ev _ _ _ _).trans ?_),q1,fun _=>q2⟩;simp only[evz,Nat.reduceLT,z1,d1,hn0,e1,e2,hi,hil,hj,hjl,gA,qis,hbig,hk,w1,w2,w3,w4,w5,w6,w7,w8,w9]
theorem q7j{Q:R->Prop}{p n:Int}{K:T×List T->R}(hp:0<=p/\p<=1099511627776)(k:∀v:Int,0<=v->(1<=n->v<n)->Q (K (.int .i64 v,[.agg [slc code,.int .i64 (p+1)]]))) :
 Q ((LIM F.q1a [.rref [slc code,.int .i64 p] 0,.int .i64 n]).bind K):=by
 obtain⟨v,e,h1,h2⟩:=q1a hc p n hp;rw[e];exact k v h1 h2
theorem q3u(p n:Int)(hp:0<=p/\p<=1099511627776):∃b:Bool,LIM F.q3u [.rref [slc code,.int .i64 p] 0,.int .i64 n]=some (.bool b,[.agg [slc code,.int .i64 (p+1)]]):=by
 obtain⟨v,e,_⟩:=q1a hc p n hp;exact⟨decide (v=0),q9c rfl 0 ((q3u.ev _ _ _ _).trans (by simp only[evz,Nat.reduceLT,e]))⟩
theorem qc8{Q:R->Prop}{p n:Int}{K:T×List T->R}(hp:0<=p/\p<=1099511627776)(k:∀b:Bool,Q (K (.bool b,[.agg [slc code,.int .i64 (p+1)]]))) :
 Q ((LIM F.q3u [.rref [slc code,.int .i64 p] 0,.int .i64 n]).bind K):=by
 obtain⟨b,e⟩:=q3u hc p n hp;rw[e];exact k b
theorem q3r(p:Int)(l:List Int){ts:List T}(hts:cells l=ts)(hl:l≠[])(hp:0<=p/\p<=1099511627776) :
 ∃v∈l,LIM F.q3r [.rref [slc code,.int .i64 p] 0,.sl 1 ts]=some (.int .i64 v,[.agg [slc code,.int .i64 (p+1)]]):=by
 subst hts;have h0:0<l.length:=List.length_pos_iff.2 hl;have hd:(cells l).length/1=l.length:=q5h rfl;obtain⟨v,e,h1,h2⟩:=q1a hc p (l.length:Int) hp;obtain⟨i,rfl⟩:∃i:Nat,v=i:=⟨v.toNat,by omega⟩;have hi:i<l.length:=by have:=h2 (by omega);omega
 refine⟨l[i],gG hi,q9c rfl 0 ((q3r.ev _ _ _ _).trans ?_)⟩;simp only[evz,Nat.reduceLT,e,hi,gA,q1x]
theorem qig{Q:R->Prop}{p:Int}(l:List Int){ts:List T}{K:T×List T->R}(hts:cells l=ts)(hl:l≠[])(hp:0<=p/\p<=1099511627776)(k:∀v:Int,v∈l->Q (K (.int .i64 v,[.agg [slc code,.int .i64 (p+1)]]))) :
 Q ((LIM F.q3r [.rref [slc code,.int .i64 p] 0,.sl 1 ts]).bind K):=by
 obtain⟨v,hv,e⟩:=q3r hc p l hts hl hp;rw[e];exact k v hv
theorem q7m(i n:Int)(hi:0<=i/\i<=1099511627776):∃v:Int,Call F.q7m [slc code,.int .i64 i,.int .i64 n] (.int .i64 v)/\0<=v/\(1<=n->v<n):=by
 by_cases hn:n<=1
 ·exact⟨0,q0r rfl 0 ((q7m.ev _ _ _ _).trans (by simp only[evz,Nat.reduceLT,hn])),by omega,by omega⟩
 have hn0:¬ n=0:=by omega
 by_cases hl:code.length=0
 ·obtain⟨q1,q2⟩:=qcv (a:=i*7) (b:=n) (by omega) (by omega);have z:((code.length:Nat):Int)=0:=by omega
  exact⟨Int.tmod (i*7) n,q0r rfl 0 ((q7m.ev _ _ _ _).trans (by simp only[evz,Nat.reduceLT,hn,z,hn0,q1o (x:=i*7) (by omega)])),q1,fun _=>q2⟩
 obtain⟨a,ha,hal⟩:=qpz hc hi.1 (by omega);obtain⟨j,hj,hjl⟩:=qpz (code:=code) hc (p:=i+1) (by omega) (by omega);have b1:=qfx code[a];have b2:=qfx code[j];have hd:0<=Int.tdiv i code.length/\Int.tdiv i code.length<=i:=⟨Int.tdiv_nonneg hi.1 (by omega),Int.tdiv_le_self _ hi.1⟩;have d1:¬((code.length:Nat):Int)=0:=by omega
 generalize hk:Int.tdiv i code.length=d at hd;have e1:IntKind.wrap .i64 (i+1)=i+1:=q1o (by omega);have w1:IntKind.wrap .i64 d=d:=q1o (by omega);have w2:IntKind.wrap .i64 (d*3)=d*3:=q1o (by omega);have w3:IntKind.wrap .i64 (code[a].toNat:Int)=(code[a].toNat:Int):=q1o (by omega);have w4:IntKind.wrap .i64 (code[j].toNat:Int)=(code[j].toNat:Int):=q1o (by omega);have w5:IntKind.wrap .i64 ((code[a].toNat:Int)+d*3)=(code[a].toNat:Int)+d*3:=q1o (by omega);have w6:IntKind.wrap .i64 (((code[a].toNat:Int)+d*3)*251)=((code[a].toNat:Int)+d*3)*251:=q1o (by omega);have w7:IntKind.wrap .i64 (((code[a].toNat:Int)+d*3)*251+(code[j].toNat:Int))=((code[a].toNat:Int)+d*3)*251+(code[j].toNat:Int):=q1o (by omega);by_cases hbig:n>200
 ·obtain⟨q1,q2⟩:=qcv (a:=((code[a].toNat:Int)+d*3)*251+(code[j].toNat:Int)) (b:=n) (by omega) (by omega);exact⟨_,q0r rfl 0 ((q7m.ev _ _ _ _).trans (by simp only[evz,Nat.reduceLT,hn,d1,hn0,e1,ha,hal,hj,hjl,gA,qis,hbig,hk,w1,w2,w3,w4,w5,w6,w7])),q1,fun _=>q2⟩
 ·obtain⟨q1,q2⟩:=qcv (a:=(code[a].toNat:Int)+d*3) (b:=n) (by omega) (by omega);exact⟨_,q0r rfl 0 ((q7m.ev _ _ _ _).trans (by simp only[evz,Nat.reduceLT,hn,d1,hn0,e1,ha,hal,hj,hjl,gA,qis,hbig,hk,w1,w2,w3,w5])),q1,fun _=>q2⟩
omit hc in
theorem q7f:Call F.q7f [slc code] (.bool (decide ((code.length:Int)>1048576))):=q0r rfl 0 ((q7f.ev _ _).trans (by simp only[evz,Nat.reduceLT]))
omit hc in
theorem q62:LIM F.q62 [slc code]=some (.bx [slc code,.int .i64 0],[]):=q9c rfl 0 (q62.ev _ _)
end
set_option maxHeartbeats 1000000
structure Grown(l:List Symbol)(m:Nat)(vars:Int)(t:List Int):Prop where
 pos:1<=t.length
 le:t.length<=m
 node:∀n∈t,(0<=n/\n<l.length)\/(-vars<=n/\n <= -1)
 tree:∃x:Tm,x.ok (ar l)/\t=x.flat
theorem Grown.ok{l:List Symbol}{m:Nat}{vars:Int}{t:List Int}(h:Grown l m vars t)(hm:m<=24)(hv:vars<=12):TermOk l t:=by
 refine⟨h.pos,Nat.le_trans h.le hm,fun n hn=>?_,?_⟩
 ·rw[q49];rcases h.node n hn with h|h
  ·exact .inl h
  ·exact .inr (by omega)
 ·obtain⟨x,hx,rfl⟩:=h.tree;have:=Tm.skip_flat (a:=ar l) (fun n hn=>qa3 l hn) x [] 0 hx;rwa[gAD]at this
section
variable {code:List UInt8}(hc:code.length<=2097152){l:List Symbol}(ok:SigOk ⟨l⟩)
def qia(code:List UInt8)(l:List Symbol)(p:Int)(m:Nat)(vars:Int)(r:R):Prop:=∃t p',r=some (slc t,[.agg [slc code,.int .i64 p']])/\p<=p'/\p'<=p+3*(t.length:Int)/\Grown l m vars t
include hc ok
theorem qvd(p q:Int)(m:Nat)(vars:Int)(hm:1<=m)(hv:1<=vars/\vars<=12)(hp:0<=p/\p<=q/\q<=p+2/\q<=1099511627776) :
 qia code l p m vars ((LIM F.q1a [.rref [slc code,.int .i64 q] 0,.int .i64 vars]).bind fun r=>(q10 r.2).bind fun p2=>(oNil p2.2).bind fun _=>(oAgg p2.1).bind fun c3=>(q10 c3).bind fun p4=>(oSl 1 p4.1).bind fun c5=>(q10 p4.2).bind fun p6=>(oInt .i64 p6.1).bind fun n7=>(oNil p6.2).bind fun _=>(oInt .i64 r.1).bind fun n8=>some (.sl 1 [.int .i64 (IntKind.wrap .i64 ((-1:Int)-n8))],[.agg [.sl 1 (cells code),.int .i64 n7]])):=by
 refine q7j hc (by omega) fun v h1 h2=>?_;have h2:=h2 hv.1;simp only[evz,Nat.reduceLT];rw[q1o (by omega)];exact⟨[-1-v],q+1,rfl,by omega,by simp;omega,⟨by simp,by simp;omega,fun n hn=>.inr (by rw[gD.1 hn];omega),.v (-1-v),by show -1-v<0;omega,rfl⟩⟩
noncomputable def qu1(l:List Symbol)(code:List UInt8)(m vars x4 p:Int):R:=
 (bif inB x4 ((cells l).length/2)then(((cells l)[(((Int.toNat x4)*2)+1)]?).bind fun e71=>((oInt .i64 e71).bind fun n72=>(bif ((n72==(1:Int)))then((LIM F.q0d [(.rref [(.sl 1 (cells code)),(.int .i64 p)] 0),(.rref [(.sl 2 (cells l))] 0),(.int .i64 (IntKind.wrap .i64 (m-(1:Int)))),(.int .i64 vars)]).bind fun r73=>((q10 r73.2).bind fun p74=>((oNil p74.2).bind fun _=>((oAgg p74.1).bind fun c75=>((q10 c75).bind fun p76=>((oSl 1 p76.1).bind fun c77=>((q10 p76.2).bind fun p78=>((oInt .i64 p78.1).bind fun n79=>((oNil p78.2).bind fun _=>((oSl 1 r73.1).bind fun c80=>(bif (c80).all T.scalar then(bif Nat.ble ((1+(c80).length)*8) (140737488355328*1)then some ((.sl 1 ([(.int .i64 x4)]++c80:List T)),[(.agg [(.sl 1 (cells code)),(.int .i64 n79)])])else none)else none)))))))))))else(bif ((n72==(2:Int)))then((LIM F.q0d [(.rref [(.sl 1 (cells code)),(.int .i64 p)] 0),(.rref [(.sl 2 (cells l))] 0),(.int .i64 (IntKind.wrap .i64 (m-(2:Int)))),(.int .i64 vars)]).bind fun r81=>((q10 r81.2).bind fun p82=>((oNil p82.2).bind fun _=>((oAgg p82.1).bind fun c83=>((q10 c83).bind fun p84=>((oSl 1 p84.1).bind fun c85=>((q10 p84.2).bind fun p86=>((oInt .i64 p86.1).bind fun n87=>((oNil p86.2).bind fun _=>((oSl 1 r81.1).bind fun c88=>(bif (c88).all T.scalar then(bif Nat.ble ((1+(c88).length)*8) (140737488355328*1)then((LIM F.q0d [(.rref [(.sl 1 (cells code)),(.int .i64 n87)] 0),(.rref [(.sl 2 (cells l))] 0),(.int .i64 (IntKind.wrap .i64 ((IntKind.wrap .i64 (m-(1:Int)))-((((c88).length/1):Nat):Int)))),(.int .i64 vars)]).bind fun r89=>((q10 r89.2).bind fun p90=>((oNil p90.2).bind fun _=>((oAgg p90.1).bind fun c91=>((q10 c91).bind fun p92=>((oSl 1 p92.1).bind fun c93=>((q10 p92.2).bind fun p94=>((oInt .i64 p94.1).bind fun n95=>((oNil p94.2).bind fun _=>((oSl 1 r89.1).bind fun c96=>(bif (c96).all T.scalar then(bif Nat.ble (((([(.int .i64 x4)]++c88:List T)).length+(c96).length)*8) (140737488355328*1)then some ((.sl 1 (([(.int .i64 x4)]++c88:List T)++c96:List T)),[(.agg [(.sl 1 (cells code)),(.int .i64 n95)])])else none)else none)))))))))))else none)else none)))))))))))else some ((.sl 1 [(.int .i64 x4)]),[(.agg [(.sl 1 (cells code)),(.int .i64 p)])])))))else none)
theorem qxc(p q:Int)(m:Nat)(vars:Int)(hm:1<=m/\m<=1000)(hv:0<=vars/\vars<=12)(hp:0<=p/\p<=q/\q<=p+3/\p+10*(m:Int)<=1099511020000)
 (ih:∀k,1<=k->k<m->∀p,0<=p/\p+10*(k:Int)<=1099511020000->qia code l p k vars (LIM F.q0d [.rref [slc code,.int .i64 p] 0,.rref [slc l] 0,.int .i64 k,.int .i64 vars]))
 (i:Nat) (hi:i<l.length) (ha:l[i].arity<m):qia code l p m vars (qu1 l code m vars i q):=by
 obtain⟨a1,a2⟩:=ok.arity l[i] (gG hi);have har:(ar l (i:Int):Int)=l[i].arity:=(qs6 ok (n:=(i:Int)) (by omega) (by simpa using hi)).symm;unfold qu1;have hn0:(0:Int)<=i/\(i:Int)<l.length:=by omega
 simp only[evz,Nat.reduceLT,hi,gA,q2q];by_cases h1:l[i].arity=1
 ·simp only[evz,Nat.reduceLT,h1];rw[q1o (by omega),show(m:Int)-1=((m-1:Nat):Int) by omega];obtain⟨t,p',e,q1,q2,g⟩:=ih (m-1) (by omega) (by omega) q (by omega);have hl:=g.le;have e2:(cells t).length=t.length:=by rw[q0k];simp
  simp only[evz,Nat.reduceLT,e,q4c];rw[q1r (q3v (by rw[e2];omega))];refine⟨(i:Int)::t,p',rfl,by omega,by simp;omega,⟨by simp,by simp;omega,fun n hn=>?_,?_⟩⟩
  ·rcases gK.1 hn with rfl|hn
   ·exact .inl hn0
   ·exact g.node n hn
  ·obtain⟨x,hx,rfl⟩:=g.tree;exact⟨.u i x,⟨by omega,by omega,hx⟩,rfl⟩
 by_cases h2:l[i].arity=2
 ·simp only[evz,Nat.reduceLT,h2,Int.reduceEq];rw[q1o (x:=(m:Int)-2) (by omega),show(m:Int)-2=((m-2:Nat):Int) by omega];obtain⟨t,p',e,q1,q2,g⟩:=ih (m-2) (by omega) (by omega) q (by omega);have hl:=g.le;have hl1:=g.pos;have e2:(cells t).length=t.length:=by rw[q0k];simp
  simp only[evz,Nat.reduceLT,e,q4c];rw[q1r (q3v (by rw[e2];omega)),q1o (x:=(m:Int)-1) (by omega),q1o (by omega),show(m:Int)-1-(t.length:Int)=((m-1-t.length:Nat):Int) by omega];obtain⟨t2,p2,e',q3,q4,g2⟩:=ih (m-1-t.length) (by omega) (by omega) p' (by omega);have hl2:=g2.le;have e3:(cells t2).length=t2.length:=by rw[q0k];simp
  simp only[evz,Nat.reduceLT,e',q4c];rw[q1r (q3v (by simp only[gM,List.length_singleton];rw[e2,e3];omega))];refine⟨(i:Int)::(t++t2),p2,by rw[gZ,<- q33];rfl,by omega,by simp;omega,⟨by simp,by simp;omega,fun n hn=>?_,?_⟩⟩
  ·rcases gK.1 hn with rfl|hn
   ·exact .inl hn0
   ·rcases gO.1 hn with hn|hn
    ·exact g.node n hn
    ·exact g2.node n hn
  ·obtain⟨x,hx,rfl⟩:=g.tree;obtain⟨y,hy,rfl⟩:=g2.tree;exact⟨.b i x y,⟨by omega,by omega,hx,hy⟩,rfl⟩
 simp only[evz,Nat.reduceLT,h1,h2];exact⟨[(i:Int)],q,rfl,by omega,by simp;omega,⟨by simp,by simp;omega,fun n hn=>by rw[gD.1 hn];exact .inl hn0,.k i,⟨by omega,by omega⟩,rfl⟩⟩
omit hc ok in
theorem qpb{n d k c:Nat}(h:(n+(d+1)) % k=c):((n+1) % k+d) % k=c:=by
 rw[Nat.mod_add_mod,show n+1+d=n+(d+1) by omega];exact h
omit hc ok in
theorem qvf{n c k:Nat}(hn:n<k)(hc:c<k):∃d,d<k/\(n+d) % k=c:=by
 by_cases h:n<=c
 ·exact⟨c-n,by omega,by rw[show n+(c-n)=c by omega,Nat.mod_eq_of_lt hc]⟩
 ·exact⟨c+k-n,by omega,by rw[show n+(c+k-n)=c+k by omega,Nat.add_mod_right,Nat.mod_eq_of_lt hc]⟩
theorem qv3(p q:Int)(m:Nat)(vars:Int)(hm:1<=m/\m<=1000)(hv:0<=vars/\vars<=12)(hp:0<=p/\p<=q/\q<=p+3/\p+10*(m:Int)<=1099511020000)
 (ih:∀k,1<=k->k<m->∀p,0<=p/\p+10*(k:Int)<=1099511020000->qia code l p k vars (LIM F.q0d [.rref [slc code,.int .i64 p] 0,.rref [slc l] 0,.int .i64 k,.int .i64 vars]))
 (i:Nat) (hi:i<l.length):qia code l p m vars (q0d.at0 10 10 (q0d.st0 (cells l) m vars l.length i 0 (cells code) q)):=by
 have hle:=ok.le;simp only at hle;obtain⟨y,hy,hy0⟩:=ok.const;obtain⟨c,hcl,hcy⟩:=List.getElem_of_mem hy;have hcl:c<l.length:=hcl
 have hca:l[c].arity=0:=by
  have:l[c]=y:=hcy;rw[this];exact hy0
 have fin:=qxc hc ok p q m vars hm hv hp ih
 have step2:∀i,i<l.length->qia code l p m vars (q0d.at2 10 10 (q0d.st2 (cells l) m vars l.length (i:Nat) 0 (cells code) q)):=fun i hi=>by
  obtain⟨d,hd,hdc⟩:=qvf hi hcl;refine q8x (σ:=Nat×Nat×Nat) (S:=fun k s=>q0d.at2 10 k (q0d.st2 (cells l) m vars l.length (s.1:Nat) (s.2.1:Nat) (cells code) q)) (fun s=>s.1<l.length/\(s.1+s.2.2) % l.length=c/\s.2.1+s.2.2<l.length) (fun s=>s.2.2) (fun k s hs=>?_) _ (i,0,d) ⟨hi,hdc,by simp only;omega⟩ (by simp only;omega);obtain⟨n,j,d⟩:=s;obtain⟨h1,h2,h3⟩:=hs;simp only at h1 h2 h3 ⊢;have hj:j<l.length:=by omega
  have hl0:¬((l.length:Nat):Int)=0:=by omega
  by_cases ha:l[n].arity>0
  ·right;cases d with
   |zero=>
    rw[Nat.add_zero,Nat.mod_eq_of_lt h1]at h2;subst h2;omega
   |succ d=>
    refine⟨((n+1) % l.length,j+1,d),?_,⟨Nat.mod_lt _ (by omega),qpb h2,by simp only;omega⟩,by simp only;omega⟩;simp only[q0d.next2,q0d.round2,evz,Nat.reduceLT,hj,h1,gA,q2q,ha,hl0];rw[q0l (by omega),q0l (by omega)];congr 2
  ·left;have hf:=fin n h1 (by omega);simp only[q0d.next2,q0d.round2,evz,Nat.reduceLT,hj,h1,gA,q2q,ha];unfold qu1 at hf;simp only[evz,Nat.reduceLT,h1,gA,q2q]at hf;exact hf
 obtain⟨d,hd,hdc⟩:=qvf hi hcl;refine q8x (σ:=Nat×Nat×Nat) (S:=fun k s=>q0d.at0 10 k (q0d.st0 (cells l) m vars l.length (s.1:Nat) (s.2.1:Nat) (cells code) q)) (fun s=>s.1<l.length/\(s.1+s.2.2) % l.length=c/\s.2.1+s.2.2<l.length) (fun s=>s.2.2) (fun k s hs=>?_) _ (i,0,d) ⟨hi,hdc,by simp only;omega⟩ (by simp only;omega);obtain⟨n,j,d⟩:=s;obtain⟨h1,h2,h3⟩:=hs;simp only at h1 h2 h3 ⊢;have hj:j<l.length:=by omega
 have hl0:¬((l.length:Nat):Int)=0:=by omega
 by_cases ha:l[n].arity>=m
 ·right;cases d with
  |zero=>
   rw[Nat.add_zero,Nat.mod_eq_of_lt h1]at h2;subst h2;omega
  |succ d=>
   refine⟨((n+1) % l.length,j+1,d),?_,⟨Nat.mod_lt _ (by omega),qpb h2,by simp only;omega⟩,by simp only;omega⟩;simp only[q0d.next0,q0d.round0,evz,Nat.reduceLT,hj,h1,gA,q2q,ha,hl0];rw[q0l (by omega),q0l (by omega)];congr 2
 ·left;simp only[q0d.next0,q0d.round0,evz,Nat.reduceLT,hj,h1,gA,q2q,ha];by_cases hm2:(m:Int)<2
  ·simp only[evz,Nat.reduceLT,hm2];exact step2 n h1
  ·have hf:=fin n h1 (by omega);unfold qu1 at hf;simp only[evz,Nat.reduceLT,h1,gA,q2q]at hf;simp only[evz,Nat.reduceLT,hm2];exact hf
theorem qln(vars:Int)(hv:0<=vars/\vars<=12):∀(m:Nat),1<=m->m<=1000->∀p,0<=p/\p+10*(m:Int)<=1099511020000->qia code l p m vars (LIM F.q0d [.rref [slc code,.int .i64 p] 0,.rref [slc l] 0,.int .i64 m,.int .i64 vars]):=by
 intro m;induction m using Nat.strongRecOn with
 |ind m ih=>
  intro hm1 hm2 p hp;have hle:=ok.le;have hpos:=ok.pos;simp only at hle hpos
  suffices h:qia code l p m vars (q1g prog A H LIM 10 F.q0d [.rref [slc code,.int .i64 p] 0,.rref [slc l] 0,.int .i64 m,.int .i64 vars]) by
   obtain⟨t,p',e,r⟩:=h;exact⟨t,p',qf4 rfl 10 e,r⟩
  rw[show q1g prog A H LIM 10 F.q0d [.rref [slc code,.int .i64 p] 0,.rref [slc l] 0,.int .i64 m,.int .i64 vars]=_ from q0d.ev _ _ _ _ _ _]
  have node:∀q,p<=q->q<=p+2->qia code l p m vars ((LIM F.q1a [.rref [slc code,.int .i64 q] 0,.int .i64 (l.length:Int)]).bind fun r=>(q10 r.2).bind fun p2=>(oNil p2.2).bind fun _=>(oAgg p2.1).bind fun c3=>(q10 c3).bind fun p4=>(oSl 1 p4.1).bind fun c5=>(q10 p4.2).bind fun p6=>(oInt .i64 p6.1).bind fun n7=>(oNil p6.2).bind fun _=>(oInt .i64 r.1).bind fun n8=>q0d.at0 10 10 (q0d.st0 (cells l) m vars l.length n8 0 (cells code) n7)):=fun q q1 q2=>by
   refine q7j hc (by omega) fun v h1 h2=>?_;have h2:=h2 (by omega);obtain⟨i,rfl⟩:∃i:Nat,v=i:=⟨v.toNat,by omega⟩;simp only[evz,Nat.reduceLT];exact qv3 hc ok p (q+1) m vars ⟨hm1,hm2⟩ hv (by omega) (fun k k1 k2 p hp=>ih k k2 k1 (by omega) p hp) i (by omega)
  by_cases hv0:vars>0
  ·simp only[evz,Nat.reduceLT,hv0]
   have rest:∀q,p<=q->q<=p+1->qia code l p m vars ((LIM F.q3u [.rref [slc code,.int .i64 q] 0,.int .i64 4]).bind fun r=>(q10 r.2).bind fun p2=>(oNil p2.2).bind fun _=>(oAgg p2.1).bind fun c3=>(q10 c3).bind fun p4=>(oSl 1 p4.1).bind fun c5=>(q10 p4.2).bind fun p6=>(oInt .i64 p6.1).bind fun n7=>(oNil p6.2).bind fun _=>(q9d r.1).bind fun b8=>
    bif b8 then((LIM F.q1a [.rref [slc code,.int .i64 n7] 0,.int .i64 vars]).bind fun r=>(q10 r.2).bind fun p2=>(oNil p2.2).bind fun _=>(oAgg p2.1).bind fun c3=>(q10 c3).bind fun p4=>(oSl 1 p4.1).bind fun c5=>(q10 p4.2).bind fun p6=>(oInt .i64 p6.1).bind fun n7=>(oNil p6.2).bind fun _=>(oInt .i64 r.1).bind fun n8=>some (.sl 1 [.int .i64 (IntKind.wrap .i64 ((-1:Int)-n8))],[.agg [slc code,.int .i64 n7]]))
    else((LIM F.q1a [.rref [slc code,.int .i64 n7] 0,.int .i64 (l.length:Int)]).bind fun r=>(q10 r.2).bind fun p2=>(oNil p2.2).bind fun _=>(oAgg p2.1).bind fun c3=>(q10 c3).bind fun p4=>(oSl 1 p4.1).bind fun c5=>(q10 p4.2).bind fun p6=>(oInt .i64 p6.1).bind fun n7=>(oNil p6.2).bind fun _=>(oInt .i64 r.1).bind fun n8=>q0d.at0 10 10 (q0d.st0 (cells l) m vars l.length n8 0 (cells code) n7))):=fun q q1 q2=>by
    refine qc8 hc (by omega) fun b=>?_;simp only[evz,Nat.reduceLT];cases b with
    |true=>exact qvd hc ok p (q+1) m vars hm1 (by omega) (by omega)
    |false=>exact node (q+1) (by omega) (by omega)
   by_cases hm3:(m:Int)<2
   ·simp only[evz,Nat.reduceLT,hm3];refine qc8 hc (by omega) fun b=>?_;simp only[evz,Nat.reduceLT];cases b with
    |true=>exact qvd hc ok p (p+1) m vars hm1 (by omega) (by omega)
    |false=>exact rest (p+1) (by omega) (by omega)
   ·simp only[evz,Nat.reduceLT,hm3];exact rest p (by omega) (by omega)
  ·simp only[evz,Nat.reduceLT,hv0];exact node p (by omega) (by omega)
theorem q0d(p most vars:Int)(hm:1<=most/\most<=1000)(hv:0<=vars/\vars<=12)(hp:0<=p/\p<=1099511000000) :
 Drawn code p 3000 (fun x=>∃t,x=slc t/\Grown l most.toNat vars t) (LIM F.q0d [.rref [slc code,.int .i64 p] 0,.rref [slc l] 0,.int .i64 most,.int .i64 vars]):=by
 obtain⟨t,p',e,h1,h2,g⟩:=qln hc ok vars hv most.toNat (by omega) (by omega) p (by omega);rw[show((most.toNat:Nat):Int)=most by omega]at e;have:=g.le;exact⟨_,p',e,h1,by omega,t,rfl,g⟩
end
set_option maxHeartbeats 1000000
def ba(l:List UInt8):ByteArray:=ByteArray.mk l.toArray
def sigA:List Symbol:=[⟨ba [101],0⟩,⟨ba [105],1⟩,⟨ba [109],2⟩,⟨ba [97],0⟩]
def sigB:List Symbol:=[⟨ba [97],0⟩,⟨ba [115,117,99],1⟩,⟨ba [97,100,100],2⟩,⟨ba [98],0⟩]
def sigC:List Symbol:=[⟨ba [97],0⟩,⟨ba [102],1⟩,⟨ba [103],1⟩]
def sigD:List Symbol:=[⟨ba [97],0⟩,⟨ba [98],0⟩,⟨ba [101],0⟩,⟨ba [109],2⟩,⟨ba [105],1⟩,⟨ba [115,117,99],1⟩]
def sigE:List Symbol:=[⟨ba [97],0⟩]
theorem qwr:SigOk ⟨sigA⟩:=qce (by decide)
theorem qwv:SigOk ⟨sigB⟩:=qce (by decide)
theorem qw9:SigOk ⟨sigC⟩:=qce (by decide)
theorem qwl:SigOk ⟨sigD⟩:=qce (by decide)
theorem qw2:SigOk ⟨sigE⟩:=qce (by decide)
theorem qj3{b:ByteArray}(h:qbw b=true):b.size<=3:=by
 unfold qbw at h;rw[gC,decide_eq_true_iff]at h;exact h.1.2
theorem SigOk.small{l:List Symbol}(ok:SigOk ⟨l⟩):sm 7 (Signature.mk l):=⟨Nat.le_trans ok.le (by omega),fun x hx=>Nat.le_trans (qj3 (ok.name x hx)) (by omega)⟩
def Places(l:List Symbol)(o:List Int):Prop:=o.Perm (rise l.length)
theorem Places.order{l:List Symbol}{o:List Int}(h:Places l o):qvi l o=0:=by
 have hl:o.length=l.length:=by have:=h.length_eq;rwa[qo8]at this
 have hm:∀n∈o,0<=n/\n<l.length:=fun n hn=>by
  have:=(h.mem_iff).1 hn;unfold rise at this;obtain⟨k,hk,rfl⟩:=List.mem_map.1 this;have:=List.mem_range.1 hk;omega
 have hd:o.Nodup:=by
  refine(h.nodup_iff).2 ?_;unfold rise;rw[List.Nodup,List.pairwise_map];exact List.nodup_range.imp fun {a b} hab e=>hab (Int.ofNat_inj.1 e)
 unfold qvi;rw[if_neg (by omega),if_neg,if_neg]
 ·unfold qh8;simpa using hd
 ·rw[Bool.not_eq_true,List.any_eq_false];intro n hn;obtain⟨a,b⟩:=hm n hn;unfold inR;simp;omega
section
variable {code:List UInt8}(hc:code.length<=2097152)
include hc
theorem q82(p:Int)(hp:0<=p/\p<=1099511000000):Drawn code p 1 (fun x=>∃l:List Symbol,x=.agg [slc l]/\SigOk ⟨l⟩) (LIM F.q82 [.rref [slc code,.int .i64 p] 0]):=by
 refine q9z rfl 0 ?_;rw[show q1g prog A H LIM 0 F.q82 [.rref [slc code,.int .i64 p] 0]=_ from q82.ev _ _ _];refine q7j hc (by omega) fun v h1 h2=>?_;simp only[evz,Nat.reduceLT];have leaf:∀l:List Symbol,SigOk ⟨l⟩->Drawn code p 1 (fun x=>∃l:List Symbol,x=.agg [slc l]/\SigOk ⟨l⟩) (some (.agg [slc l],[.agg [slc code,.int .i64 (p+1)]])):=fun l hl=>q79 (by omega) ⟨l,rfl,hl⟩
 repeat' split
 all_goals first|exact leaf sigA qwr|exact leaf sigB qwv|exact leaf sigC qw9|exact leaf sigD qwl|exact leaf sigE qw2
theorem q12(p most vars:Int)(l:List Symbol)(hl:l.length<=1000)(hm:1<=most/\most<=1000)(hv:0<=vars/\vars<=12)(hp:0<=p/\p<=1099510000000) :
 Drawn code p 3200 (fun x=>∃t:List Int,x=slc t/\t.length<=1001) (LIM F.q12 [.rref [slc code,.int .i64 p] 0,.rref [slc l] 0,.int .i64 most,.int .i64 vars]):=by
 have leaf:∀(t:List Int)(p2:Int),p<=p2/\p2<=p+3200->t.length<=1001->Drawn code p 3200 (fun x=>∃t:List Int,x=slc t/\t.length<=1001) (some (slc t,[.agg [slc code,.int .i64 p2]])):=fun t p2 h hl=>q79 h ⟨t,rfl,hl⟩;refine q9z rfl 30 ?_;rw[show q1g prog A H LIM 30 F.q12 [.rref [slc code,.int .i64 p] 0,.rref [slc l] 0,.int .i64 most,.int .i64 vars]=_ from q12.ev _ _ _ _ _ _];simp only[evz,Nat.reduceLT];split
 ·exact leaf [0] p (by omega) (by simp)
 simp only[(q00 l (by omega)).eq,evz,Nat.reduceLT];split
 case isFalse=>exact leaf [0] p (by omega) (by simp)
 rename_i hs;have ok:=qce hs;refine q95 (q0d hc ok p most vars hm hv (by omega)) ?_;rintro _ p1 a1 b1 ⟨t,rfl,g⟩;have tl:=g.le;have tp:=g.pos;simp only[evz,Nat.reduceLT];refine qc8 hc (by omega) fun b=>?_;simp only[evz,Nat.reduceLT];cases b with
 |false=>simp only[evz,Nat.reduceLT,Bool.not_false];exact leaf t _ (by omega) (by omega)
 |true=>
  simp only[evz,Nat.reduceLT,Bool.not_true];refine q7j hc (by omega) fun v h1 h2=>?_;simp only[evz,Nat.reduceLT];split
  ·rw[q1o (by omega),show(t.length:Int)-1=((t.length-1:Nat):Int) by omega];have z1:(0:Int)<=((t.length-1:Nat):Int):=by omega
   have z2:((t.length-1:Nat):Int)<=(t.length:Int):=by omega
   simp only[evz,Nat.reduceLT,z1,z2,Bool.and_self];rw[q8o t 1 _ rfl];exact leaf _ _ (by omega) (by rw[gAF];omega)
  split
  ·rw[q1r (q3v (by rw[q0k];simp only[q3e];omega)),q2f];exact leaf _ _ (by omega) (by simp;omega)
  split
  ·refine q7j hc (by omega) fun x k1 k2=>?_;obtain⟨i,rfl⟩:∃i:Nat,x=i:=⟨x.toNat,by omega⟩;have hi:i<t.length:=by have:=k2 (by omega);omega
   simp only[evz,Nat.reduceLT];refine qig hc [(l.length:Int),-13,-12] rfl (by simp) (by omega) fun y hy=>?_;have z:i*1+1<=t.length*1:=by omega
   simp only[evz,Nat.reduceLT,hi,qe0,q3e,z,qa9 hi];exact leaf _ _ (by omega) (by rw[List.length_set];omega)
  refine q8x (σ:=Nat×Int×List Int) (S:=fun m s=>q12.at1 30 m (q12.st1 (s.1:Nat) (cells code) s.2.1 (cells s.2.2))) (fun s=>s.1<=25/\s.2.2.length=s.1/\p<=s.2.1/\s.2.1=p1+1+1+2*(s.1:Int)) (fun s=>25-s.1) (fun m s hs=>?_) _ (0,p1+1+1,[]) ⟨by simp,rfl,by simp only;omega,by simp⟩ (by simp);obtain⟨k,q,o⟩:=s;obtain⟨q1,q2,q3,q4⟩:=hs;simp only at q1 q2 q3 q4 ⊢;obtain⟨x,hx,e⟩:=q3r hc q [24,25] (ts:=[.int .i64 24,.int .i64 25]) rfl (by simp) (by omega);have hx':x<=25:=by simp only[gK,List.not_mem_nil,or_false]at hx;omega
  by_cases hk:(k:Int)<x
  ·right;obtain⟨y,hy,e'⟩:=q3r hc (q+1) [1,2,0] (ts:=[.int .i64 1,.int .i64 2,.int .i64 0]) rfl (by simp) (by omega);refine⟨(k+1,q+1+1,o++[y]),?_,⟨by simp only;omega,by simp[q2],by simp only;omega,by simp only;omega⟩,by simp only;omega⟩;simp only[q12.next1,q12.round1,evz,Nat.reduceLT,e,hk,e'];rw[q1r (q3v (by rw[q0k];simp only[q3e];omega)),q0l (by omega),q2f]
  ·left;simp only[q12.next1,q12.round1,evz,Nat.reduceLT,e,hk];exact leaf o _ (by omega) (by omega)
end
set_option maxHeartbeats 1000000
theorem q1v(l:List Symbol)(hl:l.length<=1000)(s:ByteArray):∃n:Int,Call F.q1v [.rref [slc l] 0,.str s] (.int .i64 n):=by
 suffices h:∃r,q1g prog A H LIM (l.length+1) F.q1v [.rref [slc l] 0,.str s]=r/\∃n:Int,r=some (.int .i64 n,[]) by
  obtain⟨_,e,n,rfl⟩:=h;exact⟨n,q0r rfl _ e⟩
 refine⟨_,q1v.ev _ _ _,?_⟩;refine q8x (Q:=fun r=>∃n:Int,r=some (.int .i64 n,[])) (σ:=Nat) (S:=fun m k=>q1v.at0 (l.length+1) m (q1v.st0 (cells l) s (k:Nat))) (fun k=>k<=l.length) (fun k=>l.length-k) (fun m k hk=>?_) _ 0 (by omega) (by omega);by_cases h:k<l.length
 ·have g0:=get0 (l:=l) (k:=2) (i:=k) rfl;have ek:l[k]?=some l[k]:=gA h;by_cases e:l[k].name=s
  ·left;exact⟨(k:Int),by simp only[q1v.next0,q1v.round0,evz,Nat.reduceLT,h,g0,ek,e,beq_self_eq_true,q2q]⟩
  ·right;refine⟨k+1,?_,by omega,by omega⟩;simp only[q1v.next0,q1v.round0,evz,Nat.reduceLT,h,g0,ek,e,q2q];rw[q0l (by omega)]
 ·left;exact⟨-1,by simp only[q1v.next0,q1v.round0,evz,Nat.reduceLT,h]⟩
def CutQ(s:ByteArray)(r:R):Prop:=∃xs:List ByteArray,r=some (.sl 1 (xs.map .str),[])/\xs.length<=s.size+1/\∀x∈xs,x.size<=s.size
theorem q28(s:ByteArray)(hs:s.size<=1000)(c:Int):∃xs:List ByteArray,Call F.q28 [.str s,.int .u8 c] (.sl 1 (xs.map .str))/\xs.length<=s.size+1/\∀x∈xs,x.size<=s.size:=by
 suffices h:∃r,q1g prog A H LIM (s.size+2) F.q28 [.str s,.int .u8 c]=r/\CutQ s r by
  obtain⟨_,e,n,rfl,h⟩:=h;exact⟨n,q0r rfl _ e,h⟩
 refine⟨_,q28.ev _ _ _,?_⟩;have z:([]:List T)=([]:List ByteArray).map .str:=rfl;rw[z];refine q8x (Q:=CutQ s) (σ:=Nat×Nat×List ByteArray) (S:=fun m q=>q28.at0 (s.size+2) m (q28.st0 s c (q.1:Nat) (q.2.1:Nat) (q.2.2.map .str))) (fun q=>q.1<=q.2.1/\q.2.1<=s.size+1/\q.2.2.length<=q.2.1/\∀x∈q.2.2,x.size<=s.size) (fun q=>s.size+1-q.2.1) (fun m q hq=>?_) _ (0,0,[]) ⟨by simp,by simp,by simp,by simp⟩ (by simp only;omega);obtain⟨a,k,xs⟩:=q;obtain⟨h1,h2,h3,h4⟩:=hq;simp only at h1 h2 h3 h4 ⊢;by_cases hk:k<=s.size
 case neg=>
  left;have hk':¬(k:Int)<=(s.size:Int):=by omega
  exact⟨xs,by simp only[q28.next0,q28.round0,evz,Nat.reduceLT,hk'],by omega,h4⟩
 right;have hk':(k:Int)<=(s.size:Int):=by omega
 have ha':(0:Int)<=(a:Int):=by omega
 have hak:(a:Int)<=(k:Int):=by omega
 have put:∀x∈xs++[s.extract a k],x.size<=s.size:=fun x hx=>by
  rcases gO.1 hx with h|h
  ·exact h4 x h
  ·rw[gD.1 h,ByteArray.size_extract];omega
 have cell:(xs.map T.str)++[.str (s.extract a k)]=(xs++[s.extract a k]).map .str:=by rw[List.map_append];rfl
 have blen:Nat.ble (((xs.map T.str).length+1)*16) (140737488355328*1)=true:=q3v (by rw[gAG];omega);by_cases e:k=s.size
 ·refine⟨(k+1,k+1,xs++[s.extract a k]),?_,⟨by simp only;omega,by simp only;omega,by simp;omega,put⟩,by simp only;omega⟩;have e':((k:Nat):Int)=(s.size:Int):=by omega
  simp only[q28.next0,q28.round0,evz,Nat.reduceLT,hk',e',beq_self_eq_true,ha',hak,Int.le_refl,decide_true,Bool.and_self,<- cell];rw[<- e]at *;simp only[evz,Nat.reduceLT,hak,decide_true,Bool.and_self,blen];rw[q0l (by omega)]
 ·have e':¬((k:Nat):Int)=(s.size:Int):=by omega
  have hlt:k<s.size:=by omega
  by_cases eb:((s.data.getD k 0).toNat:Int)=c
  ·refine⟨(k+1,k+1,xs++[s.extract a k]),?_,⟨by simp only;omega,by simp only;omega,by simp;omega,put⟩,by simp only;omega⟩;simp only[q28.next0,q28.round0,evz,Nat.reduceLT,hk',e',hlt,eb,ha',hak,decide_true,Bool.and_self,blen,<- cell];rw[q0l (by omega)]
  ·refine⟨(a,k+1,xs),?_,⟨by simp only;omega,by simp only;omega,by simp only;omega,h4⟩,by simp only;omega⟩;simp only[q28.next0,q28.round0,evz,Nat.reduceLT,hk',e',hlt,eb];rw[q0l (by omega)]
def qec(s:ByteArray)(r:R):Prop:=∃(t:List Int)(b:Bool),r=some (.tup [slc t,.bool b],[])/\t.length<=s.size
theorem qnw{l:List Symbol}(hl:l.length<=1000)(s:ByteArray)(hs:s.size<=1000)(N:Nat)(L:St->R)(a:Nat)(t:List Int)(ht:t.length<=a)(k0:Nat)(ha:a<=k0)
 (K:∀(e:Nat)(n:Int),k0<=e->e<=s.size->qec s (L (q0h.st0 (cells l) s (e:Nat) (cells (t++[n]))))):∀(d k f:Nat),k+d=s.size->k0<=k->d<f->
 qec s (q0h.at3 N L f (q0h.st3 (cells l) s (a:Nat) (k:Nat) (cells t))):=by
 intro d;induction d with
 |zero=>
  intro k f hk h0 hf;obtain⟨f,rfl⟩:∃g,f=g+1:=⟨f-1,by omega⟩;have n1:¬(k:Int)<(s.size:Int):=by omega
  have c1:(0:Int)<=(a:Int):=by omega
  have c2:(a:Int)<=(k:Int):=by omega
  have c3:(k:Int)<=(s.size:Int):=by omega
  obtain⟨n,en⟩:=q1v l hl (s.extract a k);have blen:Nat.ble (((cells t).length+1)*8) (140737488355328*1)=true:=q3v (by rw[q0k,q3e];omega);simp only[q0h.next3,q0h.round3,n1,c1,c2,c3,decide_true,decide_false,Bool.and_self,cond_true,cond_false,gR,en.eq,evz,Nat.reduceLT];by_cases hn:n<0
  ·simp only[hn,evz,Nat.reduceLT];exact⟨[],false,rfl,by simp⟩
  ·simp only[hn,evz,Nat.reduceLT,blen];rw[q2f];exact K k n h0 (by omega)
 |succ d ih=>
  intro k f hk h0 hf;obtain⟨f,rfl⟩:∃g,f=g+1:=⟨f-1,by omega⟩;have n1:(k:Int)<(s.size:Int):=by omega
  have n2:k<s.size:=by omega
  have c1:(0:Int)<=(a:Int):=by omega
  have c2:(a:Int)<=(k:Int):=by omega
  have c3:(k:Int)<=(s.size:Int):=by omega
  obtain⟨n,en⟩:=q1v l hl (s.extract a k);have blen:Nat.ble (((cells t).length+1)*8) (140737488355328*1)=true:=q3v (by rw[q0k,q3e];omega)
  have stop:qec s (if n<0 then some (.tup [.sl 1 [],.bool false],[])else L (q0h.st0 (cells l) s (k:Nat) (cells t++[.int .i64 n]))):=by
   by_cases hn:n<0
   ·rw[if_pos hn];exact⟨[],false,rfl,by simp⟩
   ·rw[if_neg hn,q2f];exact K k n h0 (by omega)
  have ih:=ih (k+1) f (by omega) (by omega) (by omega);simp only[q0h.next3,q0h.round3,n1,n2,c1,c2,c3,q6v,decide_true,decide_false,Bool.and_self,cond_true,cond_false,gR,en.eq,evz,Nat.reduceLT,blen,q0l (by omega:k<9223372036854775807)];split
  ·split
   ·exact ih
   ·exact stop
  ·exact stop
theorem q0h{l:List Symbol}(hl:l.length<=1000)(s:ByteArray)(hs:s.size<=1000):∃(t:List Int)(b:Bool),Call F.q0h [.rref [slc l] 0,.str s] (.tup [slc t,.bool b])/\t.length<=s.size:=by
 suffices h:∃r,q1g prog A H LIM (s.size+1) F.q0h [.rref [slc l] 0,.str s]=r/\qec s r by
  obtain⟨_,e,t,b,rfl,h⟩:=h;exact⟨t,b,q0r rfl _ e,h⟩
 refine⟨_,q0h.ev _ _ _,?_⟩
 have key:∀(d k f:Nat)(t:List Int),k+d=s.size->t.length<=k->d<f->qec s (q0h.at0 (s.size+1) f (q0h.st0 (cells l) s (k:Nat) (cells t))):=by
  intro d;induction d using Nat.strongRecOn with
  |ind d ih=>
   intro k f t hk ht hf;obtain⟨f,rfl⟩:∃g,f=g+1:=⟨f-1,by omega⟩;by_cases hk0:k<s.size
   case neg=>
    have n1:¬(k:Int)<(s.size:Int):=by omega
    simp only[q0h.next0,q0h.round0,evz,Nat.reduceLT,n1];exact⟨t,true,rfl,by omega⟩
   have n1:(k:Int)<(s.size:Int):=by omega
   have next:qec s (q0h.at0 (s.size+1) f (q0h.st0 (cells l) s ((k+1:Nat):Int) (cells t))):=ih (d-1) (by omega) (k+1) f t (by omega) (by omega) (by omega)
   have put:∀n:Int,qec s (q0h.at0 (s.size+1) f (q0h.st0 (cells l) s ((k+1:Nat):Int) (cells t++[.int .i64 n]))):=fun n=>by
    rw[q2f];exact ih (d-1) (by omega) (k+1) f _ (by omega) (by simp;omega) (by omega)
   have bad:qec s (some (.tup [.sl 1 [],.bool false],[])):=⟨[],false,rfl,by simp⟩;have blen:Nat.ble (((cells t).length+1)*8) (140737488355328*1)=true:=q3v (by rw[q0k,q3e];omega)
   have word:((s.data.getD k 0).toNat:Int)>=97->((s.data.getD k 0).toNat:Int)<=122->qec s (q0h.at3 (s.size+1) (q0h.at0 (s.size+1) f) (s.size+1) (q0h.st3 (cells l) s (k:Nat) (k:Nat) (cells t))):=fun w1 w2=>by
    have:=qnw hl s hs (s.size+1) (q0h.at0 (s.size+1) f) k t ht (k+1) (by omega) (fun e n h1 h2=>ih (s.size-e) (by omega) e f _ (by omega) (by simp;omega) (by omega)) (d-1) (k+1) s.size (by omega) (by omega) (by omega);simp only[q0h.next3,q0h.round3,n1,hk0,q6v,decide_true,cond_true,gR,w1,w2,q0l (by omega:k<9223372036854775807)];exact this
   simp only[q0h.next0,q0h.round0,n1,hk0,q6v,decide_true,cond_true,gR,evz,Nat.reduceLT,blen,q0l (by omega:k<9223372036854775807)]
   repeat' split
   all_goals first|with_reducible exact next|with_reducible exact bad|with_reducible exact put _|(with_reducible apply word <;> assumption)
 exact key s.size 0 (s.size+1) [] (by omega) (by simp) (by omega)
section
variable {l:List Symbol}(ok:SigOk ⟨l⟩)
include ok
theorem qkd{t:List Int}(ht:TermOk l t){i:Nat}(hi:i<t.length)(h0:0<=t[i]):∃k:Nat,t[i]=k/\∃h:k<l.length,ar l t[i]=l[k].arity.toNat/\0<=l[k].arity/\l[k].arity<=2/\l[k].name.size<=3:=by
 have hn:=ht.node _ (gG hi);unfold q5l inR at hn;simp only[Bool.or_eq_true,gC,gS]at hn;have hk:t[i].toNat<l.length:=by omega
 refine⟨t[i].toNat,by omega,hk,?_,(ok.arity _ (gG hk)).1,(ok.arity _ (gG hk)).2,qj3 (ok.name _ (gG hk))⟩;unfold ar;rw[if_neg (by omega),gA hk];rfl
def qxy(c:Nat)(r:R):Prop:=∃s:ByteArray,r=some (.str s,[])/\s.size<=c
theorem qk2{t:List Int}(ht:TermOk l t):∀(x:Tm)(i:Nat),At l t i x->qxy (6*x.flat.length) (LIM F.q22 [.rref [slc l] 0,slc t,.int .i64 i]):=by
 have lb:(ByteArray.mk #[40]).size=1:=rfl;have rb:(ByteArray.mk #[41]).size=1:=rfl;have cm:(ByteArray.mk #[44]).size=1:=rfl;have hle:=ht.le;intro x;induction x with
 |v n=>
  intro i h;obtain⟨h1,h2,_,_⟩:=h.facts;have hn:n<0:=h.1;have e:t[i]=n:=by rw[gI,gA h1]at h2;exact h2
  have ei:t[i]?=some n:=by rw[gA h1,e]
  have ev:=q22.ev 0 (cells l) (cells t) i;simp only[evz,Nat.reduceLT,h1,ei,q1x,hn]at ev;refine⟨_,qf4 rfl 0 ev,?_⟩;show ByteArray.size (ByteArray.push ByteArray.empty _)<=6*[n].length;rw[ByteArray.size_push];show 0+1<=6*1;decide
 |k n=>
  intro i h;obtain⟨h1,h2,_,_⟩:=h.facts;have hn:0<=n/\ar l n=0:=h.1;have e:t[i]=n:=by rw[gI,gA h1]at h2;exact h2
  subst e;obtain⟨q,eq,hq,q1,q2,q3,q4⟩:=qkd ok ht h1 hn.1;have ei:t[i]?=some (q:Int):=by rw[gA h1,eq]
  have e0:l[q].arity=0:=by omega
  have hn':¬(q:Int)<0:=by omega
  have ek:l[q]?=some l[q]:=gA hq;refine⟨l[q].name,qf4 rfl 0 ((q22.ev _ _ _ _).trans ?_),by show _<=6*1;omega⟩;simp only[evz,Nat.reduceLT,h1,ei,q1x,hn',hq,get0 (l:=l) (k:=2) rfl,get1 (l:=l) (k:=2) rfl,ek,q2q,e0]
 |u n y ihy=>
  intro i h;obtain⟨h1,h2,_,_⟩:=h.facts;have hn:0<=n/\ar l n=1:=⟨h.1.1,h.1.2.1⟩;have e:t[i]=n:=by rw[gI,gA h1]at h2;exact h2
  have hy:At l t (i+1) y:=by
   obtain⟨hx,r,hr⟩:=h;exact At.next hx.2.2 hr
  obtain⟨y1,_,y3,_⟩:=hy.facts
  have yl:y.flat.length<=24:=by
   have:=(q4a ht y1).2.1;omega
  subst e;obtain⟨q,eq,hq,q1,q2,q3,q4⟩:=qkd ok ht h1 hn.1;have ei:t[i]?=some (q:Int):=by rw[gA h1,eq]
  have e0:l[q].arity=1:=by omega
  have hn':¬(q:Int)<0:=by omega
  have ek:l[q]?=some l[q]:=gA hq;obtain⟨s,es,hs⟩:=ihy (i+1) hy;have b1:l[q].name.size+1<=9223372036854775807:=by omega
  have ee:=(qdz ok ht y1).eq;refine⟨(l[q].name++ByteArray.mk #[40])++s++ByteArray.mk #[41],qf4 rfl 2 ((q22.ev _ _ _ _).trans ?_),?_⟩
  ·simp only[evz,Nat.reduceLT,h1,ei,q1x,hn',hq,get0 (l:=l) (k:=2) rfl,get1 (l:=l) (k:=2) rfl,ek,q2q,e0,lb,b1,q0l (by omega:i<9223372036854775807)];have c1:(l[q].name++ByteArray.mk #[40]).size+s.size<=9223372036854775807:=by rw[gY,lb];omega
   have c2:((l[q].name++ByteArray.mk #[40])++s).size+1<=9223372036854775807:=by rw[gY,gY,lb];omega
   simp only[q22.next0,q22.round0,evz,Nat.reduceLT,es,c1,ee,rb,c2];rfl
  ·rw[gY,gY,gY,lb,rb];show _<=6*(t[i]::y.flat).length;rw[gAB];omega
 |b n y z ihy ihz=>
  intro i h;obtain⟨h1,h2,_,_⟩:=h.facts;have hn:0<=n/\ar l n=2:=⟨h.1.1,h.1.2.1⟩;have e:t[i]=n:=by rw[gI,gA h1]at h2;exact h2
  have hy:At l t (i+1) y:=by
   obtain⟨hx,r,hr⟩:=h;exact At.next (n:=n) hx.2.2.1 (r:=z.flat++r) (by rw[hr];simp[Tm.flat])
  obtain⟨y1,_,y3,_⟩:=hy.facts
  have hz:At l t (q52 l t (i+1)) z:=by
   obtain⟨hx,r,hr⟩:=h;refine⟨hx.2.2.2,r,?_⟩;rw[y3,<- List.drop_drop,<- List.drop_drop,hr];simp[Tm.flat]
  obtain⟨z1,_,z3,_⟩:=hz.facts;have el:=(q4a ht z1).2.1;have yl:y.flat.length<=24:=by omega
  have zl:z.flat.length<=24:=by omega
  subst e;obtain⟨q,eq,hq,q1,q2,q3,q4⟩:=qkd ok ht h1 hn.1;have ei:t[i]?=some (q:Int):=by rw[gA h1,eq]
  have e0:l[q].arity=2:=by omega
  have hn':¬(q:Int)<0:=by omega
  have ek:l[q]?=some l[q]:=gA hq;obtain⟨s,es,hs⟩:=ihy (i+1) hy;obtain⟨s2,es2,hs2⟩:=ihz _ hz;have b1:l[q].name.size+1<=9223372036854775807:=by omega
  have ee:=(qdz ok ht y1).eq;have ee2:=(qdz ok ht z1).eq;refine⟨(((l[q].name++ByteArray.mk #[40])++s)++ByteArray.mk #[44])++s2++ByteArray.mk #[41],qf4 rfl 3 ((q22.ev _ _ _ _).trans ?_),?_⟩
  ·simp only[evz,Nat.reduceLT,h1,ei,q1x,hn',hq,get0 (l:=l) (k:=2) rfl,get1 (l:=l) (k:=2) rfl,ek,q2q,e0,lb,b1,q0l (by omega:i<9223372036854775807)];have c1:(l[q].name++ByteArray.mk #[40]).size+s.size<=9223372036854775807:=by rw[gY,lb];omega
   have c2:((l[q].name++ByteArray.mk #[40])++s).size+1<=9223372036854775807:=by rw[gY,gY,lb];omega
   have c3:(((l[q].name++ByteArray.mk #[40])++s)++ByteArray.mk #[44]).size+s2.size<=9223372036854775807:=by rw[gY,gY,gY,lb,cm];omega
   have c4:((((l[q].name++ByteArray.mk #[40])++s)++ByteArray.mk #[44])++s2).size+1<=9223372036854775807:=by rw[gY,gY,gY,gY,lb,cm];omega
   simp only[q22.next0,q22.round0,evz,Nat.reduceLT,es,c1,ee,rb,c2,es2,ee2,cm,c3,c4];rfl
  ·rw[gY,gY,gY,gY,gY,lb,rb,cm];show _<=6*(t[i]::(y.flat++z.flat)).length;rw[gAB,gM];omega
theorem q6d(s:ByteArray)(hs:s.size<=1000):∃t:List Int,Call F.q6d [.rref [slc l] 0,.str s] (slc t)/\t.length<=168:=by
 have hle:=ok.le;simp only at hle
 suffices h:∃r,q1g prog A H LIM 0 F.q6d [.rref [slc l] 0,.str s]=r/\∃t:List Int,r=some (slc t,[])/\t.length<=168 by
  obtain⟨_,e,t,rfl,h⟩:=h;exact⟨t,q0r rfl _ e,h⟩
 refine⟨_,q6d.ev _ _ _,?_⟩;by_cases hb:(s.size:Int)>168
 ·simp only[evz,Nat.reduceLT,hb];exact⟨[],rfl,by simp⟩
 obtain⟨t,b,en,ht⟩:=q0h (l:=l) (by omega) s hs;simp only[evz,Nat.reduceLT,hb,en.eq,(q17 l ok t (by omega)).eq];cases b with
 |false=>exact⟨[],rfl,by simp⟩
 |true=>
  simp only[evz,Nat.reduceLT,Bool.not_true];by_cases h0:q4d l t=0
  ·have ok':=(q85 l t).1 h0;obtain⟨x,hx,_⟩:=TermOk.atZero ok ok';obtain⟨w,ew,_⟩:=qk2 ok ok' x 0 hx;have ew:LIM F.q22 [.rref [slc l] 0,slc t,.int .i64 0]=some (.str w,[]):=ew;simp only[h0,evz,Nat.reduceLT,ew,ne_eq,gW];split
   ·exact⟨t,rfl,by omega⟩
   ·exact⟨[],rfl,by simp⟩
  ·simp only[h0,evz,Nat.reduceLT,ne_eq,gX];exact⟨[],rfl,by simp⟩
theorem q4o(s:ByteArray)(hs:s.size<=1000):∃(c:Int)(a b:List Int),Call F.q4o [.agg [slc l],.str s] (.agg [.int .i64 c,slc a,slc b])/\(c=0->EqOk l ⟨a,b⟩):=by
 have hle:=ok.le;simp only at hle;let Q:R->Prop:=fun r=>∃(c:Int)(a b:List Int),r=some (.agg [.int .i64 c,slc a,slc b],[])/\(c=0->EqOk l ⟨a,b⟩)
 suffices h:∃r,q1g prog A H LIM 0 F.q4o [.agg [slc l],.str s]=r/\Q r by
  obtain⟨_,e,c,a,b,rfl,h⟩:=h;exact⟨c,a,b,q0r rfl _ e,h⟩
 refine⟨_,q4o.ev _ _ _,?_⟩;have bad:Q (some (.agg [.int .i64 5,.sl 1 [],.sl 1 []],[])):=⟨5,[],[],rfl,by omega⟩;obtain⟨xs,ex,x1,x2⟩:=q28 s hs 61;have es:=(q00 l (by omega)).eq;rw[(q5g _).2 ok]at es;simp only[evz,Nat.reduceLT,es,ex.eq,gAG];by_cases hb:(s.size:Int)>337
 ·simp only[hb,evz,Nat.reduceLT];exact bad
 simp only[hb,evz,Nat.reduceLT]
 match xs,x2 with
 |[x,y],x2=>
  have hx:=x2 x (by simp);have hy:=x2 y (by simp);obtain⟨a,ea,ha⟩:=q6d ok x (by omega);obtain⟨b,eb,hb⟩:=q6d ok y (by omega);have ef:LIM F.q5m [.rref [slc l] 0,.rref [.sl 1 (cells a),.sl 1 (cells b)] 0]=_:=(q5m l ok a b (by omega) (by omega)).eq;by_cases h0:q3g l ⟨a,b⟩=0
  ·have r:Q (some (.agg [.int .i64 0,.sl 1 (cells a),.sl 1 (cells b)],[])):=⟨0,a,b,rfl,fun _=>qe9.1 h0⟩;simpa[ea.eq,eb.eq,ef,h0,inB]using r
  ·simpa[ea.eq,eb.eq,ef,h0,inB]using bad
 |[],_=>simpa using bad
 |[x],_=>simpa using bad
 |x::y::z::r,_=>
  have hne:¬((r.length:Int)+1+1+1=2):=by omega
  simpa[hne]using bad
end
set_option maxHeartbeats 2000000
set_option maxRecDepth 10000
theorem Grown.eq{l:List Symbol}{m n:Nat}{v w:Int}{a b:List Int}(ha:Grown l m v a)(hb:Grown l n w b)(h1:m<=24)(h2:n<=24)(h3:v<=6)(h4:w<=6):EqOk l ⟨a,b⟩:=
 ⟨ha.ok h1 (by omega),hb.ok h2 (by omega),fun n hn=>by rcases ha.node n hn with h|h <;> omega,fun n hn=>by rcases hb.node n hn with h|h <;> omega⟩
section
variable {code:List UInt8}(hc:code.length<=2097152)
include hc
theorem q23{l:List Symbol}(ok:SigOk ⟨l⟩)(p:Int)(hp:0<=p/\p<=1099510000000) :
 Drawn code p 6100 (fun x=>∃a b:List Int,x=.agg [slc a,slc b]/\EqOk l ⟨a,b⟩) (LIM F.q23 [.rref [slc code,.int .i64 p] 0,.rref [slc l] 0]):=by
 refine q9z rfl 20 ?_;rw[show q1g prog A H LIM 20 F.q23 [.rref [slc code,.int .i64 p] 0,.rref [slc l] 0]=_ from q23.ev _ _ _ _];refine q7j hc (by omega) fun v h1 h2=>?_;have h2:=h2 (by omega);obtain⟨v,rfl⟩:∃n:Nat,v=n:=⟨v.toNat,by omega⟩;simp only[evz,Nat.reduceLT];generalize hX:([.str _,.str _,.str _,.str _,.str _,.str _,.str _,.str _,.str _,.str _,.str _,.str _,.str _,.str _,.str _,.str _,.str _,.str _]:List T)=X;have hlen:X.length=18:=by rw[<- hX];rfl
 have hX:∃Y:List ByteArray,X=Y.map .str/\∀y∈Y,y.size<=1000:=by
  subst hX;refine⟨[_,_,_,_,_,_,_,_,_,_,_,_,_,_,_,_,_,_],rfl,?_⟩;intro y hy;simp only[gK,List.not_mem_nil,or_false]at hy;rcases hy with rfl|rfl|rfl|rfl|rfl|rfl|rfl|rfl|rfl|rfl|rfl|rfl|rfl|rfl|rfl|rfl|rfl|rfl <;> decide
 obtain⟨Y,rfl,hY⟩:=hX;rw[gAG]at hlen;refine q8x (σ:=Nat) (S:=fun m k=>q23.at0 20 m (q23.st0 (cells l) 18 (v:Nat) (k:Nat) (cells code) (p+1) (Y.map .str))) (fun k=>k<=18) (fun k=>18-k) (fun m k hk=>?_) _ 0 (by omega) (by omega);by_cases h:k<18
 ·have hi:(v+k) % 18<Y.length:=by omega
  have w:IntKind.wrap .i64 (((v:Nat):Int)+(k:Nat))=((v+k:Nat):Int):=by rw[q1o (by omega)];omega
  have w2:Int.tmod ((v+k:Nat):Int) 18=(((v+k) % 18:Nat):Int):=by rw[Int.tmod_eq_emod_of_nonneg (by omega)];omega
  have hk':((k:Nat):Int)<18:=by omega
  have ei:Y[(v+k) % 18]?=some Y[(v+k) % 18]:=gA hi;obtain⟨c,a,b,er,hr⟩:=q4o ok Y[(v+k) % 18] (hY _ (gG hi));by_cases h0:c=0
  ·left;subst h0;simp only[q23.next0,q23.round0,evz,Nat.reduceLT,hk',w,w2,q6v,hi,gAG,gAC,ei,Option.map_some,Option.bind_some,gR,Nat.mul_one,Nat.div_one,er.eq,show ¬(18:Int)=0 by decide];exact q79 (by omega) ⟨a,b,rfl,hr rfl⟩
  ·right;refine⟨k+1,?_,by omega,by omega⟩;simp only[q23.next0,q23.round0,evz,Nat.reduceLT,hk',w,w2,q6v,hi,gAG,gAC,ei,Option.map_some,Option.bind_some,gR,Nat.mul_one,Nat.div_one,er.eq,h0,show ¬(18:Int)=0 by decide];rw[q0l (by omega)]
 ·left;have hk':¬((k:Nat):Int)<18:=by omega
  simp only[q23.next0,q23.round0,evz,Nat.reduceLT,hk'];refine q95 (q0d hc ok (p+1) 4 2 (by omega) (by omega) (by omega)) ?_;rintro _ p1 a1 b1 ⟨a,rfl,ha⟩;simp only[evz,Nat.reduceLT];refine q95 (q0d hc ok p1 2 2 (by omega) (by omega) (by omega)) ?_;rintro _ p2 a2 b2 ⟨b,rfl,hb⟩;simp only[evz,Nat.reduceLT];exact q79 (by omega) ⟨a,b,rfl,ha.eq hb (by decide) (by decide) (by decide) (by decide)⟩
theorem q78{l:List Symbol}(ok:SigOk ⟨l⟩)(p:Int)(hp:0<=p/\p<=1099500000000) :
 Drawn code p 6200 (fun x=>∃a b:List Int,x=.agg [slc a,slc b]/\EqOk l ⟨a,b⟩) (LIM F.q78 [.rref [slc code,.int .i64 p] 0,.rref [slc l] 0]):=by
 refine q9z rfl 0 ?_;rw[show q1g prog A H LIM 0 F.q78 [.rref [slc code,.int .i64 p] 0,.rref [slc l] 0]=_ from q78.ev _ _ _ _];refine qc8 hc (by omega) fun b=>?_;simp only[evz,Nat.reduceLT];cases b with
 |true=>
  simp only[evz,Nat.reduceLT];refine qig hc [4,7,9] rfl (by simp) (by omega) fun v hv=>?_
  have hv':4<=v/\v<=9:=by
   simp only[gK,List.not_mem_nil,or_false]at hv;omega
  simp only[evz,Nat.reduceLT];refine q95 (q0d hc ok _ v 3 (by omega) (by omega) (by omega)) ?_;rintro _ p1 a1 b1 ⟨a,rfl,ha⟩;simp only[evz,Nat.reduceLT];refine qig hc [1,3,5] rfl (by simp) (by omega) fun w hw=>?_
  have hw':1<=w/\w<=5:=by
   simp only[gK,List.not_mem_nil,or_false]at hw;omega
  simp only[evz,Nat.reduceLT];refine q95 (q0d hc ok _ w 3 (by omega) (by omega) (by omega)) ?_;rintro _ p2 a2 b2 ⟨b,rfl,hb⟩;simp only[evz,Nat.reduceLT];exact q79 (by omega) ⟨a,b,rfl,ha.eq hb (by omega) (by omega) (by decide) (by decide)⟩
 |false=>
  simp only[evz,Nat.reduceLT];refine q95 (q23 hc ok _ (by omega)) ?_;rintro _ p1 a1 b1 ⟨a,b,rfl,h⟩;simp only[evz,Nat.reduceLT];exact q79 (by omega) ⟨a,b,rfl,h⟩
end
set_option maxHeartbeats 2000000
set_option maxRecDepth 10000
structure BindS(vs:List Int)(ts:List (List Int)):Prop where
 vlen:vs.length<=12
 tlen:ts.length<=12
 size:∀t∈ts,t.length<=1001
section
variable {code:List UInt8}(hc:code.length<=2097152)
include hc
end
section
variable {l:List Symbol}(ok:SigOk ⟨l⟩)(hs:sm 1048576 (Signature.mk l)){eqs:List Equation}(hqs:sm 1048576 eqs)(hq:∀x∈eqs,EqOk l x)(hql:eqs.length<=12){o:List Int}(ho:sm 1048576 o)
include ok hs hqs hq hql ho
end
set_option maxHeartbeats 2000000
set_option maxRecDepth 10000
def EqS(n:Nat)(es:List Equation):Prop:=es.length<=n/\∀e∈es,e.left.length<=1001/\e.right.length<=1001
theorem EqS.sm{n:Nat}{es:List Equation}(h:EqS n es)(hn:n<=1001):Sm.sm 1048576 es:=⟨by have:=h.1;omega,fun e he=>⟨⟨by have:=(h.2 e he).1;omega,fun _ _=>trivial⟩,⟨by have:=(h.2 e he).2;omega,fun _ _=>trivial⟩⟩⟩
theorem EqS.snoc{n:Nat}{es:List Equation}(h:EqS n es){a b:List Int}(ha:a.length<=1001)(hb:b.length<=1001):EqS (n+1) (es++[⟨a,b⟩]):=⟨by have:=h.1;simp;omega,fun e he=>by
 rcases gO.1 he with h1|h1
 ·exact h.2 e h1
 ·rw[gD.1 h1];exact⟨ha,hb⟩⟩
theorem qv6(es:List Equation)(a b:List Int):cells es++[slc a,slc b]=cells (es++[⟨a,b⟩]):=by rw[q33];rfl
section
variable {code:List UInt8}(hc:code.length<=2097152)
include hc
end
set_option maxHeartbeats 4000000
set_option maxRecDepth 10000
section
variable {code:List UInt8}(hc:code.length<=2097152)
include hc
end
set_option maxHeartbeats 4000000
set_option maxRecDepth 10000
structure BindM(vs:List Int)(ts:List (List Int)):Prop where
 vlen:vs.length<=40
 tlen:ts.length<=40
 size:∀t∈ts,t.length<=1001
theorem BindS.m{vs:List Int}{ts:List (List Int)}(h:BindS vs ts):BindM vs ts:=⟨by have:=h.vlen;omega,by have:=h.tlen;omega,h.size⟩
section
variable {code:List UInt8}(hc:code.length<=2097152)
include hc
theorem q15{l:List Symbol}(ok:SigOk ⟨l⟩)(p n:Int)(hn:0<=n/\n<=12)(hp:0<=p/\p<=1099400000000) :
 Drawn code p 100000 (fun x=>∃es,x=slc es/\EqS n.toNat es/\∀e∈es,EqOk l e) (LIM F.q15 [.rref [slc code,.int .i64 p] 0,.rref [slc l] 0,.int .i64 n]):=by
 refine q9z rfl 20 ?_;rw[show q1g prog A H LIM 20 F.q15 [.rref [slc code,.int .i64 p] 0,.rref [slc l] 0,.int .i64 n]=_ from q15.ev _ _ _ _ _];rw[show IntKind.wrap .i64 (n+1)=n+1 from q1o (by omega)];refine q7j hc (by omega) fun v h1 h2=>?_;have h2:=h2 (by omega);simp only[evz,Nat.reduceLT];refine q8x (σ:=Int×Int×List Equation) (S:=fun m s=>q15.at0 20 m (q15.st0 (cells l) s.1 (cells code) s.2.1 (cells s.2.2))) (fun s=>0<=s.1/\s.1<=n/\p<=s.2.1/\s.2.1<=p+1+(n-s.1)*6300/\EqS (n-s.1).toNat s.2.2/\∀e∈s.2.2,EqOk l e) (fun s=>s.1.toNat) (fun m s hs=>?_) _ (v,p+1,[]) ⟨h1,by simp only;omega,by simp only;omega,by simp only;omega,⟨by simp,by simp⟩,by simp⟩ (by simp only;omega);obtain⟨k,q,es⟩:=s;obtain⟨g1,g2,g3,g4,g5,g6⟩:=hs;simp only at g1 g2 g3 g4 g5 g6 ⊢;have hes:=g5.1;by_cases hk:k>0
 case neg=>
  left;simp only[q15.next0,q15.round0,evz,Nat.reduceLT,hk];exact q79 (by omega) ⟨es,rfl,⟨by omega,g5.2⟩,g6⟩
 right;have wk:IntKind.wrap .i64 (k-1)=k-1:=q1o (by omega);obtain⟨_,q2,e1,c1,c2,a,b,rfl,heq⟩:=q78 hc ok q (by omega);have hal:=heq.left.le;have hbl:=heq.right.le;simp only at hal hbl;refine⟨(k-1,q2,es++[⟨a,b⟩]),?_,⟨by simp only;omega,by simp only;omega,by simp only;omega,by simp only;omega,?_,fun x hx=>?_⟩,by simp only;omega⟩
 ·simp only[q15.next0,q15.round0,evz,Nat.reduceLT,hk,wk,e1];rw[q1r (q3v (by rw[q0k];simp only[q6u];omega)),qv6]
 ·have:=g5.snoc (a:=a) (b:=b) (by omega) (by omega);exact⟨by have:=this.1;simp only;omega,this.2⟩
 ·rcases gO.1 hx with h|h
  ·exact g6 x h
  ·rw[gD.1 h];exact heq
end
set_option maxHeartbeats 4000000
set_option maxRecDepth 10000
section
variable {code:List UInt8}(hc:code.length<=2097152)
include hc
theorem q6p(p:Int)(hp:0<=p/\p<=1099400000000)(eqs:List Equation)(ents:List Entry)(h1:eqs.length<=4294967296)(h2:ents.length<=4294967296) :
 Drawn code p 6 (fun x=>∃(k a b q s:Int),x=.agg [.int .i64 k,.int .i64 a,.int .i64 b,.int .i64 q,.int .i64 s,slc ([]:List Int),slc ([]:List Int)]) (LIM F.q6p [.rref [slc code,.int .i64 p] 0,slc eqs,slc ents]):=by
 refine q9z rfl 0 ?_;rw[show q1g prog A H LIM 0 F.q6p [.rref [slc code,.int .i64 p] 0,slc eqs,slc ents]=_ from q6p.ev _ _ _ _ _];have leaf:∀(k a b q s p2:Int),p<=p2/\p2<=p+6->Drawn code p 6 (fun x=>∃(k a b q s:Int),x=.agg [.int .i64 k,.int .i64 a,.int .i64 b,.int .i64 q,.int .i64 s,slc ([]:List Int),slc ([]:List Int)]) (some (.agg [.int .i64 k,.int .i64 a,.int .i64 b,.int .i64 q,.int .i64 s,.sl 1 [],.sl 1 []],[.agg [slc code,.int .i64 p2]])):=fun k a b q s p2 h=>q79 h ⟨k,a,b,q,s,rfl⟩;simp only[evz,Nat.reduceLT];split
 ·refine q7j hc (by omega) fun v _ _=>?_;simp only[evz,Nat.reduceLT];exact leaf _ _ _ _ _ _ (by omega)
 rename_i hne;refine qc8 hc (by omega) fun b=>?_;simp only[evz,Nat.reduceLT];cases b with
 |true=>
  simp only[evz,Nat.reduceLT];refine q7j hc (by omega) fun v _ _=>?_;simp only[evz,Nat.reduceLT];exact leaf _ _ _ _ _ _ (by omega)
 |false=>
  simp only[evz,Nat.reduceLT];refine q7j hc (by omega) fun a ha1 ha2=>?_;simp only[evz,Nat.reduceLT];refine q7j hc (by omega) fun b hb1 hb2=>?_;simp only[evz,Nat.reduceLT];refine q7j hc (by omega) fun c hc1 hc2=>?_;have ha2:=ha2 (by omega);obtain⟨i,rfl⟩:∃i:Nat,a=i:=⟨a.toNat,by omega⟩;have hi:i<ents.length:=by omega
  have ei:ents[i]?=some ents[i]:=gA hi;simp only[evz,Nat.reduceLT,hi,ei,q42];split
  ·exact leaf _ _ _ _ _ _ (by omega)
  split
  ·exact leaf _ _ _ _ _ _ (by omega)
  split
  ·refine q7j hc (by omega) fun s _ _=>?_;simp only[evz,Nat.reduceLT];split
   ·refine q7j hc (by omega) fun v _ _=>?_;simp only[evz,Nat.reduceLT];exact leaf _ _ _ _ _ _ (by omega)
   ·refine q7j hc (by omega) fun v _ _=>?_;simp only[evz,Nat.reduceLT];exact leaf _ _ _ _ _ _ (by omega)
  split
  ·refine q7j hc (by omega) fun s _ _=>?_;simp only[evz,Nat.reduceLT];split
   ·refine q7j hc (by omega) fun v _ _=>?_;simp only[evz,Nat.reduceLT];exact leaf _ _ _ _ _ _ (by omega)
   ·refine q7j hc (by omega) fun v _ _=>?_;simp only[evz,Nat.reduceLT];exact leaf _ _ _ _ _ _ (by omega)
  ·refine q7j hc (by omega) fun v _ _=>?_;simp only[evz,Nat.reduceLT];exact leaf _ _ _ _ _ _ (by omega)
omit hc in
theorem qsd(es:List Entry)(k a b p s:Int)(l r:List Int):cells es++[.int .i64 k,.int .i64 a,.int .i64 b,.int .i64 p,.int .i64 s,slc l,slc r]=cells (es++[⟨k,a,b,p,s,l,r⟩]):=by rw[q33];rfl
theorem q1j(p n:Int)(hn:1<=n/\n<=60)(hp:0<=p/\p<=1099300000000) :
 Drawn code p 101000 (fun x=>∃(l:List Symbol)(eqs:List Equation)(ents:List Entry),x=.tup [.agg [slc l],slc eqs,slc ents]/\SigOk ⟨l⟩/\eqs.length<=4/\(∀e∈eqs,EqOk l e)/\(ents.length:Int)<=n/\∀x∈ents,EqOk l (eqOf x)) (LIM F.q1j [.rref [slc code,.int .i64 p] 0,.int .i64 n]):=by
 refine q9z rfl 70 ?_;rw[show q1g prog A H LIM 70 F.q1j [.rref [slc code,.int .i64 p] 0,.int .i64 n]=_ from q1j.ev _ _ _ _];refine q95 (q82 hc p (by omega)) ?_;rintro _ p1 a1 b1 ⟨l,rfl,ok⟩;have hll:l.length<=6:=ok.le;have hsm:sm 1048576 (Signature.mk l):=q2x (by omega) ok.small;simp only[evz,Nat.reduceLT];refine q95 (q15 hc ok p1 4 (by omega) (by omega)) ?_;rintro _ p2 a2 b2 ⟨eqs,rfl,hes,hq⟩;have hql:eqs.length<=4:=hes.1;simp only[evz,Nat.reduceLT];split
 ·exact q79 (by omega) ⟨l,eqs,[],rfl,ok,hql,hq,by simp;omega,by simp⟩
 refine q7j hc (by omega) fun v h1 h2=>?_;have h2:=h2 (by omega);simp only[evz,Nat.reduceLT];refine q8x (σ:=Int×Int×List Entry) (S:=fun m s=>q1j.at0 70 m (q1j.st0 s.1 (cells code) s.2.1 (cells l) (cells eqs) (cells s.2.2))) (fun s=>0<=s.1/\s.1<=n/\p2<=s.2.1/\s.2.1<=p2+1+(n-s.1)*6/\(s.2.2.length:Int)<=n-s.1/\∀x∈s.2.2,EqOk l (eqOf x)) (fun s=>s.1.toNat) (fun m s hs=>?_) _ (v,p2+1,[]) ⟨h1,by simp only;omega,by simp only;omega,by simp only;omega,by simp;omega,by simp⟩ (by simp only;omega);obtain⟨k,q,ents⟩:=s;obtain⟨g1,g2,g3,g4,g5,g6⟩:=hs;simp only at g1 g2 g3 g4 g5 g6 ⊢;by_cases hk:k>0
 case neg=>
  left;simp only[q1j.next0,q1j.round0,evz,Nat.reduceLT,hk];exact q79 (by omega) ⟨l,eqs,ents,rfl,ok,hql,hq,by omega,g6⟩
 right;have wk:IntKind.wrap .i64 (k-1)=k-1:=q1o (by omega);obtain⟨_,q2,e1,c1,c2,kk,a,b,pl,s,rfl⟩:=q6p hc q (by omega) eqs ents (by omega) (by omega);have em:=(q6n ok hsm hq g6 (by omega) (by omega) ⟨kk,a,b,pl,s,[],[]⟩).eq;have hok:=qkt (e:=⟨kk,a,b,pl,s,[],[]⟩) ok hq g6;rw[q42,q42]at em;have em:LIM F.q6n [.rref [slc l] 0,slc eqs,slc ents,.agg [.int .i64 kk,.int .i64 a,.int .i64 b,.int .i64 pl,.int .i64 s,slc ([]:List Int),slc ([]:List Int)]]=_:=em;by_cases h0:(derR l eqs ents ⟨kk,a,b,pl,s,[],[]⟩).code=0
 ·have hmk:made ⟨kk,a,b,pl,s,[],[]⟩ (derR l eqs ents ⟨kk,a,b,pl,s,[],[]⟩)=⟨kk,a,b,pl,s,(derR l eqs ents ⟨kk,a,b,pl,s,[],[]⟩).equation.left,(derR l eqs ents ⟨kk,a,b,pl,s,[],[]⟩).equation.right⟩:=by
   unfold made;rw[if_neg (by simpa using h0)]
  have hok:=hok h0;rw[hmk,h0]at em;generalize derR l eqs ents ⟨kk,a,b,pl,s,[],[]⟩=r at *;refine⟨(k-1,q2,ents++[⟨kk,a,b,pl,s,r.equation.left,r.equation.right⟩]),?_,⟨by simp only;omega,by simp only;omega,by simp only;omega,by simp only;omega,by simp;omega,fun x hx=>?_⟩,by simp only;omega⟩
  ·simp only[q1j.next0,q1j.round0,evz,Nat.reduceLT,hk,wk,e1,em];rw[q1r (q3v (by rw[q0k];simp only[qe5];omega)),qsd]
  ·rcases gO.1 hx with h|h
   ·exact g6 x h
   ·rw[gD.1 h];exact hok
 ·refine⟨(k-1,q2,ents),?_,⟨by simp only;omega,by simp only;omega,by simp only;omega,by simp only;omega,by simp only;omega,g6⟩,by simp only;omega⟩;simp only[q1j.next0,q1j.round0,evz,Nat.reduceLT,hk,wk,e1,em,h0]
end
end Ev.Ty
end
