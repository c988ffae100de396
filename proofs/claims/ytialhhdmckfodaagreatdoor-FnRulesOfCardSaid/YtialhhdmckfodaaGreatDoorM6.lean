/- Steps on the way to RowRulesOf: TyUnifyP, TyPeakP, TyUnify, TyUnify2, TyPeak, TyPeak2, TyPeaks, TyAllPeaks, TyUnjoined, TyDeriveP, TyDerive, TyNewC, TyOrient, TyDraw8, TyDraw13, TyDraw11, TyAlgOk, TyDraw10, TyDraw11B, TyCompl, TyDraw12, TyDraw12S, TyDraw12B, TyBytes, TyRulesOf, TyLRulesOf. -/
import Derived.Test.YtialhhdmckfodaaGreatDoorM5
set_option linter.unusedSectionVars false
set_option linter.unusedVariables false
set_option linter.unusedSimpArgs false
section
namespace Ev.Ty
open Go Ev
open Enc (enc)
open Sm (sm)
def Free(b:Bnd)(t:List Int):Prop:=∀n∈t,(-1-n)∉b.1
theorem qf3{vs:List Int}{ts:List (List Int)}{v:Int}(h:v∉vs):q6p vs ts v=none:=by
 unfold q6p;rcases q8s (fun x:Int=>decide (x=v)) vs with⟨h1,_⟩|⟨i,hi,h1,hy,_⟩
 ·rw[if_pos (by omega)]
 ·have:vs[i]=v:=by simpa using hy
  exact absurd (this▸gG hi) h
theorem applied_free{b:Bnd}:∀{t:List Int},Free b t->q0k b.1 b.2 t=t
 |[],_=>rfl
 |n::t,h=>by
  have ih:=applied_free (b:=b) (t:=t) fun m hm=>h m (gF _ hm);have e:q0k b.1 b.2 (n::t)=(q6p b.1 b.2 (-1-n)).getD [n]++q0k b.1 b.2 t:=by simp[q0k]
  rw[e,qf3 (h n (by simp)),ih];rfl
theorem qfc{vs:List Int}{ts:List (List Int)}{P:Int->Prop}(ht:∀x∈ts,∀n∈x,P n){t:List Int}(h:∀n∈t,q6p vs ts (-1-n)=none->P n):∀n∈q0k vs ts t,P n:=fun n hn=>by
 unfold q0k at hn;obtain⟨m,hm,hn⟩:=List.mem_flatMap.1 hn;cases ho:q6p vs ts (-1-m)with
 |none=>rw[ho]at hn;rw[gD.1 hn];exact h m hm ho
 |some o=>rw[ho]at hn;exact ht o (q8o ho) n hn
structure UB(l:List Symbol)(b:Bnd):Prop where
 mb:MB l b 12
 nd:b.1.Nodup
 free:∀t∈b.2,Free b t
theorem UB.nil(l:List Symbol):UB l ([],[]):=⟨(MB.nil l).up (by omega),List.nodup_nil,by simp⟩
theorem UB.le{l:List Symbol}{b:Bnd}(h:UB l b):b.1.length<=12:=h.mb.le
theorem UB.applied_free{l:List Symbol}{b:Bnd}(h:UB l b)(t:List Int):Free b (q0k b.1 b.2 t):=qfc h.free fun n _ hn=>qip h.mb.len hn
theorem UB.applied_ok{l:List Symbol}{b:Bnd}(h:UB l b){t:List Int}(ht:TermOk l t)(hl:(q0k b.1 b.2 t).length<=24):TermOk l (q0k b.1 b.2 t):=by
 have hs:=qbc h.mb (by omega) t [] 1 ht.skip;rw[gAD]at hs;refine⟨?_,hl,qd0 h.mb ht.node,hs⟩;rcases Nat.eq_zero_or_pos (q0k b.1 b.2 t).length with h0|h0
 ·rw[gL h0]at hs;cases hs
 ·exact h0
def one(v:Int)(t:List Int):Bnd:=([v],[t])
def q8p(b:Bnd)(v:Int)(t:List Int):Option Bnd:=
 if(b.2.any fun x=>decide (24<(q0k [v] [t] x).length))=true then none else some (bput (b.1,b.2.map (q0k [v] [t])) v t)
theorem qrj(v:Int)(t:List Int)(w:Int):q6p [v] [t] w=if v=w then some t else none:=by
 by_cases h:v=w
 ·subst h;simp[q6p,idx]
 ·rw[if_neg h];exact qf3 (by simpa using fun e=>h e.symm)
theorem qtg{l:List Symbol}{v:Int}(hv:0<=v/\v<=11){t:List Int}(ht:TermOk l t):MB l (one v t) 1:=⟨rfl,gAI _,fun x hx=>by rw[gD.1 hx];exact hv,fun x hx=>by rw[gD.1 hx];exact ht⟩
theorem qu8{l:List Int}{i:Nat}{x:Int}(h:l.Nodup)(hx:x∉l):(ins l i x).Nodup:=by
 unfold ins
 have hp:(l.take i++x::l.drop i).Perm (x::l):=by
  refine List.perm_middle.trans ?_;rw[List.take_append_drop]
 exact hp.nodup_iff.2 (List.nodup_cons.2 ⟨hx,h⟩)
theorem qp0{l:List Int}{i:Nat}{x y:Int}:y∈ins l i x<->y=x\/y∈l:=by
 unfold ins;constructor
 ·intro h;rcases gO.1 h with h|h
  ·exact .inr (List.mem_of_mem_take h)
  ·rcases gK.1 h with h|h
   ·exact .inl h
   ·exact .inr (List.mem_of_mem_drop h)
 ·rintro(rfl|h)
  ·simp
  ·rw[<- List.take_append_drop i l,gO]at h;rcases h with h|h
   ·exact gJ _ h
   ·exact gN _ (gF _ h)
theorem qsh{vs:List Int}(h:vs.Nodup)(hv:∀v∈vs,0<=v/\v<=11):vs.length<=12:=qqs 12 vs h fun v hm=>by have:=hv v hm;omega
theorem qka{l:List Symbol}{b:Bnd}(h:UB l b){v:Int}(hv:0<=v/\v<=11)(hnb:v∉b.1){t:List Int}(ht:TermOk l t)(hf:Free b t)(hvt:(-1-v)∉t){b':Bnd}(hb:q8p b v t=some b') :
 UB l b'/\b'.1.length=b.1.length+1:=by
 unfold q8p at hb;split at hb
 ·cases hb
 rename_i hany;cases hb;have hi:=qh8 b.1 v;have hlen:=h.mb.len;have hmem:∀w,w∈(bput (b.1,b.2.map (q0k [v] [t])) v t).1<->w=v\/w∈b.1:=fun w=>qp0;have hnd:(bput (b.1,b.2.map (q0k [v] [t])) v t).1.Nodup:=qu8 h.nd hnb
 have hvar:∀w∈(bput (b.1,b.2.map (q0k [v] [t])) v t).1,0<=w/\w<=11:=fun w hw=>by
  rcases(hmem w).1 hw with rfl|hw
  ·exact hv
  ·exact h.mb.var w hw
 have hl1:(bput (b.1,b.2.map (q0k [v] [t])) v t).1.length=b.1.length+1:=q8l _ _ _ hi;have hone:=qtg hv ht
 have tm:∀x∈(bput (b.1,b.2.map (q0k [v] [t])) v t).2,TermOk l x/\Free (bput (b.1,b.2.map (q0k [v] [t])) v t) x:=fun x hx=>by
  rcases qld hx with rfl|hx
  ·refine⟨ht,fun n hn hm=>?_⟩;rcases(hmem _).1 hm with e|hm
   ·exact hvt (by have:n = -1-v:=by omega
                  exact this▸hn)
   ·exact hf n hn hm
  ·obtain⟨y,hy,rfl⟩:=List.mem_map.1 hx;have hyo:=h.mb.tm y hy
   have hle:(q0k [v] [t] y).length<=24:=by
    rcases Nat.lt_or_ge 24 (q0k [v] [t] y).length with h24|h24
    ·exact absurd (List.any_eq_true.2 ⟨y,hy,decide_eq_true h24⟩) hany
    ·exact h24
   refine⟨?_,?_⟩
   ·have hs:=qbc hone (by omega) y [] 1 hyo.skip;rw[gAD]at hs;refine⟨?_,hle,qd0 hone hyo.node,hs⟩;rcases Nat.eq_zero_or_pos (q0k [v] [t] y).length with h0|h0
    ·have hs:skip (ar l) 1 (q0k [v] [t] y)=some []:=hs;rw[gL h0]at hs;cases hs
    ·exact h0
   ·refine qfc (P:=fun n=>(-1-n)∉(bput (b.1,b.2.map (q0k [v] [t])) v t).1) (fun z hz n hn hm=>?_) (fun n hn hno hm=>?_)
    ·rw[gD.1 hz]at hn;rcases(hmem _).1 hm with e|hm
     ·exact hvt (by have:n = -1-v:=by omega
                    exact this▸hn)
     ·exact hf n hn hm
    ·rcases(hmem _).1 hm with e|hm
     ·rw[qrj,if_pos e.symm]at hno;cases hno
     ·exact h.free y hy n hn hm
 refine⟨⟨⟨?_,?_,hvar,fun x hx=>(tm x hx).1⟩,hnd,fun x hx=>(tm x hx).2⟩,hl1⟩
 ·rw[hl1];show _=(ins (b.2.map (q0k [v] [t])) (q8v b.1 v) t).length;rw[q8l _ _ _ (by simp;omega)];simp;omega
 ·exact qsh hnd hvar
abbrev Pr:=Equation
def q87(l:List Symbol)(x y:List Int):List Pr:=((q3x l x 0).zip (q3x l y 0)).map fun p=>⟨q37 l x p.1,q37 l y p.2⟩
def q9b(b:Bnd)(ps:List Pr):Nat:=(ps.map fun p=>(q0k b.1 b.2 p.left).length+(q0k b.1 b.2 p.right).length).sum
theorem qkj{l:List Symbol}{t:List Int}(ht:TermOk l t):∀{n p:Nat}{r:List Int},skip (ar l) n (t.drop p)=some r->((q7x l t n p).map fun q=>(q37 l t q).length).sum+r.length=t.length-p
 |0,p,r,h=>by
  rw[q4n]at h;rw[<- Option.some.inj h];simp[q7x]
 |n+1,p,r,h=>by
  obtain⟨h1,h2,h3,h4⟩:=qdr h;have ih:=qkj ht h2;have hs:=(q74 ht h1).2.1;rw[q7x,List.map_cons,List.sum_cons];omega
theorem qr4{l:List Symbol}{t:List Int}(ht:TermOk l t):((q3x l t 0).map fun q=>(q37 l t q).length).sum+1=t.length:=by
 have hp:=ht.pos;obtain⟨r,hr⟩:=qbx ht (p:=0) (by omega);have hd:t.getD 0 0=t[0]:=q7w (by omega);have h:=qkj ht hr;have hw:=ht.skip
 have e:t=t[0]::t.drop 1:=by
  have:=gH (l:=t) (i:=0) (by omega);rwa[List.drop_zero]at this
 rw[e,skip,gAJ]at hw;rw[gAJ,hw]at hr;have:r=[]:=(Option.some.inj hr).symm;subst this;unfold q3x;rw[hd];simp at h ⊢;omega
theorem qua{α β:Type}(f:α->Nat)(g:β->Nat):∀(A:List α)(B:List β),A.length=B.length->((A.zip B).map fun p=>f p.1+g p.2).sum=(A.map f).sum+(B.map g).sum
 |[],[],_=>rfl
 |a::A,b::B,h=>by
  have ih:=qua f g A B (by simpa using h);simp only[List.zip_cons_cons,List.map_cons,List.sum_cons]at ih ⊢;omega
 |[],_::_,h=>by simp at h
 |_::_,[],h=>by simp at h
theorem qmr{l:List Symbol}{t:List Int}{p:Nat}:∀n∈q37 l t p,n∈t:=fun n hn=>List.mem_of_mem_take (List.mem_of_mem_drop hn)
theorem q72{l:List Symbol}{b:Bnd}{x y:List Int}(hx:TermOk l x)(hy:TermOk l y)(fx:Free b x)(fy:Free b y)(he:x.getD 0 0=y.getD 0 0):q9b b (q87 l x y)+2=x.length+y.length:=by
 have e:(q87 l x y).map (fun p=>(q0k b.1 b.2 p.left).length+(q0k b.1 b.2 p.right).length)=((q3x l x 0).zip (q3x l y 0)).map fun p=>(q37 l x p.1).length+(q37 l y p.2).length:=by
  unfold q87;rw[List.map_map];refine List.map_congr_left fun p hp=>?_;show(q0k b.1 b.2 (q37 l x p.1)).length+(q0k b.1 b.2 (q37 l y p.2)).length=_;rw[applied_free fun n hn=>fx n (qmr n hn),applied_free fun n hn=>fy n (qmr n hn)]
 have hl:(q3x l x 0).length=(q3x l y 0).length:=by unfold q3x;rw[q6q,q6q,he]
 unfold q9b;rw[e,qua (fun p=>(q37 l x p).length) (fun q=>(q37 l y q).length) _ _ hl];have:=qr4 hx;have:=qr4 hy;omega
theorem qu2{l:List Symbol}{x y:List Int}(hx:TermOk l x)(hy:TermOk l y):∀p∈q87 l x y,TermOk l p.left/\TermOk l p.right:=fun p hp=>by
 unfold q87 at hp;obtain⟨q,hq,rfl⟩:=List.mem_map.1 hp;have h1:=q6g hx (p:=0) (by have:=hx.pos;omega) (List.of_mem_zip hq).1;have h2:=q6g hy (p:=0) (by have:=hy.pos;omega) (List.of_mem_zip hq).2;exact⟨q9d hx h1.2,q9d hy h2.2⟩
def unif(l:List Symbol):Nat->Bnd->List Pr->Option (Bnd ⊕ Int)
 |0,_,_=>none
 |_+1,b,[]=>some (.inl b)
 |n+1,b,p::ps=>
  if 24<(q0k b.1 b.2 p.left).length\/24<(q0k b.1 b.2 p.right).length then some (.inr 2)
  else if q0k b.1 b.2 p.left=q0k b.1 b.2 p.right then unif l n b ps
  else if(q0k b.1 b.2 p.left).getD 0 0<0 then
   if(q0k b.1 b.2 p.left).getD 0 0∈q0k b.1 b.2 p.right then some (.inr 4)else match q8p b (-1-(q0k b.1 b.2 p.left).getD 0 0) (q0k b.1 b.2 p.right)with
    |none=>some (.inr 2)
    |some b'=>unif l n b' ps
  else if(q0k b.1 b.2 p.right).getD 0 0<0 then
   if(q0k b.1 b.2 p.right).getD 0 0∈q0k b.1 b.2 p.left then some (.inr 4)else match q8p b (-1-(q0k b.1 b.2 p.right).getD 0 0) (q0k b.1 b.2 p.left)with
    |none=>some (.inr 2)
    |some b'=>unif l n b' ps
  else if(q0k b.1 b.2 p.left).getD 0 0≠(q0k b.1 b.2 p.right).getD 0 0 then some (.inr 4)
  else unif l n b (q87 l (q0k b.1 b.2 p.left) (q0k b.1 b.2 p.right)++ps)
theorem qin{l:List Symbol}:∀{n m:Nat}{b:Bnd}{ps:List Pr}{r:Bnd ⊕ Int},unif l n b ps=some r->n<=m->unif l m b ps=some r
 |0,m,b,ps,r,h,hm=>by cases h
 |n+1,m,b,ps,r,h,hm=>by
  obtain⟨m,rfl⟩:∃q,m=q+1:=⟨m-1,by omega⟩;have ih:∀{b:Bnd}{ps:List Pr}{r:Bnd ⊕ Int},unif l n b ps=some r->unif l m b ps=some r:=fun h=>qin h (by omega);cases ps with
  |nil=>exact h
  |cons p ps=>
   rw[unif]at h ⊢;split at h
   ·rename_i c;rw[if_pos c];exact h
   rename_i c;rw[if_neg c];split at h
   ·rename_i c;rw[if_pos c];exact ih h
   rename_i c;rw[if_neg c];split at h
   ·rename_i c;rw[if_pos c];split at h
    ·rename_i c;rw[if_pos c];exact h
    rename_i c;rw[if_neg c];split at h
    ·exact h
    ·exact ih h
   rename_i c;rw[if_neg c];split at h
   ·rename_i c;rw[if_pos c];split at h
    ·rename_i c;rw[if_pos c];exact h
    rename_i c;rw[if_neg c];split at h
    ·exact h
    ·exact ih h
   rename_i c;rw[if_neg c];split at h
   ·rename_i c;rw[if_pos c];exact h
   rename_i c;rw[if_neg c];exact ih h
theorem UB.head_var{l:List Symbol}{b:Bnd}(h:UB l b){t:List Int}(hx:TermOk l (q0k b.1 b.2 t))(hn:(q0k b.1 b.2 t).getD 0 0<0) :
 (0 <= -1-(q0k b.1 b.2 t).getD 0 0 /\ -1-(q0k b.1 b.2 t).getD 0 0<=11) /\ -1-(q0k b.1 b.2 t).getD 0 0∉b.1:=by
 have hp:=hx.pos;have hd:(q0k b.1 b.2 t).getD 0 0=(q0k b.1 b.2 t)[0]:=q7w (by omega);have hm:(q0k b.1 b.2 t).getD 0 0∈q0k b.1 b.2 t:=by rw[hd];exact gG _
 have:=q5n.1 (hx.node _ hm);exact⟨by omega,h.applied_free t _ hm⟩
theorem qu6{l:List Symbol}:∀(d k:Nat)(b:Bnd)(ps:List Pr),UB l b->(∀p∈ps,TermOk l p.left/\TermOk l p.right)->12-b.1.length<=d->q9b b ps<=k->
 ∃n r,unif l n b ps=some r/\∀b',r=.inl b'->UB l b':=by
 intro d;induction d with
 |zero=>
  intro k;induction k using Nat.strongRecOn with
  |_ k ihk=>exact fun b ps=>unif_step 0 k (fun d' hd'=>by omega) ihk b ps
 |succ d ihd=>
  intro k;induction k using Nat.strongRecOn with
  |_ k ihk=>exact fun b ps=>unif_step (d+1) k (fun d' hd' k b ps h1 h2 h3 h4=>ihd k b ps h1 h2 (by omega) h4) ihk b ps
where
 unif_step {l:List Symbol} (d k:Nat)
  (ihd:∀d',d'<d->∀(k:Nat)(b:Bnd)(ps:List Pr),UB l b->(∀p∈ps,TermOk l p.left/\TermOk l p.right)->12-b.1.length<=d'->q9b b ps<=k->∃n r,unif l n b ps=some r/\∀b',r=.inl b'->UB l b')
  (ihk:∀k',k'<k->∀(b:Bnd)(ps:List Pr),UB l b->(∀p∈ps,TermOk l p.left/\TermOk l p.right)->12-b.1.length<=d->q9b b ps<=k'->∃n r,unif l n b ps=some r/\∀b',r=.inl b'->UB l b')
  (b:Bnd) (ps:List Pr) (hb:UB l b) (hps:∀p∈ps,TermOk l p.left/\TermOk l p.right) (hd:12-b.1.length<=d) (hk:q9b b ps<=k):∃n r,unif l n b ps=some r/\∀b',r=.inl b'->UB l b':=by
  cases ps with
  |nil=>exact⟨1,.inl b,rfl,fun b' e=>by cases e;exact hb⟩
  |cons p ps=>
   have hp:=hps p (by simp);have hps':∀q∈ps,TermOk l q.left/\TermOk l q.right:=fun q hq=>hps q (gF _ hq);have hsz:q9b b (p::ps)=(q0k b.1 b.2 p.left).length+(q0k b.1 b.2 p.right).length+q9b b ps:=by simp[q9b]
   by_cases c1:24<(q0k b.1 b.2 p.left).length\/24<(q0k b.1 b.2 p.right).length
   ·exact⟨1,.inr 2,by rw[unif,if_pos c1],fun _ e=>by cases e⟩
   have hx:=hb.applied_ok hp.1 (by omega);have hy:=hb.applied_ok hp.2 (by omega);have hxp:=hx.pos;by_cases c2:q0k b.1 b.2 p.left=q0k b.1 b.2 p.right
   ·obtain⟨n,r,h1,h2⟩:=ihk (q9b b ps) (by omega) b ps hb hps' hd (gAI _);exact⟨n+1,r,by rw[unif,if_neg c1,if_pos c2];exact h1,h2⟩
   have bindcase:∀(u t:List Int),TermOk l (q0k b.1 b.2 u)->TermOk l (q0k b.1 b.2 t)->(q0k b.1 b.2 u).getD 0 0<0->(q0k b.1 b.2 u).getD 0 0∉q0k b.1 b.2 t->∀b',q8p b (-1-(q0k b.1 b.2 u).getD 0 0) (q0k b.1 b.2 t)=some b'->
    ∃n r,unif l n b' ps=some r/\∀b',r=.inl b'->UB l b':=fun u t hu ht hneg hno b' hb'=>by
    obtain⟨hv,hnb⟩:=hb.head_var hu hneg;obtain⟨q1,q2⟩:=qka hb hv hnb ht (hb.applied_free t) (by rw[show -1-(-1-(q0k b.1 b.2 u).getD 0 0)=(q0k b.1 b.2 u).getD 0 0 by omega];exact hno) hb';have:=q1.le;exact ihd (d-1) (by omega) (q9b b' ps) b' ps q1 hps' (by omega) (gAI _)
   by_cases c3:(q0k b.1 b.2 p.left).getD 0 0<0
   ·by_cases c4:(q0k b.1 b.2 p.left).getD 0 0∈q0k b.1 b.2 p.right
    ·exact⟨1,.inr 4,by rw[unif,if_neg c1,if_neg c2,if_pos c3,if_pos c4],fun _ e=>by cases e⟩
    cases hb':q8p b (-1-(q0k b.1 b.2 p.left).getD 0 0) (q0k b.1 b.2 p.right)with
    |none=>exact⟨1,.inr 2,by rw[unif,if_neg c1,if_neg c2,if_pos c3,if_neg c4,hb'],fun _ e=>by cases e⟩
    |some b'=>
     obtain⟨n,r,h1,h2⟩:=bindcase p.left p.right hx hy c3 c4 b' hb';exact⟨n+1,r,by rw[unif,if_neg c1,if_neg c2,if_pos c3,if_neg c4,hb'];exact h1,h2⟩
   by_cases c5:(q0k b.1 b.2 p.right).getD 0 0<0
   ·by_cases c4:(q0k b.1 b.2 p.right).getD 0 0∈q0k b.1 b.2 p.left
    ·exact⟨1,.inr 4,by rw[unif,if_neg c1,if_neg c2,if_neg c3,if_pos c5,if_pos c4],fun _ e=>by cases e⟩
    cases hb':q8p b (-1-(q0k b.1 b.2 p.right).getD 0 0) (q0k b.1 b.2 p.left)with
    |none=>exact⟨1,.inr 2,by rw[unif,if_neg c1,if_neg c2,if_neg c3,if_pos c5,if_neg c4,hb'],fun _ e=>by cases e⟩
    |some b'=>
     obtain⟨n,r,h1,h2⟩:=bindcase p.right p.left hy hx c5 c4 b' hb';exact⟨n+1,r,by rw[unif,if_neg c1,if_neg c2,if_neg c3,if_pos c5,if_neg c4,hb'];exact h1,h2⟩
   by_cases c6:(q0k b.1 b.2 p.left).getD 0 0=(q0k b.1 b.2 p.right).getD 0 0
   ·have ha:=q72 (b:=b) hx hy (hb.applied_free _) (hb.applied_free _) c6;have happ:q9b b (q87 l (q0k b.1 b.2 p.left) (q0k b.1 b.2 p.right)++ps)=q9b b (q87 l (q0k b.1 b.2 p.left) (q0k b.1 b.2 p.right))+q9b b ps:=by simp[q9b]
    obtain⟨n,r,h1,h2⟩:=ihk _ (show q9b b (q87 l (q0k b.1 b.2 p.left) (q0k b.1 b.2 p.right)++ps)<k by omega) b _ hb (fun q hq=>by
     rcases gO.1 hq with hq|hq
     ·exact qu2 hx hy q hq
     ·exact hps' q hq) hd (gAI _)
    exact⟨n+1,r,by rw[unif,if_neg c1,if_neg c2,if_neg c3,if_neg c5,if_neg (by simpa using c6)];exact h1,h2⟩
   ·exact⟨1,.inr 4,by rw[unif,if_neg c1,if_neg c2,if_neg c3,if_neg c5,if_pos c6],fun _ e=>by cases e⟩
def q5w(t:List Int)(by_:Int):List Int:=t.map fun n=>if n<0 then n-by_ else n
theorem qqh{a:Int->Nat}{f:Int->Int}:∀{t:List Int}{k:Nat}{r:List Int},(∀n∈t,a (f n)=a n)->skip a k t=some r->skip a k (t.map f)=some (r.map f)
 |t,0,r,_,h=>by rw[q4n]at h;cases h;rw[q4n]
 |[],k+1,r,_,h=>by cases h
 |n::t,k+1,r,hf,h=>by
  rw[skip]at h;rw[List.map_cons,skip,hf n (by simp)];exact qqh (fun m hm=>hf m (gF _ hm)) h
theorem qdl{l:List Symbol}{t:List Int}(ht:TermOk l t)(hlow:∀n∈t,-6<=n):TermOk l (q5w t 6):=by
 refine⟨by unfold q5w;rw[gAG];exact ht.pos,by unfold q5w;rw[gAG];exact ht.le,fun n hn=>?_,?_⟩
 ·unfold q5w at hn;obtain⟨m,hm,rfl⟩:=List.mem_map.1 hn;have h1:=q5n.1 (ht.node m hm);have h2:=hlow m hm;rw[q5n];split <;> omega
 ·refine qqh (fun n hn=>?_) ht.skip;by_cases h:n<0
  ·rw[if_pos h,qcp l h,qcp l (by omega)]
  ·rw[if_neg h]
theorem qao{b:Bnd}{l:List Symbol}{k:Nat}(hb:MB l b k):∀t:List Int,t.length<=(q0k b.1 b.2 t).length
 |[]=>by simp[q0k]
 |n::t=>by
  have ih:=qao hb t;have e:q0k b.1 b.2 (n::t)=(q6p b.1 b.2 (-1-n)).getD [n]++q0k b.1 b.2 t:=by simp[q0k]
  rw[e,gM,gAB];cases ho:q6p b.1 b.2 (-1-n)with
  |none=>simp;omega
  |some o=>
   have:=(hb.tm o (q8o ho)).pos;simp;omega
def qay(seen:List Int)(n:Int):Int×List Int:=
 if 0<=n then(n,seen)else if idx (fun x=>decide (x=n)) seen<0 then(-1-(seen.length:Int),seen++[n])else(-1-idx (fun x=>decide (x=n)) seen,seen)
def q3p:List Int->List Int->List Int×List Int
 |seen,[]=>([],seen)
 |seen,n::t=>((qay seen n).1::(q3p (qay seen n).2 t).1,(q3p (qay seen n).2 t).2)
theorem qcl:∀(seen a b:List Int),q3p seen (a++b)=((q3p seen a).1++(q3p (q3p seen a).2 b).1,(q3p (q3p seen a).2 b).2)
 |seen,[],b=>rfl
 |seen,n::a,b=>by
  rw[List.cons_append,q3p,qcl,q3p];rfl
theorem q5g:∀(seen t:List Int),(q3p seen t).1.length=t.length/\(q3p seen t).2.length<=seen.length+t.length/\seen.length<=(q3p seen t).2.length
 |seen,[]=>⟨rfl,by simp[q3p],by simp[q3p]⟩
 |seen,n::t=>by
  have ih:=q5g (qay seen n).2 t
  have hp:(qay seen n).2.length<=seen.length+1/\seen.length<=(qay seen n).2.length:=by
   unfold qay;split
   ·exact⟨by simp,by simp⟩
   split
   ·simp
   ·exact⟨by simp,by simp⟩
  rw[q3p];simp only[gAB];omega
theorem qek:∀(seen t:List Int),∀m∈(q3p seen t).1,(0<=m/\m∈t)\/(m<0 /\ -((q3p seen t).2.length:Int)<=m)
 |seen,[],m,h=>by cases h
 |seen,n::t,m,h=>by
  rw[q3p]at h ⊢;have hl:=(q5g (qay seen n).2 t).2.2;rcases gK.1 h with rfl|h
  ·unfold qay at hl ⊢;split
   ·exact .inl ⟨by assumption,by simp⟩
   rename_i h0;rw[if_neg h0]at hl;split
   ·rename_i h1;rw[if_pos h1]at hl;simp only[gM,List.length_singleton]at hl;exact .inr ⟨by simp only;omega,by simp only;omega⟩
   ·rename_i h1;rw[if_neg h1]at hl;rcases q8s (fun x:Int=>decide (x=n)) seen with⟨h2,_⟩|⟨i,hi,h2,_⟩
    ·omega
    ·simp only at hl ⊢;exact .inr ⟨by omega,by omega⟩
  ·rcases qek (qay seen n).2 t m h with h|h
   ·exact .inl ⟨h.1,gF _ h.2⟩
   ·exact .inr h
def qa5(e:Equation):Equation:=⟨(q3p [] e.left).1,(q3p (q3p [] e.left).2 e.right).1⟩
def qce(e:Equation):List Int:=(q3p (q3p [] e.left).2 e.right).2
theorem qj3{l:List Symbol}:∀(t seen r:List Int)(k:Nat),skip (ar l) k t=some r->∃r',skip (ar l) k (q3p seen t).1=some r'/\r'.length=r.length
 |[],seen,r,k,h=>by
  obtain⟨rfl,rfl⟩:=qll h;exact⟨[],by rw[q4n];rfl,rfl⟩
 |n::t,seen,r,0,h=>by
  rw[q4n]at h;cases h;exact⟨_,q4n _,(q5g seen (n::t)).1⟩
 |n::t,seen,r,k+1,h=>by
  rw[skip]at h;obtain⟨r',h1,h2⟩:=qj3 t (qay seen n).2 r _ h;refine⟨r',?_,h2⟩;rw[q3p,skip]
  have e:ar l (qay seen n).1=ar l n:=by
   unfold qay;split
   ·rfl
   rename_i h0;split
   ·rw[qcp l (by simp only;omega),qcp l (by omega)]
   ·rename_i h1;rw[qcp l (by simp only;omega),qcp l (by omega)]
  rw[e];exact h1
theorem qjr{l:List Symbol}{t seen:List Int}(ht:TermOk l t)(h6:(q3p seen t).2.length<=6):TermOk l (q3p seen t).1/\∀n∈(q3p seen t).1,-6<=n:=by
 have hl:=(q5g seen t).1;obtain⟨r',h1,h2⟩:=qj3 (l:=l) t seen [] 1 ht.skip;have:r'=[]:=gL h2;subst this;refine⟨⟨by rw[hl];exact ht.pos,by rw[hl];exact ht.le,fun n hn=>?_,h1⟩,fun n hn=>?_⟩
 ·rcases qek seen t n hn with⟨q1,q2⟩|⟨q1,q2⟩
  ·exact ht.node n q2
  ·rw[q5n];omega
 ·rcases qek seen t n hn with⟨q1,_⟩|⟨_,q2⟩ <;> omega
theorem qm3{l:List Symbol}{e:Equation}(hl:TermOk l e.left)(hr:TermOk l e.right)(h6:(qce e).length<=6):EqOk l (qa5 e):=by
 have h1:=(q5g (q3p [] e.left).2 e.right).2.2;have h2:(q3p (q3p [] e.left).2 e.right).2.length<=6:=h6;obtain⟨q1,q2⟩:=qjr (seen:=[]) hl (by omega);obtain⟨q3,q4⟩:=qjr (seen:=(q3p [] e.left).2) hr h2;exact⟨q1,q3,q2,q4⟩
open Classical in
noncomputable def qj1(l:List Symbol)(a b:List Int):Bnd ⊕ Int:=if h:∃n r,unif l n ([],[]) [⟨a,b⟩]=some r then Classical.choose (Classical.choose_spec h)else .inr 0
theorem qaq{l:List Symbol}{a b:List Int}(ha:TermOk l a)(hb:TermOk l b):(∃n,unif l n ([],[]) [⟨a,b⟩]=some (qj1 l a b))/\∀x,qj1 l a b=.inl x->UB l x:=by
 obtain⟨n,r,h1,h2⟩:=qu6 (l:=l) 12 _ ([],[]) [⟨a,b⟩] (UB.nil l) (fun p hp=>by rw[gD.1 hp];exact⟨ha,hb⟩) (by simp) (gAI _);have h:∃n r,unif l n ([],[]) [⟨a,b⟩]=some r:=⟨n,r,h1⟩;have e:qj1 l a b=Classical.choose (Classical.choose_spec h):=by unfold qj1;rw[dif_pos h]
 have hs:=Classical.choose_spec (Classical.choose_spec h);rw[<- e]at hs;refine⟨⟨_,hs⟩,fun x hx=>?_⟩
 have:qj1 l a b=r:=by
  have q1:=qin hs (Nat.le_max_left _ n);have q2:=qin h1 (Nat.le_max_right (Classical.choose h) n);rw[q1]at q2;exact Option.some.inj q2
 exact h2 x (this▸hx)
noncomputable def qec(l:List Symbol)(o i:Equation)(p:Nat):EquationResult:=match qj1 l (q37 l o.left p) (q5w i.left 6)with
 |.inr c=>⟨c,⟨[],[]⟩⟩
 |.inl b=>
  if 24<(q0k b.1 b.2 o.right).length\/24<(q0k b.1 b.2 (q5v l o.left p (q5w i.right 6))).length then⟨2,⟨[],[]⟩⟩
  else if 6<(qce ⟨q0k b.1 b.2 o.right,q0k b.1 b.2 (q5v l o.left p (q5w i.right 6))⟩).length then⟨2,⟨[],[]⟩⟩
  else⟨0,qa5 ⟨q0k b.1 b.2 o.right,q0k b.1 b.2 (q5v l o.left p (q5w i.right 6))⟩⟩
def qnj(l:List Symbol){α:Type}(b:Bnd)(p:Pr)(ps:List Pr)(out:Bnd ⊕ Int->α)(next:Bnd->List Pr->α):α:=
 if 24<(q0k b.1 b.2 p.left).length\/24<(q0k b.1 b.2 p.right).length then out (.inr 2)
 else if q0k b.1 b.2 p.left=q0k b.1 b.2 p.right then next b ps
 else if(q0k b.1 b.2 p.left).getD 0 0<0 then
  if(q0k b.1 b.2 p.left).getD 0 0∈q0k b.1 b.2 p.right then out (.inr 4)else match q8p b (-1-(q0k b.1 b.2 p.left).getD 0 0) (q0k b.1 b.2 p.right)with
   |none=>out (.inr 2)
   |some b'=>next b' ps
 else if(q0k b.1 b.2 p.right).getD 0 0<0 then
  if(q0k b.1 b.2 p.right).getD 0 0∈q0k b.1 b.2 p.left then out (.inr 4)else match q8p b (-1-(q0k b.1 b.2 p.right).getD 0 0) (q0k b.1 b.2 p.left)with
   |none=>out (.inr 2)
   |some b'=>next b' ps
 else if(q0k b.1 b.2 p.left).getD 0 0≠(q0k b.1 b.2 p.right).getD 0 0 then out (.inr 4)
 else next b (q87 l (q0k b.1 b.2 p.left) (q0k b.1 b.2 p.right)++ps)
def StackOk(b:Bnd)(ps:List Pr):Prop:=∃new old:List Pr,ps=new++old/\q9b b new<=46/\old.length<=24*b.1.length+1
theorem qhj{l:List Symbol}{b:Bnd}(hb:UB l b):∀{ps:List Pr},(∀p∈ps,TermOk l p.left/\TermOk l p.right)->2*ps.length<=q9b b ps
 |[],_=>by simp[q9b]
 |p::ps,h=>by
  have ih:=qhj hb (ps:=ps) fun q hq=>h q (gF _ hq);have hp:=h p (by simp);have h1:=qao hb.mb p.left;have h2:=qao hb.mb p.right;have:=hp.1.pos;have:=hp.2.pos;simp only[q9b,List.map_cons,List.sum_cons,gAB]at ih ⊢;omega
theorem StackOk.len{l:List Symbol}{b:Bnd}(hb:UB l b){ps:List Pr}(hps:∀p∈ps,TermOk l p.left/\TermOk l p.right)(h:StackOk b ps):ps.length<=400:=by
 obtain⟨new,old,rfl,h1,h2⟩:=h;have:=qhj hb (ps:=new) fun q hq=>hps q (gJ _ hq);have:=hb.le;rw[gM];omega
theorem qkg(b:Bnd)(p:Pr)(ps:List Pr):q9b b (p::ps)=(q0k b.1 b.2 p.left).length+(q0k b.1 b.2 p.right).length+q9b b ps:=by simp[q9b]
theorem qnp(b:Bnd)(ps qs:List Pr):q9b b (ps++qs)=q9b b ps+q9b b qs:=by simp[q9b]
theorem StackOk.tail{b:Bnd}{p:Pr}{ps:List Pr}(h:StackOk b (p::ps)):StackOk b ps:=by
 obtain⟨new,old,e,h1,h2⟩:=h;cases new with
 |nil=>
  rw[List.nil_append]at e;subst e;exact⟨[],ps,rfl,by simp[q9b],by simp at h2;omega⟩
 |cons q new=>
  rw[List.cons_append]at e;injection e with e1 e2;rw[qkg]at h1;exact⟨new,old,e2,by omega,h2⟩
theorem StackOk.bind{l:List Symbol}{b b':Bnd}(hb:UB l b){p:Pr}{ps:List Pr}(hps:∀q∈p::ps,TermOk l q.left/\TermOk l q.right)(h:StackOk b (p::ps))(hl:b'.1.length=b.1.length+1):StackOk b' ps:=by
 obtain⟨new,old,e,h1,h2⟩:=h.tail;have:=qhj hb (ps:=new) fun q hq=>hps q (gF _ (e▸gJ _ hq));exact⟨[],ps,rfl,by simp[q9b],by rw[e,gM];omega⟩
theorem StackOk.args{b:Bnd}{p:Pr}{ps qs:List Pr}(h:StackOk b (p::ps))(hq:q9b b qs+2=(q0k b.1 b.2 p.left).length+(q0k b.1 b.2 p.right).length)(h1:(q0k b.1 b.2 p.left).length<=24)(h2:(q0k b.1 b.2 p.right).length<=24):StackOk b (qs++ps):=by
 obtain⟨new,old,e,h3,h4⟩:=h;cases new with
 |nil=>
  rw[List.nil_append]at e;subst e;exact⟨qs,ps,rfl,by omega,by simp at h4;omega⟩
 |cons q new=>
  rw[List.cons_append]at e;injection e with e1 e2;subst e1;rw[qkg]at h3;exact⟨qs++new,old,by rw[e2,gZ],by rw[qnp];omega,h4⟩
theorem qid{l:List Symbol}{α:Type}{S:Nat->Bnd->List Pr->α}{out:Bnd ⊕ Int->α}(hnil:∀f b,S (f+1) b []=out (.inl b))
 (hstep:∀f b p ps,UB l b->TermOk l p.left->TermOk l p.right->(∀q∈ps,TermOk l q.left/\TermOk l q.right)->ps.length<=400->S (f+1) b (p::ps)=qnj l b p ps out (S f)) :
 ∀(n f:Nat)(b:Bnd)(ps:List Pr)(r:Bnd ⊕ Int),n<=f->UB l b->(∀p∈ps,TermOk l p.left/\TermOk l p.right)->StackOk b ps->unif l n b ps=some r->S f b ps=out r
 |0,f,b,ps,r,hf,hb,hps,hst,h=>by cases h
 |n+1,f,b,ps,r,hf,hb,hps,hst,h=>by
  obtain⟨f,rfl⟩:∃q,f=q+1:=⟨f-1,by omega⟩;have ih:=qid hnil hstep n f;cases ps with
  |nil=>cases h;exact hnil f b
  |cons p ps=>
   have hp:=hps p (by simp);have hps':∀q∈ps,TermOk l q.left/\TermOk l q.right:=fun q hq=>hps q (gF _ hq);have hlen:=hst.len hb hps;rw[hstep f b p ps hb hp.1 hp.2 hps' (by simp at hlen;omega)];unfold qnj;rw[unif]at h;split at h
   ·rename_i c;rw[if_pos c];cases h;rfl
   rename_i c1;rw[if_neg c1];have hx:=hb.applied_ok hp.1 (by omega);have hy:=hb.applied_ok hp.2 (by omega)
   have bindcase:∀(u t:List Int),TermOk l (q0k b.1 b.2 u)->TermOk l (q0k b.1 b.2 t)->(q0k b.1 b.2 u).getD 0 0<0->(q0k b.1 b.2 u).getD 0 0∉q0k b.1 b.2 t->∀b',q8p b (-1-(q0k b.1 b.2 u).getD 0 0) (q0k b.1 b.2 t)=some b'->
    unif l n b' ps=some r->S f b' ps=out r:=fun u t hu ht hneg hno b' hb' hr=>by
    obtain⟨hv,hnb⟩:=hb.head_var hu hneg;obtain⟨q1,q2⟩:=qka hb hv hnb ht (hb.applied_free t) (by rw[show -1-(-1-(q0k b.1 b.2 u).getD 0 0)=(q0k b.1 b.2 u).getD 0 0 by omega];exact hno) hb';exact ih b' ps r (by omega) q1 hps' (hst.bind hb hps q2) hr
   split at h
   ·rename_i c;rw[if_pos c];exact ih b ps r (by omega) hb hps' hst.tail h
   rename_i c2;rw[if_neg c2];split at h
   ·rename_i c3;rw[if_pos c3];split at h
    ·rename_i c;rw[if_pos c];cases h;rfl
    rename_i c4;rw[if_neg c4];cases hb':q8p b (-1-(q0k b.1 b.2 p.left).getD 0 0) (q0k b.1 b.2 p.right)with
    |none=>rw[hb']at h;cases h;rfl
    |some b'=>rw[hb']at h;exact bindcase p.left p.right hx hy c3 c4 b' hb' h
   rename_i c3;rw[if_neg c3];split at h
   ·rename_i c5;rw[if_pos c5];split at h
    ·rename_i c;rw[if_pos c];cases h;rfl
    rename_i c4;rw[if_neg c4];cases hb':q8p b (-1-(q0k b.1 b.2 p.right).getD 0 0) (q0k b.1 b.2 p.left)with
    |none=>rw[hb']at h;cases h;rfl
    |some b'=>rw[hb']at h;exact bindcase p.right p.left hy hx c5 c4 b' hb' h
   rename_i c5;rw[if_neg c5];split at h
   ·rename_i c;rw[if_pos c];cases h;rfl
   rename_i c6;rw[if_neg c6];have ha:=q72 (b:=b) hx hy (hb.applied_free _) (hb.applied_free _) (by simpa using c6)
   exact ih b _ r (by omega) hb (fun q hq=>by
    rcases gO.1 hq with hq|hq
    ·exact qu2 hx hy q hq
    ·exact hps' q hq) (hst.args ha hx.le hy.le) h
theorem qkh(p:Pr)(ps:List Pr):((cells (p::ps)).take ((p::ps).length*2)).drop (1*2)=cells ps:=by
 rw[q8k (p::ps) 2 _ rfl,List.take_length,qa1 _ 2 1 rfl];rfl
def uT:Bnd ⊕ Int->R
 |.inl b=>some (.tup [.agg [slc b.1,slc b.2],.int .i64 0],[])
 |.inr c=>some (.tup [.agg [.sl 1 [],.sl 1 []],.int .i64 c],[])
theorem qap{l:List Symbol}{t:List Int}(h:TermOk l t):(cells t)[0]?=some (.int .i64 (t.getD 0 0)):=by
 have hp:=h.pos;have:=get0 (l:=t) (k:=1) (i:=0) rfl;rw[Nat.zero_mul]at this;rw[this,gA (by omega),q7w (by omega)];rfl
section
variable {l:List Symbol}(ok:SigOk ⟨l⟩)
include ok
theorem qib{b:Bnd}(hb:UB l b){ps:List Pr}{u t:List Int}(hu:TermOk l u)(ht:TermOk l t)(hv:0 <= -1-u.getD 0 0 /\ -1-u.getD 0 0<=11){N:Nat}(hN:20<=N)(L0:St->R) :
 q0i.at5 N L0 N (q0i.st5 (cells ps) (cells u) (cells t) b.2.length (0:Nat) (cells l) (cells b.1) (cells b.2) [.int .i64 (-1-u.getD 0 0)] [slc t])=
  match q8p b (-1-u.getD 0 0) t with
  |none=>uT (.inr 2)
  |some b'=>L0 (q0i.st0 (cells ps) (cells l) (cells b'.1) (cells b'.2)):=by
 have hbl:=hb.le;have hlen:=hb.mb.len;have htl:=ht.le;have hpu:=hu.pos;have hone:=qtg (l:=l) hv ht;have hbo:=hone.ok (by omega);obtain⟨v,hve⟩:∃v,v = -1-u.getD 0 0:=⟨_,rfl⟩;have hwr:IntKind.wrap .i64 (-1-u.getD 0 0)=v:=by rw[q3g (by omega),hve]
 rw[<- hve]at hv hone hbo ⊢
 have loop:∀n k f,k+n=b.2.length->n<f->
  q0i.at5 N L0 f (q0i.st5 (cells ps) (cells u) (cells t) b.2.length (k:Nat) (cells l) (cells b.1) (cells ((b.2.take k).map (q0k [v] [t])++b.2.drop k)) [.int .i64 v] [slc t])=
   if((b.2.drop k).any fun x=>decide (24<(q0k [v] [t] x).length))=true then uT (.inr 2)else
    L0 (q0i.st0 (cells ps) (cells l) (cells (bput (b.1,b.2.map (q0k [v] [t])) v t).1) (cells (bput (b.1,b.2.map (q0k [v] [t])) v t).2)):=by
  intro n;induction n with
  |zero=>
   intro k f hk hf;obtain⟨f,rfl⟩:∃x,f=x+1:=⟨f-1,by omega⟩;obtain rfl:k=b.2.length:=by omega
   rw[List.take_length,gU (gAI _),gAD];have hbind:=q15 b.1 (b.2.map (q0k [v] [t])) v t (by simp;omega) (by omega) (by omega);have hu0:=qap hu;have hpu':(0:Int)<u.length:=by omega
   simp only[q0i.next5,q0i.round5,evz,Nat.reduceLT,gAK,hu0,hwr,qcd (k:=1) (l:=t) rfl,hbind,List.any_nil,Bool.false_eq_true];rw[show inB (0:Int) u.length=true from(q7a 0 u.length).trans (by simp;omega)];rfl
  |succ n ih=>
   intro k f hk hf;obtain⟨f,rfl⟩:∃x,f=x+1:=⟨f-1,by omega⟩;have hkl:k<b.2.length:=by omega
   have hto:=hb.mb.tm _ (gG hkl);have htol:=hto.le;have happ:LIM F.q0o [.agg [.sl 1 [.int .i64 v],.sl 1 [slc t]],slc b.2[k]]=some (slc (q0k [v] [t] b.2[k]),[]):=(q0o [v] [t] hbo b.2[k] (by omega) (hto.range ok)).eq;obtain⟨M,hM⟩:∃M,M=(b.2.take k).map (q0k [v] [t])++b.2.drop k:=⟨_,rfl⟩;have hMl:M.length=b.2.length:=by rw[hM];simp;omega
   have hMk:M[k]?=some b.2[k]:=by
    rw[hM,List.getElem?_append_right (by simp;omega)];simp[Nat.min_eq_left (Nat.le_of_lt hkl),gA hkl]
   have hkM:k<M.length:=by omega
   have hget:(cells M)[k*1]?=some (slc b.2[k]):=by
    rw[get0 (l:=M) (k:=1) (i:=k) rfl,hMk];rfl
   have hkc:k*1<(cells M).length:=by rw[q0p];simp[show Enc.sz (List Int)=1 from rfl];omega
   have hset:(cells M).set (k*1) (slc (q0k [v] [t] b.2[k]))=cells (M.set k (q0k [v] [t] b.2[k])):=by
    have:=qux (l:=M) hkM (q0k [v] [t] b.2[k]);simpa[setCells]using this
   have hnext:M.set k (q0k [v] [t] b.2[k])=(b.2.take (k+1)).map (q0k [v] [t])++b.2.drop (k+1):=by
    have e1:b.2.take (k+1)=b.2.take k++[b.2[k]]:=(gAP hkl).symm;rw[hM,e1,List.map_append,List.set_append_right _ _ (by simp;omega)];rw[show k-((b.2.take k).map (q0k [v] [t])).length=0 by simp;omega,gH hkl,List.set_cons_zero];simp
   rw[<- hM,gH hkl,List.any_cons];have hin:inB (k:Int) ((cells M).length/1)=true:=by rw[q7a];simp[q0p,show Enc.sz (List Int)=1 from rfl];omega
   by_cases h24:24<(q0k [v] [t] b.2[k]).length
   ·have h24':((q0k [v] [t] b.2[k]).length:Int)>24:=by omega
    simp only[q0i.next5,q0i.round5,gR,hget,hin,List.set_set,List.length_set,List.getElem?_set_self hkc,hkc,evz,Nat.reduceLT,hkl,happ,hkM,h24',h24,Bool.true_or];rfl
   ·have h24':¬((q0k [v] [t] b.2[k]).length:Int)>24:=by omega
    simp only[q0i.next5,q0i.round5,gR,hget,hin,List.set_set,List.length_set,List.getElem?_set_self hkc,hkc,evz,Nat.reduceLT,hkl,happ,hkM,h24',h24,Bool.false_or,qcd (k:=1) (l:=q0k [v] [t] b.2[k]) rfl,hset,hnext];rw[q0n (by omega)];exact ih (k+1) f (by omega) (by omega)
 have:=loop b.2.length 0 N (by omega) (by omega);rw[List.take_zero,List.map_nil,List.nil_append,List.drop_zero]at this;rw[this];unfold q8p;by_cases h:(b.2.any fun x=>decide (24<(q0k [v] [t] x).length))=true
 ·rw[if_pos h,if_pos h]
 ·rw[if_neg h,if_neg h]
theorem qoh{b:Bnd}{ps:List Pr}(hps:ps.length<=400){x y:List Int}(hx:TermOk l x)(hy:TermOk l y)(he:x.getD 0 0=y.getD 0 0){N:Nat}(hN:20<=N)(L0:St->R) :
 q0i.at3 N L0 N (q0i.st3 (cells ps) (cells x) (cells y) (q3x l x 0).length (0:Nat) (cells l) (cells b.1) (cells b.2) (cells (ints (q3x l y 0))) (cells (ints (q3x l x 0))) (cells ([]:List Pr)))=
  L0 (q0i.st0 (cells (q87 l x y++ps)) (cells l) (cells b.1) (cells b.2)):=by
 have hl:(q3x l x 0).length=(q3x l y 0).length:=by unfold q3x;rw[q6q,q6q,he]
 have h2:=qbw ok x 0;have hmx:∀q∈q3x l x 0,q<x.length:=fun q hq=>(q6g hx (p:=0) (by have:=hx.pos;omega) hq).2;have hmy:∀q∈q3x l y 0,q<y.length:=fun q hq=>(q6g hy (p:=0) (by have:=hy.pos;omega) hq).2;have hzl:((q3x l x 0).zip (q3x l y 0)).length=(q3x l x 0).length:=by rw[List.length_zip];omega
 have key:=q8d (n:=(q3x l x 0).length) (f:=N) (S:=fun m k (o:List Pr)=>q0i.at3 N L0 m (q0i.st3 (cells ps) (cells x) (cells y) (q3x l x 0).length (k:Nat) (cells l) (cells b.1) (cells b.2) (cells (ints (q3x l y 0))) (cells (ints (q3x l x 0))) (cells o)))
  (st:=fun k=>(q87 l x y).take k) (z:=L0 (q0i.st0 (cells (q87 l x y++ps)) (cells l) (cells b.1) (cells b.2))) (fun m k h=>?_) (fun m=>?_) (by omega)
 ·exact key
 ·have hky:k<(q3x l y 0).length:=by omega
  have hax:(ints (q3x l x 0))[k]?=some (((q3x l x 0)[k]:Nat):Int):=q8t h;have hay:(ints (q3x l y 0))[k]?=some (((q3x l y 0)[k]:Nat):Int):=q8t hky;have hsx:=(q3t ok hx (hmx _ (gG h))).eq;have hsy:=(q3t ok hy (hmy _ (gG hky))).eq;have hal:k<(q87 l x y).length:=by unfold q87;rw[gAG,hzl];exact h
  have hak:(q87 l x y)[k]=⟨q37 l x (q3x l x 0)[k],q37 l y (q3x l y 0)[k]⟩:=by simp[q87]
  have e1:(q87 l x y).take (k+1)=(q87 l x y).take k++[⟨q37 l x (q3x l x 0)[k],q37 l y (q3x l y 0)[k]⟩]:=by rw[<- hak];exact(gAP hal).symm
  have e2:∀(A:List Pr)(p q:List Int),cells A++[slc p,slc q]=cells (A++[⟨p,q⟩]):=fun A p q=>by rw[q3c];rfl
  rw[e1];simp only[q0i.next3,q0i.round3,evz,Nat.reduceLT,h,hky,q4g,hax,hay,q1l,hsx,hsy,e2];rw[q0n (by omega),q1k (q44 (by rw[q0p,q46];simp;omega))]
 ·rw[List.take_of_length_le (by unfold q87;rw[gAG,hzl];exact gAI _)];have hal:(q87 l x y).length<=2:=by unfold q87;rw[gAG,hzl];exact h2
  simp only[q0i.next3,q0i.round3,evz,Nat.reduceLT,gAK,<- q3c];rw[q1k (q44 (by rw[q0p,q0p,q46];omega))]
theorem q0i{a b:List Int}(ha:TermOk l a)(hb:TermOk l b):LIM F.q0i [.agg [slc l],slc a,slc b]=uT (qj1 l a b):=by
 obtain⟨⟨n,hn⟩,_⟩:=qaq ha hb
 have hcall:∀r,q1b prog Ev.A H LIM (n+20) F.q0i [.agg [slc l],slc a,slc b]=uT r->LIM F.q0i [.agg [slc l],slc a,slc b]=uT r:=fun r h=>by
  cases r with
  |inl x=>exact q0v rfl _ h
  |inr x=>exact q0v rfl _ h
 refine hcall _ ((q0i.ev _ _ _ _).trans ?_)
 have loop:=qid (l:=l) (S:=fun f (b:Bnd) (ps:List Pr)=>q0i.at0 (n+20) f (q0i.st0 (cells ps) (cells l) (cells b.1) (cells b.2))) (out:=uT)
  (fun f b=>by
   simp only[q0i.next0,q0i.round0,qdd,List.length_nil];rfl)
  (fun f b p ps hb h1 h2 hps hl=>?_) n (n+20) ([],[]) [⟨a,b⟩] _ (by omega) (UB.nil l) (fun p hp=>by rw[gD.1 hp];exact⟨ha,hb⟩) ⟨[],_,rfl,by simp[q9b],by simp⟩ hn
 ·exact loop
 ·have hbo:=hb.mb.ok (by omega);have hl1:=h1.le;have hl2:=h2.le;have a1:=(q0o b.1 b.2 hbo p.left (by omega) (h1.range ok)).eq;have a2:=(q0o b.1 b.2 hbo p.right (by omega) (h2.range ok)).eq;have g0:(cells (p::ps))[0]?=some (slc p.left):=rfl;have g1:(cells (p::ps))[1]?=some (slc p.right):=rfl;have hpl:((p::ps).length:Int)>0:=by simp
  have hin:inB (0:Int) (p::ps).length=true:=(q7a 0 _).trans (by simp);have hfx:=hb.applied_free p.left;have hfy:=hb.applied_free p.right;have hox:=fun h=>hb.applied_ok h1 h;have hoy:=fun h=>hb.applied_ok h2 h;have hhx:=fun h h'=>hb.head_var (hox h) h';have hhy:=fun h h'=>hb.head_var (hoy h) h';have hb1:decide (0<=(1:Int))=true:=rfl;have hb2:(1:Int)<=((p::ps).length:Int):=by simp only[gAB];omega
  have hlx:=q8m hbo p.left;have hly:=q8m hbo p.right;obtain⟨Z,hZ⟩:∃Z,Z=qnj l b p ps uT (fun(b:Bnd)(ps:List Pr)=>q0i.at0 (n+20) f (q0i.st0 (cells ps) (cells l) (cells b.1) (cells b.2))):=⟨_,rfl⟩;show _=qnj l b p ps uT (fun(b:Bnd)(ps:List Pr)=>q0i.at0 (n+20) f (q0i.st0 (cells ps) (cells l) (cells b.1) (cells b.2)));rw[<- hZ];unfold qnj at hZ;simp only[q0i.next0,q0i.round0,evz,Nat.reduceLT,hpl,hin,g0,g1,a1,a2,hb1,hb2,Int.le_refl,Bool.and_self,qkh];generalize q0k b.1 b.2 p.left=x at *;generalize q0k b.1 b.2 p.right=y at *;by_cases c1:24<x.length
  ·have c1':(x.length:Int)>24:=by omega
   rw[if_pos (.inl c1)]at hZ;simp only[c1',evz,Nat.reduceLT];rw[hZ];rfl
  by_cases c1b:24<y.length
  ·have c1':¬(x.length:Int)>24:=by omega
   have c1b':(y.length:Int)>24:=by omega
   rw[if_pos (.inr c1b)]at hZ;simp only[c1',c1b',evz,Nat.reduceLT];rw[hZ];rfl
  have c1':¬(x.length:Int)>24:=by omega
  have c1b':¬(y.length:Int)>24:=by omega
  have hx:=hox (by omega);have hy:=hoy (by omega);have hxp:=hx.pos;have hyp:=hy.pos;have heq:=(q0t x y ⟨by omega,fun _ _=>trivial⟩).eq;rw[if_neg (by omega)]at hZ;by_cases c2:x=y
  ·rw[if_pos c2]at hZ;rw[decide_eq_true c2]at heq;simp only[c1',c1b',evz,Nat.reduceLT,heq];rw[hZ]
  rw[if_neg c2]at hZ;rw[decide_eq_false c2]at heq;have x0:=qap hx;have y0:=qap hy;have inx:inB (0:Int) x.length=true:=(q7a 0 _).trans (by simp;omega);have iny:inB (0:Int) y.length=true:=(q7a 0 _).trans (by simp;omega);by_cases c3:x.getD 0 0<0
  ·have c3':¬ x.getD 0 0>=0:=by omega
   obtain⟨hv,_⟩:=hhx (by omega) c3;have hct:=(q1p y (x.getD 0 0) (by omega)).eq;have h5:=qib ok hb (ps:=ps) hx hy hv (N:=n+20) (by omega) (q0i.at0 (n+20) f);rw[if_pos c3]at hZ;by_cases c4:x.getD 0 0∈y
   ·rw[if_pos c4]at hZ;rw[decide_eq_true c4]at hct;simp only[c1',c1b',evz,Nat.reduceLT,heq,inx,x0,c3,c3',hct];rw[hZ];rfl
   ·rw[if_neg c4]at hZ;rw[decide_eq_false c4]at hct;simp only[c1',c1b',evz,Nat.reduceLT,heq,inx,x0,c3,c3',hct,q3g (x := -1-x.getD 0 0) (by omega),qcd (k:=1) (l:=y) rfl];rw[hZ];exact h5
  rw[if_neg c3]at hZ;have c3':x.getD 0 0>=0:=by omega
  by_cases c5:y.getD 0 0<0
  ·obtain⟨hv,_⟩:=hhy (by omega) c5;have hct:=(q1p x (y.getD 0 0) (by omega)).eq;have h5:=qib ok hb (ps:=ps) hy hx hv (N:=n+20) (by omega) (q0i.at0 (n+20) f);rw[if_pos c5]at hZ;by_cases c4:y.getD 0 0∈x
   ·rw[if_pos c4]at hZ;rw[decide_eq_true c4]at hct;simp only[c1',c1b',evz,Nat.reduceLT,heq,inx,iny,x0,y0,c3,c3',c5,hct];rw[hZ];rfl
   ·rw[if_neg c4]at hZ;rw[decide_eq_false c4]at hct;simp only[c1',c1b',evz,Nat.reduceLT,heq,inx,iny,x0,y0,c3,c3',c5,hct,q3g (x := -1-y.getD 0 0) (by omega),qcd (k:=1) (l:=x) rfl];rw[hZ];exact h5
  rw[if_neg c5]at hZ;by_cases c6:x.getD 0 0=y.getD 0 0
  ·rw[if_neg (by simpa using c6)]at hZ;have h3:=qoh ok (b:=b) (ps:=ps) hl hx hy c6 (N:=n+20) (by omega) (q0i.at0 (n+20) f);have sx:=(q0z ok hx (p:=0) (by omega)).eq;have sy:=(q0z ok hy (p:=0) (by omega)).eq;simp only[c1',c1b',evz,Nat.reduceLT,heq,inx,iny,x0,y0,c3,c5,c6];rw[c6]at c3;have sx':LIM F.q0z [.agg [slc l],slc x,.int .i64 0]=some (slc (ints (q3x l x 0)),[]):=sx;have sy':LIM F.q0z [.agg [slc l],slc y,.int .i64 0]=some (slc (ints (q3x l y 0)),[]):=sy;simp only[c5,evz,Nat.reduceLT,sx',sy',q4g];rw[hZ];exact h3
  ·rw[if_pos c6]at hZ;simp only[c1',c1b',evz,Nat.reduceLT,heq,inx,iny,x0,y0,c3,c5,c6];rw[hZ];rfl
end
def qqt(b:Bnd)(v:Int)(t:List Int):Bnd ⊕ Int:=if -1-v∈t then .inr 4 else match q8p b v t with
 |none=>.inr 2
 |some b'=>.inl b'
section
variable {l:List Symbol}(ok:SigOk ⟨l⟩)
include ok
theorem q2j{b:Bnd}(hb:UB l b){v:Int}(hv:0<=v/\v<=11)(hnb:v∉b.1){t:List Int}(ht:TermOk l t) :
 LIM F.q2j [.rref [slc b.1,slc b.2] 0,.int .i64 v,slc t]=uT (qqt b v t):=by
 have hcall:∀r,q1b prog Ev.A H LIM 20 F.q2j [.rref [slc b.1,slc b.2] 0,.int .i64 v,slc t]=uT r->LIM F.q2j [.rref [slc b.1,slc b.2] 0,.int .i64 v,slc t]=uT r:=fun r h=>by
  cases r with
  |inl x=>exact q0v rfl _ h
  |inr x=>exact q0v rfl _ h
 have hbl:=hb.le;have hlen:=hb.mb.len;have htl:=ht.le;have hone:=qtg (l:=l) hv ht;have hbo:=hone.ok (by omega);refine hcall _ ((q2j.ev _ _ _ _ _).trans ?_);have hc:=(q22 t (-1-v) (by omega)).eq;have hi:=(q4o b.1 (by omega)).eq;unfold qqt;by_cases hm : -1-v∈t
 ·have h0:((t.count (-1-v):Nat):Int)>0:=by have:=List.count_pos_iff.2 hm;omega
  rw[if_pos hm];simp only[evz,Nat.reduceLT,q3g (x := -1-v) (by omega),hc,h0];rfl
 have h0:¬((t.count (-1-v):Nat):Int)>0:=by rw[List.count_eq_zero.2 hm];omega
 rw[if_neg hm];simp only[evz,Nat.reduceLT,q3g (x := -1-v) (by omega),hc,h0,hi]
 have loop:∀n k f,k+n=b.2.length->n<f->(∀x∈b.2.take k,(q0k [v] [t] x).length<=24)->
  q2j.at0 20 f (q2j.st0 (cells b.1) (cells b.2) v (cells t) (k:Nat) [.int .i64 v] [slc t] (cells b.1) (cells ((b.2.take k).map (q0k [v] [t]))))=
   if((b.2.drop k).any fun x=>decide (24<(q0k [v] [t] x).length))=true then uT (.inr 2)else uT (.inl (bput (b.1,b.2.map (q0k [v] [t])) v t)):=by
  intro n;induction n with
  |zero=>
   intro k f hk hf hq;obtain⟨f,rfl⟩:∃x,f=x+1:=⟨f-1,by omega⟩;obtain rfl:k=b.2.length:=by omega
   rw[List.take_length]at hq ⊢;rw[gU (gAI _)]
   have hw:=(q24 b.1 (b.2.map (q0k [v] [t])) v t (by simp;omega) (by omega) (by omega) hnb (fun x hx=>by
    obtain⟨y,hy,rfl⟩:=List.mem_map.1 hx;have:=hq y hy;omega)).eq
   simp only[q2j.next0,q2j.round0,evz,Nat.reduceLT,gAK,hw,List.any_nil,Bool.false_eq_true,if_false];rfl
  |succ n ih=>
   intro k f hk hf hq;obtain⟨f,rfl⟩:∃x,f=x+1:=⟨f-1,by omega⟩;have hkl:k<b.2.length:=by omega
   have hto:=hb.mb.tm _ (gG hkl);have htol:=hto.le;have happ:LIM F.q1f [.rref [.sl 1 [.int .i64 v],.sl 1 [slc t]] 0,slc b.2[k]]=some (slc (q0k [v] [t] b.2[k]),[]):=(q1f [v] [t] hbo b.2[k] (by omega) (hto.range ok)).eq;have hg:b.2[k]?=some b.2[k]:=gA hkl;have he:∀x:List Int,(enc x)[0]?=some (slc x):=fun _=>rfl;rw[gH hkl,List.any_cons];have e1:(b.2.take (k+1)).map (q0k [v] [t])=(b.2.take k).map (q0k [v] [t])++[q0k [v] [t] b.2[k]]:=by rw[<- gAP hkl,List.map_append];rfl
   by_cases h24:24<(q0k [v] [t] b.2[k]).length
   ·have h24':((q0k [v] [t] b.2[k]).length:Int)>24:=by omega
    simp only[q2j.next0,q2j.round0,evz,Nat.reduceLT,hkl,hg,he,happ,h24',h24,Bool.true_or];rfl
   ·have h24':¬((q0k [v] [t] b.2[k]).length:Int)>24:=by omega
    simp only[q2j.next0,q2j.round0,evz,Nat.reduceLT,hkl,hg,he,happ,h24',h24,Bool.false_or];rw[q0n (by omega),q1k (q44 (by rw[q0p,show Enc.sz (List Int)=1 from rfl];simp;omega))]
    have:=ih (k+1) f (by omega) (by omega) (fun x hx=>by
     rw[<- gAP hkl]at hx;rcases gO.1 hx with hx|hx
     ·exact hq x hx
     ·rw[gD.1 hx];omega)
    rw[e1,q3c]at this;exact this
 have:=loop b.2.length 0 20 (by omega) (by omega) (by simp);rw[List.take_zero,List.map_nil,List.drop_zero]at this;refine this.trans ?_;unfold q8p;by_cases h:(b.2.any fun x=>decide (24<(q0k [v] [t] x).length))=true
 ·rw[if_pos h,if_pos h]
 ·rw[if_neg h,if_neg h]
theorem q3b{x y:List Int}(hx:TermOk l x)(hy:TermOk l y)(h0:0<=x.getD 0 0)(he:x.getD 0 0=y.getD 0 0):Call F.q3b [.rref [slc l] 0,slc x,slc y] (slc (q87 l x y)):=by
 have hlx:=hx.le;have hly:=hy.le;have hxp:=hx.pos;have hyp:=hy.pos;have hdx:x.getD 0 0=x[0]:=q7w (by omega);have hdy:y.getD 0 0=y[0]:=q7w (by omega);have har:=qpw (l:=l) ok x[0];have hnode:=q5n.1 (hx.node _ (gG (n:=0) (by omega)));have hls:l.length<=6:=ok.le;obtain⟨u,hu⟩:∃u:Nat,x[0]=u:=⟨x[0].toNat,by omega⟩;have hul:u<l.length:=by omega
 have hare:(l[u]).arity=(ar l x[0]:Nat):=by
  have:=qtp ok (n:=x[0]) (by omega) (by rw[hu];simpa using hul);simpa[hu]using this
 have hin:inB (0:Int) x.length=true:=(q7a 0 _).trans (by simp;omega);have hx0:=qap hx;rw[hdx,hu]at hx0;have hlu:l[u]?=some l[u]:=gA hul;refine q0v rfl 4 ((q3b.ev _ _ _ _).trans ?_)
 have loop:∀n k q r f (out:List Pr) rx ry,k+n=ar l x[0]->n<f->skip (ar l) n (x.drop q)=some rx->skip (ar l) n (y.drop r)=some ry->out.length=k->
  q3b.at0 4 f (q3b.st0 (cells l) (cells x) (cells y) (q:Nat) (r:Nat) (k:Nat) (cells out))=
   some (slc (out++((q7x l x n q).zip (q7x l y n r)).map fun p=>(⟨q37 l x p.1,q37 l y p.2⟩:Pr)),[]):=by
  intro n;induction n with
  |zero=>
   intro k q r f out rx ry hk hf h1 h2 ho;obtain⟨f,rfl⟩:∃x,f=x+1:=⟨f-1,by omega⟩;have:¬ k<ar l x[0]:=by omega
   rw[hu]at this;simp only[q3b.next0,q3b.round0,evz,Nat.reduceLT,hin,hx0,hlu,hul,q4b,hare,q7x,List.zip_nil_left,List.map_nil,gAD,hu,this]
  |succ n ih=>
   intro k q r f out rx ry hk hf h1 h2 ho;obtain⟨f,rfl⟩:∃x,f=x+1:=⟨f-1,by omega⟩;obtain⟨a1,a2,a3,a4⟩:=qdr h1;obtain⟨b1,b2,b3,b4⟩:=qdr h2;have hlt:k<ar l x[0]:=by omega
   rw[hu]at hlt;have sx:=(q6w ok hx a1).eq;have sy:=(q6w ok hy b1).eq;have ex:q+(q37 l x q).length=q5k l x q:=by unfold q37;simp;omega
   have ey:r+(q37 l y r).length=q5k l y r:=by unfold q37;simp;omega
   have ic:=ih (k+1) (q5k l x q) (q5k l y r) f (out++[⟨q37 l x q,q37 l y r⟩]) rx ry (by omega) (by omega) a2 b2 (by simp[ho]);simp only[q3b.next0,q3b.round0,evz,Nat.reduceLT,hin,hx0,hlu,hul,q4b,hare,hu,hlt,sx,sy];rw[q3g (x:=(q:Int)+_) (by omega),q3g (x:=(r:Int)+_) (by omega),q0n (by omega),q1k (q44 (by rw[q0p,q46];omega))];rw[show(q:Int)+((q37 l x q).length:Nat)=(q5k l x q:Nat) by omega,show(r:Int)+((q37 l y r).length:Nat)=(q5k l y r:Nat) by omega];rw[q3c]at ic;refine Eq.trans ?_ (ic.trans ?_)
   ·rfl
   ·rw[q7x,q7x,List.zip_cons_cons,List.map_cons,gZ];rfl
 obtain⟨rx,hrx⟩:=qbx hx (p:=0) (by omega);obtain⟨ry,hry⟩:=qbx hy (p:=0) (by omega);have hay:ar l y[0]=ar l x[0]:=by rw[<- hdx,<- hdy,he]
 rw[hay]at hry;have:=loop (ar l x[0]) 0 1 1 4 [] rx ry (by omega) (by omega) hrx hry rfl;unfold q87 q3x;rw[hdx,hdy,hay];exact this
theorem q1t{a b:List Int}(ha:TermOk l a)(hb:TermOk l b):LIM F.q1t [.rref [slc l] 0,slc a,slc b]=uT (qj1 l a b):=by
 obtain⟨⟨n,hn⟩,_⟩:=qaq ha hb;have hal:=ha.le;have hbl:=hb.le
 have hcall:∀r,q1b prog Ev.A H LIM (n+20) F.q1t [.rref [slc l] 0,slc a,slc b]=uT r->LIM F.q1t [.rref [slc l] 0,slc a,slc b]=uT r:=fun r h=>by
  cases r with
  |inl x=>exact q0v rfl _ h
  |inr x=>exact q0v rfl _ h
 refine hcall _ ((q1t.ev _ _ _ _).trans ?_);have i1:=(q4o a (by omega)).eq;have i2:=(q4o b (by omega)).eq;simp only[evz,Nat.reduceLT,i1,i2]
 have loop:=qid (l:=l) (S:=fun f (b:Bnd) (ps:List Pr)=>q1t.at0 (n+20) f (q1t.st0 (cells l) (cells ps) (cells b.1) (cells b.2))) (out:=uT)
  (fun f b=>by
   simp only[q1t.next0,q1t.round0,qdd,List.length_nil];rfl)
  (fun f b p ps hb h1 h2 hps hl=>?_) n (n+20) ([],[]) [⟨a,b⟩] _ (by omega) (UB.nil l) (fun p hp=>by rw[gD.1 hp];exact⟨ha,hb⟩) ⟨[],_,rfl,by simp[q9b],by simp⟩ hn
 ·exact loop
 ·have hbo:=hb.mb.ok (by omega);have hl1:=h1.le;have hl2:=h2.le;have a1:=(q1f b.1 b.2 hbo p.left (by omega) (h1.range ok)).eq;have a2:=(q1f b.1 b.2 hbo p.right (by omega) (h2.range ok)).eq;have g0:(cells (p::ps))[0]?=some (slc p.left):=rfl;have g1:(cells (p::ps))[1]?=some (slc p.right):=rfl;have hpl:((p::ps).length:Int)>0:=by simp
  have hin:inB (0:Int) (p::ps).length=true:=(q7a 0 _).trans (by simp);have hfx:=hb.applied_free p.left;have hfy:=hb.applied_free p.right;have hox:=fun h=>hb.applied_ok h1 h;have hoy:=fun h=>hb.applied_ok h2 h;have hhx:=fun h h'=>hb.head_var (hox h) h';have hhy:=fun h h'=>hb.head_var (hoy h) h';have hb1:decide (0<=(1:Int))=true:=rfl;have hb2:(1:Int)<=((p::ps).length:Int):=by simp only[gAB];omega
  have hlx:=q8m hbo p.left;have hly:=q8m hbo p.right;obtain⟨Z,hZ⟩:∃Z,Z=qnj l b p ps uT (fun(b:Bnd)(ps:List Pr)=>q1t.at0 (n+20) f (q1t.st0 (cells l) (cells ps) (cells b.1) (cells b.2))):=⟨_,rfl⟩;show _=qnj l b p ps uT (fun(b:Bnd)(ps:List Pr)=>q1t.at0 (n+20) f (q1t.st0 (cells l) (cells ps) (cells b.1) (cells b.2)));rw[<- hZ];unfold qnj at hZ;simp only[q1t.next0,q1t.round0,evz,Nat.reduceLT,hpl,hin,g0,g1,a1,a2,hb1,hb2,Int.le_refl,Bool.and_self,qkh];generalize q0k b.1 b.2 p.left=x at *;generalize q0k b.1 b.2 p.right=y at *;by_cases c1:24<x.length
  ·have c1':(x.length:Int)>24:=by omega
   rw[if_pos (.inl c1)]at hZ;simp only[c1',evz,Nat.reduceLT];rw[hZ];rfl
  by_cases c1b:24<y.length
  ·have c1':¬(x.length:Int)>24:=by omega
   have c1b':(y.length:Int)>24:=by omega
   rw[if_pos (.inr c1b)]at hZ;simp only[c1',c1b',evz,Nat.reduceLT];rw[hZ];rfl
  have c1':¬(x.length:Int)>24:=by omega
  have c1b':¬(y.length:Int)>24:=by omega
  have hx:=hox (by omega);have hy:=hoy (by omega);have hxp:=hx.pos;have hyp:=hy.pos;have heq:=(q1r x y ⟨by omega,fun _ _=>trivial⟩).eq;rw[if_neg (by omega)]at hZ;by_cases c2:x=y
  ·rw[if_pos c2]at hZ;rw[decide_eq_true c2]at heq;simp only[c1',c1b',evz,Nat.reduceLT,heq];rw[hZ]
  rw[if_neg c2]at hZ;rw[decide_eq_false c2]at heq;have x0:=qap hx;have y0:=qap hy;have inx:inB (0:Int) x.length=true:=(q7a 0 _).trans (by simp;omega);have iny:inB (0:Int) y.length=true:=(q7a 0 _).trans (by simp;omega);by_cases c3:x.getD 0 0<0
  ·obtain⟨hv,hnb⟩:=hhx (by omega) c3;have h5:=q2j ok hb hv hnb hy;unfold qqt at h5;rw[show -1-(-1-x.getD 0 0)=x.getD 0 0 by omega]at h5;rw[if_pos c3]at hZ;by_cases c4:x.getD 0 0∈y
   ·rw[if_pos c4]at hZ h5;simp only[c1',c1b',evz,Nat.reduceLT,heq,inx,x0,c3,q3g (x := -1-x.getD 0 0) (by omega),h5];rw[hZ];rfl
   ·rw[if_neg c4]at hZ h5;simp only[c1',c1b',evz,Nat.reduceLT,heq,inx,x0,c3,q3g (x := -1-x.getD 0 0) (by omega),h5];rw[hZ];cases q8p b (-1-x.getD 0 0) y with
    |none=>rfl
    |some b'=>rfl
  rw[if_neg c3]at hZ;by_cases c5:y.getD 0 0<0
  ·obtain⟨hv,hnb⟩:=hhy (by omega) c5;have h5:=q2j ok hb hv hnb hx;unfold qqt at h5;rw[show -1-(-1-y.getD 0 0)=y.getD 0 0 by omega]at h5;rw[if_pos c5]at hZ;by_cases c4:y.getD 0 0∈x
   ·rw[if_pos c4]at hZ h5;simp only[c1',c1b',evz,Nat.reduceLT,heq,inx,iny,x0,y0,c3,c5,q3g (x := -1-y.getD 0 0) (by omega),h5];rw[hZ];rfl
   ·rw[if_neg c4]at hZ h5;simp only[c1',c1b',evz,Nat.reduceLT,heq,inx,iny,x0,y0,c3,c5,q3g (x := -1-y.getD 0 0) (by omega),h5];rw[hZ];cases q8p b (-1-y.getD 0 0) x with
    |none=>rfl
    |some b'=>rfl
  rw[if_neg c5]at hZ;by_cases c6:x.getD 0 0=y.getD 0 0
  ·rw[if_neg (by simpa using c6)]at hZ;have h3:=(q3b ok hx hy (by omega) c6).eq
   have hal:(q87 l x y).length<=2:=by
    have:=qbw ok x 0;unfold q87;rw[gAG,List.length_zip];omega
   rw[c6]at x0 c3;simp only[c1',c1b',evz,Nat.reduceLT,heq,inx,iny,x0,y0,c3,c5,eq_self,h3];rw[q1k (q44 (by rw[q0p,q0p,q46];omega)),<- q3c];rw[hZ]
  ·rw[if_pos c6]at hZ;simp only[c1',c1b',evz,Nat.reduceLT,heq,inx,iny,x0,y0,c3,c5,c6];rw[hZ];rfl
end
theorem q64(t:List Int)(b:Int):(q5w t b).length=t.length:=by simp[q5w]
theorem qj0{t:List Int}{b:Int}{k:Nat}(h:k<t.length):q5w (t.take (k+1)) b=q5w (t.take k) b++[if t[k]<0 then t[k]-b else t[k]]:=by
 rw[<- gAP h];unfold q5w;rw[List.map_append];rfl
theorem q29(t:List Int)(ht:t.length<=4096)(hr:∀n∈t,-4611686018427387904<=n):Call F.q29 [slc t,.int .i64 6] (slc (q5w t 6)):=by
 refine q0v rfl (t.length+1) ((q29.ev _ _ _).trans ?_);simp only[evz,Nat.reduceLT,(q2c t (by omega)).eq]
 have key:=q8d (n:=t.length) (f:=t.length+1) (S:=fun m k (o:List Int)=>q29.at0 (t.length+1) m (q29.st0 6 t.length (k:Nat) (cells o)))
  (st:=fun k=>q5w (t.take k) 6++t.drop k) (z:=some (slc (q5w t 6),[])) (fun m k h=>?_) (fun m=>?_) (by omega)
 ·exact key
 ·have hn:=hr t[k] (gG h)
  have e1:q5w (t.take (k+1)) 6++t.drop (k+1)=(q5w (t.take k) 6++t.drop k).set k (if t[k]<0 then t[k]-6 else t[k]):=by
   rw[qj0 h,List.set_append_right _ _ (by rw[q64];simp;omega),gH h];rw[show k-(q5w (t.take k) 6).length=0 by rw[q64];simp;omega,List.set_cons_zero];simp
  obtain⟨M,hM⟩:∃M,M=q5w (t.take k) 6++t.drop k:=⟨_,rfl⟩;have hMl:M.length=t.length:=by rw[hM];simp[q64];omega
  have hMk:M[k]?=some t[k]:=by
   rw[hM,List.getElem?_append_right (by rw[q64];simp;omega)];simp[q64,Nat.min_eq_left (Nat.le_of_lt h),gA h]
  rw[e1,<- hM];have hkM:k<M.length:=by omega
  have hkc:k*1+1<=(cells M).length:=by rw[q0p,q3n];omega
  simp only[q29.next0,q29.round0,evz,Nat.reduceLT,h,hMk,hkM,q1l];by_cases hneg:t[k]<0
  ·rw[q3g (x:=t[k]-6) (by omega)];have:=qae hkM (t[k]-6);simp only[hneg,evz,Nat.reduceLT,this,hkc];rw[q0n (by omega)]
  ·have hs:M.set k t[k]=M:=qh2 hMk;simp only[hneg,evz,Nat.reduceLT,hs];rw[q0n (by omega)]
 ·rw[List.take_length,gU (gAI _),gAD];simp only[q29.next0,q29.round0,evz,Nat.reduceLT,gAK]
theorem q2a(t:List Int)(ht:t.length<=4096)(hr:∀n∈t,-4611686018427387904<=n):Call F.q2a [slc t,.int .i64 6] (slc (q5w t 6)):=by
 refine q0v rfl (t.length+1) ((q2a.ev _ _ _).trans ?_)
 have key:=q8d (n:=t.length) (f:=t.length+1) (S:=fun m k (o:List Int)=>q2a.at0 (t.length+1) m (q2a.st0 (cells t) 6 (k:Nat) (cells o)))
  (st:=fun k=>q5w (t.take k) 6) (z:=some (slc (q5w t 6),[])) (fun m k h=>?_) (fun m=>?_) (by omega)
 ·exact key
 ·have hn:=hr t[k] (gG h);have hlk:t[k]?=some t[k]:=gA h;have hb:Nat.ble (((cells (q5w (t.take k) 6)).length+1)*8) (140737488355328*1)=true:=q44 (by rw[q0p,q3n,q64];simp;omega);rw[qj0 h];simp only[q2a.next0,q2a.round0,evz,Nat.reduceLT,h,hlk,q1l];by_cases hneg:t[k]<0
  ·rw[q3g (x:=t[k]-6) (by omega)];simp only[hneg,evz,Nat.reduceLT,q2f];rw[q0n (by omega),q1k hb]
  ·simp only[hneg,evz,Nat.reduceLT,q2f];rw[q0n (by omega),q1k hb]
 ·rw[List.take_length];simp only[q2a.next0,q2a.round0,evz,Nat.reduceLT,gAK]
theorem qb0{s:List Int}{n:Int}:idx (fun x=>decide (x=n)) s<0<->n∉s:=by
 rcases q8s (fun x:Int=>decide (x=n)) s with⟨h1,h2⟩|⟨i,hi,h1,h2,_⟩
 ·exact⟨fun _ hm=>by have:=h2 n hm;simp at this,fun _=>by omega⟩
 ·exact⟨fun h=>by omega,fun h=>absurd ((show s[i]=n by simpa using h2)▸gG hi) h⟩
theorem qqp{s:List Int}{n:Int}(h:n∉s):idx (fun x=>decide (x=n)) (s++[n])=s.length:=by
 unfold idx
 have:(s++[n]).findIdx? (fun x=>decide (x=n))=some s.length:=by
  rw[List.findIdx?_append]
  have h0:s.findIdx? (fun x=>decide (x=n))=none:=by
   rw[List.findIdx?_eq_none_iff];intro x hx;have:x≠n:=fun e=>h (e▸hx);simpa using this
  rw[h0];simp[List.findIdx?_cons]
 rw[this]
theorem qhn(s:List Int)(n:Int) : -1<=idx (fun x=>decide (x=n)) s/\idx (fun x=>decide (x=n)) s<s.length+1:=by
 rcases q8s (fun x:Int=>decide (x=n)) s with⟨h1,_⟩|⟨i,hi,h1,_,_⟩ <;> omega
def plSt(seen t:List Int)(k:Nat):List Int×List Int:=((q3p seen (t.take k)).1++t.drop k,(q3p seen (t.take k)).2)
theorem qlt(seen t:List Int){k:Nat}(hk:k<=t.length):(plSt seen t k).1.length=t.length:=by
 have:=(q5g seen (t.take k)).1;unfold plSt;simp only[gM,this];simp;omega
theorem qh1(seen t:List Int){k:Nat}(h:k<t.length):(plSt seen t k).1[k]?=some t[k]:=by
 have hl:=(q5g seen (t.take k)).1;rw[gAF,Nat.min_eq_left (Nat.le_of_lt h)]at hl;unfold plSt;simp only;rw[List.getElem?_append_right (by omega),hl,Nat.sub_self,gH h];rfl
theorem qj7(seen t:List Int)(k:Nat):(plSt seen t k).2.length<=seen.length+k:=by
 have:=(q5g seen (t.take k)).2.1;unfold plSt;simp at this ⊢;omega
theorem qjb(seen t:List Int){k:Nat}(h:k<t.length):plSt seen t (k+1)=((plSt seen t k).1.set k (qay (plSt seen t k).2 t[k]).1,(qay (plSt seen t k).2 t[k]).2):=by
 have hl:=(q5g seen (t.take k)).1;rw[gAF,Nat.min_eq_left (Nat.le_of_lt h)]at hl;unfold plSt;simp only;rw[<- gAP h,qcl,List.set_append_right _ _ (by omega),hl,Nat.sub_self,gH h,List.set_cons_zero];simp[q3p]
theorem qhx(seen t:List Int):plSt seen t 0=(t,seen):=by simp[plSt,q3p]
theorem qlh(seen t:List Int):plSt seen t t.length=q3p seen t:=by simp[plSt]
theorem ql3(seen t:List Int){k:Nat}(h:k<t.length)(h0:0<=t[k]):plSt seen t (k+1)=plSt seen t k:=by
 have e:=qjb seen t h;have:qay (plSt seen t k).2 t[k]=(t[k],(plSt seen t k).2):=by unfold qay;rw[if_pos h0]
 rw[e,this,qh2 (qh1 seen t h)]
theorem qla(seen t:List Int){k:Nat}(h:k<t.length)(h0:¬ 0<=t[k])(hn:t[k]∉(plSt seen t k).2) :
 plSt seen t (k+1)=((plSt seen t k).1.set k (-1-((plSt seen t k).2.length:Int)),(plSt seen t k).2++[t[k]]):=by
 rw[qjb seen t h];unfold qay;rw[if_neg h0,if_pos (qb0.2 hn)]
theorem ql5(seen t:List Int){k:Nat}(h:k<t.length)(h0:¬ 0<=t[k])(hn:t[k]∈(plSt seen t k).2) :
 plSt seen t (k+1)=((plSt seen t k).1.set k (-1-idx (fun x=>decide (x=t[k])) (plSt seen t k).2),(plSt seen t k).2):=by
 rw[qjb seen t h];unfold qay;rw[if_neg h0,if_neg (fun e=>qb0.1 e hn)]
theorem qp4(seen t r:List Int)(hs:seen.length<=4096)(ht:t.length<=4096){N:Nat}(hN:t.length<N)(L0:St->R) :
 q0e.at2 N L0 N (q0e.st2 2 (0:Nat) t.length (0:Nat) (cells seen) (cells t) (cells r))=L0 (q0e.st0 2 (1:Nat) (cells (q3p seen t).2) (cells (q3p seen t).1) (cells r)):=by
 have key:=q8d (n:=t.length) (f:=N) (S:=fun m k (o:List Int×List Int)=>q0e.at2 N L0 m (q0e.st2 2 (0:Nat) t.length (k:Nat) (cells o.2) (cells o.1) (cells r)))
  (st:=fun k=>plSt seen t k) (z:=L0 (q0e.st0 2 (1:Nat) (cells (q3p seen t).2) (cells (q3p seen t).1) (cells r))) (fun m k h=>?_) (fun m=>?_) (by omega)
 ·rw[qhx]at key;exact key
 ·have hl:=qlt seen t (Nat.le_of_lt h);have hg:=qh1 seen t h;have hsl:=qj7 seen t k;have hp:=ql3 seen t h;have hnw:=qla seen t h;have hod:=ql5 seen t h;generalize plSt seen t (k+1)=P at *;generalize plSt seen t k=Q at *;obtain⟨M,s⟩:=Q;simp only at hl hg hsl hp hnw hod;have hkM:k<M.length:=by omega
  have hkc:k*1+1<=(cells M).length:=by rw[q0p,q3n];omega
  have hct:=(q1p s t[k] (by omega)).eq;have hix:=(q0f s t[k] (by omega)).eq;have hix':=(q0f (s++[t[k]]) t[k] (by simp;omega)).eq;have hrg:=qhn s t[k];by_cases h0:0<=t[k]
  ·have h0':t[k]>=0:=h0;rw[hp h0];simp only[q0e.next2,q0e.round2,evz,Nat.reduceLT,h,hg,hkM,q1l,h0'];rw[q0n (by omega)]
  ·have h0':¬ t[k]>=0:=h0;by_cases hm:t[k]∈s
   ·rw[hod h0 hm];rw[decide_eq_true hm]at hct;have:=qae hkM (-1-idx (fun x=>decide (x=t[k])) s);simp only[q0e.next2,q0e.round2,evz,Nat.reduceLT,h,hg,hkM,q1l,h0',hct,hix,q3g (x := -1-idx (fun x=>decide (x=t[k])) s) (by omega),this,hkc];rw[q0n (by omega)]
   ·rw[hnw h0 hm];rw[decide_eq_false hm]at hct;rw[qqp hm]at hix';have:=qae hkM (-1-(s.length:Int));simp only[q0e.next2,q0e.round2,evz,Nat.reduceLT,h,hg,hkM,q1l,h0',hct,q2f,hix',q3g (x := -1-(s.length:Int)) (by omega),this,hkc];rw[q0n (by omega),q1k (q44 (by rw[q0p,q3n];omega))]
 ·rw[qlh];simp only[q0e.next2,q0e.round2,evz,Nat.reduceLT,gAK];rw[q0n (by omega)]
theorem qph(seen t r:List Int)(hs:seen.length<=4096)(ht:t.length<=4096){N:Nat}(hN:t.length<N)(L0:St->R) :
 q0e.at1002 N L0 N (q0e.st1002 2 (1:Nat) t.length (0:Nat) (cells seen) (cells r) (cells t))=L0 (q0e.st0 2 (2:Nat) (cells (q3p seen t).2) (cells r) (cells (q3p seen t).1)):=by
 have key:=q8d (n:=t.length) (f:=N) (S:=fun m k (o:List Int×List Int)=>q0e.at1002 N L0 m (q0e.st1002 2 (1:Nat) t.length (k:Nat) (cells o.2) (cells r) (cells o.1)))
  (st:=fun k=>plSt seen t k) (z:=L0 (q0e.st0 2 (2:Nat) (cells (q3p seen t).2) (cells r) (cells (q3p seen t).1))) (fun m k h=>?_) (fun m=>?_) (by omega)
 ·rw[qhx]at key;exact key
 ·have hl:=qlt seen t (Nat.le_of_lt h);have hg:=qh1 seen t h;have hsl:=qj7 seen t k;have hp:=ql3 seen t h;have hnw:=qla seen t h;have hod:=ql5 seen t h;generalize plSt seen t (k+1)=P at *;generalize plSt seen t k=Q at *;obtain⟨M,s⟩:=Q;simp only at hl hg hsl hp hnw hod;have hkM:k<M.length:=by omega
  have hkc:k*1+1<=(cells M).length:=by rw[q0p,q3n];omega
  have hct:=(q1p s t[k] (by omega)).eq;have hix:=(q0f s t[k] (by omega)).eq;have hix':=(q0f (s++[t[k]]) t[k] (by simp;omega)).eq;have hrg:=qhn s t[k];by_cases h0:0<=t[k]
  ·have h0':t[k]>=0:=h0;rw[hp h0];simp only[q0e.next1002,q0e.round1002,evz,Nat.reduceLT,h,hg,hkM,q1l,h0'];rw[q0n (by omega)]
  ·have h0':¬ t[k]>=0:=h0;by_cases hm:t[k]∈s
   ·rw[hod h0 hm];rw[decide_eq_true hm]at hct;have:=qae hkM (-1-idx (fun x=>decide (x=t[k])) s);simp only[q0e.next1002,q0e.round1002,evz,Nat.reduceLT,h,hg,hkM,q1l,h0',hct,hix,q3g (x := -1-idx (fun x=>decide (x=t[k])) s) (by omega),this,hkc];rw[q0n (by omega)]
   ·rw[hnw h0 hm];rw[decide_eq_false hm]at hct;rw[qqp hm]at hix';have:=qae hkM (-1-(s.length:Int));simp only[q0e.next1002,q0e.round1002,evz,Nat.reduceLT,h,hg,hkM,q1l,h0',hct,q2f,hix',q3g (x := -1-(s.length:Int)) (by omega),this,hkc];rw[q0n (by omega),q1k (q44 (by rw[q0p,q3n];omega))]
 ·rw[qlh];simp only[q0e.next1002,q0e.round1002,evz,Nat.reduceLT,gAK];rw[q0n (by omega)]
theorem qq1(a b:List Int)(ha:a.length<=1024){N:Nat}(hN:1100<=N)(f:Nat) :
 q0e.at0 N (f+1) (q0e.st0 2 (0:Int) [] (cells a) (cells b))=q0e.at0 N f (q0e.st0 2 (1:Nat) (cells (q3p [] a).2) (cells (q3p [] a).1) (cells b)):=by
 have h2:=qp4 [] a b (by simp) (by omega) (N:=N) (by omega) (q0e.at0 N f);rw[show((0:Nat):Int)=0 from rfl,qdd]at h2;rw[q0e.next0,q0e.round0];simp only[q5m,q3n];rw[q1k (by decide),q1k (by decide),q1k (by decide)];exact h2
theorem qpy(seen a b:List Int)(hs:seen.length<=4096)(hb:b.length<=1024){N:Nat}(hN:1100<=N)(f:Nat) :
 q0e.at0 N (f+1) (q0e.st0 2 (1:Nat) (cells seen) (cells a) (cells b))=q0e.at0 N f (q0e.st0 2 (2:Nat) (cells (q3p seen b).2) (cells a) (cells (q3p seen b).1)):=by
 have h3:=qph seen b a hs (by omega) (N:=N) (by omega) (q0e.at0 N f);rw[show((0:Nat):Int)=0 from rfl]at h3;rw[q0e.next0,q0e.round0];simp only[q5m,q3n];rw[q1k (by decide),q1k (by decide),qcf (by decide),q1k (by decide)];exact h3
theorem qp7(s a b:List Int){N:Nat}(f:Nat):q0e.at0 N (f+1) (q0e.st0 2 (2:Nat) (cells s) (cells a) (cells b))=some (.tup [.agg [slc a,slc b],.bool (decide (s.length<=6))],[]):=by
 rw[q0e.next0,q0e.round0];simp only[q5m,q3n];rw[qcf (by decide),show decide (((s.length:Nat):Int)<=6)=decide (s.length<=6)from decide_eq_decide.2 (by omega)];rfl
theorem q0e(a b:List Int)(ha:a.length<=1024)(hb:b.length<=1024):Call F.q0e [.agg [slc a,slc b]] (.tup [.agg [slc (qa5 ⟨a,b⟩).left,slc (qa5 ⟨a,b⟩).right],.bool (decide ((qce ⟨a,b⟩).length<=6))]):=by
 obtain⟨m,hm⟩:∃m,1100<=m:=⟨1100,gAI _⟩;refine q0v rfl (m+1+1+1) ((q0e.ev _ _ _).trans ?_)
 have ho:Call F.q4e [.agg [slc a,slc b]] (.agg [slc a,slc b]):=by
  refine q0v rfl 0 ((q4e.ev _ _ _).trans ?_);simp only[evz,Nat.reduceLT,(q2c a (by omega)).eq,(q2c b (by omega)).eq]
 simp only[evz,Nat.reduceLT,ho.eq];have hs1:=(q5g [] a).2.1;have e0:=qq1 a b ha (N:=m+1+1+1) (by omega) (m+1+1);have e1:=qpy (q3p [] a).2 (q3p [] a).1 b (by simp at hs1;omega) hb (N:=m+1+1+1) (by omega) (m+1);exact e0.trans (e1.trans (qp7 _ _ _ m))
theorem q1m(a b:List Int)(ha:a.length<=1024)(hb:b.length<=1024):Call F.q1m [.rref [slc a,slc b] 0]
 (.tup [.agg [slc (if(qce ⟨a,b⟩).length<=6 then(qa5 ⟨a,b⟩).left else[]),slc (if(qce ⟨a,b⟩).length<=6 then(qa5 ⟨a,b⟩).right else[])],.bool (decide ((qce ⟨a,b⟩).length<=6))]):=by
 refine q0v rfl 3000 ((q1m.ev _ _ _).trans ?_);simp only[evz,Nat.reduceLT,(q4o a (by omega)).eq,q5a,<- q3c];rw[q1k (q44 (by rw[q0p,q0p,q3n];omega))];have htl:(a++b).length<=2048:=by simp;omega
 obtain⟨t,hte⟩:∃t,t=a++b:=⟨_,rfl⟩;rw[<- hte]at htl ⊢
 have key:=q8d (n:=t.length) (f:=3000) (S:=fun m k (o:List Int×List Int)=>q1m.at0 3000 m (q1m.st0 (cells a) (cells b) (k:Nat) (cells o.1) (cells o.2)))
  (st:=fun k=>plSt [] t k) (z:=some (.tup [.agg [slc (if(qce ⟨a,b⟩).length<=6 then(qa5 ⟨a,b⟩).left else[]),slc (if(qce ⟨a,b⟩).length<=6 then(qa5 ⟨a,b⟩).right else[])],.bool (decide ((qce ⟨a,b⟩).length<=6))],[])) (fun m k h=>?_) (fun m=>?_) (by omega)
 ·rw[qhx]at key;exact key
 ·have hl:=qlt [] t (Nat.le_of_lt h);have hg:=qh1 [] t h;have hsl:=qj7 [] t k;have hp:=ql3 [] t h;have hnw:=qla [] t h;have hod:=ql5 [] t h;generalize plSt [] t (k+1)=P at *;generalize plSt [] t k=Q at *;obtain⟨M,s⟩:=Q;simp only at hl hg hsl hp hnw hod;have hkM:k<M.length:=by omega
  have hkc:k*1+1<=(cells M).length:=by rw[q0p,q3n];omega
  have hix:=(q2t s t[k] (by simp at hsl;omega)).eq;unfold rank at hix;have hrg:=qhn s t[k];have hsl':s.length<=2048:=by simp at hsl;omega
  by_cases h0:0<=t[k]
  ·have h0':t[k]>=0:=h0;rw[hp h0];simp only[q1m.next0,q1m.round0,evz,Nat.reduceLT,h,hg,hkM,q1l,h0'];rw[q0n (by omega)]
  ·have h0':¬ t[k]>=0:=h0;by_cases hm:t[k]∈s
   ·rw[hod h0 hm];have:=qae hkM (-1-idx (fun x=>decide (x=t[k])) s);have hi:¬ idx (fun x=>decide (x=t[k])) s<0:=fun e=>qb0.1 e hm;simp only[q1m.next0,q1m.round0,evz,Nat.reduceLT,h,hg,hkM,q1l,h0',hix,hi,q3g (x := -1-idx (fun x=>decide (x=t[k])) s) (by omega),this,hkc];rw[q0n (by omega)]
   ·rw[hnw h0 hm];have:=qae hkM (-1-(s.length:Int));have hi:idx (fun x=>decide (x=t[k])) s<0:=qb0.2 hm;simp only[q1m.next0,q1m.round0,evz,Nat.reduceLT,h,hg,hkM,q1l,h0',hix,hi,q2f,q3g (x := -1-(s.length:Int)) (by omega),this,hkc];rw[q0n (by omega),q1k (q44 (by rw[q0p,q3n];omega))]
 ·rw[qlh,hte,qcl];have hl1:=(q5g [] a).1;have hl2:=(q5g (q3p [] a).2 b).1;have es:qce ⟨a,b⟩=(q3p (q3p [] a).2 b).2:=rfl;simp only[q1m.next0,q1m.round0,evz,Nat.reduceLT,gM,hl1,hl2,gAK,es];by_cases h6:(q3p (q3p [] a).2 b).2.length<=6
  ·have h6':¬(((q3p (q3p [] a).2 b).2.length:Nat):Int)>6:=by omega
   have c1:((((q3p [] a).1++(q3p (q3p [] a).2 b).1).take a.length).drop 0)=(q3p [] a).1:=by rw[List.drop_zero,<- hl1,List.take_left]
   have c2:((((q3p [] a).1++(q3p (q3p [] a).2 b).1).take (a.length+b.length)).drop a.length)=(q3p (q3p [] a).2 b).1:=by
    rw[List.take_of_length_le (by rw[gM];omega),<- hl1,List.drop_left]
   simp only[h6,h6',evz,Nat.reduceLT];rw[q1k (by simp;omega),qc8,c1,(q4o _ (by omega)).eq];simp only[evz,Nat.reduceLT];rw[q1k (by simp;omega),qc8,c2,(q4o _ (by omega)).eq];simp only[evz,Nat.reduceLT];rfl
  ·have h6':(((q3p (q3p [] a).2 b).2.length:Nat):Int)>6:=by omega
   simp only[h6,h6',evz,Nat.reduceLT,q4s]
theorem qd7{l:List Symbol}:∀{n:Nat}{b:Bnd}{ps:List Pr}{c:Int},unif l n b ps=some (.inr c)->c=2\/c=4
 |0,b,ps,c,h=>by cases h
 |n+1,b,[],c,h=>by cases h
 |n+1,b,p::ps,c,h=>by
  rw[unif]at h;split at h
  ·cases h;exact .inl rfl
  split at h
  ·exact qd7 h
  split at h
  ·split at h
   ·cases h;exact .inr rfl
   split at h
   ·cases h;exact .inl rfl
   ·exact qd7 h
  split at h
  ·split at h
   ·cases h;exact .inr rfl
   split at h
   ·cases h;exact .inl rfl
   ·exact qd7 h
  split at h
  ·cases h;exact .inr rfl
  ·exact qd7 h
theorem qfz{l:List Symbol}{a b:List Int}(ha:TermOk l a)(hb:TermOk l b){c:Int}(h:qj1 l a b=.inr c):c=2\/c=4:=by
 obtain⟨⟨n,hn⟩,_⟩:=qaq ha hb;rw[h]at hn;exact qd7 hn
theorem qga{l:List Symbol}(ok:SigOk ⟨l⟩){t u:List Int}(ht:TermOk l t)(hu:TermOk l u)(p:Nat):∀n∈q5v l t p u,-4611686018427387904<=n/\n<=4611686018427387904:=fun n hn=>by
 unfold q5v at hn;rcases gO.1 hn with hn|hn
 ·rcases gO.1 hn with hn|hn
  ·exact ht.range ok n (List.mem_of_mem_take hn)
  ·exact hu.range ok n hn
 ·exact ht.range ok n (List.mem_of_mem_drop hn)
section
variable {l:List Symbol}(ok:SigOk ⟨l⟩)
include ok
theorem q9k{o i:Equation}(ho:EqOk l o)(hi:EqOk l i){p:Nat}(hp:p<o.left.length):Call F.q9k [.agg [slc l],.agg [slc o.left,slc o.right],.agg [slc i.left,slc i.right],.int .i64 p] (.agg (enc (qec l o i p))):=by
 refine q0v rfl 0 ((q9k.ev _ _ _ _ _ _ _).trans ?_);have l1:=ho.left.le;have l2:=ho.right.le;have l3:=hi.left.le;have l4:=hi.right.le;have s1:=(q29 i.left (by omega) (fun n hn=>(hi.left.range ok n hn).1)).eq;have s2:=(q29 i.right (by omega) (fun n hn=>(hi.right.range ok n hn).1)).eq;have o1:=qdl hi.left hi.lowL;have o2:=qdl hi.right hi.lowR;have os:=q9d ho.left hp;have hsub:=(q3t ok ho.left hp).eq;have hu:=q0i ok os o1;have hrp:=(q6m ok ho.left hp (q5w i.right 6) (by rw[q64];omega)).eq;have hrl:=qfl (l:=l) (t:=o.left) (p:=p) (by_:=q5w i.right 6);rw[q64]at hrl;simp only[evz,Nat.reduceLT,s1,s2,hsub,hu,qec];have hsp:=qaq os o1;have hcd:=fun c=>qfz os o1 (c:=c);generalize qj1 l (q37 l o.left p) (q5w i.left 6)=u at *;cases u with
 |inr c=>
  have hc:¬ c=0:=by rcases hcd c rfl with h|h <;> omega
  simp only[uT,evz,Nat.reduceLT,hc,q2s,q4s];rfl
 |inl b=>
  have hb:=hsp.2 b rfl;have hbl:=hb.le;have hbo:=hb.mb.ok (by omega);simp only[uT,evz,Nat.reduceLT,hrp];have hge:=qao hb.mb (q5v l o.left p (q5w i.right 6));have a1:=(q0o b.1 b.2 hbo o.right (by omega) (ho.right.range ok)).eq;have a2:=(q0o b.1 b.2 hbo (q5v l o.left p (q5w i.right 6)) (by omega) (qga ok ho.left o2 p)).eq;generalize q5v l o.left p (q5w i.right 6)=w at *;generalize q0k b.1 b.2 o.right=x at *;generalize q0k b.1 b.2 w=y at *;by_cases c1:24<w.length
  ·have c1':(w.length:Int)>24:=by omega
   have c2:24<x.length\/24<y.length:=.inr (by omega);simp only[c1',c2,evz,Nat.reduceLT,q2s,q4s]
  have c1':¬(w.length:Int)>24:=by omega
  simp only[c1',evz,Nat.reduceLT,a1,a2];by_cases c2:24<x.length
  ·have c2':(x.length:Int)>24:=by omega
   simp only[c2,c2',true_or,evz,Nat.reduceLT,q2s,q4s]
  by_cases c3:24<y.length
  ·have c2':¬(x.length:Int)>24:=by omega
   have c3':(y.length:Int)>24:=by omega
   simp only[c3,c2',c3',or_true,evz,Nat.reduceLT,q2s,q4s]
  have c2':¬(x.length:Int)>24:=by omega
  have c3':¬(y.length:Int)>24:=by omega
  have hpl:=(q0e x y (by omega) (by omega)).eq;simp only[c2,c3,c2',c3',or_self,evz,Nat.reduceLT,hpl];by_cases c4:(qce ⟨x,y⟩).length<=6
  ·have c4':¬ 6<(qce ⟨x,y⟩).length:=by omega
   simp only[c4,c4',evz,Nat.reduceLT,Bool.not_true,q2s]
  ·have c4':6<(qce ⟨x,y⟩).length:=by omega
   simp only[c4,c4',evz,Nat.reduceLT,Bool.not_false,q2s,q4s]
theorem q7u{o i:Equation}(ho:EqOk l o)(hi:EqOk l i){p:Nat}(hp:p<o.left.length):Call F.q7u [.rref [slc l] 0,.rref [slc o.left,slc o.right] 0,.rref [slc i.left,slc i.right] 0,.int .i64 p]
 (.tup [.agg [slc (qec l o i p).equation.left,slc (qec l o i p).equation.right],.int .i64 (qec l o i p).code]):=by
 refine q0v rfl 0 ((q7u.ev _ _ _ _ _ _ _).trans ?_);have l1:=ho.left.le;have l2:=ho.right.le;have l3:=hi.left.le;have l4:=hi.right.le;have s1:=(q2a i.left (by omega) (fun n hn=>(hi.left.range ok n hn).1)).eq;have s2:=(q2a i.right (by omega) (fun n hn=>(hi.right.range ok n hn).1)).eq;have o1:=qdl hi.left hi.lowL;have o2:=qdl hi.right hi.lowR;have os:=q9d ho.left hp;have hsub:=(q6w ok ho.left hp).eq;have hu:=q1t ok os o1;have hrp:=(q68 ok ho.left hp (q5w i.right 6) (by rw[q64];omega)).eq;have hrl:=qfl (l:=l) (t:=o.left) (p:=p) (by_:=q5w i.right 6);rw[q64]at hrl;simp only[evz,Nat.reduceLT,s1,s2,hsub,hu,qec];have hsp:=qaq os o1;have hcd:=fun c=>qfz os o1 (c:=c);generalize qj1 l (q37 l o.left p) (q5w i.left 6)=u at *;cases u with
 |inr c=>
  have hc:¬ c=0:=by rcases hcd c rfl with h|h <;> omega
  simp only[uT,evz,Nat.reduceLT,hc,q2s,q4s];rfl
 |inl b=>
  have hb:=hsp.2 b rfl;have hbl:=hb.le;have hbo:=hb.mb.ok (by omega);simp only[uT,evz,Nat.reduceLT,hrp];have hge:=qao hb.mb (q5v l o.left p (q5w i.right 6));have a1:=(q1f b.1 b.2 hbo o.right (by omega) (ho.right.range ok)).eq;have a2:=(q1f b.1 b.2 hbo (q5v l o.left p (q5w i.right 6)) (by omega) (qga ok ho.left o2 p)).eq;generalize q5v l o.left p (q5w i.right 6)=w at *;generalize q0k b.1 b.2 o.right=x at *;generalize q0k b.1 b.2 w=y at *;simp only[evz,Nat.reduceLT,a1,a2];by_cases c2:24<x.length
  ·have c2':(x.length:Int)>24:=by omega
   simp only[c2,c2',true_or,evz,Nat.reduceLT,q2s,q4s]
  by_cases c3:24<y.length
  ·have c2':¬(x.length:Int)>24:=by omega
   have c3':(y.length:Int)>24:=by omega
   simp only[c3,c2',c3',or_true,evz,Nat.reduceLT,q2s,q4s]
  have c2':¬(x.length:Int)>24:=by omega
  have c3':¬(y.length:Int)>24:=by omega
  have hpl:=(q1m x y (by omega) (by omega)).eq;simp only[c2,c3,c2',c3',or_self,evz,Nat.reduceLT,hpl];by_cases c4:(qce ⟨x,y⟩).length<=6
  ·have c4':¬ 6<(qce ⟨x,y⟩).length:=by omega
   simp only[c4,c4',evz,Nat.reduceLT,Bool.not_true,q2s]
  ·have c4':6<(qce ⟨x,y⟩).length:=by omega
   simp only[c4,c4',evz,Nat.reduceLT,Bool.not_false,q2s,q4s]
end
noncomputable def qax(s:Signature)(o i:Equation)(p:Int):EquationResult:=
 if q5b s [o,i]≠0 then⟨q5b s [o,i],⟨[],[]⟩⟩else if inR p 0 (o.left.length-1)=false then⟨3,⟨[],[]⟩⟩else if o.left.getD p.toNat 0<0 then⟨1,⟨[],[]⟩⟩else qec s.symbols o i p.toNat
theorem qsz{o i:Equation}(ho:sm 1048576 o)(hi:sm 1048576 i):sm 4294967296 [o,i]:=⟨by simp,fun x hx=>by
 rcases gK.1 hx with rfl|hx
 ·exact q3o (by omega) ho
 ·rw[gD.1 hx];exact q3o (by omega) hi⟩
theorem q8e(s:Signature)(o i:Equation)(p:Int)(hs:sm 1048576 s)(ho:sm 1048576 o)(hi:sm 1048576 i):Call F.q8e [.agg (enc s),.agg (enc o),.agg (enc i),.int .i64 p] (.agg (enc (qax s o i p))):=by
 obtain⟨l⟩:=s;have hsl:l.length<=4294967296:=Nat.le_trans hs.1 (by omega);have hol:o.left.length<=1048576:=ho.1.1;have hf:LIM F.q5d [.agg [slc l],.sl 2 [slc o.left,slc o.right,slc i.left,slc i.right]]=some (.int .i64 (q5b ⟨l⟩ [o,i]),[]):=(q5d l hsl [o,i] (qsz ho hi)).eq;show Call F.q8e [.agg [slc l],.agg [slc o.left,slc o.right],.agg [slc i.left,slc i.right],.int .i64 p] _;refine q0v rfl 0 ((q8e.ev _ _ _ _ _ _ _).trans ?_);simp only[evz,Nat.reduceLT,hf,qax,q3g (x:=(o.left.length:Int)-1) (by omega),(q3l _ _ _).eq];by_cases h:q5b ⟨l⟩ [o,i]=0
 case neg=>simp only[h,evz,Nat.reduceLT,ne_eq,gX,q2s,q4s]
 obtain⟨_,ok,_,q2⟩:=q9t h;have q2o:=q2 o (by simp);have q2i:=q2 i (by simp);cases h1:inR p 0 (o.left.length-1)with
 |false=>simp only[h,evz,Nat.reduceLT,ne_eq,gW,Bool.not_false,q2s,q4s]
 |true=>
  have hp1:=q8g.1 h1;obtain⟨a,rfl⟩:∃a:Nat,p=a:=⟨p.toNat,by omega⟩;have ha:a<o.left.length:=by omega
  have hlk:o.left[a]?=some o.left[a]:=gA ha;have hd:o.left.getD a 0=o.left[a]:=q7w ha;have hpk:=(q9k ok q2o q2i ha).eq;rw[q2s]at hpk;simp only[h,evz,Nat.reduceLT,ne_eq,gW,Bool.not_true,ha,hlk,q1l,hd,reduceCtorEq,hpk];by_cases h3:o.left[a]<0 <;> simp only[h3,evz,Nat.reduceLT,q2s,q4s]
theorem q8f(s:Signature)(o i:Equation)(p:Int)(hs:sm 1048576 s)(ho:sm 1048576 o)(hi:sm 1048576 i):Call F.q8f [.agg (enc s),.agg (enc o),.agg (enc i),.int .i64 p] (.agg (enc (qax s o i p))):=by
 obtain⟨l⟩:=s;have hsl:l.length<=4294967296:=Nat.le_trans hs.1 (by omega);have hol:o.left.length<=1048576:=ho.1.1;have hf:LIM F.q5f [.agg [slc l],.sl 2 [slc o.left,slc o.right,slc i.left,slc i.right]]=some (.int .i64 (q5b ⟨l⟩ [o,i]),[]):=(q5f l hsl [o,i] (qsz ho hi)).eq
 have h2:Call F.qbz [.rref [slc l] 0,.rref [slc o.left,slc o.right] 0,.rref [slc i.left,slc i.right] 0] (.int .i64 (q5b ⟨l⟩ [o,i])):=by
  refine q0v rfl 0 ((qbz.ev _ _ _ _ _ _).trans ?_);simp only[evz,Nat.reduceLT,hf]
 show Call F.q8f [.agg [slc l],.agg [slc o.left,slc o.right],.agg [slc i.left,slc i.right],.int .i64 p] _;refine q0v rfl 0 ((q8f.ev _ _ _ _ _ _ _).trans ?_);simp only[evz,Nat.reduceLT,h2.eq,qax,(q7i o.left p (by omega)).eq];by_cases h:q5b ⟨l⟩ [o,i]=0
 case neg=>simp only[h,evz,Nat.reduceLT,ne_eq,gX,q2s,q4s]
 obtain⟨_,ok,_,q2⟩:=q9t h;have q2o:=q2 o (by simp);have q2i:=q2 i (by simp);cases h1:inR p 0 (o.left.length-1)with
 |false=>simp only[h,evz,Nat.reduceLT,ne_eq,gW,Bool.not_false,q2s,q4s]
 |true=>
  have hp1:=q8g.1 h1;obtain⟨a,rfl⟩:∃a:Nat,p=a:=⟨p.toNat,by omega⟩;have ha:a<o.left.length:=by omega
  have hlk:o.left[a]?=some o.left[a]:=gA ha;have hd:o.left.getD a 0=o.left[a]:=q7w ha;have hpk:=(q7u ok q2o q2i ha).eq;simp only[h,evz,Nat.reduceLT,ne_eq,gW,Bool.not_true,ha,hlk,q1l,hd,reduceCtorEq,hpk];by_cases h3:o.left[a]<0 <;> simp only[h3,evz,Nat.reduceLT,q2s,q4s]
noncomputable def qac(l:List Symbol)(o i:Equation)(same:Bool):Nat->Nat->List Nat ⊕ Int
 |0,_=>.inl []
 |n+1,k=>if o.left.getD k 0<0\/(same=true/\k=0)then qac l o i same n (k+1)else if(qec l o i k).code=4 then qac l o i same n (k+1)else if(qec l o i k).code=0 then
  match qac l o i same n (k+1)with
  |.inl qs=>.inl (k::qs)
  |.inr c=>.inr c
  else .inr (qec l o i k).code
theorem qhe{l:List Symbol}{o i:Equation}{same:Bool}:∀{n k:Nat}{qs:List Nat},qac l o i same n k=.inl qs->qs.length<=n/\∀q∈qs,k<=q/\q<k+n
 |0,k,qs,h=>by cases h;exact⟨gAI _,by simp⟩
 |n+1,k,qs,h=>by
  have next:∀{qs},qac l o i same n (k+1)=.inl qs->qs.length<=n/\∀q∈qs,k<=q/\q<k+(n+1):=fun h=>by
   obtain⟨h1,h2⟩:=qhe h;exact⟨h1,fun q hq=>by have:=h2 q hq;omega⟩
  rw[qac]at h;split at h
  ·obtain⟨h1,h2⟩:=next h;exact⟨by omega,h2⟩
  split at h
  ·obtain⟨h1,h2⟩:=next h;exact⟨by omega,h2⟩
  split at h
  ·split at h
   ·rename_i ps hp;obtain⟨h1,h2⟩:=next hp
    cases h;refine⟨by simp;omega,fun q hq=>?_⟩;rcases gK.1 hq with rfl|hq
    ·omega
    ·exact h2 q hq
   ·cases h
  ·cases h
section
variable {l:List Symbol}(ok:SigOk ⟨l⟩)
include ok
theorem q1e{o i:Equation}(ho:EqOk l o)(hi:EqOk l i)(same:Bool):Call F.q1e [.rref [slc l] 0,.rref [slc o.left,slc o.right] 0,.rref [slc i.left,slc i.right] 0,.bool same]
 (match qac l o i same o.left.length 0 with
  |.inl qs=>.tup [slc (ints qs),.int .i64 0]
  |.inr c=>.tup [.sl 1 [],.int .i64 c]):=by
 have hol:=ho.left.le;refine q0v rfl (o.left.length+1) ((q1e.ev _ _ _ _ _ _ _).trans ?_)
 have loop:∀n k f (out:List Nat),k+n=o.left.length->n<f->out.length<=k->
  q1e.at0 (o.left.length+1) f (q1e.st0 (cells l) (cells o.left) (cells o.right) (cells i.left) (cells i.right) same (k:Nat) (cells (ints out)))=
   some (match qac l o i same n k with
    |.inl qs=>.tup [slc (ints (out++qs)),.int .i64 0]
    |.inr c=>.tup [.sl 1 [],.int .i64 c],[]):=by
  intro n;induction n with
  |zero=>
   intro k f out hk hf hl;obtain⟨f,rfl⟩:∃x,f=x+1:=⟨f-1,by omega⟩;obtain rfl:k=o.left.length:=by omega
   simp only[q1e.next0,q1e.round0,evz,Nat.reduceLT,gAK,qac,gAD]
  |succ n ih=>
   intro k f out hk hf hl;obtain⟨f,rfl⟩:∃x,f=x+1:=⟨f-1,by omega⟩;have h:k<o.left.length:=by omega
   have hlk:o.left[k]?=some o.left[k]:=gA h;have hd:o.left.getD k 0=o.left[k]:=q7w h;have hpk:=(q7u ok ho hi h).eq;have i1:=ih (k+1) f out (by omega) (by omega) (by omega);have i2:=ih (k+1) f (out++[k]) (by omega) (by omega) (by simp;omega);rw[qac,hd];by_cases h1:o.left[k]<0
   ·rw[if_pos (.inl h1)];simp only[q1e.next0,q1e.round0,evz,Nat.reduceLT,h,hlk,q1l,h1];rw[q0n (by omega)];exact i1
   by_cases h2:same=true/\k=0
   ·rw[if_pos (.inr h2)]
    have e0:∀{α:Type}(a b:α),(bif same then(bif ((k:Int)==0)then a else b)else b)=a:=fun a b=>by
     rw[h2.1,h2.2];rfl
    rw[q1e.next0,q1e.round0,e0];simp only[evz,Nat.reduceLT,h,hlk,q1l,h1];rw[q0n (by omega)];exact i1
   rw[if_neg (by rintro(q|q);exact h1 q;exact h2 q)]
   have e0:∀{α:Type}(a b:α),(bif same then(bif ((k:Int)==0)then a else b)else b)=b:=fun a b=>by
    by_cases hk0:k=0
    ·subst hk0
     have hs:same=false:=by cases same with
      |false=>rfl
      |true=>exact absurd ⟨rfl,rfl⟩ h2
     rw[hs];rfl
    ·rw[show((k:Int)==0)=false by simp;omega];cases same <;> rfl
   rw[q1e.next0,q1e.round0,e0];simp only[evz,Nat.reduceLT,h,hlk,q1l,h1,hpk];rw[q0n (by omega)];by_cases c4:(qec l o i k).code=4
   ·simp only[c4,evz,Nat.reduceLT,show ¬(4:Int)=0 by omega];exact i1
   by_cases c0:(qec l o i k).code=0
   ·have e1:cells (ints out)++[.int .i64 (k:Int)]=cells (ints (out++[k])):=by rw[q2f];simp[ints]
    simp only[c4,c0,evz,Nat.reduceLT,show ¬(0:Int)=4 by omega,e1];rw[q1k (q44 (by rw[q0p,q3n,q4g];omega))];refine i2.trans ?_
    cases qac l o i same n (k+1)with
     |inl qs=>simp
     |inr c=>simp
   ·simp only[c4,c0,evz,Nat.reduceLT]
 have:=loop o.left.length 0 (o.left.length+1) [] (by omega) (by omega) (by simp);exact this
end
section
variable {l:List Symbol}(ok:SigOk ⟨l⟩){rs:List Equation}(hr:∀e∈rs,EqOk l e)(hl:rs.length<=12)
include ok hr hl
end
theorem qt8{l:List Symbol}{t u:List Int}(ht:TermOk l t){p:Nat}(hp:p<t.length)(hu:TermOk l u)(h:(q5v l t p u).length<=24):TermOk l (q5v l t p u):=by
 obtain⟨h1,h2,h3⟩:=q74 ht hp
 have hs:skip (ar l) 1 (q5v l t p u)=some []:=by
  unfold q5v;rw[gZ];refine qiw (y:=q37 l t p) (by rw[<- h1];exact h3) (by have:=qch (r:=t.drop (q5k l t p)) hu.skip;simpa using this) (t.take p) 1 ?_;rw[<- h1,List.take_append_drop];exact ht.skip
 refine⟨?_,h,fun n hn=>?_,hs⟩
 ·rcases Nat.eq_zero_or_pos (q5v l t p u).length with h|h
  ·rw[gL h]at hs;cases hs
  ·exact h
 ·unfold q5v at hn;rcases gO.1 hn with hn|hn
  ·rcases gO.1 hn with hn|hn
   ·exact ht.node n (List.mem_of_mem_take hn)
   ·exact hu.node n hn
  ·exact ht.node n (List.mem_of_mem_drop hn)
theorem qw0{l:List Symbol}(ok:SigOk ⟨l⟩){o i:Equation}(ho:EqOk l o)(hi:EqOk l i){p:Nat}(hp:p<o.left.length)(h0:(qec l o i p).code=0):EqOk l (qec l o i p).equation:=by
 have o1:=qdl hi.left hi.lowL;have o2:=qdl hi.right hi.lowR;have os:=q9d ho.left hp;have hsp:=qaq os o1;have hcd:=fun c=>qfz os o1 (c:=c);unfold qec at h0 ⊢;split
 ·rename_i c hc;rw[hc]at h0;have:=hcd c hc;simp only at h0;omega
 ·rename_i b hb;rw[hb]at h0;simp only at h0;split at h0
  ·cases h0
  rename_i c1;split at h0
  ·cases h0
  rename_i c2;rw[if_neg c1,if_neg c2];have hub:=hsp.2 b hb;have hwl:=qao hub.mb (q5v l o.left p (q5w i.right 6));exact qm3 (hub.applied_ok ho.right (by omega)) (hub.applied_ok (qt8 ho.left hp o2 (by omega)) (by omega)) (by omega)
section
variable {l:List Symbol}{rs:List Equation}(hrf:q5b ⟨l⟩ rs=0)(hls:sm 1048576 (Signature.mk l))(hrs:sm 1048576 rs){fuel:Nat}(hf:fuel<=200)
include hrf hls hrs hf
end
theorem qly{l:List Symbol}{t:List Int}(ht:∀n∈t,-6<=n):∀(q:List Int)(b:Bnd)(p:Nat),(∀u∈b.2,∀n∈u,-6<=n)->∀x,mgo l t q b p=some x->∀u∈x.1.2,∀n∈u,-6<=n
 |[],b,p,hb,x,hx=>by
  cases hx;exact hb
 |n::q,b,p,hb,x,hx=>by
  rw[mgo]at hx;split at hx
  ·cases hx
  split at hx
  ·split at hx
   ·exact qly ht q b _ hb x hx
   ·cases hx
  split at hx
  ·refine qly ht q _ _ (fun u hu=>?_) x hx;rcases qld hu with rfl|hu
   ·intro m hm;exact ht m (List.mem_of_mem_take (List.mem_of_mem_drop hm))
   ·exact hb u hu
  ·split at hx
   ·exact qly ht q b _ hb x hx
   ·cases hx
theorem qok{l:List Symbol}{q t:List Int}(ht:∀n∈t,-6<=n){p:Nat}{b:Bnd}(h:q8b l q t p=some b):∀u∈b.2,∀n∈u,-6<=n:=by
 unfold q8b at h;rw[gP]at h;obtain⟨x,hx,rfl⟩:=h;exact qly ht q ([],[]) p (by simp) x hx
theorem qrf{l:List Symbol}{e:Equation}{t:List Int}(he:EqOk l e)(ht:∀n∈t,-6<=n){p:Nat}:∀n∈(qd6 l e t p).term,-6<=n:=by
 intro n hn;unfold qd6 at hn;cases hm:q8b l e.left t p with
 |none=>rw[hm]at hn;cases hn
 |some b=>
  have hb:=qok ht hm;rw[hm]at hn;simp only at hn;split at hn
  ·cases hn
  unfold q5v at hn;rcases gO.1 hn with hn|hn
  ·rcases gO.1 hn with hn|hn
   ·exact ht n (List.mem_of_mem_take hn)
   ·unfold q0k at hn;obtain⟨m,h1,h2⟩:=List.mem_flatMap.1 hn;cases ho:q6p b.1 b.2 (-1-m)with
    |none=>rw[ho]at h2;simp only[Option.getD_none,gD]at h2;subst h2;exact he.lowR _ h1
    |some u=>rw[ho]at h2;exact hb u (q8o ho) n h2
  ·exact ht n (List.mem_of_mem_drop hn)
def two(e:Entry):Bool:=decide (e.kind=4)||decide (e.kind=5)
def q4j(eqn enn:Nat)(e:Entry):Int:=
 if inR e.kind 1 5=false then 1
 else if(two e=false/\(e.b≠0\/e.place≠0))\/(e.kind≠4/\e.side≠0)then 1
 else if inR e.a 0 ((if e.kind=1 then(eqn:Int)else enn)-1)=false\/(two e=true/\inR e.b 0 (enn-1)=false)\/inR e.side 0 1=false then 3 else 0
structure NumsOk(eqn enn:Nat)(e:Entry):Prop where
 kind:e.kind=1\/e.kind=2\/e.kind=3\/e.kind=4\/e.kind=5
 a0:0<=e.a
 given:e.kind=1->e.a.toNat<eqn
 other:e.kind≠1->e.a.toNat<enn
 b:e.kind=4\/e.kind=5->0<=e.b/\e.b.toNat<enn
 side:e.side=0\/(e.kind=4/\e.side=1)
 zero:e.kind≠4->e.kind≠5->e.b=0/\e.place=0
theorem qty{eqn enn:Nat}{e:Entry}(h:q4j eqn enn e=0):NumsOk eqn enn e:=by
 unfold q4j at h;by_cases h1:inR e.kind 1 5=false
 ·rw[if_pos h1]at h;cases h
 rw[if_neg h1]at h;by_cases h2:(two e=false/\(e.b≠0\/e.place≠0))\/(e.kind≠4/\e.side≠0)
 ·rw[if_pos h2]at h;cases h
 rw[if_neg h2]at h;by_cases h3:inR e.a 0 ((if e.kind=1 then(eqn:Int)else enn)-1)=false\/(two e=true/\inR e.b 0 (enn-1)=false)\/inR e.side 0 1=false
 ·rw[if_pos h3]at h;cases h
 have h1:=q8g.1 (by simpa using h1:inR e.kind 1 5=true)
 have h4:inR e.a 0 ((if e.kind=1 then(eqn:Int)else enn)-1)=true:=by
  cases hx:inR e.a 0 ((if e.kind=1 then(eqn:Int)else enn)-1)with
  |true=>rfl
  |false=>exact absurd (Or.inl hx) h3
 have h5:inR e.side 0 1=true:=by
  cases hx:inR e.side 0 1 with
  |true=>rfl
  |false=>exact absurd (Or.inr (Or.inr hx)) h3
 have h4:=q8g.1 h4;have h5:=q8g.1 h5;refine⟨by omega,by omega,fun hk=>?_,fun hk=>?_,fun hk=>?_,?_,fun q1 q2=>?_⟩
 ·rw[if_pos hk]at h4;omega
 ·rw[if_neg hk]at h4;omega
 ·have ht:two e=true:=by unfold two;rcases hk with hk|hk <;> simp[hk]
  have:inR e.b 0 (enn-1)=true:=by
   cases hx:inR e.b 0 ((enn:Int)-1)with
   |true=>rfl
   |false=>exact absurd (Or.inr (Or.inl ⟨ht,hx⟩)) h3
  have:=q8g.1 this;omega
 ·by_cases hk:e.kind=4
  ·omega
  ·left;by_cases hs:e.side=0
   ·exact hs
   ·exact absurd (Or.inr ⟨hk,hs⟩) h2
 ·have ht:two e=false:=by unfold two;simp[q1,q2]
  by_cases hb:e.b=0
  ·by_cases hp:e.place=0
   ·exact⟨hb,hp⟩
   ·exact absurd (Or.inl ⟨ht,Or.inr hp⟩) h2
  ·exact absurd (Or.inl ⟨ht,Or.inl hb⟩) h2
noncomputable def derR(l:List Symbol)(eqs:List Equation)(ents:List Entry)(e:Entry):EquationResult:=
 if q4j eqs.length ents.length e≠0 then⟨q4j eqs.length ents.length e,⟨[],[]⟩⟩
 else if e.kind=1 then⟨0,eqs.getD e.a.toNat ⟨[],[]⟩⟩
 else if e.kind=2 then⟨0,⟨(ents.getD e.a.toNat ⟨0,0,0,0,0,[],[]⟩).right,(ents.getD e.a.toNat ⟨0,0,0,0,0,[],[]⟩).left⟩⟩
 else if e.kind=3 then⟨0,qa5 (eqOf (ents.getD e.a.toNat ⟨0,0,0,0,0,[],[]⟩))⟩
 else if e.kind=5 then qax ⟨l⟩ (eqOf (ents.getD e.a.toNat ⟨0,0,0,0,0,[],[]⟩)) (eqOf (ents.getD e.b.toNat ⟨0,0,0,0,0,[],[]⟩)) e.place
 else if e.side=0 then
  ⟨(q5c ⟨l⟩ [eqOf (ents.getD e.b.toNat ⟨0,0,0,0,0,[],[]⟩)] 0 e.place (ents.getD e.a.toNat ⟨0,0,0,0,0,[],[]⟩).left).code,
   ⟨(q5c ⟨l⟩ [eqOf (ents.getD e.b.toNat ⟨0,0,0,0,0,[],[]⟩)] 0 e.place (ents.getD e.a.toNat ⟨0,0,0,0,0,[],[]⟩).left).term,(ents.getD e.a.toNat ⟨0,0,0,0,0,[],[]⟩).right⟩⟩
 else
  ⟨(q5c ⟨l⟩ [eqOf (ents.getD e.b.toNat ⟨0,0,0,0,0,[],[]⟩)] 0 e.place (ents.getD e.a.toNat ⟨0,0,0,0,0,[],[]⟩).right).code,
   ⟨(ents.getD e.a.toNat ⟨0,0,0,0,0,[],[]⟩).left,(q5c ⟨l⟩ [eqOf (ents.getD e.b.toNat ⟨0,0,0,0,0,[],[]⟩)] 0 e.place (ents.getD e.a.toNat ⟨0,0,0,0,0,[],[]⟩).right).term⟩⟩
theorem getN{es:List Entry}{k:Nat}(h:k<es.length):es.getD k ⟨0,0,0,0,0,[],[]⟩=es[k]:=by rw[gI,gA h];rfl
theorem qgp{l:List Symbol}{e:Equation}(he:EqOk l e){t:List Int}(ht:TermOk l t)(hlow:∀n∈t,-6<=n){p:Int}(h:(q5c ⟨l⟩ [e] 0 p t).code=0):TermOk l (q5c ⟨l⟩ [e] 0 p t).term/\∀n∈(q5c ⟨l⟩ [e] 0 p t).term,-6<=n:=by
 unfold q5c at h ⊢;split at h
 ·rename_i h1;exact absurd h h1
 rename_i h1;rw[if_neg h1];split at h
 ·cases h
 rename_i h2;rw[if_neg h2]
 have h3:inR p 0 (t.length-1)=true:=by
  cases hx:inR p 0 ((t.length:Int)-1)with
  |true=>rfl
  |false=>exact absurd (.inr hx) h2
 have h3:=q8g.1 h3;exact⟨qsi he ht (by omega) h,qrf he hlow⟩
theorem qtq{l:List Symbol}(ok:SigOk ⟨l⟩){o i:Equation}(ho:EqOk l o)(hi:EqOk l i){p:Int}(h0:(qax ⟨l⟩ o i p).code=0):EqOk l (qax ⟨l⟩ o i p).equation:=by
 unfold qax at h0 ⊢;split at h0
 ·rename_i h1;exact absurd h0 h1
 rename_i h1;rw[if_neg h1];split at h0
 ·cases h0
 rename_i h2;rw[if_neg h2];split at h0
 ·cases h0
 rename_i h3;rw[if_neg h3];have h2:=q8g.1 (Bool.not_eq_false _▸h2:inR p 0 (o.left.length-1)=true);exact qw0 ok ho hi (by omega) h0
theorem qsq{seen:List Int}{n m:Int}(h:m∈(qay seen n).2):m∈seen\/(m=n/\n<0):=by
 unfold qay at h;split at h
 ·exact .inl h
 split at h
 ·rcases gO.1 h with h|h
  ·exact .inl h
  ·exact .inr ⟨gD.1 h,by omega⟩
 ·exact .inl h
theorem qpl{seen:List Int}{n:Int}(h:seen.Nodup):(qay seen n).2.Nodup:=by
 unfold qay;split
 ·exact h
 split
 ·rename_i h1;rw[qb0]at h1;rw[List.nodup_append];exact⟨h,by simp,fun a ha b hb=>by rw[gD.1 hb];exact fun e=>h1 (e▸ha)⟩
 ·exact h
theorem qeh:∀(t seen:List Int),seen.Nodup->(∀m∈seen,-6<=m/\m<0)->(∀n∈t,-6<=n)->(q3p seen t).2.Nodup/\∀m∈(q3p seen t).2,-6<=m/\m<0
 |[],seen,h1,h2,_=>⟨h1,h2⟩
 |n::t,seen,h1,h2,h3=>by
  rw[q3p];refine qeh t _ (qpl h1) (fun m hm=>?_) (fun m hm=>h3 m (gF _ hm));rcases qsq hm with h|⟨rfl,h⟩
  ·exact h2 m h
  ·exact⟨h3 m (by simp),h⟩
theorem qo5:∀{s t:List Int},s.Nodup->s ⊆ t->s.length<=t.length
 |[],t,_,_=>Nat.zero_le _
 |x::s,t,h,hs=>by
  have hx:x∈t:=hs (by simp);rw[List.nodup_cons]at h
  have h1:s ⊆ t.erase x:=fun y hy=>by
   refine(List.mem_erase_of_ne (fun(e:y=x)=>h.1 (by rw[<- e];exact hy))).2 (hs (gF _ hy))
  have h2:=qo5 h.2 h1;rw[List.length_erase_of_mem hx]at h2;have:=List.length_pos_of_mem hx;rw[gAB];omega
theorem six{s:List Int}(h1:s.Nodup)(h2:∀m∈s,-6<=m/\m<0):s.length<=6:=by
 have:s ⊆ [-6,-5,-4,-3,-2,-1]:=fun m hm=>by
  have:=h2 m hm;simp only[gK,List.not_mem_nil,or_false];omega
 exact qo5 h1 this
theorem qkz{l:List Symbol}{e:Equation}(he:EqOk l e):(qce e).length<=6:=by
 obtain⟨h1,h2⟩:=qeh e.left [] (by simp) (by simp) he.lowL;obtain⟨h3,h4⟩:=qeh e.right _ h1 h2 he.lowR;exact six h3 h4
theorem qlw{l:List Symbol}(ok:SigOk ⟨l⟩){eqs:List Equation}{ents:List Entry}{e:Entry}(hq:∀x∈eqs,EqOk l x)(he:∀x∈ents,EqOk l (eqOf x))(h:(derR l eqs ents e).code=0):EqOk l (derR l eqs ents e).equation:=by
 unfold derR at h ⊢;split at h
 ·rename_i h1;exact absurd h h1
 rename_i h1;rw[if_neg h1];have nk:=qty (Classical.not_not.1 h1);split at h
 ·rename_i k1;rw[if_pos k1,getE (nk.given k1)];exact hq _ (gG _)
 rename_i k1;rw[if_neg k1,getN (nk.other k1)];have hea:=he _ (gG (nk.other k1));split at h
 ·rename_i k2;rw[if_pos k2];exact⟨hea.right,hea.left,hea.lowR,hea.lowL⟩
 rename_i k2;rw[if_neg k2];split at h
 ·rename_i k3;rw[if_pos k3];exact qm3 hea.left hea.right (qkz hea)
 rename_i k3;rw[if_neg k3];have hk4:e.kind=4\/e.kind=5:=by rcases nk.kind with h|h|h|h|h <;> simp_all
 have heb:=he _ (gG (nk.b hk4).2);rw[getN (nk.b hk4).2];rw[getN (nk.b hk4).2,getN (nk.other k1)]at h;split at h
 ·rename_i k5;rw[if_pos k5];exact qtq ok hea heb h
 rename_i k5;rw[if_neg k5];split at h
 ·rename_i k6;rw[if_pos k6];obtain⟨q1,q2⟩:=qgp heb hea.left hea.lowL h;exact⟨q1,hea.right,q2,hea.lowR⟩
 ·rename_i k6;rw[if_neg k6];obtain⟨q1,q2⟩:=qgp heb hea.right hea.lowR h;exact⟨hea.left,q1,hea.lowL,q2⟩
theorem q70{eqn enn:Nat}(h1:eqn<=4294967296)(h2:enn<=4294967296)(e:Entry):Call F.q70 [.int .i64 eqn,.int .i64 enn,.rref (enc e) 0] (.int .i64 (q4j eqn enn e)):=by
 obtain⟨k,a,b,p,s,le,ri⟩:=e;refine q0v rfl 0 ((q70.ev _ _ _ _ _ _ _ _ _ _).trans ?_);simp only[evz,Nat.reduceLT,(q1q _ _ _).eq,q3g (x:=(eqn:Int)-1) (by omega),q3g (x:=(enn:Int)-1) (by omega),q4j,two];cases h0:inR k 1 5 with
 |false=>simp only[evz,Nat.reduceLT,Bool.not_false]
 |true=>
  simp only[evz,Nat.reduceLT,Bool.not_true,reduceCtorEq];by_cases k4:k=4
  ·subst k4;cases q1:inR a 0 (enn-1) <;> cases q2:inR b 0 (enn-1) <;> cases q3:inR s 0 1 <;> simp[evz,Nat.reduceLT,q1,q2,q3]
  by_cases k5:k=5
  ·subst k5;by_cases s0:s=0
   ·subst s0;cases q1:inR a 0 (enn-1) <;> cases q2:inR b 0 (enn-1) <;> cases q3:inR 0 0 1 <;> simp[evz,Nat.reduceLT,q1,q2,q3]
   ·simp[evz,Nat.reduceLT,s0]
  by_cases b0:b=0
  case neg=>simp[evz,Nat.reduceLT,k4,k5,b0]
  by_cases p0:p=0
  case neg=>simp[evz,Nat.reduceLT,k4,k5,b0,p0]
  by_cases s0:s=0
  case neg=>simp[evz,Nat.reduceLT,k4,k5,b0,p0,s0]
  subst b0 p0 s0;by_cases k1:k=1
  ·subst k1;cases q1:inR a 0 (eqn-1) <;> cases q3:inR 0 0 1 <;> simp[evz,Nat.reduceLT,q1,q3]
  ·cases q1:inR a 0 (enn-1) <;> cases q3:inR 0 0 1 <;> simp[evz,Nat.reduceLT,k1,k4,k5,q1,q3]
theorem EqOk.small{l:List Symbol}{e:Equation}(h:EqOk l e):sm 1048576 e:=⟨⟨by have:=h.left.le;omega,fun _ _=>trivial⟩,⟨by have:=h.right.le;omega,fun _ _=>trivial⟩⟩
theorem qey{e:Equation}(h:sm 1048576 e):sm 1048576 [e]:=⟨by simp,fun y hy=>by rw[gD.1 hy];exact h⟩
theorem qbu{l:List Symbol}{e:Entry}(h:EqOk l (eqOf e)):sm 4294967296 e:=⟨q3o (by omega) h.small.1,q3o (by omega) h.small.2⟩
def made(e:Entry)(r:EquationResult):Entry:=if r.code≠0 then⟨0,0,0,0,0,[],[]⟩else⟨e.kind,e.a,e.b,e.place,e.side,r.equation.left,r.equation.right⟩
section
variable {l:List Symbol}(ok:SigOk ⟨l⟩)(hs:sm 1048576 (Signature.mk l)){eqs:List Equation}{ents:List Entry}(hq:∀x∈eqs,EqOk l x)(he:∀x∈ents,EqOk l (eqOf x))(hql:eqs.length<=12)(hel:ents.length<=500)
include ok hs hq he hql hel
theorem q66(e:Entry) :
 Call F.q66 [.rref [slc l] 0,slc eqs,slc ents,.rref (enc e) 0] (.tup [.agg [slc (derR l eqs ents e).equation.left,slc (derR l eqs ents e).equation.right],.int .i64 (derR l eqs ents e).code]):=by
 have hn:=(q70 (eqn:=eqs.length) (enn:=ents.length) (by omega) (by omega) e).eq;obtain⟨k,a,b,p,s,le,ri⟩:=e;rw[q42]at hn;refine q0v rfl 0 ((q66.ev _ _ _ _ _ _ _ _ _ _ _).trans ?_);simp only[evz,Nat.reduceLT,hn,derR];by_cases h:q4j eqs.length ents.length ⟨k,a,b,p,s,le,ri⟩=0
 case neg=>simp only[h,evz,Nat.reduceLT,ne_eq,gX,q4s]
 have nk:=qty h;obtain⟨n1,n2,n3,n4,n5,n6,n7⟩:=nk;simp only at n1 n2 n3 n4 n5 n6 n7;obtain⟨a,rfl⟩:∃a':Nat,a=a':=⟨a.toNat,by omega⟩;simp only[h,evz,Nat.reduceLT,ne_eq,gW];by_cases k1:k=1
 ·subst k1;have ha:a<eqs.length:=by have:=n3 rfl;omega
  have hlk:eqs[a]?=some eqs[a]:=gA ha;have ho:=(hq _ (gG ha)).small
  have hc:Call F.q8w [.rref [slc eqs[a].left,slc eqs[a].right] 0] (.agg [slc eqs[a].left,slc eqs[a].right]):=by
   refine q0v rfl 0 ((q8w.ev _ _ _).trans ?_);simp only[evz,Nat.reduceLT,(q2u eqs[a].left (by have:=ho.1.1;omega)).eq,(q2u eqs[a].right (by have:=ho.2.1;omega)).eq]
  simp only[evz,Nat.reduceLT,ha,q53 (k:=2) (i:=a) rfl hlk,q4f,hc.eq,getE ha]
 have ha:a<ents.length:=by have:=n4 k1;omega
 have hla:ents[a]?=some ents[a]:=gA ha;have hea:=he _ (gG ha);simp only[evz,Nat.reduceLT,k1,ha,q53 (k:=7) (i:=a) rfl hla,(q2m ents[a] (qbu hea)).eq,getN ha];by_cases k2:k=2
 ·subst k2;simp only[evz,Nat.reduceLT]
 by_cases k3:k=3
 ·subst k3;have hsx:=qkz hea;have:=hea.left.le;have:=hea.right.le;have hp:=(q1m ents[a].left ents[a].right (by have:ents[a].left.length<=24:=hea.left.le;omega) (by have:ents[a].right.length<=24:=hea.right.le;omega)).eq;have hsx':(qce ⟨ents[a].left,ents[a].right⟩).length<=6:=hsx;rw[if_pos hsx',if_pos hsx']at hp;simp only[evz,Nat.reduceLT,hp];rfl
 have k45:k=4\/k=5:=by omega
 obtain⟨b0,b1⟩:=n5 k45;obtain⟨b,rfl⟩:∃b':Nat,b=b':=⟨b.toNat,by omega⟩;have hb:b<ents.length:=by omega
 have hlb:ents[b]?=some ents[b]:=gA hb;have heb:=he _ (gG hb);simp only[evz,Nat.reduceLT,k2,k3,hb,q53 (k:=7) (i:=b) rfl hlb,(q2m ents[b] (qbu heb)).eq,getN hb];by_cases k5:k=5
 ·subst k5;have hp:LIM F.q8f [.agg [slc l],.agg [slc ents[a].left,slc ents[a].right],.agg [slc ents[b].left,slc ents[b].right],.int .i64 p]=some (.agg (enc (qax ⟨l⟩ (eqOf ents[a]) (eqOf ents[b]) p)),[]):=(q8f ⟨l⟩ (eqOf ents[a]) (eqOf ents[b]) p hs hea.small heb.small).eq;rw[q2s]at hp;simp only[evz,Nat.reduceLT,hp]
 simp only[evz,Nat.reduceLT,k5];by_cases s0:s=0
 ·subst s0;have hp:LIM F.q56 [.agg [slc l],.sl 2 [slc ents[b].left,slc ents[b].right],.int .i64 0,.int .i64 p,slc ents[a].left]=some (.agg (enc (q5c ⟨l⟩ [eqOf ents[b]] 0 p ents[a].left)),[]):=(q56 ⟨l⟩ [eqOf ents[b]] 0 p ents[a].left hs (qey heb.small) hea.small.1).eq;rw[q3z]at hp;simp only[evz,Nat.reduceLT,hp]
 ·have hp:LIM F.q56 [.agg [slc l],.sl 2 [slc ents[b].left,slc ents[b].right],.int .i64 0,.int .i64 p,slc ents[a].right]=some (.agg (enc (q5c ⟨l⟩ [eqOf ents[b]] 0 p ents[a].right)),[]):=(q56 ⟨l⟩ [eqOf ents[b]] 0 p ents[a].right hs (qey heb.small) hea.small.2).eq;rw[q3z]at hp;simp only[evz,Nat.reduceLT,s0,hp]
theorem q6r(e:Entry) :
 Call F.q6r [.rref [slc l] 0,slc eqs,slc ents,.agg (enc e)] (.tup [.agg (enc (made e (derR l eqs ents e))),.int .i64 (derR l eqs ents e).code]):=by
 have hn:=(q66 ok hs hq he hql hel e).eq;rw[q42]at hn;rw[q42];refine q0v rfl 0 ((q6r.ev _ _ _ _ _ _ _ _ _ _ _).trans ?_);simp only[evz,Nat.reduceLT,hn,made];by_cases h:(derR l eqs ents e).code=0
 ·simp only[h,evz,Nat.reduceLT,ne_eq,gW,q42]
 ·simp only[h,evz,Nat.reduceLT,ne_eq,gX,q42,q4s]
theorem qxh(n:Nat)(k a b p s:Int)(le ri:List Int)(h:q4j eqs.length ents.length ⟨k,a,b,p,s,le,ri⟩=0) :
 q0u.j5 n (cells eqs) (cells ents) (cells l) k a b p s (cells le) (cells ri) 0 0 0 0 0=some (.tup [.agg (enc (made ⟨k,a,b,p,s,le,ri⟩ (derR l eqs ents ⟨k,a,b,p,s,le,ri⟩))),.int .i64 (derR l eqs ents ⟨k,a,b,p,s,le,ri⟩).code],[]):=by
 have nk:=qty h;obtain⟨n1,n2,n3,n4,n5,n6,n7⟩:=nk;simp only at n1 n2 n3 n4 n5 n6 n7;obtain⟨a,rfl⟩:∃a':Nat,a=a':=⟨a.toNat,by omega⟩
 have ho:∀x y:List Int,x.length<=4294967296->y.length<=4294967296->Call F.q4e [.agg [slc x,slc y]] (.agg [slc x,slc y]):=fun x y h1 h2=>by
  refine q0v rfl 0 ((q4e.ev _ _ _).trans ?_);simp only[evz,Nat.reduceLT,(q2c x h1).eq,(q2c y h2).eq]
 simp only[q0u.j5,q0u.j6,q0u.j7,made,derR,h,evz,Nat.reduceLT,ne_eq,gW];by_cases k1:k=1
 ·subst k1;have ha:a<eqs.length:=by have:=n3 rfl;omega
  have hlk:eqs[a]?=some eqs[a]:=gA ha;have hsm:=(hq _ (gG ha)).small;have hc:=(ho eqs[a].left eqs[a].right (by have:=hsm.1.1;omega) (by have:=hsm.2.1;omega)).eq;simp only[q0u.j8,evz,Nat.reduceLT,ha,hlk,q4f,hc,getE ha,q42,gW]
 have ha:a<ents.length:=by have:=n4 k1;omega
 have hla:ents[a]?=some ents[a]:=gA ha;have hea:=he _ (gG ha);have hsa:=hea.small;have la:ents[a].left.length<=24:=hea.left.le;have lr:ents[a].right.length<=24:=hea.right.le;have hee:=qcy ents[a];rw[q42]at hee;simp only[q0u.j9,evz,Nat.reduceLT,k1,getN ha];by_cases k2:k=2
 ·subst k2;have hc:=(ho ents[a].right ents[a].left (by omega) (by omega)).eq;simp only[q0u.j10,evz,Nat.reduceLT,ha,hla,q42,hc,gW]
 simp only[q0u.j11,evz,Nat.reduceLT,k2];by_cases k3:k=3
 ·subst k3;have hp:=(q0e ents[a].left ents[a].right (by have:=hsa.1.1;have:ents[a].left.length<=24:=hea.left.le;omega) (by have:ents[a].right.length<=24:=hea.right.le;omega)).eq;simp only[q0u.j12,evz,Nat.reduceLT,ha,hla,q42,hee.eq,hp,gW];rfl
 have k45:k=4\/k=5:=by omega
 obtain⟨b0,b1⟩:=n5 k45;obtain⟨b,rfl⟩:∃b':Nat,b=b':=⟨b.toNat,by omega⟩;have hb:b<ents.length:=by omega
 have hlb:ents[b]?=some ents[b]:=gA hb;have heb:=he _ (gG hb);have hef:=qcy ents[b];rw[q42]at hef;simp only[q0u.j13,evz,Nat.reduceLT,k3,getN hb];by_cases k4:k=4
 ·subst k4;have hc:=(ho ents[a].left ents[a].right (by omega) (by omega)).eq;simp only[q0u.j14,q0u.j15,q0u.j16,q0u.j17,q0u.j18,q0u.j19,evz,Nat.reduceLT,ha,hla,hb,hlb,q42,hee.eq,hef.eq,hc];rcases n6 with s0|⟨_,s1⟩
  ·subst s0;have hp:LIM F.q55 [.agg [slc l],.sl 2 [slc ents[b].left,slc ents[b].right],.int .i64 0,.int .i64 p,slc ents[a].left]=some (.agg (enc (q5c ⟨l⟩ [eqOf ents[b]] 0 p ents[a].left)),[]):=(q55 ⟨l⟩ [eqOf ents[b]] 0 p ents[a].left hs (qey heb.small) hea.small.1).eq;rw[q3z]at hp;simp only[evz,Nat.reduceLT,hp];by_cases hcd:(q5c ⟨l⟩ [eqOf ents[b]] 0 p ents[a].left).code=0 <;> simp[evz,Nat.reduceLT,hcd,q4s]
  ·subst s1;have hp:LIM F.q55 [.agg [slc l],.sl 2 [slc ents[b].left,slc ents[b].right],.int .i64 0,.int .i64 p,slc ents[a].right]=some (.agg (enc (q5c ⟨l⟩ [eqOf ents[b]] 0 p ents[a].right)),[]):=(q55 ⟨l⟩ [eqOf ents[b]] 0 p ents[a].right hs (qey heb.small) hea.small.2).eq;rw[q3z]at hp;simp only[evz,Nat.reduceLT,hp];by_cases hcd:(q5c ⟨l⟩ [eqOf ents[b]] 0 p ents[a].right).code=0 <;> simp[evz,Nat.reduceLT,hcd,q4s]
 have k5:k=5:=by omega
 subst k5;have hp:LIM F.q8e [.agg [slc l],.agg [slc ents[a].left,slc ents[a].right],.agg [slc ents[b].left,slc ents[b].right],.int .i64 p]=some (.agg (enc (qax ⟨l⟩ (eqOf ents[a]) (eqOf ents[b]) p)),[]):=(q8e ⟨l⟩ (eqOf ents[a]) (eqOf ents[b]) p hs hea.small heb.small).eq;rw[q2s]at hp;simp only[q0u.j20,q0u.j21,evz,Nat.reduceLT,ha,hla,hb,hlb,q42,hee.eq,hef.eq,hp];by_cases hcd:(qax ⟨l⟩ (eqOf ents[a]) (eqOf ents[b]) p).code=0 <;> simp[evz,Nat.reduceLT,hcd,q4s]
theorem q0u(e:Entry) :
 Call F.q0u [.agg [slc l],slc eqs,slc ents,.agg (enc e)] (.tup [.agg (enc (made e (derR l eqs ents e))),.int .i64 (derR l eqs ents e).code]):=by
 obtain⟨k,a,b,p,s,le,ri⟩:=e;rw[q42];refine q0v rfl 0 ((q0u.ev _ _ _ _ _ _ _ _ _ _ _).trans ?_);have good:=qxh ok hs hq he hql hel 0 k a b p s le ri
 have bad:∀c:Int,c≠0->q4j eqs.length ents.length ⟨k,a,b,p,s,le,ri⟩=c->
  (some (.tup [.agg [.int .i64 0,.int .i64 0,.int .i64 0,.int .i64 0,.int .i64 0,.sl 1 [],.sl 1 []],.int .i64 c],[]):R)=some (.tup [.agg (enc (made ⟨k,a,b,p,s,le,ri⟩ (derR l eqs ents ⟨k,a,b,p,s,le,ri⟩))),.int .i64 (derR l eqs ents ⟨k,a,b,p,s,le,ri⟩).code],[]):=fun c hc h=>by
  have e1:derR l eqs ents ⟨k,a,b,p,s,le,ri⟩=⟨c,⟨[],[]⟩⟩:=by unfold derR;rw[h,if_pos hc]
  rw[e1];simp only[made,ne_eq,hc,gX,if_true,q42];rfl
 generalize (some (T.tup [.agg (enc (made ⟨k,a,b,p,s,le,ri⟩ (derR l eqs ents ⟨k,a,b,p,s,le,ri⟩))),.int .i64 (derR l eqs ents ⟨k,a,b,p,s,le,ri⟩).code],[]):R)=G at *;simp only[evz,Nat.reduceLT,(q3l _ _ _).eq];cases h0:inR k 1 5 with
 |false=>
  simp only[evz,Nat.reduceLT,Bool.not_false];have:=bad 1 (by decide) (by simp[q4j,h0]);by_cases k4:k=4 <;> simp only[evz,Nat.reduceLT,k4,this]
 |true=>
  simp only[evz,Nat.reduceLT,Bool.not_true,reduceCtorEq,q0u.j0,q0u.j1,q0u.j2,q0u.j3,q0u.j4,(q3l _ _ _).eq,q3g (x:=(eqs.length:Int)-1) (by omega),q3g (x:=(ents.length:Int)-1) (by omega)];by_cases k4:k=4
  ·subst k4;cases q1:inR a 0 (ents.length-1)with
   |false=>
    simp only[evz,Nat.reduceLT,q1,Bool.not_true,Bool.not_false];exact bad 3 (by decide) (by simp[q4j,two,h0,q1])
   |true=>
    cases q2:inR b 0 (ents.length-1)with
    |false=>
     simp only[evz,Nat.reduceLT,q1,q2,Bool.not_true,Bool.not_false];exact bad 3 (by decide) (by simp[q4j,two,h0,q1,q2])
    |true=>
     cases q3:inR s 0 1 with
     |false=>
      simp only[evz,Nat.reduceLT,q1,q2,q3,Bool.not_true,Bool.not_false];exact bad 3 (by decide) (by simp[q4j,two,h0,q1,q2,q3])
     |true=>
      simp only[evz,Nat.reduceLT,q1,q2,q3,Bool.not_true,Bool.not_false];exact good (by simp[q4j,two,h0,q1,q2,q3,show inR 0 0 1=true from rfl])
  by_cases k5:k=5
  ·subst k5;by_cases s0:s=0
   ·subst s0;cases q1:inR a 0 (ents.length-1)with
    |false=>
     simp only[evz,Nat.reduceLT,q1,Bool.not_true,Bool.not_false,show inR 0 0 1=true from rfl];exact bad 3 (by decide) (by simp[q4j,two,h0,q1])
    |true=>
     cases q2:inR b 0 (ents.length-1)with
     |false=>
      simp only[evz,Nat.reduceLT,q1,q2,Bool.not_true,Bool.not_false,show inR 0 0 1=true from rfl];exact bad 3 (by decide) (by simp[q4j,two,h0,q1,q2])
     |true=>
      simp only[evz,Nat.reduceLT,q1,q2,Bool.not_true,Bool.not_false,show inR 0 0 1=true from rfl];exact good (by simp[q4j,two,h0,q1,q2,show inR 0 0 1=true from rfl])
   ·simp only[evz,Nat.reduceLT,s0];exact bad 1 (by decide) (by simp[q4j,two,h0,s0])
  by_cases b0:b=0
  case neg=>
   simp only[evz,Nat.reduceLT,k4,k5,b0];exact bad 1 (by decide) (by simp[q4j,two,h0,k4,k5,b0])
  by_cases p0:p=0
  case neg=>
   simp only[evz,Nat.reduceLT,k4,k5,b0,p0];exact bad 1 (by decide) (by simp[q4j,two,h0,k4,k5,b0,p0])
  by_cases s0:s=0
  case neg=>
   simp only[evz,Nat.reduceLT,k4,k5,b0,p0,s0];exact bad 1 (by decide) (by simp[q4j,two,h0,k4,k5,b0,p0,s0])
  subst b0 p0 s0;by_cases k1:k=1
  ·subst k1;cases q1:inR a 0 (eqs.length-1)with
   |false=>
    simp only[evz,Nat.reduceLT,q1,Bool.not_true,Bool.not_false,show inR 0 0 1=true from rfl];exact bad 3 (by decide) (by simp[q4j,two,h0,q1])
   |true=>
    simp only[evz,Nat.reduceLT,q1,Bool.not_true,Bool.not_false,show inR 0 0 1=true from rfl];exact good (by simp[q4j,two,h0,q1,show inR 0 0 1=true from rfl])
  ·skip
   cases q1:inR a 0 (ents.length-1)with
   |false=>
    simp only[evz,Nat.reduceLT,q1,Bool.not_true,Bool.not_false,k1,k4,k5,show inR 0 0 1=true from rfl];exact bad 3 (by decide) (by simp[q4j,two,h0,k1,k4,k5,q1])
   |true=>
    simp only[evz,Nat.reduceLT,q1,Bool.not_true,Bool.not_false,k1,k4,k5,show inR 0 0 1=true from rfl];exact good (by simp[q4j,two,h0,k1,k4,k5,q1,show inR 0 0 1=true from rfl])
end
noncomputable def chkN(l:List Symbol)(eqs:List Equation)(ents:List Entry):Nat->Nat->Int
 |0,_=>0
 |n+1,k=>if(derR l eqs (ents.take k) (ents.getD k ⟨0,0,0,0,0,[],[]⟩)).code≠0 then(derR l eqs (ents.take k) (ents.getD k ⟨0,0,0,0,0,[],[]⟩)).code
  else if(derR l eqs (ents.take k) (ents.getD k ⟨0,0,0,0,0,[],[]⟩)).equation=eqOf (ents.getD k ⟨0,0,0,0,0,[],[]⟩)then chkN l eqs ents n (k+1)else 8
noncomputable def qaa(s:Signature)(eqs:List Equation)(ents:List Entry):Int:=
 if q43 s≠0 then q43 s else if q6d s.symbols eqs≠0 then q6d s.symbols eqs else if 500<ents.length then 2 else chkN s.symbols eqs ents ents.length 0
theorem qim{ents:List Entry}{k:Nat}(h:k<ents.length):ents.take (k+1)=ents.take k++[ents[k]]:=by
 rw[List.take_add_one,gA h];rfl
theorem qtu{l:List Symbol}(ok:SigOk ⟨l⟩){eqs:List Equation}(hq:∀x∈eqs,EqOk l x){ents:List Entry}:∀{n k:Nat},k+n=ents.length->(∀x∈ents.take k,EqOk l (eqOf x))->chkN l eqs ents n k=0->∀x∈ents,EqOk l (eqOf x)
 |0,k,hk,h,_=>by rw[List.take_of_length_le (by omega)]at h;exact h
 |n+1,k,hk,h,h0=>by
  have hlt:k<ents.length:=by omega
  rw[chkN,getN hlt]at h0;by_cases c:(derR l eqs (ents.take k) ents[k]).code=0
  ·rw[if_neg (by simpa using c)]at h0;by_cases e:(derR l eqs (ents.take k) ents[k]).equation=eqOf ents[k]
   ·rw[if_pos e]at h0;refine qtu ok hq (by omega) (fun x hx=>?_) h0;rw[qim hlt]at hx;rcases gO.1 hx with hx|hx
    ·exact h x hx
    ·rw[gD.1 hx,<- e];exact qlw ok hq h c
   ·rw[if_neg e]at h0;cases h0
  ·rw[if_pos c]at h0;exact absurd h0 c
theorem qf6{l:List Symbol}{eqs:List Equation}{ents:List Entry}(h:qaa ⟨l⟩ eqs ents=0):SigOk ⟨l⟩/\eqs.length<=12/\(∀x∈eqs,EqOk l x)/\ents.length<=500/\∀x∈ents,EqOk l (eqOf x):=by
 unfold qaa at h;by_cases h1:q43 ⟨l⟩=0
 ·rw[if_neg (by simpa using h1)]at h;by_cases h2:q6d l eqs=0
  ·rw[if_neg (by simpa using h2)]at h;by_cases h3:500<ents.length
   ·rw[if_pos h3]at h;cases h
   ·rw[if_neg h3]at h;have ok:=(q8h _).1 h1;obtain⟨q1,q2⟩:=q9x.1 h2;exact⟨ok,q1,q2,by omega,qtu ok q2 (by omega) (by simp) h⟩
  ·rw[if_pos h2]at h;exact absurd h h2
 ·rw[if_pos h1]at h;exact absurd h h1
theorem qr0{ents:List Entry}{k:Nat}:((cells ents).take (k*7)).drop (0*7)=cells (ents.take k):=by rw[Nat.zero_mul,List.drop_zero,q8k ents 7 k rfl]
theorem qne{k n:Nat}(h:k<=n):(decide (0<=(0:Int))&&decide ((0:Int)<=(k:Nat))&&decide ((k:Int)<=(n:Nat)))=true:=by
 simp;omega
theorem qpc{e:Entry}{q:Equation}(h:q.left=e.left):q=eqOf e<->q.right=e.right:=by
 unfold eqOf;obtain⟨a,b⟩:=q;simp only at h;subst h;simp
section
variable {l:List Symbol}(ok:SigOk ⟨l⟩)(hs:sm 1048576 (Signature.mk l)){eqs:List Equation}(hq:∀x∈eqs,EqOk l x)(hql:eqs.length<=12){ents:List Entry}(hel:ents.length<=500)
include ok hs hq hql hel
theorem qjx{N:Nat} :
 ∀n k f,k+n=ents.length->n<f->(∀x∈ents.take k,EqOk l (eqOf x))->q2g.at0 N f (q2g.st0 (cells l) (cells eqs) (cells ents) (k:Nat))=some (.int .i64 (chkN l eqs ents n k),[])
 |n,k,0,hk,hf,hok=>by omega
 |0,k,f+1,hk,hf,hok=>by
  simp only[q2g.next0,q2g.round0,evz,Nat.reduceLT,show ¬ k<ents.length by omega,chkN]
 |n+1,k,f+1,hk,hf,hok=>by
  have hlt:k<ents.length:=by omega
  have hlk:ents[k]?=some ents[k]:=gA hlt;have hd:=(q66 ok hs hq hok hql (by rw[gAF];omega) ents[k]).eq;simp only[q2g.next0,q2g.round0,evz,Nat.reduceLT,hlt,hlk,qr0,q53 (k:=7) (i:=k) rfl hlk,q42]at hd ⊢;rw[q1k (qne (Nat.le_of_lt hlt))];simp only[evz,Nat.reduceLT,hd];rw[chkN,getN hlt];by_cases c:(derR l eqs (ents.take k) ents[k]).code=0
  case neg=>simp only[c,evz,Nat.reduceLT,ne_eq,gX]
  have hdo:=qlw ok hq hok c;simp only[c,evz,Nat.reduceLT,ne_eq,gW,(q1r _ _ (q3o (by omega) hdo.small.1)).eq,(q1r _ _ (q3o (by omega) hdo.small.2)).eq];by_cases c1:(derR l eqs (ents.take k) ents[k]).equation.left=ents[k].left
  case neg=>
   have c2:¬(derR l eqs (ents.take k) ents[k]).equation=eqOf ents[k]:=fun h=>c1 (by rw[h];rfl);simp only[c1,c2,evz,Nat.reduceLT,decide_false,Bool.not_false]
  by_cases c2:(derR l eqs (ents.take k) ents[k]).equation.right=ents[k].right
  case neg=>
   have c3:¬(derR l eqs (ents.take k) ents[k]).equation=eqOf ents[k]:=fun h=>c2 ((qpc c1).1 h);simp only[c1,c2,c3,evz,Nat.reduceLT,decide_false,decide_true,Bool.not_false,Bool.not_true]
  rw[if_pos ((qpc c1).2 c2)];simp only[c1,c2,evz,Nat.reduceLT,decide_true,Bool.not_true];rw[q0n (by omega)];refine qjx n (k+1) f (by omega) (by omega) (fun x hx=>?_);rw[qim hlt]at hx;rcases gO.1 hx with hx|hx
  ·exact hok x hx
  ·rw[gD.1 hx,<- (qpc c1).2 c2];exact hdo
theorem qjw{N:Nat} :
 ∀n k f,k+n=ents.length->n<f->(∀x∈ents.take k,EqOk l (eqOf x))->q17.at0 N f (q17.st0 (cells eqs) (cells ents) (cells ents) ents.length (k:Nat) (cells l))=some (.int .i64 (chkN l eqs ents n k),[])
 |n,k,0,hk,hf,hok=>by omega
 |0,k,f+1,hk,hf,hok=>by
  simp only[q17.next0,q17.round0,evz,Nat.reduceLT,show ¬ k<ents.length by omega,chkN]
 |n+1,k,f+1,hk,hf,hok=>by
  have hlt:k<ents.length:=by omega
  have hlk:ents[k]?=some ents[k]:=gA hlt;have hd:=(q0u ok hs hq hok hql (by rw[gAF];omega) ⟨ents[k].kind,ents[k].a,ents[k].b,ents[k].place,ents[k].side,[],[]⟩).eq;have e0:derR l eqs (ents.take k) ⟨ents[k].kind,ents[k].a,ents[k].b,ents[k].place,ents[k].side,[],[]⟩=derR l eqs (ents.take k) ents[k]:=rfl;rw[e0]at hd;simp only[q17.next0,q17.round0,evz,Nat.reduceLT,hlt,hlk,qr0,q42,q4s]at hd ⊢;rw[q1k (qne (Nat.le_of_lt hlt))];simp only[evz,Nat.reduceLT,hd];rw[chkN,getN hlt];by_cases c:(derR l eqs (ents.take k) ents[k]).code=0
  case neg=>simp only[c,evz,Nat.reduceLT,ne_eq,gX]
  have hdo:=qlw ok hq hok c;have h1:=qcy (made ⟨ents[k].kind,ents[k].a,ents[k].b,ents[k].place,ents[k].side,[],[]⟩ (derR l eqs (ents.take k) ents[k]));have h2:=qcy ents[k];rw[q42]at h1 h2;have e1:(made ⟨ents[k].kind,ents[k].a,ents[k].b,ents[k].place,ents[k].side,[],[]⟩ (derR l eqs (ents.take k) ents[k])).left=(derR l eqs (ents.take k) ents[k]).equation.left:=by unfold made;rw[if_neg (by simpa using c)]
  have e2:(made ⟨ents[k].kind,ents[k].a,ents[k].b,ents[k].place,ents[k].side,[],[]⟩ (derR l eqs (ents.take k) ents[k])).right=(derR l eqs (ents.take k) ents[k]).equation.right:=by unfold made;rw[if_neg (by simpa using c)]
  have h3:=q5x (derR l eqs (ents.take k) ents[k]).equation.left (derR l eqs (ents.take k) ents[k]).equation.right ents[k].left ents[k].right (q3o (by omega) hdo.small);rw[e1,e2]at h1;simp only[c,evz,Nat.reduceLT,ne_eq,gW,e1,e2,h1.eq,h2.eq,h3.eq];by_cases c1:(derR l eqs (ents.take k) ents[k]).equation=eqOf ents[k]
  case neg=>
   have c2:¬(Equation.mk (derR l eqs (ents.take k) ents[k]).equation.left (derR l eqs (ents.take k) ents[k]).equation.right)=Equation.mk ents[k].left ents[k].right:=c1;simp only[c1,c2,evz,Nat.reduceLT,decide_false,Bool.not_false]
  have c2:(Equation.mk (derR l eqs (ents.take k) ents[k]).equation.left (derR l eqs (ents.take k) ents[k]).equation.right)=Equation.mk ents[k].left ents[k].right:=c1;rw[if_pos c1];simp only[c2,evz,Nat.reduceLT,decide_true,Bool.not_true];rw[q0n (by omega)];refine qjw n (k+1) f (by omega) (by omega) (fun x hx=>?_);rw[qim hlt]at hx;rcases gO.1 hx with hx|hx
  ·exact hok x hx
  ·rw[gD.1 hx,<- c1];exact hdo
end
theorem q59(s:Signature)(eqs:List Equation)(ents:List Entry)(hs:sm 1048576 s)(hq:sm 1048576 eqs)(he:sm 1048576 ents) :
 Call F.q59 [.agg (enc s),slc eqs,slc ents] (.int .i64 (qaa s eqs ents)):=by
 obtain⟨l⟩:=s;show Call F.q59 [.agg [slc l],slc eqs,slc ents] _;refine q0v rfl 0 ((q59.ev _ _ _ _).trans ?_);have hsl:l.length<=4294967296:=Nat.le_trans hs.1 (by omega);simp only[evz,Nat.reduceLT,(q5j l hsl eqs (q3o (by omega) hq)).eq,qaa];by_cases h1:q43 ⟨l⟩=0
 case neg=>simp only[h1,evz,Nat.reduceLT,ne_eq,gX]
 have ok:=(q8h _).1 h1;by_cases h2:q6d l eqs=0
 case neg=>simp only[h1,h2,evz,Nat.reduceLT,ne_eq,gX,gW]
 obtain⟨q1,q2⟩:=q9x.1 h2
 have hc:Call F.q2g [.rref [slc l] 0,slc eqs,slc ents] (.int .i64 (if 500<ents.length then 2 else chkN l eqs ents ents.length 0)):=by
  refine q0v rfl (ents.length+1) ((q2g.ev _ _ _ _).trans ?_);simp only[evz,Nat.reduceLT,gt_iff_lt];by_cases h3:500<ents.length
  ·have h3':(500:Int)<ents.length:=by omega
   simp only[h3,h3',evz,Nat.reduceLT]
  ·have h3':¬(500:Int)<ents.length:=by omega
   simp only[h3,h3',evz,Nat.reduceLT];exact qjx ok hs q2 q1 (by omega) ents.length 0 _ (by omega) (by omega) (by simp)
 simp only[h1,h2,evz,Nat.reduceLT,ne_eq,gW,hc.eq]
theorem q17(s:Signature)(eqs:List Equation)(ents:List Entry)(hs:sm 1048576 s)(hq:sm 1048576 eqs)(he:sm 1048576 ents) :
 Call F.q17 [.agg (enc s),slc eqs,slc ents] (.int .i64 (qaa s eqs ents)):=by
 obtain⟨l⟩:=s;show Call F.q17 [.agg [slc l],slc eqs,slc ents] _;refine q0v rfl (ents.length+1) ((q17.ev _ _ _ _).trans ?_);have hsl:l.length<=4294967296:=Nat.le_trans hs.1 (by omega);simp only[evz,Nat.reduceLT,(q0x l hsl eqs (q3o (by omega) hq)).eq,qaa,gt_iff_lt];by_cases h1:q43 ⟨l⟩=0
 case neg=>simp only[h1,evz,Nat.reduceLT,ne_eq,gX]
 have ok:=(q8h _).1 h1;by_cases h2:q6d l eqs=0
 case neg=>simp only[h1,h2,evz,Nat.reduceLT,ne_eq,gX,gW]
 obtain⟨q1,q2⟩:=q9x.1 h2;by_cases h3:500<ents.length
 ·have h3':(500:Int)<ents.length:=by omega
  simp only[h1,h2,h3,h3',evz,Nat.reduceLT,ne_eq,gW]
 ·have h3':¬(500:Int)<ents.length:=by omega
  simp only[h1,h2,h3,h3',evz,Nat.reduceLT,ne_eq,gW];exact qjw ok hs q2 q1 (by omega) ents.length 0 _ (by omega) (by omega) (by simp)
def qma(eqs:List Equation)(i:Nat):Entry:=⟨1,i,0,0,0,(eqs.getD i ⟨[],[]⟩).left,(eqs.getD i ⟨[],[]⟩).right⟩
def q71(eqs:List Equation)(k:Nat):List Entry:=(List.range k).map (qma eqs)
def qaf(k:Nat):List Int:=(List.range k).map fun(i:Nat)=>(i:Int)
theorem qw5:oSl 1 (.sl 1 [])=some []:=rfl
theorem qnt(eqs:List Equation):q71 eqs 0=[]:=rfl
theorem qs7:qaf 0=[]:=rfl
theorem qn2(eqs:List Equation)(k:Nat):q71 eqs (k+1)=q71 eqs k++[qma eqs k]:=by unfold q71;rw[List.range_succ,List.map_append];rfl
theorem qrl(k:Nat):qaf (k+1)=qaf k++[(k:Int)]:=by unfold qaf;rw[List.range_succ,List.map_append];rfl
theorem q7r(eqs:List Equation)(k:Nat):(q71 eqs k).length=k:=by simp[q71]
theorem q9n(k:Nat):(qaf k).length=k:=by simp[qaf]
theorem qg5{l:List Symbol}{eqs:List Equation}(hq:∀x∈eqs,EqOk l x){k:Nat}(hk:k<=eqs.length):∀x∈q71 eqs k,EqOk l (eqOf x):=fun x hx=>by
 obtain⟨i,hi,rfl⟩:=List.mem_map.1 hx;rw[List.mem_range]at hi;show EqOk l ⟨(eqs.getD i ⟨[],[]⟩).left,(eqs.getD i ⟨[],[]⟩).right⟩;rw[getE (by omega)];exact hq _ (gG _)
theorem qk7(l:List Symbol){eqs:List Equation}(ents:List Entry){k:Nat}(hk:k<eqs.length):derR l eqs ents ⟨1,k,0,0,0,[],[]⟩=⟨0,eqs[k]⟩:=by
 have h:q4j eqs.length ents.length ⟨1,k,0,0,0,[],[]⟩=0:=by
  have h1:inR (k:Int) 0 ((eqs.length:Int)-1)=true:=q8g.2 (by omega);simp[q4j,two,h1,show inR 1 1 5=true from rfl,show inR 0 0 1=true from rfl]
 unfold derR;rw[if_neg (by simpa using h),if_pos rfl,gR,getE hk]
def q6e(o:List Int)(eqs:List Equation):Completion:=⟨o,eqs,q71 eqs eqs.length,[],qaf eqs.length,0⟩
def newR(s:Signature)(o:List Int)(eqs:List Equation):CompletionResult:=
 if q58 s o≠0 then⟨q58 s o,⟨[],[],[],[],[],0⟩⟩else if q6d s.symbols eqs≠0 then⟨q6d s.symbols eqs,⟨[],[],[],[],[],0⟩⟩else⟨0,q6e o eqs⟩
theorem qyu{α:Type}[Sm α](n:Nat):sm n ([]:List α):=⟨by simp,by simp⟩
theorem qhp{eqs:List Equation}(hq:sm 1048576 eqs):Call F.q2b [slc eqs] (slc eqs):=by
 have hl:eqs.length<=1048576:=hq.1;refine q0v rfl (eqs.length+1) ((q2b.ev _ _).trans ?_)
 have key:=q8d (n:=eqs.length) (f:=eqs.length+1) (S:=fun m k (q:List Equation)=>q2b.at0 (eqs.length+1) m (q2b.st0 (cells eqs) (k:Nat) (cells q)))
  (st:=fun k=>eqs.take k) (z:=some (slc eqs,[])) (fun m k h=>?_) (fun m=>?_) (gAR _)
 ·rw[List.take_zero]at key;exact key
 ·have hlk:eqs[k]?=some eqs[k]:=gA h;have hsm:=hq.2 _ (gG h)
  have hc:Call F.q8w [.rref [slc eqs[k].left,slc eqs[k].right] 0] (.agg [slc eqs[k].left,slc eqs[k].right]):=by
   refine q0v rfl 0 ((q8w.ev _ _ _).trans ?_);simp only[evz,Nat.reduceLT,(q2u eqs[k].left (by have:=hsm.1.1;omega)).eq,(q2u eqs[k].right (by have:=hsm.2.1;omega)).eq]
  have hst:cells (eqs.take (k+1))=cells (eqs.take k)++[slc eqs[k].left,slc eqs[k].right]:=by
   rw[List.take_add_one,hlk,q3c];rfl
  have hlen:(eqs.take k).length<=1048576:=by rw[gAF];omega
  simp only[q2b.next0,q2b.round0,evz,Nat.reduceLT,h,q53 (k:=2) (i:=k) rfl hlk,q4f,hc.eq];rw[q1k (q44 (by rw[q0p,q46];omega)),q0n (by omega),hst]
 ·simp only[q2b.next0,q2b.round0,evz,Nat.reduceLT,gAK,List.take_length]
theorem qyr(x y:List Int)(h1:x.length<=4294967296)(h2:y.length<=4294967296):Call F.q4e [.agg [slc x,slc y]] (.agg [slc x,slc y]):=by
 refine q0v rfl 0 ((q4e.ev _ _ _).trans ?_);simp only[evz,Nat.reduceLT,(q2c x h1).eq,(q2c y h2).eq]
theorem qiv{eqs:List Equation}(hq:sm 1048576 eqs):Call F.q1a [slc eqs] (slc eqs):=by
 have hl:eqs.length<=1048576:=hq.1;refine q0v rfl (eqs.length+1) ((q1a.ev _ _).trans ?_);simp only[evz,Nat.reduceLT]
 have key:=q8d (n:=eqs.length) (f:=eqs.length+1) (S:=fun m k (q:List Equation)=>q1a.at0 (eqs.length+1) m (q1a.st0 (cells eqs) eqs.length (k:Nat) (cells q)))
  (st:=fun k=>eqs.take k) (z:=some (slc eqs,[])) (fun m k h=>?_) (fun m=>?_) (gAR _)
 ·rw[List.take_zero]at key;exact key
 ·have hlk:eqs[k]?=some eqs[k]:=gA h;have hsm:=hq.2 _ (gG h);have hc:=qyr eqs[k].left eqs[k].right (by have:=hsm.1.1;omega) (by have:=hsm.2.1;omega)
  have hst:cells (eqs.take (k+1))=cells (eqs.take k)++[slc eqs[k].left,slc eqs[k].right]:=by
   rw[List.take_add_one,hlk,q3c];rfl
  have hlen:(eqs.take k).length<=1048576:=by rw[gAF];omega
  simp only[q1a.next0,q1a.round0,evz,Nat.reduceLT,h,hlk,q4f,hc.eq];rw[q1k (q44 (by rw[q0p,q46];omega)),q0n (by omega),hst]
 ·simp only[q1a.next0,q1a.round0,evz,Nat.reduceLT,gAK,List.take_length]
theorem qfe{eqs:List Equation}{k:Nat}(h:k<eqs.length):cells (q71 eqs (k+1))=cells (q71 eqs k)++[.int .i64 1,.int .i64 k,.int .i64 0,.int .i64 0,.int .i64 0,slc eqs[k].left,slc eqs[k].right]:=by
 rw[qn2,q3c];have:cells [qma eqs k]=enc (qma eqs k):=qaj _;rw[this,q42];unfold qma;simp only[getE h]
theorem qj5(k:Nat):cells (qaf (k+1))=cells (qaf k)++[.int .i64 k]:=by rw[qrl,q2f]
section
variable {l:List Symbol}(ok:SigOk ⟨l⟩)(hs:sm 1048576 (Signature.mk l)){eqs:List Equation}(hqs:sm 1048576 eqs)(hq:∀x∈eqs,EqOk l x)(hql:eqs.length<=12){o:List Int}(ho:sm 1048576 o)
include ok hs hqs hq hql ho
theorem q35:Call F.q35 [.rref [slc l] 0,slc o,slc eqs] (.agg (enc (q6e o eqs))):=by
 have hol:=ho.1;refine q0v rfl (eqs.length+1) ((q35.ev _ _ _ _).trans ?_);simp only[evz,Nat.reduceLT,(q2u o (by omega)).eq,(qhp hqs).eq]
 have key:=q8d (n:=eqs.length) (f:=eqs.length+1) (S:=fun m k (q:List Entry×List Int)=>q35.at0 (eqs.length+1) m (q35.st0 (cells l) (cells eqs) (k:Nat) 0 (cells o) (cells eqs) 0 (cells q.1) (cells q.2)))
  (st:=fun k=>(q71 eqs k,qaf k)) (z:=some (.agg (enc (q6e o eqs)),[])) (fun m k h=>?_) (fun m=>?_) (gAR _)
 ·simp only[qnt,qs7,qdd]at key;exact key
 ·have hm:=(q6r ok hs hq (ents:=[]) (by simp) hql (by simp) ⟨1,k,0,0,0,[],[]⟩).eq;rw[qk7 l [] h,q42,q42]at hm;simp only[q4s,q3n,q8c,made,ne_eq,gW,if_false]at hm;have h1:=q7r eqs k;have h2:=q9n k;simp only[q35.next0,q35.round0,evz,Nat.reduceLT,h,hm];rw[q1k (q44 (by rw[q0p,q8c];omega)),q1k (q44 (by rw[q0p,q3n];omega)),q0n (by omega),qfe h,qj5]
 ·simp only[q35.next0,q35.round0,evz,Nat.reduceLT,gAK,q6e,qji,q4s,q3n]
theorem quy{k:Nat}(h:k<eqs.length):LIM F.q7b [.rref [slc l,slc o,slc eqs,slc (q71 eqs k),.sl 1 [],slc (qaf k),.int .i64 0,.int .i64 0] 0,.agg [.int .i64 1,.int .i64 k,.int .i64 0,.int .i64 0,.int .i64 0,.sl 1 [],.sl 1 []]]
 = some (.int .i64 k,[.agg [slc l,slc o,slc eqs,slc (q71 eqs (k+1)),.sl 1 [],slc (qaf k),.int .i64 0,.int .i64 0]]):=by
 have hm:=(q0u ok hs hq (qg5 hq (Nat.le_of_lt h)) hql (by rw[q7r];omega) ⟨1,k,0,0,0,[],[]⟩).eq;rw[qk7 l _ h,q42,q42]at hm;simp only[q4s,q3n,made,ne_eq,gW,if_false]at hm;have h1:=q7r eqs k;have h3:=q7r eqs (k+1);refine qb9 rfl 0 ((q7b.ev _ _ _ _ _ _ _ _ _ _ _ _ _ _ _ _).trans ?_);simp only[evz,Nat.reduceLT,hm,ne_eq,gW];have h5:¬((q71 eqs k).length:Int)=500:=by omega
 simp only[h5,evz,Nat.reduceLT];rw[q1k (q44 (by rw[q0p,q8c];omega)),<- qfe h,q5m q8c,h3,q3g (by omega)];congr 3;omega
theorem qtj{k:Nat}(h:k<eqs.length):LIM F.q73 [.rref [slc l,slc o,slc eqs,slc (q71 eqs (k+1)),.sl 1 [],slc (qaf k),.int .i64 0,.int .i64 0] 0,.int .i64 k]
 = some (.tup [],[.agg [slc l,slc o,slc eqs,slc (q71 eqs (k+1)),.sl 1 [],slc (qaf (k+1)),.int .i64 0,.int .i64 0]]):=by
 have h1:=q9n k;refine qb9 rfl 0 ((q73.ev _ _ _ _ _ _ _ _ _ _).trans ?_);have h5:¬((qaf k).length:Int)=100:=by omega
 simp only[evz,Nat.reduceLT,h5,ne_eq,gW];rw[q1k (q44 (by rw[q0p,q3n];omega)),<- qj5];rfl
theorem qqm{N:Nat}:∀n k f,k+n=eqs.length->n<f->q14.at0 N f (q14.st0 eqs.length (k:Nat) 0 0 (cells o) (cells eqs) (cells l) 0 0 (cells (q71 eqs k)) [] (cells (qaf k)))=some (.agg (enc (CompletionResult.mk 0 (q6e o eqs))),[])
 |n,k,0,hk,hf=>by omega
 |0,k,f+1,hk,hf=>by
  have:k=eqs.length:=by omega
  subst this;simp only[q14.next0,q14.round0,evz,Nat.reduceLT,gAK,q6e,q98,q4s,q3n]
 |n+1,k,f+1,hk,hf=>by
  have hlt:k<eqs.length:=by omega
  have ha:=quy ok hs hqs hq hql ho hlt;have hw:=qtj ok hs hqs hq hql ho hlt;simp only[q14.next0,q14.round0,evz,Nat.reduceLT,hlt,ha,hw,qw5];rw[q0n (by omega)];exact qqm n (k+1) f (by omega) (by omega)
end
theorem q14(s:Signature)(o:List Int)(eqs:List Equation)(hs:sm 1048576 s)(ho:sm 1048576 o)(hq:sm 1048576 eqs):Call F.q14 [.agg (enc s),slc o,slc eqs] (.agg (enc (newR s o eqs))):=by
 obtain⟨l⟩:=s;have hsl:l.length<=4294967296:=Nat.le_trans hs.1 (by omega);have hol:o.length<=4294967296:=Nat.le_trans ho.1 (by omega);show Call F.q14 [.agg [slc l],slc o,slc eqs] _;refine q0v rfl 20 ((q14.ev _ _ _ _).trans ?_);simp only[evz,Nat.reduceLT,(q1g l hsl o hol).eq,(q0x l hsl eqs (q3o (by omega) hq)).eq,(qfv _ _).eq,newR];by_cases h1:q58 ⟨l⟩ o=0
 case neg=>simp only[h1,evz,Nat.reduceLT,ne_eq,gX,q98,q4s,q3n,q46,q8c]
 obtain⟨hsf,hof⟩:=qc9 h1;have ok:=(q8h _).1 hsf;by_cases h2:q6d l eqs=0
 case neg=>simp only[h1,h2,hsf,evz,Nat.reduceLT,ne_eq,gX,gW,q98,q4s,q3n,q46,q8c]
 obtain⟨q1,q2⟩:=q9x.1 h2;simp only[h1,h2,hsf,evz,Nat.reduceLT,ne_eq,gW,(q2c o hol).eq,(qiv hq).eq];exact qqm ok hs hq q2 q1 ho eqs.length 0 20 (by omega) (by omega)
set_option maxHeartbeats 2000000
set_option maxRecDepth 10000
def EqS(n:Nat)(es:List Equation):Prop:=es.length<=n/\∀e∈es,e.left.length<=1001/\e.right.length<=1001
theorem EqS.sm{n:Nat}{es:List Equation}(h:EqS n es)(hn:n<=1001):Sm.sm 1048576 es:=⟨by have:=h.1;omega,fun e he=>⟨⟨by have:=(h.2 e he).1;omega,fun _ _=>trivial⟩,⟨by have:=(h.2 e he).2;omega,fun _ _=>trivial⟩⟩⟩
theorem EqS.snoc{n:Nat}{es:List Equation}(h:EqS n es){a b:List Int}(ha:a.length<=1001)(hb:b.length<=1001):EqS (n+1) (es++[⟨a,b⟩]):=⟨by have:=h.1;simp;omega,fun e he=>by
 rcases gO.1 he with h1|h1
 ·exact h.2 e h1
 ·rw[gD.1 h1];exact⟨ha,hb⟩⟩
theorem ql9(es:List Equation)(a b:List Int):cells es++[slc a,slc b]=cells (es++[⟨a,b⟩]):=by rw[q3c];rfl
section
variable {code:List UInt8}(hc:code.length<=2097152)
include hc
end
set_option maxHeartbeats 4000000
set_option maxRecDepth 10000
section
variable {code:List UInt8}(hc:code.length<=2097152)
include hc
end
set_option maxHeartbeats 4000000
set_option maxRecDepth 10000
structure BindM(vs:List Int)(ts:List (List Int)):Prop where
 vlen:vs.length<=40
 tlen:ts.length<=40
 size:∀t∈ts,t.length<=1001
theorem BindS.m{vs:List Int}{ts:List (List Int)}(h:BindS vs ts):BindM vs ts:=⟨by have:=h.vlen;omega,by have:=h.tlen;omega,h.size⟩
section
variable {code:List UInt8}(hc:code.length<=2097152)
include hc
theorem q1d{l:List Symbol}(ok:SigOk ⟨l⟩)(p n:Int)(hn:0<=n/\n<=12)(hp:0<=p/\p<=1099400000000) :
 Drawn code p 100000 (fun x=>∃es,x=slc es/\EqS n.toNat es/\∀e∈es,EqOk l e) (LIM F.q1d [.rref [slc code,.int .i64 p] 0,.rref [slc l] 0,.int .i64 n]):=by
 refine q9y rfl 20 ?_;rw[show q1b prog A H LIM 20 F.q1d [.rref [slc code,.int .i64 p] 0,.rref [slc l] 0,.int .i64 n]=_ from q1d.ev _ _ _ _ _];rw[show IntKind.wrap .i64 (n+1)=n+1 from q3g (by omega)];refine qco hc (by omega) fun v h1 h2=>?_;have h2:=h2 (by omega);simp only[evz,Nat.reduceLT];refine q9v (σ:=Int×Int×List Equation) (S:=fun m s=>q1d.at0 20 m (q1d.st0 (cells l) s.1 (cells code) s.2.1 (cells s.2.2))) (fun s=>0<=s.1/\s.1<=n/\p<=s.2.1/\s.2.1<=p+1+(n-s.1)*6300/\EqS (n-s.1).toNat s.2.2/\∀e∈s.2.2,EqOk l e) (fun s=>s.1.toNat) (fun m s hs=>?_) _ (v,p+1,[]) ⟨h1,by simp only;omega,by simp only;omega,by simp only;omega,⟨by simp,by simp⟩,by simp⟩ (by simp only;omega);obtain⟨k,q,es⟩:=s;obtain⟨g1,g2,g3,g4,g5,g6⟩:=hs;simp only at g1 g2 g3 g4 g5 g6 ⊢;have hes:=g5.1;by_cases hk:k>0
 case neg=>
  left;simp only[q1d.next0,q1d.round0,evz,Nat.reduceLT,hk];exact q5l (by omega) ⟨es,rfl,⟨by omega,g5.2⟩,g6⟩
 right;have wk:IntKind.wrap .i64 (k-1)=k-1:=q3g (by omega);obtain⟨_,q2,e1,c1,c2,a,b,rfl,heq⟩:=q6i hc ok q (by omega);have hal:=heq.left.le;have hbl:=heq.right.le;simp only at hal hbl;refine⟨(k-1,q2,es++[⟨a,b⟩]),?_,⟨by simp only;omega,by simp only;omega,by simp only;omega,by simp only;omega,?_,fun x hx=>?_⟩,by simp only;omega⟩
 ·simp only[q1d.next0,q1d.round0,evz,Nat.reduceLT,hk,wk,e1];rw[q1k (q44 (by rw[q0p];simp only[q46];omega)),ql9]
 ·have:=g5.snoc (a:=a) (b:=b) (by omega) (by omega);exact⟨by have:=this.1;simp only;omega,this.2⟩
 ·rcases gO.1 hx with h|h
  ·exact g6 x h
  ·rw[gD.1 h];exact heq
theorem q1h{l:List Symbol}(hl:l.length<=1000)(p:Int)(hp:0<=p/\p<=1099300000000) :
 Drawn code p 200000 (fun x=>∃es,x=slc es/\EqS 13 es) (LIM F.q1h [.rref [slc code,.int .i64 p] 0,.rref [slc l] 0]):=by
 refine q9y rfl 20 ?_;rw[show q1b prog A H LIM 20 F.q1h [.rref [slc code,.int .i64 p] 0,.rref [slc l] 0]=_ from q1h.ev _ _ _ _];simp only[evz,Nat.reduceLT,(q02 l (by omega)).eq];by_cases h0:q43 ⟨l⟩=0
 case neg=>
  simp only[h0,evz,Nat.reduceLT,ne_eq,gX];exact q5l (by omega) ⟨[],rfl,by simp,by simp⟩
 have ok:=qbe h0;simp only[h0,evz,Nat.reduceLT,ne_eq,gW];refine qa3 hc (by omega) fun b=>?_;simp only[evz,Nat.reduceLT];cases b with
 |false=>
  simp only[evz,Nat.reduceLT];refine q7m (q1d hc ok _ 4 (by omega) (by omega)) ?_;rintro _ p1 a1 b1 ⟨es,rfl,hes,_⟩;have hes:EqS 4 es:=hes;have hel:=hes.1;simp only[evz,Nat.reduceLT];refine qa3 hc (by omega) fun b=>?_;simp only[evz,Nat.reduceLT];cases b with
  |false=>simp only[evz,Nat.reduceLT];exact q5l (by omega) ⟨es,rfl,by omega,hes.2⟩
  |true=>
   simp only[evz,Nat.reduceLT];refine q7m (q52 hc (l:=l) hl _ (by omega)) ?_;rintro _ p2 a2 b2 ⟨a,b,rfl,ha,hb⟩;simp only[evz,Nat.reduceLT];rw[q1k (q44 (by rw[q0p];simp only[q46];omega)),ql9];have:=hes.snoc ha hb;exact q5l (by omega) ⟨_,rfl,by have:=this.1;omega,this.2⟩
 |true=>
  simp only[evz,Nat.reduceLT];refine qcn hc [12,13] rfl (by simp) (by omega) fun v hv=>?_
  have hv':12<=v/\v<=13:=by
   simp only[gK,List.not_mem_nil,or_false]at hv;omega
  simp only[evz,Nat.reduceLT];refine q9v (σ:=Int×Int×List Equation) (S:=fun m s=>q1h.at0 20 m (q1h.st0 (cells l) s.1 (cells code) s.2.1 (cells s.2.2))) (fun s=>0<=s.1/\s.1<=13/\p<=s.2.1/\s.2.1<=p+2+(13-s.1)*6300/\EqS (13-s.1).toNat s.2.2) (fun s=>s.1.toNat) (fun m s hs=>?_) _ (v,p+1+1,[]) ⟨by simp only;omega,by simp only;omega,by simp only;omega,by simp only;omega,⟨by simp,by simp⟩⟩ (by simp only;omega);obtain⟨k,q,es⟩:=s;obtain⟨g1,g2,g3,g4,g5⟩:=hs;simp only at g1 g2 g3 g4 g5 ⊢;have hes:=g5.1;by_cases hk:k>0
  case neg=>
   left;simp only[q1h.next0,q1h.round0,evz,Nat.reduceLT,hk];exact q5l (by omega) ⟨es,rfl,by omega,g5.2⟩
  right;have wk:IntKind.wrap .i64 (k-1)=k-1:=q3g (by omega);obtain⟨_,q2,e1,c1,c2,a,b,rfl,heq⟩:=q6i hc ok q (by omega);have hal:=heq.left.le;have hbl:=heq.right.le;simp only at hal hbl;refine⟨(k-1,q2,es++[⟨a,b⟩]),?_,⟨by simp only;omega,by simp only;omega,by simp only;omega,by simp only;omega,?_⟩,by simp only;omega⟩
  ·simp only[q1h.next0,q1h.round0,evz,Nat.reduceLT,hk,wk,e1];rw[q1k (q44 (by rw[q0p];simp only[q46];omega)),ql9]
  ·have:=g5.snoc (a:=a) (b:=b) (by omega) (by omega);exact⟨by have:=this.1;simp only;omega,this.2⟩
end
set_option maxHeartbeats 4000000
set_option maxRecDepth 10000
section
variable {code:List UInt8}(hc:code.length<=2097152)
include hc
omit hc in
theorem qu9(es:List Entry)(k a b p s:Int)(l r:List Int):cells es++[.int .i64 k,.int .i64 a,.int .i64 b,.int .i64 p,.int .i64 s,slc l,slc r]=cells (es++[⟨k,a,b,p,s,l,r⟩]):=by rw[q3c];rfl
end
set_option maxHeartbeats 4000000
set_option maxRecDepth 10000
structure AlgS(z:Int)(tb:List (List Int)):Prop where
 size:0<=z/\z<=4
 len:tb.length<=6
 row:∀t∈tb,t.length<=10
theorem AlgS.sm{z:Int}{tb:List (List Int)}(h:AlgS z tb):sm 4294967296 tb:=⟨by have:=h.len;omega,fun t ht=>⟨by have:=h.row t ht;omega,fun _ _=>trivial⟩⟩
theorem AlgOk.row_pos{l:List Symbol}{z:Int}{tb:List (List Int)}(al:AlgOk l z tb){k:Nat}(h:k<tb.length):1<=tb[k].length/\tb[k].length<=9:=by
 have hk:k<l.length:=by rw[<- al.len];exact h
 have ha:=al.sig.arity _ (gG hk);have hs:=al.size;rw[(al.rows k hk h).1];exact⟨Nat.pow_pos (by omega),qxs (by omega) (by omega)⟩
theorem AlgOk.small{l:List Symbol}{z:Int}{tb:List (List Int)}(al:AlgOk l z tb):AlgS z tb/\1<=tb.length:=by
 have h1:=al.sig.pos;have h2:=al.sig.le;have h3:=al.size;have h4:=al.len;simp only at h1 h2;refine⟨⟨by omega,by omega,fun t ht=>?_⟩,by omega⟩;obtain⟨k,hk,rfl⟩:=List.getElem_of_mem ht;have:=al.row_pos hk;omega
section
variable {code:List UInt8}(hc:code.length<=2097152)
include hc
end
set_option maxHeartbeats 4000000
set_option maxRecDepth 10000
def EntS(n:Nat)(es:List Entry):Prop:=es.length<=n/\∀x∈es,x.left.length<=1001/\x.right.length<=1001
theorem EntS.sm{n:Nat}{es:List Entry}(h:EntS n es)(hn:n<=1048576):Sm.sm 1048576 es:=⟨by have:=h.1;omega,fun x hx=>by
 obtain⟨h1,h2⟩:=h.2 x hx;exact⟨⟨by omega,fun _ _=>trivial⟩,⟨by omega,fun _ _=>trivial⟩⟩⟩
theorem EntS.set{n:Nat}{es:List Entry}(h:EntS n es)(k:Nat){x:Entry}(h1:x.left.length<=1001)(h2:x.right.length<=1001):EntS n (es.set k x):=⟨by rw[List.length_set];exact h.1,fun y hy=>by
 rcases List.mem_or_eq_of_mem_set hy with hy|rfl
 ·exact h.2 y hy
 ·exact⟨h1,h2⟩⟩
theorem qh9{es:List Entry}{k:Nat}(hk:k<es.length)(j:Nat)(hj:j<7)(c:T)(x:Entry)(hx:enc x=(enc es[k]).set j c):setCells (cells es) (k*7+j) [c]=cells (es.set k x):=by
 have:=qvi (o:=es) (i:=k) (n:=7) (j:=j) (x:=es[k]) (x':=x) (c:=c) rfl hk hj hx.symm;rwa[qh2 (gA hk)]at this
section
variable {code:List UInt8}(hc:code.length<=2097152)
include hc
theorem q83{l:List Symbol}(hl:l.length<=1000){es:List Entry}{n:Nat}(hes:EntS n es)(hn:n<=1000)(p:Int)(hp:0<=p/\p<=1099480000000) :
 Drawn code p 3300 (fun x=>∃es':List Entry,x=slc es'/\EntS n es') (LIM F.q83 [.rref [slc code,.int .i64 p] 0,.rref [slc l] 0,slc es]):=by
 refine q9y rfl 10 ?_;rw[show q1b prog A H LIM 10 F.q83 [.rref [slc code,.int .i64 p] 0,.rref [slc l] 0,slc es]=_ from q83.ev _ _ _ _ _];have hel:=hes.1;have leaf:∀(es':List Entry)(q:Int),p<=q/\q<=p+3300->EntS n es'->Drawn code p 3300 (fun x=>∃es':List Entry,x=slc es'/\EntS n es') (some (slc es',[.agg [slc code,.int .i64 q]])):=fun es' q h he=>q5l h ⟨es',rfl,he⟩;simp only[evz,Nat.reduceLT];by_cases hlt:((es.length:Nat):Int)<1
 ·simp only[hlt,evz,Nat.reduceLT];exact leaf es p (by omega) hes
 simp only[hlt,evz,Nat.reduceLT];refine qa3 hc (by omega) fun b=>?_;simp only[evz,Nat.reduceLT];cases b with
 |false=>simp only[evz,Nat.reduceLT,Bool.not_false];exact leaf es _ (by omega) hes
 |true=>
  simp only[evz,Nat.reduceLT,Bool.not_true];refine qco hc (by omega) fun v h2 h3=>?_;obtain⟨k,rfl⟩:∃k:Nat,v=k:=⟨v.toNat,by omega⟩;have hk:k<es.length:=by have:=h3 (by omega);omega
  obtain⟨g1,g2⟩:=hes.2 _ (gG hk);simp only[evz,Nat.reduceLT];refine qco hc (by omega) fun w _ _=>?_;simp only[evz,Nat.reduceLT];split
  ·refine qcn hc [(k:Int),(es.length:Int),-1,0] rfl (by simp) (by omega) fun y hy=>?_;have z0:k*7+1+1<=es.length*7:=by omega
   have s0:=qh9 hk 1 (by decide) (.int .i64 y) ⟨es[k].kind,y,es[k].b,es[k].place,es[k].side,es[k].left,es[k].right⟩ rfl;simp only[evz,Nat.reduceLT,hk,qam,q8c,z0,s0];exact leaf _ _ (by omega) (hes.set k g1 g2)
  split
  ·refine q7m (q19 hc _ 5 3 l hl (by omega) (by omega) (by omega)) ?_;rintro _ p2 a2 b2 ⟨t,rfl,ht⟩;have z0:k*7+5+1<=es.length*7:=by omega
   have s0:=qh9 hk 5 (by decide) (slc t) ⟨es[k].kind,es[k].a,es[k].b,es[k].place,es[k].side,t,es[k].right⟩ rfl;simp only[evz,Nat.reduceLT,hk,qam,q8c,z0,s0];exact leaf _ _ (by omega) (hes.set k ht g2)
  split
  ·refine qcn hc [0,1,2,3,4,5,6] rfl (by simp) (by omega) fun y hy=>?_;have z0:k*7+1<=es.length*7:=by omega
   have s0:=qh9 hk 0 (by decide) (.int .i64 y) ⟨y,es[k].a,es[k].b,es[k].place,es[k].side,es[k].left,es[k].right⟩ rfl;rw[Nat.add_zero]at s0;simp only[evz,Nat.reduceLT,hk,qam,q8c,z0,s0];exact leaf _ _ (by omega) (hes.set k g1 g2)
  split
  ·refine q7m (q19 hc _ 3 3 l hl (by omega) (by omega) (by omega)) ?_;rintro _ p2 a2 b2 ⟨t,rfl,ht⟩;have z0:k*7+6+1<=es.length*7:=by omega
   have s0:=qh9 hk 6 (by decide) (slc t) ⟨es[k].kind,es[k].a,es[k].b,es[k].place,es[k].side,es[k].left,t⟩ rfl;simp only[evz,Nat.reduceLT,hk,qam,q8c,z0,s0];exact leaf _ _ (by omega) (hes.set k g1 ht)
  ·have z1:(0:Int)<=((k:Nat):Int):=by omega
   have z2:((k:Nat):Int)<=((es.length:Nat):Int):=by omega
   simp only[evz,Nat.reduceLT,z1,z2,Int.le_refl,Bool.and_self]
   have e9:((cells es).take (es.length*7)).drop (k*7)=cells (es.drop k):=by
    rw[q8k es 7 _ rfl,List.take_length,qa1 es 7 k rfl]
   rw[e9];exact leaf (es.drop k) _ (by omega) ⟨by rw[gAA];omega,fun x hx=>hes.2 x (List.mem_of_mem_drop hx)⟩
omit hc in
theorem EntS.of{l:List Symbol}{es:List Entry}{n:Nat}(hn:(es.length:Int)<=n)(h:∀x∈es,EqOk l (eqOf x)):EntS n es:=⟨by omega,fun x hx=>by
 have q:=h x hx;have h1:=q.left.le;have h2:=q.right.le;exact⟨by have:(eqOf x).left=x.left:=rfl;rw[<- this];omega,by have:(eqOf x).right=x.right:=rfl;rw[<- this];omega⟩⟩
end
def q3i(ents:List Entry)(rs:List Int):List Equation:=rs.map fun n=>eqOf (ents.getD n.toNat ⟨0,0,0,0,0,[],[]⟩)
def outs(k:Nat)(ns:List Int):Bool:=ns.any fun n=>!inR n 0 (k-1)
noncomputable def q4z(s:Signature)(c:Completion):Int:=
 if q58 s c.order≠0 then q58 s c.order else if qaa s c.equations c.entries≠0 then qaa s c.equations c.entries
 else if 12<c.rules.length\/100<c.waiting.length then 2
 else if outs c.entries.length c.rules=true\/outs c.entries.length c.waiting=true\/inR c.rounds 0 150=false then 3
 else if qcj s.symbols c.order (q3i c.entries c.rules)=false then 10 else 0
noncomputable def qc4(s:Signature)(c:Completion):Bool:=decide (q4z s c=0)&&decide (c.waiting.length=0)
theorem qol{k:Nat}{ns:List Int}(h:outs k ns=false):∀n∈ns,0<=n/\n.toNat<k:=fun n hn=>by
 unfold outs at h;rw[List.any_eq_false]at h;have:=h n hn;have:=q8g.1 (by simpa using this:inR n 0 ((k:Int)-1)=true);omega
theorem qa8{l:List Symbol}{ents:List Entry}{rs:List Int}(he:∀x∈ents,EqOk l (eqOf x))(hr:∀n∈rs,0<=n/\n.toNat<ents.length):∀e∈q3i ents rs,EqOk l e:=fun e h=>by
 obtain⟨n,hn,rfl⟩:=List.mem_map.1 h;rw[getN (hr n hn).2];exact he _ (gG _)
theorem qer{ents:List Entry}{rs:List Int}{k:Nat}(h:k<rs.length):q3i ents (rs.take (k+1))=q3i ents (rs.take k)++[eqOf (ents.getD rs[k].toNat ⟨0,0,0,0,0,[],[]⟩)]:=by
 unfold q3i;rw[List.take_add_one,gA h,List.map_append];rfl
section
variable {l:List Symbol}(o:List Int)(es:List Equation){ents:List Entry}{rs:List Int}(ws:List Int)(rd:Int)
variable (he:∀x∈ents,EqOk l (eqOf x))(hel:ents.length<=500)(hr:∀n∈rs,0<=n/\n.toNat<ents.length)(hrl:rs.length<=12)
include he hel hr hrl
theorem q1x:Call F.q1x [.rref [slc o,slc es,slc ents,slc rs,slc ws,.int .i64 rd] 0] (slc (q3i ents rs)):=by
 refine q0v rfl (rs.length+1) ((q1x.ev _ _ _ _ _ _ _).trans ?_)
 have key:=q8d (n:=rs.length) (f:=rs.length+1) (S:=fun m k (q:List Equation)=>q1x.at0 (rs.length+1) m (q1x.st0 (cells o) (cells es) (cells ents) (cells rs) (cells ws) rd (k:Nat) (cells q)))
  (st:=fun k=>q3i ents (rs.take k)) (z:=some (slc (q3i ents rs),[])) (fun m k h=>?_) (fun m=>?_) (gAR _)
 ·rw[List.take_zero]at key;exact key
 ·have hlk:rs[k]?=some rs[k]:=gA h;obtain⟨h0,h1⟩:=hr _ (gG h);obtain⟨a,ha⟩:∃a:Nat,rs[k]=a:=⟨rs[k].toNat,by omega⟩;rw[ha,gR]at h1;have hla:ents[a]?=some ents[a]:=gA h1;have hea:=he _ (gG h1)
  have hc:Call F.qa6 [.rref [slc o,slc es,slc ents,slc rs,slc ws,.int .i64 rd] 0,.int .i64 k] (.agg [slc ents[a].left,slc ents[a].right]):=by
   refine q0v rfl 0 ((qa6.ev _ _ _ _ _ _ _ _).trans ?_);simp only[evz,Nat.reduceLT,h,hlk,q1l,ha,h1,q53 (k:=7) (i:=a) rfl hla,(q2m ents[a] (qbu hea)).eq]
  have hst:cells (q3i ents (rs.take (k+1)))=cells (q3i ents (rs.take k))++[slc ents[a].left,slc ents[a].right]:=by
   rw[qer h,ha,gR,getN h1,q3c];rfl
  have hlen:(q3i ents (rs.take k)).length<=12:=by unfold q3i;rw[gAG,gAF];omega
  simp only[q1x.next0,q1x.round0,evz,Nat.reduceLT,h,hc.eq];rw[q1k (q44 (by rw[q0p,q46];omega)),q0n (by omega),hst]
 ·simp only[q1x.next0,q1x.round0,evz,Nat.reduceLT,gAK,List.take_length]
theorem q0w:Call F.q0w [.agg [slc o,slc es,slc ents,slc rs,slc ws,.int .i64 rd]] (slc (q3i ents rs)):=by
 refine q0v rfl (rs.length+1) ((q0w.ev _ _ _ _ _ _ _).trans ?_);simp only[evz,Nat.reduceLT]
 have key:=q8d (n:=rs.length) (f:=rs.length+1) (S:=fun m k (q:List Equation)=>q0w.at0 (rs.length+1) m (q0w.st0 (cells rs) rs.length (k:Nat) (cells o) (cells es) (cells ents) (cells rs) (cells ws) rd (cells q)))
  (st:=fun k=>q3i ents (rs.take k)) (z:=some (slc (q3i ents rs),[])) (fun m k h=>?_) (fun m=>?_) (gAR _)
 ·rw[List.take_zero]at key;exact key
 ·have hlk:rs[k]?=some rs[k]:=gA h;obtain⟨h0,h1⟩:=hr _ (gG h);obtain⟨a,ha⟩:∃a:Nat,rs[k]=a:=⟨rs[k].toNat,by omega⟩;rw[ha,gR]at h1;have hla:ents[a]?=some ents[a]:=gA h1;have hea:=he _ (gG h1);have hee:=qcy ents[a];rw[q42]at hee
  have hst:cells (q3i ents (rs.take (k+1)))=cells (q3i ents (rs.take k))++[slc ents[a].left,slc ents[a].right]:=by
   rw[qer h,ha,gR,getN h1,q3c];rfl
  have hlen:(q3i ents (rs.take k)).length<=12:=by unfold q3i;rw[gAG,gAF];omega
  simp only[q0w.next0,q0w.round0,evz,Nat.reduceLT,h,hlk,q1l,ha,h1,hla,q42,hee.eq];rw[q1k (q44 (by rw[q0p,q46];omega)),q0n (by omega),hst]
 ·simp only[q0w.next0,q0w.round0,evz,Nat.reduceLT,gAK,List.take_length]
end
theorem qcw(o:List Int)(es:List Equation){ents:List Entry}(rs ws:List Int)(rd:Int)(hel:ents.length<=500)(ns:List Int)(hn:ns.length<=4294967296) :
 Call F.q4q [.agg [slc o,slc es,slc ents,slc rs,slc ws,.int .i64 rd],slc ns] (.bool (!outs ents.length ns)):=by
 have hi:Call F.q0l [slc ns,.clo F.q2l [.rref [slc o,slc es,slc ents,slc rs,slc ws,.int .i64 rd] 0]] (.int .i64 (idx (fun n=>!inR n 0 ((ents.length:Int)-1)) ns)):=by
  refine q0v rfl (ns.length+1) ((q03.ev _ _ _ _ _ _ _ _).trans ?_);simp only[evz,Nat.reduceLT];refine q94 (S:=fun m k=>q03.at0 (ns.length+1) m (q03.st0 (cells ns) (cells o) (cells es) (cells ents) (cells rs) (cells ws) rd ns.length (k:Nat))) (fun m k h=>?_) (fun m=>?_) (gAR _)
  ·have hlk:ns[k]?=some ns[k]:=gA h
   have hc:Call F.q2l [.int .i64 ns[k],.rref [slc o,slc es,slc ents,slc rs,slc ws,.int .i64 rd] 0] (.bool (!inR ns[k] 0 ((ents.length:Int)-1))):=by
    refine q0v rfl 0 ((q2l.ev _ _ _ _ _ _ _ _).trans ?_);simp only[evz,Nat.reduceLT,q3g (x:=(ents.length:Int)-1) (by omega),(q3l _ _ _).eq]
   simp only[q03.next0,q03.round0,evz,Nat.reduceLT,h,hlk,q1l,hc.eq];rw[q0n (by omega)];cases inR ns[k] 0 ((ents.length:Int)-1) <;> rfl
  ·simp only[q03.next0,q03.round0,evz,Nat.reduceLT,gAK]
 have hc:Call F.q21 [slc ns,.clo F.q2l [.rref [slc o,slc es,slc ents,slc rs,slc ws,.int .i64 rd] 0]] (.bool (outs ents.length ns)):=by
  refine q0v rfl 0 ((q5y.ev _ _ _ _ _ _ _ _).trans ?_);simp only[evz,Nat.reduceLT,hi.eq,q95];rfl
 refine q0v rfl 0 ((q4q.ev _ _ _ _ _ _ _ _).trans ?_);simp only[evz,Nat.reduceLT,hc.eq]
theorem q3r(s:Signature)(c:Completion)(hs:sm 1048576 s)(hc:sm 1048576 c):Call F.q3r [.agg (enc s),.agg (enc c)] (.int .i64 (q4z s c)):=by
 obtain⟨l⟩:=s;obtain⟨o,es,ents,rs,ws,rd⟩:=c;obtain⟨ho,hes,hen,hrs,hws⟩:=hc;have hsl:l.length<=4294967296:=Nat.le_trans hs.1 (by omega);have hol:o.length<=4294967296:=Nat.le_trans ho.1 (by omega);have hrl:rs.length<=1048576:=hrs.1;have hwl:ws.length<=1048576:=hws.1;have hck:LIM F.q17 [.agg [slc l],slc es,slc ents]=some (.int .i64 (qaa ⟨l⟩ es ents),[]):=(q17 ⟨l⟩ es ents hs hes hen).eq;show Call F.q3r [.agg [slc l],.agg [slc o,slc es,slc ents,slc rs,slc ws,.int .i64 rd]] _;refine q0v rfl 0 ((q3r.ev _ _ _ _ _ _ _ _).trans ?_);simp only[evz,Nat.reduceLT,(q1g l hsl o hol).eq,hck,(qfv _ _).eq,q4z,gt_iff_lt];by_cases h1:q58 ⟨l⟩ o=0
 case neg=>simp only[h1,evz,Nat.reduceLT,ne_eq,gX]
 by_cases h2:qaa ⟨l⟩ es ents=0
 case neg=>simp only[h1,h2,evz,Nat.reduceLT,ne_eq,gX,gW]
 obtain⟨ok,q1,q2,q3,q4⟩:=qf6 h2;obtain⟨_,hof⟩:=qc9 h1;simp only[h1,h2,evz,Nat.reduceLT,ne_eq,gW];by_cases h3:12<rs.length
 ·have h3':(12:Int)<rs.length:=by omega
  simp only[h3,h3',evz,Nat.reduceLT,true_or]
 have h3':¬(12:Int)<rs.length:=by omega
 by_cases h4:100<ws.length
 ·have h4':(100:Int)<ws.length:=by omega
  simp only[h3,h3',h4,h4',evz,Nat.reduceLT,or_true]
 have h4':¬(100:Int)<ws.length:=by omega
 simp only[h3,h3',h4,h4',evz,Nat.reduceLT,or_self,(qcw o es rs ws rd q3 rs (by omega)).eq,(qcw o es rs ws rd q3 ws (by omega)).eq,(q3l _ _ _).eq];cases h5:outs ents.length rs with
 |true=>simp only[evz,Nat.reduceLT,Bool.not_true,Bool.not_false,true_or]
 |false=>
  cases h6:outs ents.length ws with
  |true=>simp only[evz,Nat.reduceLT,Bool.not_true,Bool.not_false,true_or,or_true]
  |false=>
   cases h7:inR rd 0 150 with
   |false=>simp only[evz,Nat.reduceLT,Bool.not_true,Bool.not_false,or_true]
   |true=>
    have hri:=qol h5;have hre:=qa8 q4 hri;have hrul:=(q0w o es ws rd q4 q3 hri (by omega)).eq;obtain⟨p1,p2⟩:=qtc hof;have hls:l.length<=6:=ok.le;obtain⟨R,hR⟩:∃R,R=q3i ents rs:=⟨_,rfl⟩;have hRl:R.length<=12:=by rw[hR];unfold q3i;rw[gAG];omega
    rw[<- hR]at hre hrul ⊢
    have hi:Call F.q1u [slc R,.clo F.q3k [.rref [slc l] 0,.rref [slc o,slc es,slc ents,slc rs,slc ws,.int .i64 rd] 0]] (.int .i64 (idx (fun e=>!gt l o e.left e.right 0 0) R)):=by
     refine q0v rfl (R.length+1) ((q05.ev _ _ _ _ _ _ _ _ _).trans ?_);simp only[evz,Nat.reduceLT];refine q94 (S:=fun m k=>q05.at0 (R.length+1) m (q05.st0 (cells R) (cells l) (cells o) (cells es) (cells ents) (cells rs) (cells ws) rd R.length (k:Nat))) (fun m k h=>?_) (fun m=>?_) (gAR _)
     ·have hlk:R[k]?=some R[k]:=gA h;have he:=hre _ (gG h)
      have hc:Call F.q3k [.agg [slc R[k].left,slc R[k].right],.rref [slc l] 0,.rref [slc o,slc es,slc ents,slc rs,slc ws,.int .i64 rd] 0] (.bool (!gt l o R[k].left R[k].right 0 0)):=by
       refine q0v rfl 0 ((q3k.ev _ _ _ _ _ _ _ _ _ _).trans ?_);simp only[evz,Nat.reduceLT,(q7l ok he.left he.right (by omega) p2).eq]
      simp only[q05.next0,q05.round0,evz,Nat.reduceLT,h,hlk,q4f,hc.eq];rw[q0n (by omega)];cases gt l o R[k].left R[k].right 0 0 <;> rfl
     ·simp only[q05.next0,q05.round0,evz,Nat.reduceLT,gAK]
    have hc:Call F.q4d [slc R,.clo F.q3k [.rref [slc l] 0,.rref [slc o,slc es,slc ents,slc rs,slc ws,.int .i64 rd] 0]] (.bool (R.any fun e=>!gt l o e.left e.right 0 0)):=by
     refine q0v rfl 0 ((q6c.ev _ _ _ _ _ _ _ _ _).trans ?_);simp only[evz,Nat.reduceLT,hi.eq,q95]
    simp only[evz,Nat.reduceLT,Bool.not_true,Bool.not_false,or_self,hrul,hc.eq,qcj,reduceCtorEq];by_cases hx:(R.any fun e=>!gt l o e.left e.right 0 0)=true
    ·simp only[hx,cond_true,Bool.not_true,if_true]
    ·simp only[Bool.not_eq_true]at hx;simp only[hx,cond_false,Bool.not_false,reduceCtorEq,if_false]
theorem q07(s:Signature)(c:Completion)(hs:sm 1048576 s)(hc:sm 1048576 c):Call F.q07 [.agg (enc s),.agg (enc c)] (.int .i64 (q4z s c)):=by
 obtain⟨l⟩:=s;obtain⟨o,es,ents,rs,ws,rd⟩:=c;obtain⟨ho,hes,hen,hrs,hws⟩:=hc;have hsl:l.length<=4294967296:=Nat.le_trans hs.1 (by omega);have hol:o.length<=4294967296:=Nat.le_trans ho.1 (by omega);have hrl:rs.length<=1048576:=hrs.1;have hwl:ws.length<=1048576:=hws.1;have hck:LIM F.q59 [.agg [slc l],slc es,slc ents]=some (.int .i64 (qaa ⟨l⟩ es ents),[]):=(q59 ⟨l⟩ es ents hs hes hen).eq;show Call F.q07 [.agg [slc l],.agg [slc o,slc es,slc ents,slc rs,slc ws,.int .i64 rd]] _;refine q0v rfl 200 ((q07.ev _ _ _ _ _ _ _ _).trans ?_);simp only[evz,Nat.reduceLT,(q76 l hsl o hol).eq,hck,q4z,gt_iff_lt];by_cases h1:q58 ⟨l⟩ o=0
 case neg=>simp only[h1,evz,Nat.reduceLT,ne_eq,gX]
 by_cases h2:qaa ⟨l⟩ es ents=0
 case neg=>simp only[h1,h2,evz,Nat.reduceLT,ne_eq,gX,gW]
 obtain⟨ok,q1,q2,q3,q4⟩:=qf6 h2;obtain⟨_,hof⟩:=qc9 h1;simp only[h1,h2,evz,Nat.reduceLT,ne_eq,gW];by_cases h3:12<rs.length
 ·have h3':(12:Int)<rs.length:=by omega
  simp only[h3,h3',evz,Nat.reduceLT,true_or]
 have h3':¬(12:Int)<rs.length:=by omega
 by_cases h4:100<ws.length
 ·have h4':(100:Int)<ws.length:=by omega
  simp only[h3,h3',h4,h4',evz,Nat.reduceLT,or_true]
 have h4':¬(100:Int)<ws.length:=by omega
 simp only[h3,h3',h4,h4',evz,Nat.reduceLT,or_self,q3g (x:=(ents.length:Int)-1) (by omega)]
 refine(q9c (l:=rs) (p:=fun n=>!inR n 0 ((ents.length:Int)-1)) (r:=some (.int .i64 3,[])) (z:=q07.at2 200 200 (q07.st2 ((ents.length:Int)-1) (0:Nat) (cells l) (cells o) (cells es) (cells ents) (cells rs) (cells ws) rd))
  (S:=fun m k=>q07.at0 200 m (q07.st0 ((ents.length:Int)-1) (k:Nat) (cells l) (cells o) (cells es) (cells ents) (cells rs) (cells ws) rd)) (fun m k h=>?_) (fun m=>?_) (by omega)).trans ?_
 ·have hlk:rs[k]?=some rs[k]:=gA h;simp only[q07.next0,q07.round0,evz,Nat.reduceLT,h,hlk,q1l,(q1q _ _ _).eq];rw[q0n (by omega)];cases inR rs[k] 0 ((ents.length:Int)-1) <;> rfl
 ·simp only[q07.next0,q07.round0,evz,Nat.reduceLT,gAK];rfl
 show(if outs ents.length rs=true then _ else _)=_;cases h5:outs ents.length rs with
 |true=>simp only[evz,Nat.reduceLT,true_or]
 |false=>
  simp only[evz,Nat.reduceLT,false_or,reduceCtorEq];have hri:=qol h5;have hre:=qa8 q4 hri;have hrul:=(q1x o es ws rd q4 q3 hri (by omega)).eq;have hRl:(q3i ents rs).length<=12:=by unfold q3i;rw[gAG];omega
  have hfl:=(q2r ok hof hre (by omega)).eq
  refine(q9c (l:=ws) (p:=fun n=>!inR n 0 ((ents.length:Int)-1)) (r:=some (.int .i64 3,[])) (z:=if inR rd 0 150=false then some (.int .i64 3,[])else if qcj l o (q3i ents rs)=false then some (.int .i64 10,[])else some (.int .i64 0,[]))
   (S:=fun m k=>q07.at2 200 m (q07.st2 ((ents.length:Int)-1) (k:Nat) (cells l) (cells o) (cells es) (cells ents) (cells rs) (cells ws) rd)) (fun m k h=>?_) (fun m=>?_) (by omega)).trans ?_
  ·have hlk:ws[k]?=some ws[k]:=gA h;simp only[q07.next2,q07.round2,evz,Nat.reduceLT,h,hlk,q1l,(q1q _ _ _).eq];rw[q0n (by omega)];cases inR ws[k] 0 ((ents.length:Int)-1) <;> rfl
  ·simp only[q07.next2,q07.round2,evz,Nat.reduceLT,gAK,(q1q _ _ _).eq,hrul,hfl];cases inR rd 0 150 <;> cases qcj l o (q3i ents rs) <;> rfl
  show(if outs ents.length ws=true then _ else _)=_;cases h6:outs ents.length ws <;> cases inR rd 0 150 <;> cases qcj l o (q3i ents rs) <;> simp
theorem q5q(s:Signature)(c:Completion)(hs:sm 1048576 s)(hc:sm 1048576 c):Call F.q5q [.agg (enc s),.agg (enc c)] (.bool (qc4 s c)):=by
 have hf:=(q3r s c hs hc).eq;obtain⟨l⟩:=s;obtain⟨o,es,ents,rs,ws,rd⟩:=c;show Call F.q5q [.agg [slc l],.agg [slc o,slc es,slc ents,slc rs,slc ws,.int .i64 rd]] _;have hf:LIM F.q3r [.agg [slc l],.agg [slc o,slc es,slc ents,slc rs,slc ws,.int .i64 rd]]=some (.int .i64 (q4z ⟨l⟩ ⟨o,es,ents,rs,ws,rd⟩),[]):=hf;refine q0v rfl 0 ((q5q.ev _ _ _ _ _ _ _ _).trans ?_);simp only[evz,Nat.reduceLT,hf,qc4];by_cases h:q4z ⟨l⟩ ⟨o,es,ents,rs,ws,rd⟩=0
 ·by_cases h2:ws.length=0 <;> simp[evz,Nat.reduceLT,h,h2]
 ·simp[evz,Nat.reduceLT,h]
set_option maxHeartbeats 4000000
set_option maxRecDepth 10000
structure CI(l:List Symbol)(ents:List Entry)(rs ws:List Int)(rd:Int):Prop where
 eok:∀x∈ents,EqOk l (eqOf x)
 elen:ents.length<=500
 rules:∀n∈rs,0<=n/\n.toNat<ents.length
 rlen:rs.length<=12
 wait:∀n∈ws,0<=n/\n.toNat<ents.length
 wlen:ws.length<=100
 rnd:0<=rd/\rd<=150
def Ran(l:List Symbol)(o:List Int)(eqs:List Equation)(k:Nat)(P:T->List Entry->List Int->Prop)(r:R):Prop:=
 ∃x ents rs ws rd,r=some (x,[.agg [slc o,slc eqs,slc ents,slc rs,slc ws,.int .i64 rd]])/\CI l ents rs ws rd/\k<=ents.length/\P x ents rs
theorem qgm{l:List Symbol}{o:List Int}{eqs:List Equation}{k:Nat}{P:T->List Entry->List Int->Prop}{g:FuncId}{args:List T}(hx:X g=none)(n:Nat)(h:Ran l o eqs k P (q1b prog A H LIM n g args)):Ran l o eqs k P (LIM g args):=by
 obtain⟨x,ents,rs,ws,rd,e,h⟩:=h;exact⟨x,ents,rs,ws,rd,qb9 hx n e,h⟩
theorem qdy{Q:R->Prop}{l:List Symbol}{o:List Int}{eqs:List Equation}{k:Nat}{P:T->List Entry->List Int->Prop}{r:R}{K:T×List T->R}(h:Ran l o eqs k P r)
 (kk:∀x ents rs ws rd,CI l ents rs ws rd->k<=ents.length->P x ents rs->Q (K (x,[.agg [slc o,slc eqs,slc ents,slc rs,slc ws,.int .i64 rd]]))):Q (r.bind K):=by
 obtain⟨x,ents,rs,ws,rd,rfl,a,b,q⟩:=h;exact kk x ents rs ws rd a b q
theorem q5i{l:List Symbol}{o:List Int}{eqs:List Equation}{k:Nat}{P:T->List Entry->List Int->Prop}{x:T}{ents:List Entry}{rs ws:List Int}{rd:Int}(ci:CI l ents rs ws rd)(hk:k<=ents.length)(h:P x ents rs) :
 Ran l o eqs k P (some (x,[.agg [slc o,slc eqs,slc ents,slc rs,slc ws,.int .i64 rd]])):=⟨x,ents,rs,ws,rd,rfl,ci,hk,h⟩
def NumC(m:Nat)(rs:List Int)(x:T)(ents:List Entry)(rs':List Int):Prop:=rs'=rs/\∃n v:Int,x=.tup [.int .i64 n,.int .i64 v]/\(v=0->0<=n/\n.toNat<ents.length/\m<=ents.length)
def CodC(rs:List Int)(x:T)(ents:List Entry)(rs':List Int):Prop:=rs'=rs/\∃v:Int,x=.int .i64 v
theorem qff{es:List Entry}{k:Nat}(hk:k<es.length)(j:Nat)(c:T)(h:(enc es[k])[j]?=some c)(hj:j<7):List.set (cells es) (k*7+j) c=cells es:=by
 refine qh2 ?_;have:=q6z es 7 k j rfl hj;rw[this,gA hk];exact h
section
variable {l:List Symbol}(ok:SigOk ⟨l⟩){o:List Int}(ho:Places l o){eqs:List Equation}(hq:∀x∈eqs,EqOk l x)(hql:eqs.length<=12)
include ok ho hq hql
theorem q6n{ents:List Entry}{rs ws:List Int}{rd:Int}(ci:CI l ents rs ws rd){n:Int}(hn:0<=n/\n.toNat<ents.length) :
 Ran l o eqs ents.length (CodC rs) (LIM F.q6n [.rref [slc o,slc eqs,slc ents,slc rs,slc ws,.int .i64 rd] 0,.int .i64 n]):=by
 refine qgm rfl 0 ?_;rw[show q1b prog A H LIM 0 F.q6n [.rref [slc o,slc eqs,slc ents,slc rs,slc ws,.int .i64 rd] 0,.int .i64 n]=_ from q6n.ev _ _ _ _ _ _ _ _];have hwl:=ci.wlen;by_cases h:((ws.length:Nat):Int)>=100
 ·simp only[evz,Nat.reduceLT,h];exact q5i ci (gAI _) ⟨rfl,_,rfl⟩
 ·have blen:Nat.ble (((cells ws).length+1)*8) (140737488355328*1)=true:=q44 (by rw[q0p,q3n];omega);simp only[evz,Nat.reduceLT,h,blen,q2f];refine q5i ⟨ci.eok,ci.elen,ci.rules,ci.rlen,fun m hm=>?_,by rw[gM];simp only[List.length_singleton];omega,ci.rnd⟩ (gAI _) ⟨rfl,_,rfl⟩;rcases gO.1 hm with hm|hm
  ·exact ci.wait m hm
  ·rw[gD.1 hm];exact hn
theorem q4w{ents:List Entry}{rs ws:List Int}{rd:Int}(ci:CI l ents rs ws rd)(k a b p s:Int) :
 Ran l o eqs ents.length (NumC (ents.length+1) rs) (LIM F.q4w [.rref [slc l] 0,.rref [slc o,slc eqs,slc ents,slc rs,slc ws,.int .i64 rd] 0,.agg [.int .i64 k,.int .i64 a,.int .i64 b,.int .i64 p,.int .i64 s,.sl 1 [],.sl 1 []]]):=by
 refine qgm rfl 0 ?_;rw[show q1b prog A H LIM 0 F.q4w [.rref [slc l] 0,.rref [slc o,slc eqs,slc ents,slc rs,slc ws,.int .i64 rd] 0,.agg [.int .i64 k,.int .i64 a,.int .i64 b,.int .i64 p,.int .i64 s,.sl 1 [],.sl 1 []]]=_ from q4w.ev ..];have hsm:sm 1048576 (Signature.mk l):=q3o (by omega) ok.small;have hel:=ci.elen;by_cases h:((ents.length:Nat):Int)>=500
 ·simp only[evz,Nat.reduceLT,h];exact q5i ci (gAI _) ⟨rfl,0,7,rfl,fun e=>by cases e⟩
 have em:=(q6r ok hsm hq ci.eok (by omega) (by omega) ⟨k,a,b,p,s,[],[]⟩).eq;have hok:=qlw (e:=⟨k,a,b,p,s,[],[]⟩) ok hq ci.eok;rw[q42,q42]at em;have em:LIM F.q6r [.rref [slc l] 0,slc eqs,slc ents,.agg [.int .i64 k,.int .i64 a,.int .i64 b,.int .i64 p,.int .i64 s,.sl 1 [],.sl 1 []]]=_:=em;by_cases h0:(derR l eqs ents ⟨k,a,b,p,s,[],[]⟩).code=0
 ·have hmk:made ⟨k,a,b,p,s,[],[]⟩ (derR l eqs ents ⟨k,a,b,p,s,[],[]⟩)=⟨k,a,b,p,s,(derR l eqs ents ⟨k,a,b,p,s,[],[]⟩).equation.left,(derR l eqs ents ⟨k,a,b,p,s,[],[]⟩).equation.right⟩:=by
   unfold made;rw[if_neg (by simpa using h0)]
  have hok:=hok h0;rw[hmk,h0]at em;generalize derR l eqs ents ⟨k,a,b,p,s,[],[]⟩=r at *;have blen:Nat.ble (((cells ents).length+7)*88) (140737488355328*7)=true:=q44 (by rw[q0p,q8c];omega);have hl1:(ents++[(⟨k,a,b,p,s,r.equation.left,r.equation.right⟩:Entry)]).length=ents.length+1:=by simp
  have w:IntKind.wrap .i64 (((ents.length+1:Nat):Int)-1)=(ents.length:Nat):=by rw[q3g (by omega)];omega
  simp only[evz,Nat.reduceLT,h,em,ne_eq,gW,blen,qu9,hl1,w];refine q5i ⟨fun x hx=>?_,by omega,fun n hn=>?_,ci.rlen,fun n hn=>?_,ci.wlen,ci.rnd⟩ (by omega) ⟨rfl,_,_,rfl,fun _=>⟨by omega,by omega,by omega⟩⟩
  ·rcases gO.1 hx with hx|hx
   ·exact ci.eok x hx
   ·rw[gD.1 hx];exact hok
  ·have:=ci.rules n hn;omega
  ·have:=ci.wait n hn;omega
 ·simp only[evz,Nat.reduceLT,h,em,h0,ne_eq,gX];exact q5i ci (gAI _) ⟨rfl,_,_,rfl,fun e=>absurd e h0⟩
theorem q18{ents:List Entry}{rs ws:List Int}{rd:Int}(ci:CI l ents rs ws rd){n side:Int}(hn:0<=n/\n.toNat<ents.length)(hside:side=0\/side=1) :
 Ran l o eqs ents.length (NumC ents.length rs) (LIM F.q18 [.rref [slc l] 0,.rref [slc o,slc eqs,slc ents,slc rs,slc ws,.int .i64 rd] 0,.int .i64 n,.int .i64 side]):=by
 refine qgm rfl 510 ?_;rw[show q1b prog A H LIM 510 F.q18 [.rref [slc l] 0,.rref [slc o,slc eqs,slc ents,slc rs,slc ws,.int .i64 rd] 0,.int .i64 n,.int .i64 side]=_ from q18.ev ..];generalize hk0:ents.length=k0
 have step:∀(f:Nat)(ents:List Entry)(ws:List Int)(rd n:Int),CI l ents rs ws rd->k0<=ents.length->(0<=n/\n.toNat<ents.length)->
  (∀(ents':List Entry)(ws':List Int)(rd' n':Int),CI l ents' rs ws' rd'->ents.length+1<=ents'.length->(0<=n'/\n'.toNat<ents'.length)->Ran l o eqs k0 (NumC k0 rs) (q18.at0 510 f (q18.st0 (cells l) n' side rd' (cells o) (cells eqs) (cells ents') (cells rs) (cells ws'))))->
  Ran l o eqs k0 (NumC k0 rs) (q18.at0 510 (f+1) (q18.st0 (cells l) n side rd (cells o) (cells eqs) (cells ents) (cells rs) (cells ws))):=by
  intro f ents ws rd n ci hk hn ih;obtain⟨j,rfl⟩:∃j:Nat,n=j:=⟨n.toNat,by omega⟩;have hj:j<ents.length:=by omega
  have eL:=ci.eok _ (gG hj);have s5:=qff hj 5 (slc ents[j].left) rfl (by decide);have s6:=qff hj 6 (slc ents[j].right) rfl (by decide);have eR:=(q1x o eqs ws rd ci.eok ci.elen ci.rules ci.rlen).eq;have hrl:(q3i ents rs).length=rs.length:=by unfold q3i;rw[gAG]
  have hro:=qa8 ci.eok ci.rules;have hrl12:=ci.rlen
  have tail:∀(t:List Int),Ran l o eqs k0 (NumC k0 rs) (bif decide ((qea l (q3i ents rs) t).1<0)then some (.tup [.int .i64 j,.int .i64 0],[.agg [slc o,slc eqs,slc ents,slc rs,slc ws,.int .i64 rd]])else
   bif inB (qea l (q3i ents rs) t).2 rs.length then((cells rs)[(qea l (q3i ents rs) t).2.toNat*1]?).bind fun e=>(oInt .i64 e).bind fun n14=>
   (LIM F.q4w [.rref [slc l] 0,.rref [slc o,slc eqs,slc ents,slc rs,slc ws,.int .i64 rd] 0,.agg [.int .i64 4,.int .i64 j,.int .i64 n14,.int .i64 (qea l (q3i ents rs) t).1,.int .i64 side,.sl 1 [],.sl 1 []]]).bind fun r15=>bC r15 fun c19 c21 c23 c25 c27 n29=>bT r15 fun n32 n34=>
    bif (n34 != 0)then some (.tup [.int .i64 0,.int .i64 n34],[.agg [.sl 1 c19,.sl 2 c21,.sl 7 c23,.sl 1 c25,.sl 1 c27,.int .i64 n29]])else q18.at0 510 f (q18.st0 (cells l) n32 side n29 c19 c21 c23 c25 c27)else none):=by
   intro t;rcases qoe (l:=l) (rs:=q3i ents rs) t with hneg|⟨a,q,hq',ha,e1,e2⟩
   ·simp only[hneg,evz,Nat.reduceLT,decide_true];exact q5i ci hk ⟨rfl,_,_,rfl,fun _=>⟨hn.1,hn.2,hk⟩⟩
   ·have hqr:q<rs.length:=by omega
    have hnn:¬((a:Nat):Int)<0:=by omega
    simp only[e1,e2,hnn,evz,Nat.reduceLT,hqr,gA,q1l,decide_false];refine qdy (q4w ok ho hq hql ci 4 j rs[q] a side) ?_;rintro x ents' rs' ws' rd' ci' hk' ⟨rfl,n',v,rfl,hv⟩;simp only[evz,Nat.reduceLT];by_cases hv0:v=0
    ·obtain⟨v1,v2,v3⟩:=hv hv0;simp only[hv0,evz,Nat.reduceLT,ne_eq,gW,bne_self_eq_false];exact ih ents' ws' rd' n' ci' v3 ⟨v1,v2⟩
    ·simp only[hv0,evz,Nat.reduceLT,ne_eq,gX];exact q5i ci' (by omega) ⟨rfl,_,_,rfl,fun e=>absurd e hv0⟩
  rcases hside with rfl|rfl
  ·have eF:=(q1w ok hro (by omega) eL.left).eq;have eF:LIM F.q1w [.rref [slc l] 0,slc (q3i ents rs),slc ents[j].left]=_:=eF;have t:=tail ents[j].left;simp only[evz,Nat.reduceLT]at t;simp only[q18.next0,q18.round0,evz,Nat.reduceLT,hj,gA,q42,s5,eR,eF];exact t
  ·have eF:=(q1w ok hro (by omega) eL.right).eq;have eF:LIM F.q1w [.rref [slc l] 0,slc (q3i ents rs),slc ents[j].right]=_:=eF;have t:=tail ents[j].right;simp only[evz,Nat.reduceLT]at t;simp only[q18.next0,q18.round0,evz,Nat.reduceLT,hj,gA,q42,s5,s6,eR,eF];exact t
 have all:∀(d f:Nat)(ents:List Entry)(ws:List Int)(rd n:Int),500-ents.length<=d->d<f->CI l ents rs ws rd->k0<=ents.length->(0<=n/\n.toNat<ents.length)->
  Ran l o eqs k0 (NumC k0 rs) (q18.at0 510 f (q18.st0 (cells l) n side rd (cells o) (cells eqs) (cells ents) (cells rs) (cells ws))):=by
  intro d;induction d with
  |zero=>
   intro f ents ws rd n hd hf ci hk hn;obtain⟨f,rfl⟩:∃g,f=g+1:=⟨f-1,by omega⟩;refine step f ents ws rd n ci hk hn fun ents' ws' rd' n' ci' h1 h2=>?_;have:=ci'.elen;omega
  |succ d ih=>
   intro f ents ws rd n hd hf ci hk hn;obtain⟨f,rfl⟩:∃g,f=g+1:=⟨f-1,by omega⟩;exact step f ents ws rd n ci hk hn fun ents' ws' rd' n' ci' h1 h2=>ih f ents' ws' rd' n' (by omega) (by omega) ci' (by omega) h2
 exact all 500 510 ents ws rd n (by omega) (by omega) ci (by omega) hn
end
set_option maxHeartbeats 4000000
set_option maxRecDepth 10000
theorem Places.cover{l:List Symbol}{o:List Int}(h:Places l o):o.length=l.length/\∀n:Int,0<=n->n<l.length->n∈o:=by
 refine⟨by have:=h.length_eq;rwa[qaz]at this,fun n h0 h1=>?_⟩;have h:o.Perm (rise l.length):=h;rw[h.mem_iff];unfold rise;exact List.mem_map.2 ⟨n.toNat,List.mem_range.2 (by omega),by omega⟩
def AnyC(x:T)(_:List Entry)(_:List Int):Prop:=∃v:Int,x=.int .i64 v
def qy5(x:T)(_:List Entry)(rs':List Int):Prop:=∃v:Int,x=.int .i64 v/\(v=0->rs'≠[])
section
variable {l:List Symbol}(ok:SigOk ⟨l⟩){o:List Int}(ho:Places l o){eqs:List Equation}(hq:∀x∈eqs,EqOk l x)(hql:eqs.length<=12)
include ok ho hq hql
theorem q85{ents:List Entry}{rs ws:List Int}{rd:Int}(ci:CI l ents rs ws rd){n:Int}(hn:0<=n/\n.toNat<ents.length) :
 Ran l o eqs ents.length (NumC ents.length rs) (LIM F.q85 [.rref [slc l] 0,.rref [slc o,slc eqs,slc ents,slc rs,slc ws,.int .i64 rd] 0,.int .i64 n]):=by
 refine qgm rfl 0 ?_;rw[show q1b prog A H LIM 0 F.q85 [.rref [slc l] 0,.rref [slc o,slc eqs,slc ents,slc rs,slc ws,.int .i64 rd] 0,.int .i64 n]=_ from q85.ev ..];obtain⟨hol,hcov⟩:=ho.cover;have hll:l.length<=6:=ok.le;generalize hk0:ents.length=k0
 have plain:∀{ents:List Entry}{ws:List Int}{rd:Int}(ci:CI l ents rs ws rd)(hk:k0<=ents.length){j:Nat}(hj:j<ents.length),
  LIM F.q2m [.rref (((cells ents).drop (j*7)).take 7) 0]=some (.agg [slc ents[j].left,slc ents[j].right],[])/\
  LIM F.q1m [.rref [slc ents[j].left,slc ents[j].right] 0]=some (.tup [.agg [slc (qa5 (eqOf ents[j])).left,slc (qa5 (eqOf ents[j])).right],.bool true],[])/\
  LIM F.q88 [.rref [slc (qa5 (eqOf ents[j])).left,slc (qa5 (eqOf ents[j])).right] 0,.rref [slc ents[j].left,slc ents[j].right] 0]=some (.bool (decide ((Equation.mk (qa5 (eqOf ents[j])).left (qa5 (eqOf ents[j])).right)=(Equation.mk ents[j].left ents[j].right))),[]):=by
  intro ents ws rd ci hk j hj;have eL:=ci.eok _ (gG hj);have h6:=qkz eL;have hp:=qm3 (e:=eqOf ents[j]) eL.left eL.right h6;have l1:ents[j].left.length<=24:=eL.left.le;have l2:ents[j].right.length<=24:=eL.right.le;refine⟨?_,?_,?_⟩
  ·rw[q53 q8c (gA hj)];exact(q2m ents[j] (qbu eL)).eq
  ·have:=(q1m ents[j].left ents[j].right (by omega) (by omega)).eq;have h6:(qce ⟨ents[j].left,ents[j].right⟩).length<=6:=h6;rw[if_pos h6,if_pos h6,decide_eq_true h6]at this;exact this
  ·have hs:sm 4294967296 (Equation.mk (qa5 (eqOf ents[j])).left (qa5 (eqOf ents[j])).right):=q3o (by omega) (hp.small);exact(q88 _ _ _ _ hs).eq
 obtain⟨j,rfl⟩:∃j:Nat,n=j:=⟨n.toNat,by omega⟩;have hj:j<ents.length:=by omega
 have eL:=ci.eok _ (gG hj);obtain⟨p1,p2,p3⟩:=plain ci (by omega) hj;have eC:=(q6o ok (by omega) hcov eL.left eL.right).eq;have eC:LIM F.q6o [.rref [slc l] 0,slc o,slc ents[j].left,slc ents[j].right]=_:=eC;simp only[evz,Nat.reduceLT,hj,p1,eC];split
 ·refine qdy (q4w ok ho hq hql ci 2 j 0 0 0) ?_;rintro x ents' rs' ws' rd' ci' hk' ⟨rfl,n',v,rfl,hv⟩;simp only[evz,Nat.reduceLT];by_cases hv0:v=0
  case neg=>
   simp only[hv0,evz,Nat.reduceLT,ne_eq,gX];exact q5i ci' (by omega) ⟨rfl,_,_,rfl,fun e=>absurd e hv0⟩
  obtain⟨v1,v2,v3⟩:=hv hv0;obtain⟨i,rfl⟩:∃i:Nat,n'=i:=⟨n'.toNat,by omega⟩;have hi:i<ents'.length:=by omega
  obtain⟨g1,g2,g3⟩:=plain ci' (by omega) hi;simp only[hv0,evz,Nat.reduceLT,ne_eq,gW,bne_self_eq_false,hi,g1,g2,g3];split
  ·exact q5i ci' (by omega) ⟨rfl,_,_,rfl,fun _=>⟨by omega,by omega,by omega⟩⟩
  ·refine qdy (q4w ok ho hq hql ci' 3 i 0 0 0) ?_;rintro x ents2 rs2 ws2 rd2 ci2 hk2 ⟨rfl,n2,v2,rfl,hv2⟩;simp only[evz,Nat.reduceLT];exact q5i ci2 (by omega) ⟨rfl,_,_,rfl,fun e=>by obtain⟨q1,q2,q3⟩:=hv2 e;exact⟨q1,q2,by omega⟩⟩
 split
 ·exact q5i ci (by omega) ⟨rfl,_,_,rfl,fun e=>by cases e⟩
 simp only[evz,Nat.reduceLT,hj,p1,p2,p3];split
 ·exact q5i ci (by omega) ⟨rfl,_,_,rfl,fun _=>⟨by omega,by omega,by omega⟩⟩
 ·refine qdy (q4w ok ho hq hql ci 3 j 0 0 0) ?_;rintro x ents2 rs2 ws2 rd2 ci2 hk2 ⟨rfl,n2,v2,rfl,hv2⟩;simp only[evz,Nat.reduceLT];exact q5i ci2 (by omega) ⟨rfl,_,_,rfl,fun e=>by obtain⟨q1,q2,q3⟩:=hv2 e;exact⟨q1,q2,by omega⟩⟩
theorem q2d{ents:List Entry}{rs ws:List Int}{rd:Int}(ci:CI l ents rs ws rd){n:Int}(hn:0<=n/\n.toNat<ents.length) :
 Ran l o eqs ents.length qy5 (LIM F.q2d [.rref [slc l] 0,.rref [slc o,slc eqs,slc ents,slc rs,slc ws,.int .i64 rd] 0,.int .i64 n]):=by
 refine qgm rfl 20 ?_;rw[show q1b prog A H LIM 20 F.q2d [.rref [slc l] 0,.rref [slc o,slc eqs,slc ents,slc rs,slc ws,.int .i64 rd] 0,.int .i64 n]=_ from q2d.ev ..];obtain⟨j,rfl⟩:∃j:Nat,n=j:=⟨n.toNat,by omega⟩;have hj:j<ents.length:=by omega
 have eL:=ci.eok _ (gG hj)
 have eE:LIM F.q2m [.rref (((cells ents).drop (j*7)).take 7) 0]=some (.agg [slc ents[j].left,slc ents[j].right],[]):=by
  rw[q53 q8c (gA hj)];exact(q2m ents[j] (qbu eL)).eq
 simp only[evz,Nat.reduceLT,hj,eE];generalize hk0:ents.length=k0;have hk0j:j<k0:=by omega
 generalize hE:eqOf ents[j]=E at eL;have hE1:ents[j].left=E.left:=by rw[<- hE];rfl
 have hE2:ents[j].right=E.right:=by rw[<- hE];rfl
 rw[hE1,hE2];have hone:∀e∈[E],EqOk l e:=fun e he=>by rw[gD.1 he];exact eL
 have key:∀(d k f:Nat)(ents:List Entry)(ws:List Int)(rd:Int)(kept:List Int),k+d=rs.length->d<f->CI l ents rs ws rd->k0<=ents.length->(∀m∈kept,m∈rs)->kept.length<=k->
  Ran l o eqs k0 qy5 (q2d.at0 20 f (q2d.st0 (cells l) (j:Nat) (k:Nat) rd (cells o) (cells eqs) (cells ents) (cells rs) (cells ws) [slc E.left,slc E.right] (cells kept))):=by
  intro d;induction d with
  |zero=>
   intro k f ents ws rd kept hk hf ci hke hkept hkl;obtain⟨f,rfl⟩:∃g,f=g+1:=⟨f-1,by omega⟩;have hrl:=ci.rlen;have n1:¬((k:Nat):Int)<((rs.length:Nat):Int):=by omega
   have n1':¬ k<rs.length:=by omega
   have blen:Nat.ble (((cells kept).length+1)*8) (140737488355328*1)=true:=q44 (by rw[q0p,q3n];omega);simp only[q2d.next0,q2d.round0,evz,Nat.reduceLT,n1,n1',blen,q2f];split
   ·exact q5i ci hke ⟨_,rfl,fun e=>by cases e⟩
   ·refine q5i ⟨ci.eok,ci.elen,fun m hm=>?_,by rw[gM];simp only[List.length_singleton];omega,ci.wait,ci.wlen,ci.rnd⟩ hke ⟨_,rfl,fun _=>by simp⟩;rcases gO.1 hm with hm|hm
    ·exact ci.rules m (hkept m hm)
    ·rw[gD.1 hm];exact⟨by omega,by omega⟩
  |succ d ih=>
   intro k f ents ws rd kept hk hf ci hke hkept hkl;obtain⟨f,rfl⟩:∃g,f=g+1:=⟨f-1,by omega⟩;have hrl:=ci.rlen;have n1':k<rs.length:=by omega
   obtain⟨r0,r1⟩:=ci.rules _ (gG n1');obtain⟨i,hi⟩:∃i:Nat,rs[k]=i:=⟨rs[k].toNat,by omega⟩;have hie:i<ents.length:=by rw[hi,gR]at r1;exact r1
   have eI:=ci.eok _ (gG hie);have s5:=qff hie 5 (slc ents[i].left) rfl (by decide);have eF:=(q1w ok hone (by simp) eI.left).eq;have eF:LIM F.q1w [.rref [slc l] 0,.sl 2 [slc E.left,slc E.right],slc ents[i].left]=_:=eF;have blen:Nat.ble (((cells kept).length+1)*8) (140737488355328*1)=true:=q44 (by rw[q0p,q3n];omega);simp only[q2d.next0,q2d.round0,evz,Nat.reduceLT,n1',gA,q1l,hi,hie,q42,s5,eF];split
   ·simp only[evz,Nat.reduceLT,blen,q2f];rw[q0n (by omega)];refine ih (k+1) f ents ws rd (kept++[(i:Int)]) (by omega) (by omega) ci hke (fun m hm=>?_) (by rw[gM];simp only[List.length_singleton];omega);rcases gO.1 hm with hm|hm
    ·exact hkept m hm
    ·rw[gD.1 hm,<- hi];exact gG n1'
   ·refine qdy (q6n ok ho hq hql ci (n:=(i:Int)) ⟨by omega,by omega⟩) ?_;rintro x ents' rs' ws' rd' ci' hk' ⟨rfl,v,rfl⟩;simp only[evz,Nat.reduceLT];by_cases hv0:v=0
    ·simp only[hv0,evz,Nat.reduceLT,ne_eq,gW,bne_self_eq_false];rw[q0n (by omega)];exact ih (k+1) f ents' ws' rd' kept (by omega) (by omega) ci' (by omega) hkept (by omega)
    ·simp only[hv0,evz,Nat.reduceLT,ne_eq,gX];exact q5i ci' (by omega) ⟨_,rfl,fun e=>absurd e hv0⟩
 have hrl:=ci.rlen;exact key rs.length 0 20 ents ws rd [] (by omega) (by omega) ci (by omega) (by simp) (by simp)
theorem q1i{ents:List Entry}{rs ws:List Int}{rd:Int}(ci:CI l ents rs ws rd){n m:Int}(hn:0<=n/\n.toNat<ents.length)(hm:0<=m/\m.toNat<ents.length)(same:Bool) :
 Ran l o eqs ents.length (CodC rs) (LIM F.q1i [.rref [slc l] 0,.rref [slc o,slc eqs,slc ents,slc rs,slc ws,.int .i64 rd] 0,.int .i64 n,.int .i64 m,.bool same]):=by
 refine qgm rfl 30 ?_;rw[show q1b prog A H LIM 30 F.q1i [.rref [slc l] 0,.rref [slc o,slc eqs,slc ents,slc rs,slc ws,.int .i64 rd] 0,.int .i64 n,.int .i64 m,.bool same]=_ from q1i.ev ..];obtain⟨j,rfl⟩:∃j:Nat,n=j:=⟨n.toNat,by omega⟩;obtain⟨i,rfl⟩:∃i:Nat,m=i:=⟨m.toNat,by omega⟩;have hj:j<ents.length:=by omega
 have hi:i<ents.length:=by omega
 have eL:=ci.eok _ (gG hj);have eI:=ci.eok _ (gG hi)
 have eE:∀{j:Nat}(hj:j<ents.length),LIM F.q2m [.rref (((cells ents).drop (j*7)).take 7) 0]=some (.agg [slc ents[j].left,slc ents[j].right],[]):=fun {j} hj=>by
  rw[q53 q8c (gA hj)];exact(q2m ents[j] (qbu (ci.eok _ (gG hj)))).eq
 have eP:=(q1e ok eL eI same).eq;have eP:LIM F.q1e [.rref [slc l] 0,.rref [slc ents[j].left,slc ents[j].right] 0,.rref [slc ents[i].left,slc ents[i].right] 0,.bool same]=_:=eP;have ll:ents[j].left.length<=24:=eL.left.le;simp only[evz,Nat.reduceLT,hj,hi,eE hj,eE hi,eP];generalize hk0:ents.length=k0;have hk0j:j<k0:=by omega
 have key:∀(ps:List Int)(d k f:Nat)(ents:List Entry)(ws:List Int)(rd c:Int),ps.length<=24->k+d=ps.length->d<f->CI l ents rs ws rd->k0<=ents.length->
  Ran l o eqs k0 (CodC rs) (q1i.at0 30 f (q1i.st0 (cells l) (j:Nat) (i:Nat) c (k:Nat) rd (cells o) (cells eqs) (cells ents) (cells rs) (cells ws) (cells ps))):=by
  intro ps d;induction d with
  |zero=>
   intro k f ents ws rd c hps hk hf ci hke;obtain⟨f,rfl⟩:∃g,f=g+1:=⟨f-1,by omega⟩;have n1':¬ k<ps.length:=by omega
   simp only[q1i.next0,q1i.round0,evz,Nat.reduceLT,n1'];exact q5i ci hke ⟨rfl,_,rfl⟩
  |succ d ih=>
   intro k f ents ws rd c hps hk hf ci hke;obtain⟨f,rfl⟩:∃g,f=g+1:=⟨f-1,by omega⟩;have n1':k<ps.length:=by omega
   by_cases hc:c=0
   case neg=>
    simp only[q1i.next0,q1i.round0,evz,Nat.reduceLT,n1',hc];exact q5i ci hke ⟨rfl,_,rfl⟩
   simp only[q1i.next0,q1i.round0,evz,Nat.reduceLT,n1',hc,gA,q1l];refine qdy (q4w ok ho hq hql ci 5 j i ps[k] 0) ?_;rintro x ents' rs' ws' rd' ci' hk' ⟨rfl,n',v,rfl,hv⟩;simp only[evz,Nat.reduceLT];by_cases hv0:v=0
   ·obtain⟨v1,v2,v3⟩:=hv hv0;simp only[hv0,evz,Nat.reduceLT];refine qdy (q6n ok ho hq hql ci' (n:=n') ⟨v1,v2⟩) ?_;rintro x ents2 rs2 ws2 rd2 ci2 hk2 ⟨rfl,w,rfl⟩;simp only[evz,Nat.reduceLT];rw[q0n (by omega)];exact ih (k+1) f ents2 ws2 rd2 w hps (by omega) (by omega) ci2 (by omega)
   ·simp only[hv0,evz,Nat.reduceLT];rw[q0n (by omega)];exact ih (k+1) f ents' ws' rd' v hps (by omega) (by omega) ci' (by omega)
 cases hp:qac l (eqOf ents[j]) (eqOf ents[i]) same (eqOf ents[j]).left.length 0 with
 |inl qs=>
  have hql:=(qhe hp).1;have hll:(eqOf ents[j]).left=ents[j].left:=rfl;have hil:(ints qs).length=qs.length:=by unfold ints;rw[gAG]
  simp only[evz,Nat.reduceLT];exact key (ints qs) (ints qs).length 0 30 ents ws rd 0 (by rw[hll]at hql;omega) (by omega) (by rw[hll]at hql;omega) ci (by omega)
 |inr c=>
  have e0:oSl 1 (T.sl 1 [])=some (cells ([]:List Int)):=rfl;simp only[evz,Nat.reduceLT,e0];exact key [] 0 0 30 ents ws rd c (by simp) rfl (by omega) ci (by omega)
theorem q12{ents:List Entry}{rs ws:List Int}{rd:Int}(ci:CI l ents rs ws rd)(hne:rs≠[]) :
 Ran l o eqs ents.length AnyC (LIM F.q12 [.rref [slc l] 0,.rref [slc o,slc eqs,slc ents,slc rs,slc ws,.int .i64 rd] 0]):=by
 refine qgm rfl 20 ?_;rw[show q1b prog A H LIM 20 F.q12 [.rref [slc l] 0,.rref [slc o,slc eqs,slc ents,slc rs,slc ws,.int .i64 rd] 0]=_ from q12.ev ..];generalize hk0:ents.length=k0
 have key2:∀(d k f:Nat)(ents:List Entry)(rs ws:List Int)(rd last:Int),k+d=rs.length->d<f->CI l ents rs ws rd->k0<=ents.length->(0<=last/\last.toNat<ents.length)->
  Ran l o eqs k0 AnyC (q12.at2 20 f (q12.st2 (cells l) last (k:Nat) rd (cells o) (cells eqs) (cells ents) (cells rs) (cells ws))):=by
  intro d;induction d with
  |zero=>
   intro k f ents rs ws rd last hk hf ci hke hla;obtain⟨f,rfl⟩:∃g,f=g+1:=⟨f-1,by omega⟩;have n1':¬ k<rs.length:=by omega
   simp only[q12.next2,q12.round2,evz,Nat.reduceLT,n1'];exact q5i ci hke ⟨_,rfl⟩
  |succ d ih=>
   intro k f ents rs ws rd last hk hf ci hke hla;obtain⟨f,rfl⟩:∃g,f=g+1:=⟨f-1,by omega⟩;have hrl:=ci.rlen;have n1':k<rs.length:=by omega
   have w1:IntKind.wrap .i64 (((rs.length:Nat):Int)-1)=((rs.length:Nat):Int)-1:=q3g (by omega);simp only[q12.next2,q12.round2,evz,Nat.reduceLT,n1',w1];split
   ·refine qdy (q1i ok ho hq hql ci hla hla true) ?_;rintro x ents' rs' ws' rd' ci' hk' ⟨rfl,v,rfl⟩;simp only[evz,Nat.reduceLT];exact q5i ci' (by omega) ⟨_,rfl⟩
   ·simp only[evz,Nat.reduceLT,n1',gA,q1l];refine qdy (q1i ok ho hq hql ci hla (ci.rules _ (gG n1')) false) ?_;rintro x ents' rs' ws' rd' ci' hk' ⟨rfl,v,rfl⟩;simp only[evz,Nat.reduceLT];by_cases hv0:v=0
    case neg=>
     simp only[hv0,evz,Nat.reduceLT,ne_eq,gX];exact q5i ci' (by omega) ⟨_,rfl⟩
    simp only[hv0,evz,Nat.reduceLT,ne_eq,gW,bne_self_eq_false,n1',gA,q1l];refine qdy (q1i ok ho hq hql ci' (ci'.rules _ (gG n1')) ⟨hla.1,by omega⟩ false) ?_;rintro x ents2 rs2 ws2 rd2 ci2 hk2 ⟨rfl,w,rfl⟩;simp only[evz,Nat.reduceLT];by_cases hw0:w=0
    case neg=>
     simp only[hw0,evz,Nat.reduceLT,ne_eq,gX];exact q5i ci2 (by omega) ⟨_,rfl⟩
    simp only[hw0,evz,Nat.reduceLT,ne_eq,gW,bne_self_eq_false];rw[q0n (by omega)];exact ih (k+1) f ents2 _ ws2 rd2 last (by omega) (by omega) ci2 (by omega) ⟨hla.1,by omega⟩
 have key:∀(d k f:Nat)(ents:List Entry)(rs ws:List Int)(rd:Int),k+d=rs.length->d<f->CI l ents rs ws rd->k0<=ents.length->rs≠[]->
  Ran l o eqs k0 AnyC (q12.at0 20 f (q12.st0 (cells l) (k:Nat) rd (cells o) (cells eqs) (cells ents) (cells rs) (cells ws))):=by
  intro d;induction d with
  |zero=>
   intro k f ents rs ws rd hk hf ci hke hne;obtain⟨f,rfl⟩:∃g,f=g+1:=⟨f-1,by omega⟩;have hrl:=ci.rlen;have hpos:=List.length_pos_iff.2 hne;have n1':¬ k<rs.length:=by omega
   have w1:IntKind.wrap .i64 (((rs.length:Nat):Int)-1)=((rs.length-1:Nat):Int):=by rw[q3g (by omega)];omega
   have hi:rs.length-1<rs.length:=by omega
   simp only[q12.next0,q12.round0,evz,Nat.reduceLT,n1',w1,hi,gA,q1l];exact key2 rs.length 0 20 ents rs ws rd _ (by omega) (by omega) ci hke (ci.rules _ (gG hi))
  |succ d ih=>
   intro k f ents rs ws rd hk hf ci hke hne;obtain⟨f,rfl⟩:∃g,f=g+1:=⟨f-1,by omega⟩;have hrl:=ci.rlen;have n1':k<rs.length:=by omega
   simp only[q12.next0,q12.round0,evz,Nat.reduceLT,n1',gA,q1l];refine qdy (q18 ok ho hq hql ci (ci.rules _ (gG n1')) (.inr rfl)) ?_;rintro x ents' rs' ws' rd' ci' hk' ⟨rfl,n',v,rfl,hv⟩;simp only[evz,Nat.reduceLT];by_cases hv0:v=0
   case neg=>
    simp only[hv0,evz,Nat.reduceLT,ne_eq,gX];exact q5i ci' (by omega) ⟨_,rfl⟩
   obtain⟨v1,v2,v3⟩:=hv hv0;have z1:k*1+1<=rs'.length*1:=by omega
   simp only[hv0,evz,Nat.reduceLT,ne_eq,gW,bne_self_eq_false,n1',qam,q3n,z1,qae n1'];rw[q0n (by omega)];refine ih (k+1) f ents' (rs'.set k n') ws' rd' (by rw[List.length_set];omega) (by omega) ⟨ci'.eok,ci'.elen,fun m hm=>?_,by rw[List.length_set];exact ci'.rlen,ci'.wait,ci'.wlen,ci'.rnd⟩ (by omega) (fun e=>?_)
   ·rcases List.mem_or_eq_of_mem_set hm with hm|rfl
    ·exact ci'.rules m hm
    ·exact⟨v1,v2⟩
   ·have:=congrArg List.length e;rw[List.length_set]at this;simp at this;rw[this]at n1';simp at n1'
 have hrl:=ci.rlen;exact key rs.length 0 20 ents rs ws rd (by omega) (by omega) ci (by omega) hne
theorem q84{ents:List Entry}{rs ws:List Int}{rd:Int}(ci:CI l ents rs ws rd) :
 Ran l o eqs 0 AnyC (LIM F.q84 [.rref [slc l] 0,.rref [slc o,slc eqs,slc ents,slc rs,slc ws,.int .i64 rd] 0]):=by
 refine qgm rfl 0 ?_;rw[show q1b prog A H LIM 0 F.q84 [.rref [slc l] 0,.rref [slc o,slc eqs,slc ents,slc rs,slc ws,.int .i64 rd] 0]=_ from q84.ev ..]
 match ws,ci with
 |[],ci=>
  simp only[evz,Nat.reduceLT,List.length_nil];exact q5i ci (Nat.zero_le _) ⟨_,rfl⟩
 |w::ws,ci=>
 have hwl:=ci.wlen;simp only[gAB]at hwl;have hrd:=ci.rnd;have n0:¬(((w::ws).length:Nat):Int)=0:=by simp only[gAB];omega
 by_cases h150:rd>=150
 ·simp only[evz,Nat.reduceLT,n0,h150];exact q5i ci (Nat.zero_le _) ⟨_,rfl⟩
 have z1:(1:Int)<=(((w::ws).length:Nat):Int):=by simp only[gAB];omega
 have e0:inB (0:Int) (w::ws).length=true:=(q7a 0 _).trans (by simp);have g0:(cells (w::ws))[0]?=some (.int .i64 w):=rfl
 have e9:((cells (w::ws)).take ((w::ws).length*1)).drop (1*1)=cells ws:=by
  rw[q8k (w::ws) 1 _ rfl,List.take_length,qa1 (w::ws) 1 1 rfl];rfl
 have w1:IntKind.wrap .i64 (rd+1)=rd+1:=q3g (by omega);have eI:=(q4o ws (by omega)).eq;have hw0:=ci.wait w (by simp);have ci1:CI l ents rs ws (rd+1):=⟨ci.eok,ci.elen,ci.rules,ci.rlen,fun m hm=>ci.wait m (gF _ hm),by omega,by omega⟩;simp only[evz,Nat.reduceLT,n0,h150,e0,g0,z1,Int.le_refl,Int.reduceLE,Bool.and_self,e9,eI,w1];refine qdy (q18 ok ho hq hql ci1 hw0 (.inl rfl)) ?_;rintro x ents2 rs2 ws2 rd2 ci2 hk2 ⟨rfl,n2,v2,rfl,hv2⟩;simp only[evz,Nat.reduceLT];by_cases c2:v2=0
 case neg=>
  simp only[c2,evz,Nat.reduceLT,ne_eq,gX];exact q5i ci2 (Nat.zero_le _) ⟨_,rfl⟩
 obtain⟨a2,b2,_⟩:=hv2 c2;simp only[c2,evz,Nat.reduceLT,ne_eq,gW,bne_self_eq_false];refine qdy (q18 ok ho hq hql ci2 ⟨a2,b2⟩ (.inr rfl)) ?_;rintro x ents3 rs3 ws3 rd3 ci3 hk3 ⟨rfl,n3,v3,rfl,hv3⟩;simp only[evz,Nat.reduceLT];by_cases c3:v3=0
 case neg=>
  simp only[c3,evz,Nat.reduceLT,ne_eq,gX];exact q5i ci3 (Nat.zero_le _) ⟨_,rfl⟩
 obtain⟨a3,b3,_⟩:=hv3 c3;obtain⟨j,rfl⟩:∃j:Nat,n3=j:=⟨n3.toNat,by omega⟩;have hj:j<ents3.length:=by omega
 have eL:=ci3.eok _ (gG hj);have s5:=qff hj 5 (slc ents3[j].left) rfl (by decide);have s6:=qff hj 6 (slc ents3[j].right) rfl (by decide);have hb:Nat.beq (j*7+5) (j*7+6)=false:=nbeq (by omega);have hll:ents3[j].left.length<=24:=eL.left.le;have eS:=(q1r ents3[j].left ents3[j].right ⟨by omega,fun _ _=>trivial⟩).eq;simp only[c3,evz,Nat.reduceLT,ne_eq,gW,bne_self_eq_false,hj,gA,q42,s5,s6,hb,eS];split
 ·exact q5i ci3 (Nat.zero_le _) ⟨_,rfl⟩
 refine qdy (q85 ok ho hq hql ci3 (n:=(j:Int)) ⟨by omega,by omega⟩) ?_;rintro x ents4 rs4 ws4 rd4 ci4 hk4 ⟨rfl,n4,v4,rfl,hv4⟩;simp only[evz,Nat.reduceLT];by_cases c4:v4=0
 case neg=>
  simp only[c4,evz,Nat.reduceLT,ne_eq,gX];exact q5i ci4 (Nat.zero_le _) ⟨_,rfl⟩
 obtain⟨a4,b4,_⟩:=hv4 c4;simp only[c4,evz,Nat.reduceLT,ne_eq,gW,bne_self_eq_false];refine qdy (q2d ok ho hq hql ci4 ⟨a4,b4⟩) ?_;rintro x ents5 rs5 ws5 rd5 ci5 hk5 ⟨v5,rfl,hv5⟩;simp only[evz,Nat.reduceLT];by_cases c5:v5=0
 case neg=>
  simp only[c5,evz,Nat.reduceLT,ne_eq,gX];exact q5i ci5 (Nat.zero_le _) ⟨_,rfl⟩
 simp only[c5,evz,Nat.reduceLT,ne_eq,gW,bne_self_eq_false];refine qdy (q12 ok ho hq hql ci5 (hv5 c5)) ?_;rintro x ents6 rs6 ws6 rd6 ci6 hk6 ⟨v6,rfl⟩;simp only[evz,Nat.reduceLT];exact q5i ci6 (Nat.zero_le _) ⟨_,rfl⟩
end
set_option maxHeartbeats 4000000
set_option maxRecDepth 10000
theorem q1v(es:List Entry)(h:sm 1048576 es):Call F.q1v [slc es] (slc es):=by
 have hl:es.length<=1048576:=h.1;refine q0v rfl (es.length+1) ((q1v.ev _ _).trans ?_)
 have key:=q8d (n:=es.length) (f:=es.length+1) (S:=fun m k (q:List Entry)=>q1v.at0 (es.length+1) m (q1v.st0 (cells es) (k:Nat) (cells q)))
  (st:=fun k=>es.take k) (z:=some (slc es,[])) (fun m k h=>?_) (fun m=>?_) (gAR _)
 ·rw[List.take_zero]at key;exact key
 ·rename_i hes;have hlk:es[k]?=some es[k]:=gA h;have hsm:=hes.2 _ (gG h)
  have hst:cells (es.take (k+1))=cells (es.take k)++[.int .i64 es[k].kind,.int .i64 es[k].a,.int .i64 es[k].b,.int .i64 es[k].place,.int .i64 es[k].side,slc es[k].left,slc es[k].right]:=by
   rw[List.take_add_one,hlk,q3c];rfl
  have hlen:(es.take k).length<=1048576:=by rw[gAF];omega
  simp only[q1v.next0,q1v.round0,evz,Nat.reduceLT,h,hlk,q42,(q4o es[k].left (by have:=hsm.1.1;omega)).eq,(q4o es[k].right (by have:=hsm.2.1;omega)).eq];rw[q1k (q44 (by rw[q0p,q8c];omega)),q0n (by omega),hst]
 ·simp only[q1v.next0,q1v.round0,evz,Nat.reduceLT,gAK,List.take_length]
theorem q8x{o:List Int}{eqs:List Equation}{ents:List Entry}{rs ws:List Int}{rd:Int}(h:sm 1048576 (Completion.mk o eqs ents rs ws rd)) :
 LIM F.q8x [.rref [slc o,slc eqs,slc ents,slc rs,slc ws,.int .i64 rd] 0]=some (.agg [slc o,slc eqs,slc ents,slc rs,slc ws,.int .i64 rd],[]):=by
 obtain⟨h1,h2,h3,h4,h5⟩:=h;have g1:o.length<=1048576:=h1.1;have g4:rs.length<=1048576:=h4.1;have g5:ws.length<=1048576:=h5.1;refine q61 rfl 0 ((q8x.ev ..).trans ?_);simp only[evz,Nat.reduceLT,(q4o o (by omega)).eq,(qhp h2).eq,(q1v ents h3).eq,(q4o rs (by omega)).eq,(q4o ws (by omega)).eq]
theorem qbm{x:List Int}(h:x.length<=1048576):sm 1048576 x:=⟨h,fun _ _=>trivial⟩
theorem CI.sm{l:List Symbol}{ents:List Entry}{rs ws:List Int}{rd:Int}(ci:CI l ents rs ws rd){o:List Int}{eqs:List Equation}(ho:o.length<=6)(hq:∀x∈eqs,EqOk l x)(hql:eqs.length<=12):Sm.sm 1048576 (Completion.mk o eqs ents rs ws rd):=by
 have h1:=ci.elen;have h2:=ci.rlen;have h3:=ci.wlen;exact⟨qbm (by show o.length<=_;omega),⟨by show eqs.length<=_;omega,fun x hx=>(hq x hx).small⟩,⟨by show ents.length<=_;omega,fun x hx=>(ci.eok x hx).small⟩,qbm (by show rs.length<=_;omega),qbm (by show ws.length<=_;omega)⟩
theorem qor{l:List Symbol}{eqs:List Equation}(hq:∀x∈eqs,EqOk l x)(hql:eqs.length<=12):CI l (q71 eqs eqs.length) [] (qaf eqs.length) 0:=by
 refine⟨qg5 hq (gAI _),by rw[q7r];omega,by simp,by simp,fun n hn=>?_,by rw[q9n];omega,by omega⟩;unfold qaf at hn;obtain⟨i,hi,rfl⟩:=List.mem_map.1 hn;rw[List.mem_range]at hi;rw[q7r];exact⟨by omega,by omega⟩
def qyh(x:T):Prop:=∃(l:List Symbol)(o:List Int)(eqs:List Equation)(ents:List Entry)(rs ws:List Int)(rd:Int),x=.tup [.agg [slc l],.agg [slc o,slc eqs,slc ents,slc rs,slc ws,.int .i64 rd]]/\SigOk ⟨l⟩/\Places l o/\eqs.length<=3/\(∀e∈eqs,EqOk l e)/\CI l ents rs ws rd
section
variable {code:List UInt8}(hc:code.length<=2097152)
include hc
theorem q2p(p:Int)(hp:0<=p/\p<=1099300000000):Drawn code p 110000 qyh (LIM F.q2p [.rref [slc code,.int .i64 p] 0]):=by
 refine q9y rfl 40 ?_;rw[show q1b prog A H LIM 40 F.q2p [.rref [slc code,.int .i64 p] 0]=_ from q2p.ev ..];refine q7m (q9o hc p (by omega)) ?_;rintro _ p1 a1 b1 ⟨l,rfl,ok⟩;have hll:l.length<=6:=ok.le;simp only[evz,Nat.reduceLT];refine q7m (q16 hc p1 (by omega) l (by omega)) ?_;rintro _ p2 a2 b2 ⟨o,rfl,ho⟩;have hol:=ho.cover.1;simp only[evz,Nat.reduceLT];refine q7m (q1d hc ok p2 3 (by omega) (by omega)) ?_;rintro _ p3 a3 b3 ⟨eqs,rfl,hes,hq⟩;have hql:eqs.length<=3:=hes.1;have hsm:sm 1048576 (Signature.mk l):=q3o (by omega) ok.small;have hqs:sm 1048576 eqs:=⟨by omega,fun x hx=>(hq x hx).small⟩;have eN:LIM F.q35 [.rref [slc l] 0,slc o,slc eqs]=some (.agg [slc o,slc eqs,slc (q71 eqs eqs.length),slc ([]:List Int),slc (qaf eqs.length),.int .i64 0],[]):=(q35 ok hsm hqs hq (by omega) (qbm (by omega))).eq;simp only[evz,Nat.reduceLT,eN];refine qcn hc [0,1,2,4,7,12,25] rfl (by simp) (by omega) fun v hv=>?_;obtain⟨k,rfl,hk⟩:∃k:Nat,v=k/\k<=25:=⟨v.toNat,by simp only[gK,List.not_mem_nil,or_false]at hv;omega,by simp only[gK,List.not_mem_nil,or_false]at hv;omega⟩;simp only[evz,Nat.reduceLT]
 have key:∀(k f:Nat)(ents:List Entry)(rs ws:List Int)(rd:Int),k<f->k<=25->CI l ents rs ws rd->
  Drawn code p 110000 qyh (q2p.at0 40 f (q2p.st0 (k:Nat) (cells code) (p3+1) 0 (cells l) (cells o) (cells eqs) (cells ents) (cells rs) (cells ws) rd)):=by
  intro k;induction k with
  |zero=>
   intro f ents rs ws rd hf _ ci;obtain⟨f,rfl⟩:∃g,f=g+1:=⟨f-1,by omega⟩;have n1:¬((0:Nat):Int)>0:=by omega
   simp only[q2p.next0,q2p.round0,evz,Nat.reduceLT,n1];exact q5l (by omega) ⟨l,o,eqs,ents,rs,ws,rd,rfl,ok,ho,hql,hq,ci⟩
  |succ k ih=>
   intro f ents rs ws rd hf hk ci;obtain⟨f,rfl⟩:∃g,f=g+1:=⟨f-1,by omega⟩;have n1:((k+1:Nat):Int)>0:=by omega
   have w1:IntKind.wrap .i64 (((k+1:Nat):Int)-1)=(k:Nat):=by rw[q3g (by omega)];omega
   have eC:=q8x (ci.sm (o:=o) (eqs:=eqs) (rd:=rd) (by omega) hq (by omega));obtain⟨_,ents2,rs2,ws2,rd2,eS,ci2,_,w,rfl⟩:=q84 ok ho hq (by omega) ci;simp only[q2p.next0,q2p.round0,evz,Nat.reduceLT,n1,eC,eS,w1];by_cases hw:w=0
   ·simp only[hw,evz,Nat.reduceLT,ne_eq,gW,bne_self_eq_false];exact ih f ents2 rs2 ws2 rd2 (by omega) (by omega) ci2
   ·simp only[hw,evz,Nat.reduceLT,ne_eq,gX];exact q5l (by omega) ⟨l,o,eqs,ents,rs,ws,rd,rfl,ok,ho,hql,hq,ci⟩
 exact key k 40 _ [] _ 0 (by omega) hk (qor hq (by omega))
def qfr(r:R):Prop:=∃(l:List Symbol)(c:Completion)(p:Int),r=some (.tup [.agg [slc l],.agg [slc c.order,slc c.equations,slc c.entries,slc c.rules,slc c.waiting,.int .i64 c.rounds],.bx [slc code,.int .i64 p]],[])/\SigOk ⟨l⟩/\sm 1048576 c
theorem q28:∃(l:List Symbol)(c:Completion)(p:Int),Call F.q28 [slc code] (.tup [.agg [slc l],.agg [slc c.order,slc c.equations,slc c.entries,slc c.rules,slc c.waiting,.int .i64 c.rounds],.bx [slc code,.int .i64 p]])/\SigOk ⟨l⟩/\sm 1048576 c:=by
 suffices h:∃r,q1b prog A H LIM 120 F.q28 [slc code]=r/\qfr (code:=code) r by
  obtain⟨_,e,l,c,p,rfl,h⟩:=h;exact⟨l,c,p,q0v rfl 120 e,h⟩
 refine⟨_,q28.ev _ _,?_⟩;rw[show LIM F.q7j [.sl 1 (cells code)]=_ from q7j];simp only[evz,Nat.reduceLT,qwg];refine q7m (Q:=qfr (code:=code)) (q2p hc 0 (by omega)) ?_;rintro _ p1 a1 b1 ⟨l,o,eqs,ents,rs,ws,rd,rfl,ok,ho,hql,hq,ci⟩;have hll:l.length<=6:=ok.le;have hol:=ho.cover.1;have hsm:=ci.sm (o:=o) (eqs:=eqs) (rd:=rd) (by omega) hq (by omega);obtain⟨q1,q2,q3,q4,q5⟩:=hsm;have hel:=ci.elen;have hrl:=ci.rlen;have hwl:=ci.wlen
 have leaf:∀(o:List Int)(eqs:List Equation)(ents:List Entry)(rs ws:List Int)(rd p:Int),sm 1048576 (Completion.mk o eqs ents rs ws rd)->qfr (code:=code) (some (.tup [.agg [slc l],.agg [slc o,slc eqs,slc ents,slc rs,slc ws,.int .i64 rd],.bx [slc code,.int .i64 p]],[])):=
  fun o eqs ents rs ws rd p h=>⟨l,⟨o,eqs,ents,rs,ws,rd⟩,p,rfl,ok,h⟩
 simp only[evz,Nat.reduceLT];refine qa3 (Q:=qfr (code:=code)) hc (by omega) fun b=>?_;simp only[evz,Nat.reduceLT];cases b with
 |false=>simp only[evz,Nat.reduceLT,Bool.not_false];exact leaf o eqs ents rs ws rd _ ⟨q1,q2,q3,q4,q5⟩
 |true=>
  simp only[evz,Nat.reduceLT,Bool.not_true];refine qco (Q:=qfr (code:=code)) hc (by omega) fun w _ _=>?_;simp only[evz,Nat.reduceLT];split
  ·refine q7m (Q:=qfr (code:=code)) (q5t hc _ (by omega) l (by omega)) ?_;rintro _ p2 a2 b2 ⟨o2,rfl,ho2⟩;simp only[evz,Nat.reduceLT];exact leaf o2 eqs ents rs ws rd _ ⟨qbm (by show o2.length<=_;omega),q2,q3,q4,q5⟩
  split
  ·refine q7m (Q:=qfr (code:=code)) (q83 hc (l:=l) (by omega) (EntS.of (n:=500) (by omega) ci.eok) (by omega) _ (by omega)) ?_;rintro _ p2 a2 b2 ⟨es',rfl,he'⟩;simp only[evz,Nat.reduceLT];exact leaf o eqs es' rs ws rd _ ⟨q1,q2,he'.sm (by omega),q4,q5⟩
  split
  ·refine qcn (Q:=qfr (code:=code)) hc [0,-1,(ents.length:Int)] rfl (by simp) (by omega) fun y hy=>?_;have blen:Nat.ble (((cells rs).length+1)*8) (140737488355328*1)=true:=q44 (by rw[q0p,q3n];omega);simp only[evz,Nat.reduceLT,blen,q2f];exact leaf o eqs ents (rs++[y]) ws rd _ ⟨q1,q2,q3,qbm (by show(rs++[y]).length<=_;simp;omega),q5⟩
  split
  ·refine qcn (Q:=qfr (code:=code)) hc [0,-1,(ents.length:Int)] rfl (by simp) (by omega) fun y hy=>?_;have blen:Nat.ble (((cells ws).length+1)*8) (140737488355328*1)=true:=q44 (by rw[q0p,q3n];omega);simp only[evz,Nat.reduceLT,blen,q2f];exact leaf o eqs ents rs (ws++[y]) rd _ ⟨q1,q2,q3,q4,qbm (by show(ws++[y]).length<=_;simp;omega)⟩
  split
  ·refine qcn (Q:=qfr (code:=code)) hc [150,151,-1] rfl (by simp) (by omega) fun y hy=>?_;simp only[evz,Nat.reduceLT];exact leaf o eqs ents rs ws y _ ⟨q1,q2,q3,q4,q5⟩
  split
  ·split
   ·refine qcn (Q:=qfr (code:=code)) hc [99,100,101] rfl (by simp) (by omega) fun y hy=>?_;have hy':99<=y/\y<=101:=by simp only[gK,List.not_mem_nil,or_false]at hy;omega
    simp only[evz,Nat.reduceLT]
    have key:∀(d f:Nat)(ws:List Int)(p:Int),101-ws.length<=d->d<f->ws.length<=101->qfr (code:=code) (q28.at1 120 f (q28.st1 y 0 (cells code) p (cells l) (cells o) (cells eqs) (cells ents) (cells rs) (cells ws) rd)):=by
     intro d;induction d with
     |zero=>
      intro f ws p hd hf hw;obtain⟨f,rfl⟩:∃g,f=g+1:=⟨f-1,by omega⟩;have n1:¬((ws.length:Nat):Int)<y:=by omega
      simp only[q28.next1,q28.round1,evz,Nat.reduceLT,n1];exact leaf o eqs ents rs ws rd _ ⟨q1,q2,q3,q4,qbm (by show ws.length<=_;omega)⟩
     |succ d ih=>
      intro f ws p hd hf hw;obtain⟨f,rfl⟩:∃g,f=g+1:=⟨f-1,by omega⟩;by_cases n1:((ws.length:Nat):Int)<y
      ·have blen:Nat.ble (((cells ws).length+1)*8) (140737488355328*1)=true:=q44 (by rw[q0p,q3n];omega);simp only[q28.next1,q28.round1,evz,Nat.reduceLT,n1,blen,q2f];exact ih f (ws++[0]) p (by simp;omega) (by omega) (by simp;omega)
      ·simp only[q28.next1,q28.round1,evz,Nat.reduceLT,n1];exact leaf o eqs ents rs ws rd _ ⟨q1,q2,q3,q4,qbm (by show ws.length<=_;omega)⟩
    exact key 101 120 ws _ (by omega) (by omega) (by omega)
   ·exact leaf o eqs ents rs ws rd _ ⟨q1,q2,q3,q4,q5⟩
  ·refine q7m (Q:=qfr (code:=code)) (q1h hc (l:=l) (by omega) _ (by omega)) ?_;rintro _ p2 a2 b2 ⟨es',rfl,he'⟩;simp only[evz,Nat.reduceLT];exact leaf o es' ents rs ws rd _ ⟨q1,he'.sm (by omega),q3,q4,q5⟩
theorem q4k:∃(l:List Symbol)(c:Completion),Call F.q4k [slc code] (.tup [.agg [slc l],.agg [slc c.order,slc c.equations,slc c.entries,slc c.rules,slc c.waiting,.int .i64 c.rounds]])/\SigOk ⟨l⟩/\sm 1048576 c:=by
 obtain⟨l,c,p,e,ok,h⟩:=q28 hc;refine⟨l,c,q0v rfl 0 ((q4k.ev _ _).trans ?_),ok,h⟩;simp only[evz,Nat.reduceLT,e.eq,qwg]
theorem q5u:∃(l:List Symbol)(c:Completion),Call F.q5u [slc code] (.tup [.agg [slc l],.agg [slc c.order,slc c.equations,slc c.entries,slc c.rules,slc c.waiting,.int .i64 c.rounds]])/\SigOk ⟨l⟩/\sm 1048576 c:=by
 obtain⟨l,c,e,ok,h⟩:=q4k hc;refine⟨l,c,q0v rfl 0 ((q5u.ev _ _).trans ?_),ok,h⟩;simp only[evz,Nat.reduceLT,e.eq]
end
theorem qfu:∀a:List UInt8,oU8s (cells a)=some (a.map fun b=>(b.toNat:Int))
 |[]=>rfl
 |x::a=>by
  rw[q6v];show oU8s (.int .u8 x.toNat::cells a)=_;rw[oU8s,qfu a];rfl
theorem qp6(a:List UInt8):Lib.bytesOf (a.map fun b=>(b.toNat:Int))=a:=by
 unfold Lib.bytesOf;rw[List.map_map]
 conv=>rhs;rw[<- List.map_id a]
 exact List.map_congr_left fun b _=>by simp
theorem q8a(a b:List UInt8):Call F.q8a [slc a,slc b] (.int .i64 (Lib.compareBytes a b)):=by
 refine qed (e:=compareE) rfl (Ev.of fun m=>?_);show((oU8s (cells a)).bind fun x=>(oU8s (cells b)).bind fun y=>some (T.int .i64 (Lib.compareBytes (Lib.bytesOf x) (Lib.bytesOf y)),([]:List T)))=_;rw[qfu,qfu];simp only[Option.bind_some,qp6]
theorem q3j(l:List Int)(hl:l.length<=4294967296):Call F.q3j [slc l] (.int .i64 ((l.findSome? fun n=>if n≠0 then some n else none).getD 0)):=by
 refine q0v rfl (l.length+1) ((q3j.ev _ _).trans ?_)
 have:=qas (l:=l) (g:=fun n=>if n≠0 then some (some (.int .i64 n,[]))else none) (z:=some (.int .i64 0,[])) (S:=fun m k=>q3j.at0 (l.length+1) m (q3j.st0 0 (cells l) l.length (k:Nat)))
  (fun m k h=>by
   have hlk:l[k]?=some l[k]:=gA h;simp only[q3j.next0,q3j.round0,evz,Nat.reduceLT,h,hlk,q1l];rw[q0n (by omega)];by_cases e:l[k]=0 <;> simp[e])
  (fun m=>by simp only[q3j.next0,q3j.round0,evz,Nat.reduceLT,gAK]) (gAR _)
 simp only[q5m,q3n];refine this.trans ?_;have h2:=q9r (fun n:Int=>if n≠0 then some n else none) (fun n=>(some (T.int .i64 n,[]):R)) l;rw[show(fun n:Int=>(if n≠0 then some n else none).map fun n=>(some (T.int .i64 n,[]):R))=fun n=>if n≠0 then some (some (T.int .i64 n,[]))else none from funext fun n=>by by_cases h:n=0 <;> simp[h]]at h2;rw[h2];cases l.findSome? fun n=>if n≠0 then some n else none <;> rfl
theorem qxj(x y:Int):Call F.q3j [.sl 1 [.int .i64 x,.int .i64 y]] (.int .i64 (if x=0 then y else x)):=by
 have:=q3j [x,y] (by simp)
 have e:([x,y].findSome? fun n:Int=>if n≠0 then some n else none).getD 0=if x=0 then y else x:=by
  by_cases h:x=0
  ·by_cases h':y=0 <;> simp[h,h']
  ·simp[h]
 rw[e]at this;exact this
def qh3(a b:Equation):Int:=if Lib.compareBytes (q8i a.left) (q8i b.left)=0 then Lib.compareBytes (q8i a.right) (q8i b.right)else Lib.compareBytes (q8i a.left) (q8i b.left)
theorem qgl(t:List Int):(q8i t).length=t.length:=by unfold q8i;rw[gAG]
theorem q33{l:List Symbol}{a b:Equation}(ha:EqOk l a)(hb:EqOk l b):Call F.q33 [.agg [slc a.left,slc a.right],.agg [slc b.left,slc b.right]] (.int .i64 (qh3 a b)):=by
 have h1:=ha.left.le;have h2:=ha.right.le;have h3:=hb.left.le;have h4:=hb.right.le;refine q0v rfl 0 ((q33.ev _ _ _ _ _).trans ?_);simp only[evz,Nat.reduceLT,(q27 a.left (by omega)).eq,(q27 a.right (by omega)).eq,(q27 b.left (by omega)).eq,(q27 b.right (by omega)).eq,(q8a _ _).eq,(qxj _ _).eq];rfl
theorem qf5:∀{a b c:List UInt8},Lib.compareBytes a b<0->Lib.compareBytes b c<0->Lib.compareBytes a c<0
 |[],[],c,h,_=>by simp[Lib.compareBytes]at h
 |x::a,[],c,h,_=>by simp[Lib.compareBytes]at h
 |_,y::b,[],_,h=>by simp[Lib.compareBytes]at h
 |[],y::b,z::c,_,_=>by simp[Lib.compareBytes]
 |x::a,y::b,z::c,h1,h2=>by
  simp only[Lib.compareBytes,UInt8.lt_iff_toNat_lt]at h1 h2 ⊢;by_cases c1:x.toNat<y.toNat
  ·by_cases c2:y.toNat<z.toNat
   ·rw[if_pos (by omega)];decide
   ·by_cases c3:z.toNat<y.toNat
    ·rw[if_neg c2,if_pos c3]at h2;omega
    ·rw[if_pos (by omega)];decide
  ·by_cases c4:y.toNat<x.toNat
   ·rw[if_neg c1,if_pos c4]at h1;omega
   ·rw[if_neg c1,if_neg c4]at h1;by_cases c2:y.toNat<z.toNat
    ·rw[if_pos (by omega)];decide
    ·by_cases c3:z.toNat<y.toNat
     ·rw[if_neg c2,if_pos c3]at h2;omega
     ·rw[if_neg c2,if_neg c3]at h2;rw[if_neg (by omega),if_neg (by omega)];exact qf5 h1 h2
theorem qx2:∀{a b:List UInt8},Lib.compareBytes a b=0->a=b
 |[],[],_=>rfl
 |x::a,[],h=>by simp[Lib.compareBytes]at h
 |[],y::b,h=>by simp[Lib.compareBytes]at h
 |x::a,y::b,h=>by
  simp only[Lib.compareBytes,UInt8.lt_iff_toNat_lt]at h;by_cases c1:x.toNat<y.toNat
  ·rw[if_pos c1]at h;omega
  ·by_cases c2:y.toNat<x.toNat
   ·rw[if_neg c1,if_pos c2]at h;omega
   ·rw[if_neg c1,if_neg c2]at h;rw[qx2 h,show x=y from UInt8.toNat_inj.1 (by omega)]
theorem qhk:∀a:List UInt8,Lib.compareBytes a a=0
 |[]=>rfl
 |x::a=>by
  simp only[Lib.compareBytes,UInt8.lt_iff_toNat_lt];rw[if_neg (by omega),if_neg (by omega),qhk a]
theorem qtb:∀{a b:List UInt8},Lib.compareBytes a b>0->Lib.compareBytes b a<0
 |[],[],h=>by simp[Lib.compareBytes]at h
 |x::a,[],h=>by simp[Lib.compareBytes]
 |[],y::b,h=>by simp[Lib.compareBytes]at h
 |x::a,y::b,h=>by
  simp only[Lib.compareBytes,UInt8.lt_iff_toNat_lt]at h ⊢;by_cases c1:x.toNat<y.toNat
  ·rw[if_pos c1]at h;omega
  ·by_cases c2:y.toNat<x.toNat
   ·rw[if_pos c2];decide
   ·rw[if_neg c1,if_neg c2]at h;rw[if_neg c2,if_neg c1];exact qtb h
def q7z(a b:Equation):Bool:=decide (qh3 a b<0)
theorem qdk{a b:Equation}:q7z a b=true<->Lib.compareBytes (q8i a.left) (q8i b.left)<0\/q8i a.left=q8i b.left/\Lib.compareBytes (q8i a.right) (q8i b.right)<0:=by
 unfold q7z qh3;rw[decide_eq_true_iff];by_cases h:Lib.compareBytes (q8i a.left) (q8i b.left)=0
 ·rw[if_pos h];exact⟨fun q=>.inr ⟨qx2 h,q⟩,fun q=>q.elim (fun q=>by omega) fun q=>q.2⟩
 ·rw[if_neg h];exact⟨fun q=>.inl q,fun q=>q.elim id fun q=>absurd (by rw[q.1,qhk]) h⟩
theorem qd8{a b c:Equation}(h1:q7z a b=true)(h2:q7z b c=true):q7z a c=true:=by
 rw[qdk]at *;rcases h1 with h1|⟨e1,h1⟩
 ·rcases h2 with h2|⟨e2,h2⟩
  ·exact .inl (qf5 h1 h2)
  ·exact .inl (e2▸h1)
 ·rcases h2 with h2|⟨e2,h2⟩
  ·exact .inl (e1▸h2)
  ·exact .inr ⟨e1.trans e2,qf5 h1 h2⟩
theorem qlb(a b:List UInt8)(h:¬ Lib.compareBytes a b<0):a=b\/Lib.compareBytes b a<0:=by
 rcases Int.lt_or_eq_of_le (Int.not_lt.1 h)with h|h
 ·exact .inr (qtb h)
 ·exact .inl (qx2 h.symm)
theorem qge{a b c:Equation}(h1:q7z a b=true)(h2:q7z c b=false):q7z a c=true:=by
 have h2:¬ q7z c b=true:=by rw[h2];decide
 rw[qdk]at h1 h2 ⊢;have q1:¬ Lib.compareBytes (q8i c.left) (q8i b.left)<0:=fun q=>h2 (.inl q);rcases qlb _ _ q1 with e|q
 ·have q2:¬ Lib.compareBytes (q8i c.right) (q8i b.right)<0:=fun q=>h2 (.inr ⟨e,q⟩);rw[e];rcases h1 with h1|⟨e1,h1⟩
  ·exact .inl h1
  ·refine .inr ⟨e1,?_⟩;rcases qlb _ _ q2 with e3|q3
   ·rw[e3];exact h1
   ·exact qf5 h1 q3
 ·rcases h1 with h1|⟨e1,h1⟩
  ·exact .inl (qf5 h1 q)
  ·exact .inl (e1▸q)
def q4u(rs:List Equation):List Equation:=qud q7z rs
theorem qn8(rs:List Equation):q4u rs=qyg q7z rs:=qxx (lt:=q7z) (S:=fun _=>True) (fun _ _ _ _ _ _ h1 h2=>qd8 h1 h2) (fun _ _ _ _ _ _ h1 h2=>qge h1 h2) fun _ _=>trivial
theorem qgu{a b:Nat}(h:a≠b):Nat.beq a b=false:=by
 cases e:Nat.beq a b
 ·rfl
 ·exact absurd (gE e) h
theorem qzd(a:Nat):Nat.beq a a=true:=Nat.beq_refl a
theorem qfd{A:List T}{m:Nat}(h:A.length=m)(c:List T)(j:Nat)(v:T):(A++c).set (m+j) v=A++c.set j v:=by
 subst h;rw[List.set_append_right _ _ (Nat.le_add_right _ _),Nat.add_sub_cancel_left]
theorem qo9(k:Nat)(h:k<4294967296):IntKind.wrap .i64 (((k+1:Nat):Int)-1)=(k:Int):=by
 rw[q3g (by omega)];omega
section
variable {l:List Symbol}
theorem qs6{A S:List Equation}{p x:Equation}{k:Nat}(hA:A.length=k)(v1 v2 v3 v4:T) :
 List.set (List.set (List.set (List.set (List.set (List.set (List.set (List.set (cells (A++p::x::S)) ((k+1)*2) v1) ((k+1)*2+1) v2) (k*2) v3) (k*2+1) v4)
  ((k+1)*2+1) (slc p.right)) ((k+1)*2) (slc p.left)) (k*2+1) (slc x.right)) (k*2) (slc x.left)=cells (A++x::p::S):=by
 have hl:(cells A).length=k*2:=by rw[q0p,hA,q46]
 have e1:(k+1)*2=k*2+2:=by omega
 have e2:(k+1)*2+1=k*2+3:=by omega
 have s0:∀c v,(cells A++c).set (k*2) v=cells A++c.set 0 v:=fun c v=>qfd hl c 0 v;have s1:∀c v,(cells A++c).set (k*2+1) v=cells A++c.set 1 v:=fun c v=>qfd hl c 1 v;have s2:∀c v,(cells A++c).set (k*2+2) v=cells A++c.set 2 v:=fun c v=>qfd hl c 2 v;have s3:∀c v,(cells A++c).set (k*2+3) v=cells A++c.set 3 v:=fun c v=>qfd hl c 3 v;rw[e2,e1,q3c,q3c,q6v,q6v,q6v,q6v,s2,s3,s0,s1,s3,s2,s1,s0];rfl
theorem qmz{N i n:Nat}{L:St->R}:∀(r:List Equation)(x:Equation)(S:List Equation)(f:Nat),(∀e∈r,EqOk l e)->EqOk l x->r.length<f->r.length<4294967295->
 q00.at2 N L f (q00.st2 0 n i (r.length:Nat) (cells (r.reverse++x::S)))
  = L (q00.st0 0 n (IntKind.wrap .i64 ((i:Int)+1)) (cells ((insR q7z x r).reverse++S)))
 |r,x,S,0,_,_,h,_=>by omega
 |[],x,S,f+1,_,_,_,_=>by
  simp only[q00.next2,q00.round2,evz,Nat.reduceLT,List.length_nil,gt_iff_lt,show ¬(0:Int)<((0:Nat):Int) by decide,if_false];rfl
 |p::r,x,S,f+1,hr,hx,hf,hb=>by
  have hp:=hr p (List.mem_cons_self ..);have ih:=qmz (N:=N) (i:=i) (n:=n) (L:=L) r x (p::S) f (fun e he=>hr e (gF _ he)) hx (by simp only[gAB]at hf;omega) (by simp only[gAB]at hb;omega);have eX:(p::r).reverse++x::S=r.reverse++p::x::S:=by rw[List.reverse_cons,gZ];rfl
  have hk:(r.reverse++p::x::S)[r.length]?=some p:=by simp
  have hj:(r.reverse++p::x::S)[r.length+1]?=some x:=by rw[List.getElem?_append_right (by simp)];simp
  have hlen:(r.reverse++p::x::S).length=r.length+S.length+2:=by simp;omega
  have hsw:=fun v1 v2 v3 v4=>qs6 (A:=r.reverse) (S:=S) (p:=p) (x:=x) (k:=r.length) (by simp) v1 v2 v3 v4;rw[eX,gAB];generalize hXe:r.reverse++p::x::S=X at *;generalize hkk:r.length=k at *;simp only[gAB]at hb;have hcl:(cells X).length=X.length*2:=by rw[q0p,q46]
  have hd:X.length*2/2=X.length:=by omega
  have p0:((k+1:Nat):Int)>0:=by omega
  have g0:=qo9 k (by omega);have k1:k<X.length:=by omega
  have k2:k+1<X.length:=by omega
  have b1:Nat.beq ((k+1)*2) ((k+1)*2+1)=false:=qgu (by omega);have b2:Nat.beq ((k+1)*2+1) (k*2)=false:=qgu (by omega);have b3:Nat.beq ((k+1)*2) (k*2)=false:=qgu (by omega);have b4:Nat.beq (k*2) (k*2+1)=false:=qgu (by omega);have b5:Nat.beq ((k+1)*2+1) (k*2+1)=false:=qgu (by omega);have b6:Nat.beq ((k+1)*2) (k*2+1)=false:=qgu (by omega);have b7:Nat.beq (k*2+1) (k*2)=false:=qgu (by omega);have b8:Nat.beq ((k+1)*2+1) ((k+1)*2)=false:=qgu (by omega);have b9:Nat.beq (k*2) ((k+1)*2)=false:=qgu (by omega);have b10:Nat.beq (k*2+1) ((k+1)*2)=false:=qgu (by omega);have b11:Nat.beq (k*2) ((k+1)*2+1)=false:=qgu (by omega);have b12:Nat.beq (k*2+1) ((k+1)*2+1)=false:=qgu (by omega);have d1:(k+1)*2+1<X.length*2:=by omega
  have d2:k*2+1<X.length*2:=by omega
  have q0:=get0 (l:=X) (k:=2) (i:=k) q46;have q1:=get1 (l:=X) (k:=2) (i:=k) q46 (by decide);have q2:=get0 (l:=X) (k:=2) (i:=k+1) q46;have q3:=get1 (l:=X) (k:=2) (i:=k+1) q46 (by decide);rw[hk]at q0 q1;rw[hj]at q2 q3;rw[q00.next2,q00.round2];simp only[g0,gR,q0,q1,q2,q3,q7a,q5m q46,hcl];simp only[evz,Nat.reduceLT,p0,k1,k2,q4f,(q33 hx hp).eq,b1,b2,b3,b4,b5,b6,b7,b8,b9,b10,b11,b12,qzd,d1,d2,List.length_set];by_cases c:qh3 x p<0
  ·have e:insR q7z x (p::r)=p::insR q7z x r:=by
    show(if q7z x p then _ else _)=_;rw[show q7z x p=true from decide_eq_true c];rfl
   simp only[c,evz,Nat.reduceLT];rw[hsw,e,List.reverse_cons,gZ];simp only[hd,k1,k2,Bool.not_false,Bool.and_true,Bool.true_and,cond_true,if_true];exact ih
  ·have e:insR q7z x (p::r)=x::p::r:=by
    show(if q7z x p then _ else _)=_;rw[show q7z x p=false from decide_eq_false c];rfl
   simp only[c,evz,Nat.reduceLT];rw[e];simp only[hd,k1,k2,if_true,List.reverse_cons,gZ,List.singleton_append];rw[show r.reverse++([p,x]++S)=X from hXe]
theorem qnb{N:Nat}{n:Nat}(hn:n<N)(hN:N<4294967295):∀(S r:List Equation)(f:Nat),(∀e∈r,EqOk l e)->(∀e∈S,EqOk l e)->r.length+S.length=n->S.length<f->
 q00.at0 N f (q00.st0 0 n (r.length:Nat) (cells (r.reverse++S)))
  = some (.tup [],[slc (S.foldl (fun r x=>insR q7z x r) r).reverse])
 |S,r,0,_,_,_,h=>by omega
 |[],r,f+1,hr,_,h,_=>by
  have e:¬((r.length:Nat):Int)<(n:Int):=by simp only[List.length_nil]at h;omega
  simp only[q00.next0,q00.round0,evz,Nat.reduceLT,e,if_false,gAD];rfl
 |x::S,r,f+1,hr,hS,h,hf=>by
  simp only[gAB]at h hf;have e:((r.length:Nat):Int)<(n:Int):=by omega
  have hx:=hS x (List.mem_cons_self ..)
  have ih:=qnb hn hN S (insR q7z x r) f (fun y hy=>by
   rcases ql7 q7z hy with rfl|hy
   ·exact hx
   ·exact hr y hy) (fun y hy=>hS y (gF _ hy)) (by rw[qe8];omega) (by omega)
  have hi:=qmz (N:=N) (i:=r.length) (n:=n) (L:=q00.at0 N f) r x S N hr hx (by omega) (by omega);rw[qe8,<- q0n (by omega)]at ih;rw[q00.next0,q00.round0];rw[q1k (decide_eq_true e),hi,ih];rfl
theorem qvu{rs:List Equation}(hr:∀e∈rs,EqOk l e)(hl:rs.length<=4294967200):LIM F.q1j [slc rs,.int .i64 0,.int .i64 rs.length,.clo F.q33 []]=some (.tup [],[slc (q4u rs)]):=by
 refine qb9 rfl (rs.length+2) ((q00.ev _ _ _ _).trans ?_);rw[qn8];cases rs with
 |nil=>
  rw[q00.next0,q00.round0];rfl
 |cons x S=>
  have:=qnb (l:=l) (N:=(x::S).length+2) (n:=(x::S).length) (by omega) (by omega) S [x] ((x::S).length+2) (fun y hy=>hr y (by rw[gD.1 hy];exact List.mem_cons_self ..)) (fun y hy=>hr y (gF _ hy)) (by simp;omega) (by simp;omega);rw[show IntKind.wrap .i64 ((0:Int)+1)=((1:Nat):Int) by decide];exact this
theorem qw2{rs:List Equation}(hr:∀e∈rs,EqOk l e)(hl:rs.length<=12)(k:Int):LIM F.q1y [slc rs,.int .i64 0,.int .i64 rs.length,.int .i64 k,.clo F.q33 []]=some (.tup [],[slc (q4u rs)]):=by
 refine qb9 rfl 1 ((q0b.ev _ _ _ _ _).trans ?_);rw[q0b.next0,q0b.round0];rw[Int.sub_zero,q3g (by omega),q1k (decide_eq_true (by omega:(rs.length:Int)<=12))];have:=qvu hr (by omega);simp only[slc,q46]at this ⊢;rw[this];rfl
set_option maxRecDepth 100000 in
theorem qrw(k:Nat)(h:k<=12):∃v,Call F.q1z [.int .u64 k] (.int .i64 v):=by
 have h0:¬((k:Int)>=4294967296):=by omega
 have h1:¬((k:Int)>=65536):=by omega
 have h2:¬((k:Int)>=256):=by omega
 have h3:IntKind.wrap .u8 (k:Int)=k:=qz5 (by omega)
 have:∃v,q1b prog A H LIM 0 F.q1z [.int .u64 k]=some (.int .i64 v,[]):=by
  rw[q1z.ev,qcf (decide_eq_false h0),qcf (decide_eq_false h1),qcf (decide_eq_false h2),h3,q7a,q1k (decide_eq_true (Nat.lt_of_le_of_lt h (by decide)))];exact⟨_,rfl⟩
 obtain⟨v,hv⟩:=this;exact⟨v,q0v rfl 0 hv⟩
theorem qtl{rs:List Equation}(hr:∀e∈rs,EqOk l e)(hl:rs.length<=12):LIM F.q7q [slc rs,.clo F.q33 []]=some (.tup [],[slc (q4u rs)]):=by
 obtain⟨v,hv⟩:=qrw rs.length hl
 have hb:Call F.q9w [.int .u64 rs.length] (.int .i64 v):=by
  refine q0v rfl 0 ((q9w.ev _ _).trans ?_);simp only[evz,Nat.reduceLT,hv.eq]
 have hw:IntKind.wrap .u64 (rs.length:Int)=rs.length:=by
  unfold IntKind.wrap;simp[IntKind.signed,IntKind.bits];omega
 refine qb9 rfl 0 ((q7k.ev _ _).trans ?_);simp only[evz,Nat.reduceLT,hw,hb.eq,qw2 hr hl]
theorem qmh{rs:List Equation}(hr:∀e∈rs,EqOk l e):∀e∈q4u rs,EqOk l e:=fun e h=>hr e (qmt h)
theorem qgt(rs:List Equation):(q4u rs).length=rs.length:=qnz rs
end
theorem qew{l:List Symbol}{o:List Int}{es:List Equation}{ents:List Entry}{rs ws:List Int}{rd:Int}(h:q4z ⟨l⟩ ⟨o,es,ents,rs,ws,rd⟩=0) :
 (∀x∈ents,EqOk l (eqOf x))/\ents.length<=500/\(∀n∈rs,0<=n/\n.toNat<ents.length)/\rs.length<=12:=by
 unfold q4z at h;by_cases h1:q58 ⟨l⟩ o=0
 ·rw[if_neg (by simpa using h1)]at h;by_cases h2:qaa ⟨l⟩ es ents=0
  ·rw[if_neg (by simpa using h2)]at h;by_cases h3:12<rs.length\/100<ws.length
   ·rw[if_pos h3]at h;omega
   ·rw[if_neg h3]at h;by_cases h4:outs ents.length rs=true\/outs ents.length ws=true\/inR rd 0 150=false
    ·rw[if_pos h4]at h;omega
    ·obtain⟨ok,q1,q2,q3,q4⟩:=qf6 h2;refine⟨q4,q3,qol ?_,by omega⟩;cases e:outs ents.length rs
     ·rfl
     ·exact absurd (.inl e) h4
  ·rw[if_pos (by simpa using h2)]at h;exact absurd h h2
 ·rw[if_pos (by simpa using h1)]at h;exact absurd h h1
noncomputable def qbh(s:Signature)(c:Completion):EquationsResult:=
 if q4z s c=0 then⟨0,q4u (q3i c.entries c.rules)⟩else⟨q4z s c,[]⟩
theorem q7h(s:Signature)(c:Completion)(hs:sm 1048576 s)(hc:sm 1048576 c):Call F.q7h [.agg (enc s),.agg (enc c)] (.agg (enc (qbh s c))):=by
 have hf:=(q3r s c hs hc).eq;obtain⟨l⟩:=s;obtain⟨o,es,ents,rs,ws,rd⟩:=c;show Call F.q7h [.agg [slc l],.agg [slc o,slc es,slc ents,slc rs,slc ws,.int .i64 rd]] _;have hf:LIM F.q3r [.agg [slc l],.agg [slc o,slc es,slc ents,slc rs,slc ws,.int .i64 rd]]=some (.int .i64 (q4z ⟨l⟩ ⟨o,es,ents,rs,ws,rd⟩),[]):=hf;refine q0v rfl 0 ((q7h.ev _ _ _ _ _ _ _ _).trans ?_);simp only[evz,Nat.reduceLT,hf,qbh];by_cases h:q4z ⟨l⟩ ⟨o,es,ents,rs,ws,rd⟩=0
 ·obtain⟨h1,h2,h3,h4⟩:=qew h;have hr:=qa8 h1 h3;have hrl:(q3i ents rs).length<=12:=by unfold q3i;rw[gAG];omega
  have hcp:=(qiv (eqs:=q3i ents rs) ⟨by omega,fun e he=>(hr e he).small⟩).eq
  have hso:Call F.q54 [.agg [slc o,slc es,slc ents,slc rs,slc ws,.int .i64 rd]] (slc (q4u (q3i ents rs))):=by
   refine q0v rfl 0 ((q54.ev _ _ _ _ _ _ _).trans ?_);simp only[evz,Nat.reduceLT,(q0w o es ws rd h1 h2 h3 h4).eq,hcp,qtl hr hrl]
  simp only[h,evz,Nat.reduceLT,hso.eq,ne_eq,gW,qb5]
 ·simp only[h,evz,Nat.reduceLT,ne_eq,gX,qb5,q4s,q46]
set_option maxHeartbeats 4000000
set_option maxRecDepth 10000
theorem qnd(rs:List Equation):(q4u rs).Pairwise fun p q=>q7z q p=false:=
 qm9 (S:=fun _=>True) (lt:=q7z) (fun _ _ _ _ _ _ h1 h2=>qd8 h1 h2) (fun _ _ _ _ _ _ h1 h2=>qge h1 h2) (fun a b _ _ h=>by
  cases e:q7z b a with
  |false=>rfl
  |true=>
   exfalso;have:=qd8 h e;rw[qdk,qhk,qhk]at this;omega) fun _ _=>trivial
theorem qrv{rs:List Equation}{i:Nat}(h0:i<(q4u rs).length)(h:i+1<(q4u rs).length):¬ Lib.compareBytes (q8i (q4u rs)[i].left) (q8i (q4u rs)[i+1].left)>0:=by
 have h1:=List.pairwise_iff_getElem.1 (qnd rs) i (i+1) h0 h (by omega);have h2:¬ q7z (q4u rs)[i+1] (q4u rs)[i]=true:=by rw[h1];decide
 rw[qdk]at h2;have h3:¬ Lib.compareBytes (q8i (q4u rs)[i+1].left) (q8i (q4u rs)[i].left)<0:=fun q=>h2 (.inl q);rcases qlb _ _ h3 with e|q
 ·rw[e,qhk];omega
 ·omega
theorem qj9{l:List Symbol}(ok:SigOk ⟨l⟩){t:List Int}(ht:TermOk l t):LIM F.q93 [.agg [slc l],slc t]=some (.agg [.int .i64 0,slc (q8i t)],[]):=by
 have hll:l.length<=6:=ok.le;have hle:=ht.le;have ef:=(q4v l (by omega) t (by omega)).eq;rw[qpr ((q8h _).2 ok),(q90 l t).2 ht]at ef;refine q61 rfl 0 ((q93.ev _ _ _).trans ?_);simp only[evz,Nat.reduceLT,ef,(q27 t (by omega)).eq,ne_eq,gW,bne_self_eq_false]
theorem qr6{a b:List UInt8}(ha:a.length<=24)(hb:b.length<=24):LIM F.q7y [slc a,slc b]=some (.agg [.int .i64 0,.int .i64 (Lib.compareBytes a b)],[]):=by
 have n1:¬((a.length:Nat):Int)>2000:=by omega
 have n2:¬((b.length:Nat):Int)>2000:=by omega
 refine q61 rfl 0 ((q7y.ev _ _ _).trans ?_);simp only[evz,Nat.reduceLT,n1,n2,(q8a a b).eq]
theorem qgv{l:List Symbol}{c:Completion}(h:q4z ⟨l⟩ c=0):q58 ⟨l⟩ c.order=0/\qaa ⟨l⟩ c.equations c.entries=0:=by
 unfold q4z at h;by_cases h1:q58 ⟨l⟩ c.order=0
 ·rw[if_neg (fun g=>g h1)]at h;by_cases h2:qaa ⟨l⟩ c.equations c.entries=0
  ·exact⟨h1,h2⟩
  ·rw[if_pos h2]at h;exact absurd h h2
 ·rw[if_pos h1]at h;exact absurd h h1
theorem qmv{l:List Symbol}{o:List Int}(ok:SigOk ⟨l⟩)(ho:q58 ⟨l⟩ o=0)(eqs:List Equation):qc4 ⟨l⟩ (q6e o eqs)=decide (((eqs.length:Nat):Int)=0):=by
 have hw:(q6e o eqs).waiting.length=eqs.length:=q9n _;unfold qc4;rw[hw];cases eqs with
 |cons e r=>
  rw[decide_eq_false (show ¬(e::r).length=0 by simp),Bool.and_false,decide_eq_false];simp only[gAB];omega
 |nil=>
  have hf:q4z ⟨l⟩ (q6e o [])=0:=by
   have h1:q58 ⟨l⟩ (q6e o []).order=0:=ho
   have h2:qaa ⟨l⟩ (q6e o []).equations (q6e o []).entries=0:=by
    unfold qaa;rw[if_neg (fun g=>g ((q8h _).2 ok)),if_neg (fun g=>g (q9x.2 ⟨by simp[q6e],by simp[q6e]⟩)),if_neg (by simp[q6e,q71])];rfl
   unfold q4z;rw[if_neg (fun g=>g h1),if_neg (fun g=>g h2),if_neg (by simp[q6e,qaf]),if_neg (by simp[q6e,qaf,outs,inR]),if_neg];show ¬ qcj l o []=false;simp[qcj]
  rw[hf];rfl
theorem q0j(code:List UInt8)(h:sm maxLen code):Call F.q0j [slc code] (.bool true):=by
 by_cases hbig:(code.length:Int)>1048576
 ·exact q0v rfl 0 ((q0j.ev _ _).trans (by simp only[evz,Nat.reduceLT,(q97 (code:=code)).eq,hbig]))
 have hc:code.length<=2097152:=by omega
 obtain⟨l,c,ed,ok,hsm⟩:=q5u hc;have hll:l.length<=6:=ok.le;have s1:sm 1048576 (Signature.mk l):=q3o (by omega) ok.small;obtain⟨o,eqs,ents,rs,ws,rd⟩:=c;have eR:LIM F.q7h [.agg [slc l],.agg [slc o,slc eqs,slc ents,slc rs,slc ws,.int .i64 rd]]=some (.agg [.int .i64 (qbh ⟨l⟩ ⟨o,eqs,ents,rs,ws,rd⟩).code,slc (qbh ⟨l⟩ ⟨o,eqs,ents,rs,ws,rd⟩).list],[]):=(q7h ⟨l⟩ ⟨o,eqs,ents,rs,ws,rd⟩ s1 hsm).eq;have eF:LIM F.q07 [.agg [slc l],.agg [slc o,slc eqs,slc ents,slc rs,slc ws,.int .i64 rd]]=some (.int .i64 (q4z ⟨l⟩ ⟨o,eqs,ents,rs,ws,rd⟩),[]):=(q07 ⟨l⟩ ⟨o,eqs,ents,rs,ws,rd⟩ s1 hsm).eq;have ed:LIM F.q5u [slc code]=some (.tup [.agg [slc l],.agg [slc o,slc eqs,slc ents,slc rs,slc ws,.int .i64 rd]],[]):=ed.eq;by_cases h0:q4z ⟨l⟩ ⟨o,eqs,ents,rs,ws,rd⟩=0
 case neg=>
  have hR:qbh ⟨l⟩ ⟨o,eqs,ents,rs,ws,rd⟩=⟨q4z ⟨l⟩ ⟨o,eqs,ents,rs,ws,rd⟩,[]⟩:=by unfold qbh;rw[if_neg h0]
  rw[hR]at eR;simp only at eR;refine q0v rfl 0 ((q0j.ev _ _).trans ?_);simp only[evz,Nat.reduceLT,(q97 (code:=code)).eq,hbig,ed,eR,eF,bne_self_eq_false,h0,ne_eq,gX,gW]
 obtain⟨he,hel,hr,hrl⟩:=qew h0;obtain⟨hord,hck⟩:=qgv h0;have hord:q58 ⟨l⟩ o=0:=hord;obtain⟨_,hq12,hqs,_,_⟩:=qf6 hck;have hq12:eqs.length<=12:=hq12;have hR:qbh ⟨l⟩ ⟨o,eqs,ents,rs,ws,rd⟩=⟨0,q4u (q3i ents rs)⟩:=by unfold qbh;rw[if_pos h0]
 rw[hR]at eR;simp only at eR;rw[h0]at eF;have hCl:(q3i ents rs).length=rs.length:=by unfold q3i;rw[gAG]
 have hSl:(q4u (q3i ents rs)).length=rs.length:=by rw[qgt,hCl]
 have hok:=qa8 he hr;have hsok:=qmh hok
 have hsmem:∀e∈q4u (q3i ents rs),∃(j:Nat)(hj:j<rs.length)(hj':rs[j].toNat<ents.length),eqOf ents[rs[j].toNat]=e:=fun e hx=>by
  have hx:=qmt hx;obtain⟨n,hn,rfl⟩:=List.mem_map.1 hx;obtain⟨j,hj,rfl⟩:=List.getElem_of_mem hn;exact⟨j,hj,(hr _ hn).2,by rw[getN (hr _ hn).2]⟩
 have hnext:∀(i:Nat)(h0:i<(q4u (q3i ents rs)).length)(h:i+1<(q4u (q3i ents rs)).length),¬ Lib.compareBytes (q8i (q4u (q3i ents rs))[i].left) (q8i (q4u (q3i ents rs))[i+1].left)>0:=fun i h0 h=>qrv h0 h;generalize q4u (q3i ents rs)=L at *;obtain⟨g1,g2,g3,g4,g5⟩:=hsm;have g1:sm 1048576 o:=g1;have g2:sm 1048576 eqs:=g2;have eN:=(q14 ⟨l⟩ o eqs s1 g1 g2).eq
 have hN:newR ⟨l⟩ o eqs=⟨0,q6e o eqs⟩:=by
  unfold newR;rw[if_neg (fun g=>g hord),if_neg (fun g=>g (q9x.2 ⟨hq12,hqs⟩))]
 rw[hN]at eN;have eN:LIM F.q14 [.agg [slc l],slc o,slc eqs]=some (.agg [.int .i64 0,slc o,slc eqs,slc (q71 eqs eqs.length),slc ([]:List Int),slc (qaf eqs.length),.int .i64 0],[]):=eN
 have smN:sm 1048576 (q6e o eqs):=by
  refine⟨g1,g2,⟨?_,fun x hx=>(qg5 hqs (gAI _) x hx).small⟩,qyu _,qbm ?_⟩
  ·show(q71 eqs eqs.length).length<=_;rw[q7r];omega
  ·show(qaf eqs.length).length<=_;rw[q9n];omega
 have eI:=(q5q ⟨l⟩ (q6e o eqs) s1 smN).eq;rw[qmv ok hord]at eI;have eI:LIM F.q5q [.agg [slc l],.agg [slc o,slc eqs,slc (q71 eqs eqs.length),slc ([]:List Int),slc (qaf eqs.length),.int .i64 0]]=some (.bool (decide (((eqs.length:Nat):Int)=0)),[]):=eI;have hwl:(qaf eqs.length).length=eqs.length:=q9n _
 have key:∀(d i f:Nat),i+d=rs.length->d<f->q0j.at0 20 f (q0j.st0 (i:Nat) (cells l) (cells o) (cells eqs) (cells ents) (cells rs) (cells ws) rd (cells L) 0)=some (.bool true,[]):=by
  intro d;induction d with
  |zero=>
   intro i f hi hf;obtain⟨f,rfl⟩:∃g,f=g+1:=⟨f-1,by omega⟩;have n1:¬ i<L.length:=by omega
   simp only[q0j.next0,q0j.round0,evz,Nat.reduceLT,n1,eN,hwl,eI]
  |succ d ih=>
   intro i f hi hf;obtain⟨f,rfl⟩:∃g,f=g+1:=⟨f-1,by omega⟩;have ih:=ih (i+1) f (by omega) (by omega);have n1:i<L.length:=by omega
   have eL:=hsok _ (gG n1);obtain⟨j0,hj0,hj0',ej0⟩:=hsmem _ (gG n1)
   have inner:∀(d k f2:Nat)(b:Bool),k+d=rs.length->d<f2->(b=true\/k<=j0)->q0j.at2 20 (q0j.at0 20 f) f2 (q0j.st2 (i:Nat) b (k:Nat) (cells l) (cells o) (cells eqs) (cells ents) (cells rs) (cells ws) rd (cells L) 0)=some (.bool true,[]):=by
    intro d;induction d with
    |zero=>
     intro k f2 b hk hf2 hb;obtain⟨f2,rfl⟩:∃g,f2=g+1:=⟨f2-1,by omega⟩;have hb:b=true:=by rcases hb with h|h;exact h;omega
     subst hb;have n2:¬ k<rs.length:=by omega
     by_cases hi0:i=0
     ·subst hi0;have n3:¬((0:Nat):Int)>0:=by omega
      simp only[q0j.next2,q0j.round2,evz,Nat.reduceLT,n2,n3,Bool.not_true];rw[q0n (by omega)];exact ih
     ·obtain⟨i',rfl⟩:∃i',i=i'+1:=⟨i-1,by omega⟩;have n3:((i'+1:Nat):Int)>0:=by omega
      have w1:IntKind.wrap .i64 (((i'+1:Nat):Int)-1)=(i':Nat):=by rw[q3g (by omega)];omega
      have n4:i'<L.length:=by omega
      have eL':=hsok _ (gG n4);have p1:=qj9 ok eL'.left;have p2:=qj9 ok eL.left;have p3:=qr6 (a:=q8i L[i'].left) (b:=q8i L[i'+1].left) (by rw[qgl];exact eL'.left.le) (by rw[qgl];exact eL.left.le);have hx:=hnext i' n4 n1;simp only[q0j.next2,q0j.round2,evz,Nat.reduceLT,n2,n3,w1,n4,n1,gA,q4f,p1,p2,p3,hx,Bool.not_true];rw[q0n (by omega)];exact ih
    |succ d ihi=>
     intro k f2 b hk hf2 hb;obtain⟨f2,rfl⟩:∃g,f2=g+1:=⟨f2-1,by omega⟩;have n2:k<rs.length:=by omega
     obtain⟨r0,r1⟩:=hr _ (gG n2);obtain⟨q,hq⟩:∃q:Nat,rs[k]=q:=⟨rs[k].toNat,by omega⟩;have hqe:q<ents.length:=by rw[hq,gR]at r1;exact r1
     have eE:=he _ (gG hqe);have l1:ents[q].left.length<=24:=eE.left.le;have l2:ents[q].right.length<=24:=eE.right.le;have m1:=(q2z ents[q].left L[i].left (by omega)).eq;have m2:=(q2z ents[q].right L[i].right (by omega)).eq;have step:∀b',(b'=true\/k+1<=j0)->q0j.at2 20 (q0j.at0 20 f) f2 (q0j.st2 (i:Nat) b' ((k+1:Nat):Int) (cells l) (cells o) (cells eqs) (cells ents) (cells rs) (cells ws) rd (cells L) 0)=some (.bool true,[]):=fun b' hb'=>ihi (k+1) f2 b' (by omega) (by omega) hb';have hw:IntKind.wrap .i64 (((k:Nat):Int)+1)=((k+1:Nat):Int):=q0n (by omega);simp only[q0j.next2,q0j.round2,evz,Nat.reduceLT,n2,n1,gA,q1l,hq,hqe,q42,q4f,m1,m2,hw];by_cases hA:ents[q].left=L[i].left
     ·by_cases hB:ents[q].right=L[i].right
      ·simp only[hA,hB,evz,Nat.reduceLT,decide_true];exact step true (.inl rfl)
      ·simp only[hA,hB,evz,Nat.reduceLT,decide_true,decide_false];refine step b (hb.imp id fun hkj=>?_);rcases Nat.lt_or_ge k j0 with h|h
       ·exact h
       ·exfalso;obtain rfl:k=j0:=by omega
        apply hB;rw[<- ej0];simp only[hq,gR];rfl
     ·simp only[hA,evz,Nat.reduceLT,decide_false];refine step b (hb.imp id fun hkj=>?_);rcases Nat.lt_or_ge k j0 with h|h
      ·exact h
      ·exfalso;obtain rfl:k=j0:=by omega
       apply hA;rw[<- ej0];simp only[hq,gR];rfl
   simp only[q0j.next0,q0j.round0,evz,Nat.reduceLT,n1];exact inner rs.length 0 20 false (by omega) (by omega) (.inr (Nat.zero_le _))
 have fin:=key rs.length 0 20 (by omega) (by omega);refine q0v rfl 20 ((q0j.ev _ _).trans ?_);simp only[evz,Nat.reduceLT,(q97 (code:=code)).eq,hbig,ed,eR,eF,hSl,bne_self_eq_false,ne_eq,gW];exact fin
end Ev.Ty
end
